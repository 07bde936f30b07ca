/-
  From a datum that a claim's row reads, the small machine's value: integers, strings, bools, slices, structs, put together.
-/
import Derived.Test.YtanglbgincgmaaaVmCon
import Derived.Deep.Slices
import Derived.ChangeArms
import Derived.Carry
import Derived.WalkKit
namespace Go.Proofs.Ytanglbgincgmaaa.Vm
open Go Go.RowKit Go.ChangeShapes Go.WideShapes Go.Deep
set_option linter.unusedVariables false
set_option linter.unusedSimpArgs false

abbrev RepC (P : Program) (W : World) (us : List V) (cs : List Value) : Prop := ∀ (j : Nat) (u : V) (c : Value), us[j]? = some u → cs[j]? = some c → Rep P.cellsOf W (fun _ => True) (fun _ => False) u c
/-- What is read at type t: its cells stand for vs y, and G holds of y. -/
structure Opens {α : Type} (P : Program) (t : TypeId) (n : Nat) (vs : α → List V) (G : α → Prop) : Prop where
  cells : P.cellsOf t = n
  len : ∀ y, (vs y).length = n
  bare : ∀ y, (vs y).all bare1 = true
  opens : ∀ (H : Type) (enc : TypeId × Value → H) (W : World) (fuel : Nat) (cs : List Value) (x : DataW H × List MemPlace),
    DataW.trod enc P W 0 (fun _ => true) true fuel t cs = some x → (∀ n ∈ x.1.weights P t, n ≤ reachBytes) → ∃ y, cs.length = n ∧ RepC P W (vs y) cs ∧ G y
theorem Opens.imp {α : Type} {P : Program} {t : TypeId} {n : Nat} {vs : α → List V} {G G' : α → Prop} (O : Opens P t n vs G) (h : ∀ x, G x → G' x) : Opens P t n vs G' :=
  ⟨O.cells, O.len, O.bare, fun H enc W fuel cs x hx hw => by
    obtain ⟨y, hl, hK, hG⟩ := O.opens H enc W fuel cs x hx hw
    exact ⟨y, hl, hK, h y hG⟩⟩

theorem wAll_mem {H : Type} {P : Program} {e : TypeId} : ∀ {l : List (DataW H)} {d : DataW H}, d ∈ l → ∀ n ∈ d.weights P e, n ∈ DataW.weightsAll P e l
  | [], _, h, _, _ => by cases h
  | a :: r, d, h, n, hn => by
    simp only [DataW.weightsAll, List.mem_append]
    rcases List.mem_cons.1 h with rfl | h
    · exact .inl hn
    · exact .inr (wAll_mem h n hn)
theorem wEach_mem {H : Type} {P : Program} : ∀ {ts : List TypeId} {ds : List (DataW H)} {j : Nat} {t : TypeId} {d : DataW H}, ts[j]? = some t → ds[j]? = some d → ∀ n ∈ d.weights P t, n ∈ DataW.weightsEach P ts ds
  | [], _, _, _, _, ht, _, _, _ => by simp at ht
  | _ :: _, [], _, _, _, _, hd, _, _ => by simp at hd
  | t' :: ts, d' :: ds, 0, t, d, ht, hd, n, hn => by
    simp only [List.getElem?_cons_zero, Option.some.injEq] at ht hd
    subst ht; subst hd
    simp only [DataW.weightsEach, List.mem_append]
    exact .inl hn
  | t' :: ts, d' :: ds, j + 1, t, d, ht, hd, n, hn => by
    simp only [List.getElem?_cons_succ] at ht hd
    simp only [DataW.weightsEach, List.mem_append]
    exact .inr (wEach_mem ht hd n hn)
theorem repC_lit {P : Program} {W : World} {v : Value} (h : v.oneCell' = true) : RepC P W [.lit v] [v] := by
  intro j u c hu hc
  cases j with
  | zero =>
    simp only [List.getElem?_cons_zero, Option.some.injEq] at hu hc
    subst hu; subst hc
    exact .lit h
  | succ j => simp at hu
theorem opens_int {P : Program} {t : TypeId} {k : IntKind} (ht : P.underlying t = some (.int k)) (hc : P.cellsOf t = 1) : Opens P t 1 (fun x : Int => [.lit (.int k x)]) (fun x => (Lit.int k x).wf = true) :=
  ⟨hc, fun _ => rfl, fun _ => rfl, fun H enc W fuel cs x h hw => by
    obtain ⟨n, rfl, rfl, hwf⟩ := DataW.trod_int ht h
    exact ⟨n, rfl, repC_lit rfl, hwf⟩⟩
theorem opens_bool {P : Program} {t : TypeId} (ht : P.underlying t = some .bool) (hc : P.cellsOf t = 1) : Opens P t 1 (fun x : Bool => [.lit (.bool x)]) (fun _ => True) :=
  ⟨hc, fun _ => rfl, fun _ => rfl, fun H enc W fuel cs x h hw => by
    obtain ⟨n, rfl, rfl⟩ := DataW.trod_bool ht h
    exact ⟨n, rfl, repC_lit rfl, trivial⟩⟩
theorem opens_string {P : Program} {t : TypeId} (ht : P.underlying t = some .string) (hc : P.cellsOf t = 1) : Opens P t 1 (fun x : ByteArray => [.lit (.string x)]) (fun s => s.size ≤ 140737488351232) :=
  ⟨hc, fun _ => rfl, fun _ => rfl, fun H enc W fuel cs x h hw => by
    obtain ⟨s, rfl, rfl, hwf⟩ := DataW.trod_string ht h
    refine ⟨s, rfl, repC_lit rfl, ?_⟩
    have := hw s.data.toList.length (by simp [DataW.weights])
    rw [Array.length_toList] at this
    exact this⟩
theorem wSlice {H : Type} {P : Program} {t e : TypeId} (hu : P.underlying t = some (.slice e)) (a b : List (DataW H)) : DataW.weights P t (.slice a b) = (a.length + b.length) * P.bytesOf e :: (DataW.weightsAll P e a ++ DataW.weightsAll P e b) := by
  simp [DataW.weights, hu]
/-- A list out of a function's values. -/
theorem listOf {α : Type} (Q : Nat → α → Prop) : ∀ (n : Nat), (∀ i, i < n → ∃ y, Q i y) → ∃ ys : List α, ys.length = n ∧ ∀ i y, ys[i]? = some y → Q i y
  | 0, _ => ⟨[], rfl, fun i y h => by simp at h⟩
  | n + 1, h => by
    obtain ⟨ys, hl, hy⟩ := listOf Q n (fun i hi => h i (by omega))
    obtain ⟨y, hq⟩ := h n (by omega)
    refine ⟨ys ++ [y], by simp [hl], fun i z hz => ?_⟩
    rcases Nat.lt_or_ge i ys.length with hi | hi
    · rw [List.getElem?_append_left hi] at hz
      exact hy i z hz
    · rw [List.getElem?_append_right hi] at hz
      have hi0 : i - ys.length = 0 := by
        rcases Nat.eq_zero_or_pos (i - ys.length) with h0 | h0
        · exact h0
        · rw [List.getElem?_eq_none (by simp; omega)] at hz
          cases hz
      rw [hi0] at hz
      simp only [List.getElem?_cons_zero, Option.some.injEq] at hz
      subst hz
      have : i = n := by omega
      subst this
      exact hq
theorem opens_slice {α : Type} {P : Program} {t e : TypeId} {m : Nat} {vs : α → List V} {G : α → Prop} (hu : P.underlying t = some (.slice e)) (hc : P.cellsOf t = 1) (O : Opens P e m vs G) :
    Opens P t 1 (fun xs : List α => [.sl false e (xs.map vs)]) (fun xs => xs.length * P.bytesOf e ≤ 140737488351232 ∧ ∀ x ∈ xs, G x) :=
  ⟨hc, fun _ => rfl, fun _ => rfl, fun H enc W fuel cs x h hw => by
    have one : ∀ (v : V) (c : Value), Rep P.cellsOf W (fun _ => True) (fun _ => False) v c → RepC P W [v] [c] := by
      intro v c hr j u c' hu' hc'
      cases j with
      | zero =>
        simp only [List.getElem?_cons_zero, Option.some.injEq] at hu' hc'
        subst hu'; subst hc'
        exact hr
      | succ j => simp at hu'
    rcases open_slice hu h with ⟨rfl, rfl⟩ | ⟨a, len, cap, m', n, D, Pl, rfl, _, hl, hm, hmm, rfl, hi⟩
    · refine ⟨[], rfl, one _ _ (Rep.roS (rows := []) ⟨0, 0, none⟩ (fun _ _ => .bool false) (by simp) (by simp [maxLen]) (by simp) (by simp) (by simp) (by simp) (by simp)), by simp, fun x hx => by cases hx⟩
    · simp only [if_true] at hmm
      subst hmm
      rw [wSlice hu] at hw
      have hwt : len * P.bytesOf e ≤ 140737488351232 := by
        have h1 := hw _ List.mem_cons_self
        simp only [List.length_map, List.length_range] at h1
        have h2 : len * P.bytesOf e ≤ (len + (m' - len)) * P.bytesOf e := Nat.mul_le_mul_right _ (by omega)
        exact Nat.le_trans h2 h1
      have hq : ∀ i, i < len → ∃ y : α, G y ∧ ∃ c, c.length = m ∧ RepC P W (vs y) c ∧ ∀ j u, c[j]? = some u → W.cell? (a.add (i * P.cellsOf e + j)) = some u := by
        intro i hil
        obtain ⟨cs', hcs', ht'⟩ := hi i (by omega)
        obtain ⟨y, hL, hK, hG⟩ := O.opens H enc W n cs' _ ht' (fun k hk => hw k (List.mem_cons_of_mem _ (List.mem_append_left _ (wAll_mem (d := D i) (List.mem_map.2 ⟨i, List.mem_range.2 hil, rfl⟩) k hk))))
        obtain ⟨_, hcl, hat⟩ := World.cells?_some hcs'
        refine ⟨y, hG, cs', hL, hK, fun j u hu' => ?_⟩
        have hj : j < P.cellsOf e := by
          have := (List.getElem?_eq_some_iff.1 hu').1
          omega
        have h1 := hat j hj
        rw [hu', Go.Deep.add_add] at h1
        exact h1
      obtain ⟨ys, hyl, hys⟩ := listOf _ len hq
      have hrows : (ys.map vs).length = len := by simp [hyl]
      have hrow : ∀ (i : Nat) (row : List V), (ys.map vs)[i]? = some row → ∃ c, c.length = m ∧ row.length = m ∧ RepC P W row c ∧ ∀ j u, c[j]? = some u → W.cell? (a.add (i * P.cellsOf e + j)) = some u := by
        intro i row hr
        simp only [List.getElem?_map, Option.map_eq_some_iff] at hr
        obtain ⟨y, h1, rfl⟩ := hr
        obtain ⟨_, c, h2, h3, h4⟩ := hys i y h1
        exact ⟨c, h2, O.len y, h3, h4⟩
      refine ⟨ys, rfl, one _ _ ?_, by rw [hyl]; exact hwt, fun x hx => ?_⟩
      · have hRep := Rep.roS (z := P.cellsOf) (w := W) (ro := fun _ => True) (ok := fun _ => False) (e := e) (rows := ys.map vs) (A := some a) (c := m') a (fun i j => (W.cell? (a.add (i * P.cellsOf e + j))).getD (.bool false))
          (by rw [hrows]; omega) (by omega) (fun row hr => by
            obtain ⟨i, hi2⟩ := List.mem_iff_getElem?.1 hr
            obtain ⟨c, h1, h2, _⟩ := hrow i row hi2
            rw [h2, O.cells]) (fun _ => rfl) (fun _ _ _ _ _ _ => trivial) (fun i j row u h1 h2 => by
            obtain ⟨c, h3, h4, h5, h6⟩ := hrow i row h1
            have hj : j < c.length := by
              have := (List.getElem?_eq_some_iff.1 h2).1
              omega
            rw [h6 j c[j] (List.getElem?_eq_getElem hj)]
            rfl) (fun i j row u h1 h2 => by
            obtain ⟨c, h3, h4, h5, h6⟩ := hrow i row h1
            have hj : j < c.length := by
              have := (List.getElem?_eq_some_iff.1 h2).1
              omega
            rw [h6 j c[j] (List.getElem?_eq_getElem hj)]
            exact h5 j u c[j] h2 (List.getElem?_eq_getElem hj))
        rw [hrows] at hRep
        exact hRep
      · obtain ⟨i, hi2⟩ := List.mem_iff_getElem?.1 hx
        exact (hys i x hi2).1⟩

/-- The fields of a struct, from one on. -/
def OpensF {α : Type} (P : Program) (fs : List Field) (off : Nat) (m : Nat) (vs : α → List V) (G : α → Prop) : Prop :=
  (fs.map fun f => P.cellsOf f.type).foldr (· + ·) 0 = m ∧ (∀ y, (vs y).length = m) ∧ (∀ y, (vs y).all bare1 = true) ∧
  ∀ (H : Type) (enc : TypeId × Value → H) (W : World) (fuel : Nat) (cs : List Value) (xs : List (DataW H × List MemPlace)), off + m = cs.length →
    (∀ (i : Nat) (f : Field), fs[i]? = some f → ∃ y, xs[i]? = some y ∧ DataW.trod enc P W 0 (fun _ => true) true fuel f.type ((cs.drop f.offset).take (P.cellsOf f.type)) = some y ∧ ∀ n ∈ y.1.weights P f.type, n ≤ reachBytes) →
    ∃ z, RepC P W (vs z) (cs.drop off) ∧ G z
theorem opensF_one {α : Type} {P : Program} {f : Field} {off : Nat} {m : Nat} {vs : α → List V} {G : α → Prop} (ho : f.offset = off) (O : Opens P f.type m vs G) : OpensF P [f] off m vs G :=
  ⟨by simp [O.cells], O.len, O.bare, fun H enc W fuel cs xs hl h => by
    obtain ⟨y, _, ht, hw⟩ := h 0 f rfl
    obtain ⟨z, hL, hK, hG⟩ := O.opens H enc W fuel _ y ht hw
    refine ⟨z, ?_, hG⟩
    rw [ho, O.cells, List.take_of_length_le (by rw [List.length_drop]; omega)] at hK
    exact hK⟩
theorem opensF_cons {α β : Type} {P : Program} {f : Field} {fs : List Field} {off : Nat} {m m' : Nat} {vs : α → List V} {vs' : β → List V} {G : α → Prop} {G' : β → Prop} (ho : f.offset = off) (O : Opens P f.type m vs G) (F : OpensF P fs (off + m) m' vs' G') :
    OpensF P (f :: fs) off (m + m') (fun p : α × β => vs p.1 ++ vs' p.2) (fun p => G p.1 ∧ G' p.2) :=
  ⟨by simp only [List.map_cons, List.foldr_cons, F.1, O.cells], fun y => by simp [O.len, F.2.1], fun y => by simp only [List.all_append, O.bare, F.2.2.1, Bool.and_self], fun H enc W fuel cs xs hl h => by
    obtain ⟨y, _, ht, hw⟩ := h 0 f rfl
    obtain ⟨z, hL, hK, hG⟩ := O.opens H enc W fuel _ y ht hw
    obtain ⟨z', hK', hG'⟩ := F.2.2.2 H enc W fuel cs xs.tail (by omega) (fun i f' hf => by
      obtain ⟨y', h1, h2, h3⟩ := h (i + 1) f' (by simpa using hf)
      exact ⟨y', by rw [← h1]; cases xs <;> simp, h2, h3⟩)
    refine ⟨(z, z'), fun j u c hu hc => ?_, hG, hG'⟩
    rw [ho, O.cells] at hK
    rcases Nat.lt_or_ge j m with hj | hj
    · rw [List.getElem?_append_left (by rw [O.len]; exact hj)] at hu
      exact hK j u c hu (by rw [List.getElem?_take, if_pos hj]; exact hc)
    · rw [List.getElem?_append_right (by rw [O.len]; exact hj), O.len] at hu
      refine hK' (j - m) u c hu ?_
      rw [← hc, List.getElem?_drop, List.getElem?_drop]
      congr 1
      omega⟩
theorem opens_struct {α β : Type} {P : Program} {t : TypeId} {fs : Array Field} {m : Nat} {vs : α → List V} {G : α → Prop} (hu : P.underlying t = some (.struct fs)) (hc : P.cellsOf t = m) (F : OpensF P fs.toList 0 m vs G) (f : β → α) (g : α → β) (hfg : ∀ x, f (g x) = x) :
    Opens P t m (fun x : β => vs (f x)) (fun x => G (f x)) :=
  ⟨hc, fun y => F.2.1 _, fun y => F.2.2.1 _, fun H enc W fuel cs x h hw => by
    obtain ⟨xs, n, rfl, rfl, hlen, hxl, hx⟩ := DataW.trod_struct hu h
    have hwt : ∀ (i : Nat) (f : Field) (y : DataW H × List MemPlace), fs[i]? = some f → xs[i]? = some y → ∀ n ∈ y.1.weights P f.type, n ≤ reachBytes := by
      intro i f y hf hy n hn
      refine hw n ?_
      have he : DataW.weights P t (.agg (xs.map (·.1))) = DataW.weightsEach P (fs.toList.map (·.type)) (xs.map (·.1)) := by simp [DataW.weights, hu]
      rw [he]
      exact wEach_mem (j := i) (t := f.type) (d := y.1) (by simp [hf]) (by simp [hy]) n hn
    obtain ⟨z, hK, hG⟩ := F.2.2.2 H enc W n cs xs (by omega) (fun i f hf => by
      have hf' : fs[i]? = some f := by simpa using hf
      have hi : i < xs.length := by rw [hxl]; exact (Array.getElem?_eq_some_iff.1 hf').1
      refine ⟨xs[i], List.getElem?_eq_getElem hi, ?_, hwt i f _ hf' (List.getElem?_eq_getElem hi)⟩
      rw [hx i f hf', List.getElem?_eq_getElem hi])
    refine ⟨g z, by omega, ?_, by show G (f (g z)); rw [hfg]; exact hG⟩
    show RepC P W (vs (f (g z))) cs
    rw [hfg]
    simpa using hK⟩

/-! ### at the row -/
theorem row_int {H : Type} {enc : TypeId × Value → H} {P : Program} {W : World} {t : TypeId} {k : IntKind} {x : Int} : ArgT P.cellsOf W (fun _ => True) (.one (.lit (.int k x))) (.int k x) := .one rfl (.lit rfl)
theorem argT_lit {P : Program} {W : World} {v : Value} (h : v.oneCell' = true) : ArgT P.cellsOf W (fun _ => True) (.one (.lit v)) v := .one rfl (.lit h)
theorem row_slice {α : Type} {H : Type} {enc : TypeId × Value → H} {P : Program} {W : World} {t e : TypeId} {vs : α → List V} {G : List α → Prop} {v : Value} {dat : DataW H} {ps : List MemPlace} {base : Nat}
    (O : Opens P t 1 (fun xs : List α => [.sl false e (xs.map vs)]) G) (hu : P.underlying t = some (.slice e)) (hv : Value.okWide P W .any base t v) (h : DataW.Trod enc P W 0 (fun _ => true) true t v dat ps)
    (hw : ∀ n ∈ dat.weights P t, n ≤ reachBytes) : ∃ (xs : List α), ArgT P.cellsOf W (fun _ => True) (.one (.sl false e (xs.map vs))) v ∧ G xs := by
  obtain ⟨a, len, cap, rfl⟩ := okWide_slice hu hv
  obtain ⟨fuel, hf⟩ := h
  obtain ⟨xs, hL, hK, hG⟩ := O.opens H enc W fuel _ _ hf hw
  exact ⟨xs, .one rfl (hK 0 _ _ rfl (by simp [Value.cells])), hG⟩
theorem row_struct {α : Type} {H : Type} {enc : TypeId × Value → H} {P : Program} {W : World} {t : TypeId} {fs : Array Field} {m : Nat} {vs : α → List V} {G : α → Prop} {v : Value} {dat : DataW H} {ps : List MemPlace} {base : Nat}
    (O : Opens P t m vs G) (hu : P.underlying t = some (.struct fs)) (hv : Value.okWide P W .any base t v) (h : DataW.Trod enc P W 0 (fun _ => true) true t v dat ps)
    (hw : ∀ n ∈ dat.weights P t, n ≤ reachBytes) : ∃ (x : α), ArgT P.cellsOf W (fun _ => True) (.agg (vs x)) v ∧ G x := by
  obtain ⟨cs, rfl, hsz⟩ := okWide_struct hu hv
  obtain ⟨fuel, hf⟩ := h
  obtain ⟨x, hL, hK, hG⟩ := O.opens H enc W fuel _ _ hf hw
  refine ⟨x, .agg (O.bare x) (by rw [O.len]; simpa [Value.cells] using hL) (fun j u y hu' hy => hK j u y hu' (by simpa [Value.cells] using hy)), hG⟩

theorem args_nil {P : Program} {W : World} : ∀ (j : Nat) (v : TV) (y : Value), ([] : List TV)[j]? = some v → (#[] : Array Value)[j]? = some y → ArgT P.cellsOf W (fun _ => True) v y := fun j v y h => by simp at h
theorem args_cons {P : Program} {W : World} {v : TV} {y : Value} {vs : List TV} {ys : List Value} (h : ArgT P.cellsOf W (fun _ => True) v y) (ht : ∀ (j : Nat) (v : TV) (y : Value), vs[j]? = some v → ys.toArray[j]? = some y → ArgT P.cellsOf W (fun _ => True) v y) :
    ∀ (j : Nat) (v' : TV) (y' : Value), (v :: vs)[j]? = some v' → (y :: ys).toArray[j]? = some y' → ArgT P.cellsOf W (fun _ => True) v' y' := fun j v' y' h1 h2 => by
  cases j with
  | zero =>
    simp only [List.getElem?_cons_zero, Option.some.injEq] at h1
    simp at h2
    subst h1; subst h2
    exact h
  | succ j => exact ht j v' y' (by simpa using h1) (by simpa using h2)
/-- A law that is told true: what a row asks of the program. -/
theorem Fn.law {P : Program} {g : Nat} {F : Con} {J : World → Prop} (h : Fn P g F J) {vs : List TV} (hF : F vs = some ((false, [none]), [.lit (.bool true)])) {W : World} (hJ : J W) {ys : Array Value} (hs : ys.size = vs.length)
    (ha : ∀ (j : Nat) (v : TV) (y : Value), vs[j]? = some v → ys[j]? = some y → ArgT P.cellsOf W (fun _ => True) v y) : Calls P g ys W fun e w' => e = .returned (.bool true) ∧ Below W.heap.size W w' := by
  refine (h.2 vs _ hF _ W ys hJ hs ha).mono ?_
  rintro e w' ⟨v, rfl, hb, c, ys', hl, h1, h2⟩
  refine ⟨?_, hb⟩
  have h3 := h1 [] 0 ⟨fun _ => 0, fun _ => .bool false⟩ w' [.lit (.bool true)] rfl (fun j u y hu hy => by
    cases j with
    | zero =>
      simp only [List.getElem?_cons_zero, Option.some.injEq] at hu
      subst hu
      cases h2 0 _ y rfl hy with
      | lit h => exact .lit h
    | succ j => simp at hu)
  cases h3 with
  | one h =>
    cases h with
    | lit h => rfl
end Go.Proofs.Ytanglbgincgmaaa.Vm
