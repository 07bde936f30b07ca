/-
  From a datum that a claim's row reads, a value of the print's kinds: integers, strings, bools, slices, structs, put together kind by kind.
-/
import Derived.Test.YtmkpoldhgdbjiaaWMore
import Derived.Test.YtmkpoldhgdbjiaaWSized
import Derived.Deep.Slices
import Derived.ChangeArms
import Derived.Carry
import Derived.WalkKit
namespace Go.Proofs.Ytmkpoldhgdbjiaa.Opn
open Go.RowKit Go.ChangeShapes Go.WideShapes Go.Deep Go.Proofs.YtmkpoldhgdbjiaaW.PrintWords Go.Proofs.YtmkpoldhgdbjiaaW.PrintLast Go.Proofs.YtmkpoldhgdbjiaaW.PrintMore
set_option linter.unusedVariables false
set_option linter.unusedSimpArgs false

/-- What is read at type t is of kind d, and G holds of it. -/
structure Opens {α : Type} (P : Program) (t : TypeId) (d : Kd α) (G : α → Prop) : Prop where
  cells : P.cellsOf t = d.sz
  opens : ∀ (H : Type) (enc : TypeId × Value → H) (W : World) (fuel : Nat) (cs : List Value) (x : DataW H × List MemPlace),
    DataW.trod enc P W 0 (fun _ => true) true fuel t cs = some x → (∀ n ∈ x.1.weights P t, n ≤ reachBytes) → ∃ y, d.K W y cs ∧ G y

theorem weightsAll_mem {H : Type} {P : Program} {e : TypeId} : ∀ {l : List (DataW H)} {d : DataW H}, d ∈ l → ∀ n ∈ d.weights P e, n ∈ DataW.weightsAll P e l
  | [], _, h, _, _ => by cases h
  | a :: r, d, h, n, hn => by
    simp only [DataW.weightsAll, List.mem_append]
    rcases List.mem_cons.1 h with rfl | h
    · exact .inl hn
    · exact .inr (weightsAll_mem h n hn)
theorem weightsEach_mem {H : Type} {P : Program} : ∀ {ts : List TypeId} {ds : List (DataW H)} {j : Nat} {t : TypeId} {d : DataW H}, ts[j]? = some t → ds[j]? = some d → ∀ n ∈ d.weights P t, n ∈ DataW.weightsEach P ts ds
  | [], _, _, _, _, ht, _, _, _ => by simp at ht
  | _ :: _, [], _, _, _, _, hd, _, _ => by simp at hd
  | t' :: ts, d' :: ds, 0, t, d, ht, hd, n, hn => by
    simp only [List.getElem?_cons_zero, Option.some.injEq] at ht hd
    subst ht; subst hd
    simp only [DataW.weightsEach, List.mem_append]
    exact .inl hn
  | t' :: ts, d' :: ds, j + 1, t, d, ht, hd, n, hn => by
    simp only [List.getElem?_cons_succ] at ht hd
    simp only [DataW.weightsEach, List.mem_append]
    exact .inr (weightsEach_mem ht hd n hn)

theorem opens_int {P : Program} {t : TypeId} {k : IntKind} (ht : P.underlying t = some (.int k)) (hc : P.cellsOf t = 1) : Opens P t (Kd.int k) (fun x => (Lit.int k x).wf = true) :=
  ⟨hc, fun H enc W fuel cs x h hw => by
    obtain ⟨n, rfl, rfl, hwf⟩ := DataW.trod_int ht h
    exact ⟨n, rfl, hwf⟩⟩
theorem opens_bool {P : Program} {t : TypeId} (ht : P.underlying t = some .bool) (hc : P.cellsOf t = 1) : Opens P t Kd.bool (fun _ => True) :=
  ⟨hc, fun H enc W fuel cs x h hw => by
    obtain ⟨n, rfl, rfl⟩ := DataW.trod_bool ht h
    exact ⟨n, rfl, trivial⟩⟩
theorem opens_string {P : Program} {t : TypeId} (ht : P.underlying t = some .string) (hc : P.cellsOf t = 1) : Opens P t Kd.string (fun s => s.size ≤ 140737488351232) :=
  ⟨hc, fun H enc W fuel cs x h hw => by
    obtain ⟨s, rfl, rfl, hwf⟩ := DataW.trod_string ht h
    refine ⟨s, rfl, ?_⟩
    have := hw s.data.toList.length (by simp [DataW.weights])
    rw [Array.length_toList] at this
    exact this⟩

theorem slice_weights {H : Type} {P : Program} {t e : TypeId} (hu : P.underlying t = some (.slice e)) (a b : List (DataW H)) : DataW.weights P t (.slice a b) = (a.length + b.length) * P.bytesOf e :: (DataW.weightsAll P e a ++ DataW.weightsAll P e b) := by
  simp [DataW.weights, hu]

/-- A list out of a function's values. -/
theorem list_of {α : Type} (Q : Nat → α → Prop) : ∀ (n : Nat), (∀ i, i < n → ∃ y, Q i y) → ∃ ys : List α, ys.length = n ∧ ∀ i y, ys[i]? = some y → Q i y
  | 0, _ => ⟨[], rfl, fun i y h => by simp at h⟩
  | n + 1, h => by
    obtain ⟨ys, hl, hy⟩ := list_of Q n (fun i hi => h i (by omega))
    obtain ⟨y, hq⟩ := h n (by omega)
    refine ⟨ys ++ [y], by simp [hl], fun i z hz => ?_⟩
    rcases Nat.lt_or_ge i ys.length with hi | hi
    · rw [List.getElem?_append_left hi] at hz
      exact hy i z hz
    · rw [List.getElem?_append_right hi] at hz
      have hi0 : i - ys.length = 0 := by
        rcases Nat.eq_zero_or_pos (i - ys.length) with h0 | h0
        · exact h0
        · rw [List.getElem?_eq_none (by simp; omega)] at hz
          cases hz
      rw [hi0] at hz
      simp only [List.getElem?_cons_zero, Option.some.injEq] at hz
      subst hz
      have : i = n := by omega
      subst this
      exact hq

theorem opens_slice {α : Type} {P : Program} {t e : TypeId} {d : Kd α} {G : α → Prop} (hu : P.underlying t = some (.slice e)) (hc : P.cellsOf t = 1) (O : Opens P e d G) :
    Opens P t (Kd.slice e d) (fun xs => xs.length * P.bytesOf e ≤ 140737488351232 ∧ ∀ x ∈ xs, G x) :=
  ⟨hc, fun H enc W fuel cs x h hw => by
    rcases open_slice hu h with ⟨rfl, rfl⟩ | ⟨a, len, cap, m, n, D, Pl, rfl, _, hl, hm, hmm, rfl, hi⟩
    · refine ⟨[], ⟨none, 0, rfl, Nat.le_refl _, rfl, by simp, fun h0 => absurd h0 (by simp)⟩, by simp, fun x hx => by cases hx⟩
    · simp only [if_true] at hmm
      subst hmm
      rw [slice_weights hu] at hw
      have hwt : len * P.bytesOf e ≤ 140737488351232 := by
        have h1 := hw _ List.mem_cons_self
        simp only [List.length_map, List.length_range] at h1
        have h2 : len * P.bytesOf e ≤ (len + (m - len)) * P.bytesOf e := Nat.mul_le_mul_right _ (by omega)
        exact Nat.le_trans h2 h1
      have hq : ∀ i, i < len → ∃ y : α, G y ∧ ∃ c, c.length = d.sz ∧ d.K W y c ∧ ∀ j u, c[j]? = some u → W.cell? (a.add (i * d.sz + j)) = some u := by
        intro i hil
        obtain ⟨cs', hcs', ht'⟩ := hi i (by omega)
        obtain ⟨y, hK, hG⟩ := O.opens H enc W n cs' _ ht' (fun k hk => hw k (List.mem_cons_of_mem _ (List.mem_append_left _ (weightsAll_mem (d := D i) (List.mem_map.2 ⟨i, List.mem_range.2 hil, rfl⟩) k hk))))
        obtain ⟨_, hcl, hat⟩ := World.cells?_some hcs'
        refine ⟨y, hG, cs', d.K_len hK, hK, fun j u hu' => ?_⟩
        have hj : j < P.cellsOf e := by
          have := (List.getElem?_eq_some_iff.1 hu').1
          omega
        have h1 := hat j hj
        rw [hu', Go.Deep.add_add, O.cells] at h1
        exact h1
      obtain ⟨ys, hyl, hys⟩ := list_of _ len hq
      refine ⟨ys, ⟨some a, m, by rw [hyl], by omega, rfl, ?_, fun _ => ⟨a, rfl, fun j p hj => ?_⟩⟩, by rw [hyl]; exact hwt, fun x hx => ?_⟩
      · rw [hyl]
        have hmx := hm
        unfold maxLen at hmx
        omega
      · obtain ⟨_, c, h1, h2, h3⟩ := hys j p hj
        exact ⟨c, h1, h2, h3⟩
      · obtain ⟨i, hi2⟩ := List.mem_iff_getElem?.1 hx
        exact (hys i x hi2).1⟩

/-- The fields of a struct, from one on: their cells, and a pair of kinds. -/
def OpensF {α : Type} (P : Program) (fs : List Field) (off : Nat) (d : Kd α) (G : α → Prop) : Prop :=
  (fs.map fun f => P.cellsOf f.type).foldr (· + ·) 0 = d.sz ∧
  ∀ (H : Type) (enc : TypeId × Value → H) (W : World) (fuel : Nat) (cs : List Value) (xs : List (DataW H × List MemPlace)), off + d.sz = cs.length →
    (∀ (i : Nat) (f : Field), fs[i]? = some f → ∃ y, xs[i]? = some y ∧ DataW.trod enc P W 0 (fun _ => true) true fuel f.type ((cs.drop f.offset).take (P.cellsOf f.type)) = some y ∧ ∀ n ∈ y.1.weights P f.type, n ≤ reachBytes) →
    ∃ z, d.K W z (cs.drop off) ∧ G z

theorem opensF_one {α : Type} {P : Program} {f : Field} {off : Nat} {d : Kd α} {G : α → Prop} (ho : f.offset = off) (O : Opens P f.type d G) : OpensF P [f] off d G :=
  ⟨by simp [O.cells], fun H enc W fuel cs xs hl h => by
    obtain ⟨y, _, ht, hw⟩ := h 0 f rfl
    obtain ⟨z, hK, hG⟩ := O.opens H enc W fuel _ y ht hw
    refine ⟨z, ?_, hG⟩
    rw [ho, O.cells, List.take_of_length_le (by rw [List.length_drop]; omega)] at hK
    exact hK⟩
theorem opensF_cons {α β : Type} {P : Program} {f : Field} {fs : List Field} {off : Nat} {d : Kd α} {d' : Kd β} {G : α → Prop} {G' : β → Prop} (ho : f.offset = off) (O : Opens P f.type d G) (F : OpensF P fs (off + d.sz) d' G') :
    OpensF P (f :: fs) off (Kd.pair d d') (fun p => G p.1 ∧ G' p.2) :=
  ⟨by simp only [List.map_cons, List.foldr_cons, F.1, O.cells]; rfl, fun H enc W fuel cs xs hl h => by
    have hl' : off + d.sz + d'.sz = cs.length := by rw [← hl]; simp [Kd.pair]; omega
    obtain ⟨y, _, ht, hw⟩ := h 0 f rfl
    obtain ⟨z, hK, hG⟩ := O.opens H enc W fuel _ y ht hw
    obtain ⟨z', hK', hG'⟩ := F.2 H enc W fuel cs xs.tail hl' (fun i f' hf => by
      obtain ⟨y', h1, h2, h3⟩ := h (i + 1) f' (by simpa using hf)
      exact ⟨y', by rw [← h1]; cases xs <;> simp, h2, h3⟩)
    refine ⟨(z, z'), ⟨(cs.drop off).take d.sz, cs.drop (off + d.sz), ?_, ?_, hK'⟩, hG, hG'⟩
    · rw [← List.drop_drop, List.take_append_drop]
    · rw [ho, O.cells] at hK
      exact hK⟩
theorem opens_struct {α β : Type} {P : Program} {t : TypeId} {fs : Array Field} {d : Kd α} {G : α → Prop} (hu : P.underlying t = some (.struct fs)) (hc : P.cellsOf t = d.sz) (F : OpensF P fs.toList 0 d G) (f : β → α) (g : α → β) (hfg : ∀ x, f (g x) = x) :
    Opens P t (Kd.iso d f) (fun x => G (f x)) :=
  ⟨hc, fun H enc W fuel cs x h hw => by
    obtain ⟨xs, n, rfl, rfl, hlen, hxl, hx⟩ := DataW.trod_struct hu h
    have hwt : ∀ (i : Nat) (f : Field) (y : DataW H × List MemPlace), fs[i]? = some f → xs[i]? = some y → ∀ n ∈ y.1.weights P f.type, n ≤ reachBytes := by
      intro i f y hf hy n hn
      refine hw n ?_
      have he : DataW.weights P t (.agg (xs.map (·.1))) = DataW.weightsEach P (fs.toList.map (·.type)) (xs.map (·.1)) := by simp [DataW.weights, hu]
      rw [he]
      exact weightsEach_mem (j := i) (t := f.type) (d := y.1) (by simp [hf]) (by simp [hy]) n hn
    obtain ⟨z, hK, hG⟩ := F.2 H enc W n cs xs (by omega) (fun i f hf => by
      have hf' : fs[i]? = some f := by simpa using hf
      have hi : i < xs.length := by rw [hxl]; exact (Array.getElem?_eq_some_iff.1 hf').1
      refine ⟨xs[i], List.getElem?_eq_getElem hi, ?_, hwt i f _ hf' (List.getElem?_eq_getElem hi)⟩
      rw [hx i f hf', List.getElem?_eq_getElem hi])
    exact ⟨g z, by show d.K W (f (g z)) cs; rw [hfg]; simpa using hK, by show G (f (g z)); rw [hfg]; exact hG⟩⟩

theorem Opens.imp {α : Type} {P : Program} {t : TypeId} {d : Kd α} {G G' : α → Prop} (O : Opens P t d G) (h : ∀ x, G x → G' x) : Opens P t d G' :=
  ⟨O.cells, fun H enc W fuel cs x hx hw => by
    obtain ⟨y, hK, hG⟩ := O.opens H enc W fuel cs x hx hw
    exact ⟨y, hK, h y hG⟩⟩

/-! ### at the row -/
theorem row_slice {α : Type} {H : Type} {enc : TypeId × Value → H} {P : Program} {W : World} {t e : TypeId} {d : Kd α} {G : List α → Prop} {v : Value} {dat : DataW H} {ps : List MemPlace} {base : Nat}
    (O : Opens P t (Kd.slice e d) G) (hu : P.underlying t = some (.slice e)) (hv : Value.okWide P W .any base t v) (h : DataW.Trod enc P W 0 (fun _ => true) true t v dat ps)
    (hw : ∀ n ∈ dat.weights P t, n ≤ reachBytes) : ∃ (A : Option Addr) (c : Nat) (xs : List α), v = .slice A xs.length c ∧ xs.length ≤ c ∧ Kd.C d W A xs.length xs ∧ G xs := by
  obtain ⟨a, len, cap, rfl⟩ := okWide_slice hu hv
  obtain ⟨fuel, hf⟩ := h
  obtain ⟨xs, ⟨A, c, he, hl, hC⟩, hG⟩ := O.opens H enc W fuel _ _ hf hw
  have he2 : Value.slice a len cap = Value.slice A xs.length c := by simpa [Value.cells] using he
  injection he2 with h1 h2 h3
  subst h1; subst h2; subst h3
  exact ⟨a, cap, xs, rfl, hl, hC, hG⟩
theorem row_struct {α : Type} {H : Type} {enc : TypeId × Value → H} {P : Program} {W : World} {t : TypeId} {fs : Array Field} {d : Kd α} {G : α → Prop} {v : Value} {dat : DataW H} {ps : List MemPlace} {base : Nat}
    (O : Opens P t d G) (hu : P.underlying t = some (.struct fs)) (hv : Value.okWide P W .any base t v) (h : DataW.Trod enc P W 0 (fun _ => true) true t v dat ps)
    (hw : ∀ n ∈ dat.weights P t, n ≤ reachBytes) : ∃ (cs : List Value) (x : α), v = .agg cs.toArray ∧ d.K W x cs ∧ G x := by
  obtain ⟨cs, rfl, hsz⟩ := okWide_struct hu hv
  obtain ⟨fuel, hf⟩ := h
  obtain ⟨x, hK, hG⟩ := O.opens H enc W fuel _ _ hf hw
  exact ⟨cs.toList, x, by simp, by simpa [Value.cells] using hK, hG⟩
end Go.Proofs.Ytmkpoldhgdbjiaa.Opn
