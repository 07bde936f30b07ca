/-
  strings.Join by the shelf's contract.
-/
import Derived.Test.YtjdhdpbdaabdmaaDoorVmItoa
import Derived.Test.YtjdhdpbdaabdmaaDoorVmNum
import Derived.Lib.Join
namespace Go.Proofs.YtjdhdpbdaabdmaaDoor.Vm
open Go Go.RowKit Go.Proofs
set_option linter.unusedVariables false
set_option linter.unusedSimpArgs false
set_option maxHeartbeats 4000000
/-- Rows of texts. -/
def strs (l : List ByteArray) : List (List V) := l.map fun s => [.lit (.string s)]
@[simp] theorem strs_len (l : List ByteArray) : (strs l).length = l.length := by simp [strs]
theorem strs_snoc (l : List ByteArray) (s : ByteArray) : strs l ++ [[.lit (.string s)]] = strs (l ++ [s]) := by simp [strs]
theorem strs_get {l : List ByteArray} {i : Nat} {x : ByteArray} (h : l[i]? = some x) : (strs l)[i]? = some [.lit (.string x)] := by simp [strs, h]
@[simp] theorem strs_er (l : List ByteArray) : erRows (strs l) = strs l := by simp [erRows_map, strs, V.er]
theorem strs_inj {a b : List ByteArray} : strs a = strs b ↔ a = b := ⟨map_inj' (fun a b h => by simpa using h) a b, fun h => by rw [h]⟩
theorem join_snoc (xs : List (List UInt8)) (y sep : List UInt8) (h : xs ≠ []) : Lib.join (xs ++ [y]) sep = Lib.join xs sep ++ sep ++ y := by
  cases xs with
  | nil => exact absurd rfl h
  | cons x r =>
    rw [List.cons_append, Lib.join_cons, Lib.join_cons]
    simp [Lib.joinTail]
/-- Texts put together, a blank between. -/
def joined (l : List ByteArray) : ByteArray := bs (Lib.join (l.map (·.data.toList)) [32])
theorem joined_one (x : ByteArray) : joined [x] = x := by unfold joined; rw [List.map_cons, List.map_nil, Lib.join_one, bs_data]
theorem joined_snoc (l : List ByteArray) (x : ByteArray) (h : l ≠ []) : joined (l ++ [x]) = joined l ++ bs [32] ++ x := by
  unfold joined
  rw [List.map_append, List.map_cons, List.map_nil, join_snoc _ _ _ (by simpa using h)]
  rw [← bs_cat, ← bs_cat, bs_data]
theorem joined_size (n : Nat) (l : List ByteArray) (h : ∀ x ∈ l, x.size ≤ n) : (joined l).size ≤ l.length * (n + 1) := by
  have key : ∀ i, i ≤ l.length → (joined (l.take i)).size ≤ i * (n + 1) := by
    intro i
    induction i with
    | zero => intro _; simp [joined, Lib.join_nil]
    | succ i ih =>
      intro hi
      have h1 := ih (by omega)
      have h2 := h _ (List.getElem_mem (show i < l.length by omega))
      rw [List.take_succ_eq_append_getElem (by omega), Nat.add_mul]
      by_cases h0 : i = 0
      · subst h0
        rw [List.take_zero, List.nil_append, joined_one]
        omega
      · have hne : l.take i ≠ [] := by
          intro e
          have he := congrArg List.length e
          rw [List.length_take, List.length_nil] at he
          omega
        rw [joined_snoc _ _ hne, ba_size, ba_size]
        have h3 : (bs [32]).size = 1 := rfl
        omega
  have := key l.length (Nat.le_refl _)
  rwa [List.take_length] at this
def joinArg : Option (List ByteArray) → List TV
  | none => [.one (.lit (.slice none 0 0)), .one (.lit (.string (bs [32])))]
  | some l => [.one (.sl false 9 (strs l)), .one (.lit (.string (bs [32])))]
noncomputable def FJoin : Con := con joinArg (fun o => ∀ l, o = some l → l.length ≤ 140737488355328 ∧ (joined l).size ≤ 140737488355328) (fun o => ((false, [none]), [.lit (.string (joined (o.getD [])))]))
theorem joinArg_inj : ∀ a b, joinArg a = joinArg b → a = b := by
  intro a b h
  cases a <;> cases b <;> simp [joinArg, strs_inj] at h ⊢ <;> exact h
theorem callJoinNil : FJoin [.one (.lit (.slice none 0 0)), .one (.lit (.string (bs [32])))] = some ((false, [none]), [.lit (.string (joined []))]) := con_at (arg := joinArg) (a := none) joinArg_inj (fun l h => by cases h)
theorem callJoin {l : List ByteArray} (h1 : l.length ≤ 140737488355328) (h2 : (joined l).size ≤ 140737488355328) : FJoin [.one (.sl false 9 (strs l)), .one (.lit (.string (bs [32])))] = some ((false, [none]), [.lit (.string (joined l))]) :=
  con_at (arg := joinArg) (a := some l) joinArg_inj (fun l' h => by obtain rfl := Option.some.inj h; exact ⟨h1, h2⟩)
theorem fn_Join : Fn Tryd.prog 27 FJoin := by
  refine ⟨⟨_, Tryd.func27, rfl, rfl⟩, fun vs q hq R w ys hJ hl ha => ?_⟩
  obtain ⟨o, rfl, hok, rfl⟩ := con_of hq
  have fin : ∀ (r : ByteArray) (W : World), Calls Tryd.prog 27 ys w (fun e w' => e = .returned (.string r) ∧ Below w.heap.size w w') →
      Calls Tryd.prog 27 ys w fun e w' => ∃ v, e = .returned v ∧ Below w.heap.size w w' ∧ ∃ c, OutOk Tryd.prog.cellsOf w w' R c ((false, [none]), [.lit (.string r)]) v := by
    intro r W h
    refine h.mono ?_
    rintro e w' ⟨rfl, hb⟩
    refine ⟨_, rfl, hb, fun _ => 0, [.string r], rfl, fun mem ep m w2 cs hcl hc => ?_, fun j u y hu hy => ?_⟩
    · obtain ⟨c, rfl⟩ : ∃ c, cs = [c] := by
        cases cs with
        | nil => simp at hcl
        | cons c cs => cases cs with | nil => exact ⟨c, rfl⟩ | cons => simp at hcl
      exact .one (hc 0 c _ rfl rfl)
    · cases j with
      | zero =>
        simp only [List.getElem?_cons_zero, Option.some.injEq] at hu hy
        subst hu; subst hy
        exact .lit rfl
      | succ j => simp at hu
  have hlen : ys.size = 2 := by rw [hl]; cases o <;> rfl
  obtain ⟨y0, y1, rfl⟩ : ∃ y0 y1, ys = #[y0, y1] := by
    refine ⟨ys[0], ys[1], ?_⟩
    apply Array.ext
    · simpa using hlen
    · intro i h1 h2
      have h3 : i < 2 := by omega
      match i, h3 with
      | 0, _ => rfl
      | 1, _ => rfl
  have h1 : y1 = .string (bs [32]) := by
    have := ha 1 (.one (.lit (.string (bs [32])))) y1 (by cases o <;> rfl) rfl
    cases this with
    | one hb hr =>
      generalize y1 = y at hr
      cases hr with
      | lit _ => rfl
  subst h1
  refine fin _ w ?_
  cases o with
  | none =>
    have h0 : y0 = .slice none 0 0 := by
      have := ha 0 (.one (.lit (.slice none 0 0))) y0 rfl rfl
      cases this with
      | one hb hr =>
        generalize y0 = y at hr
        cases hr with
        | lit _ => rfl
    subst h0
    refine (Any.strings_Join_none Tryd.lays156 Tryd.Builder_Extra_156 none 0 (bs [32]) w).mono ?_
    rintro e w' ⟨rfl, rfl⟩
    exact ⟨by rfl, Below.refl _ _⟩
  | some l =>
    obtain ⟨h2, h3⟩ := hok l rfl
    have h0 := ha 0 (.one (.sl false 9 (strs l))) y0 rfl rfl
    cases h0 with
    | one hb hr =>
      generalize y0 = y at hr
      cases hr with
      | roS ad f hc hm hrow hA hro hcell hrep =>
        rename_i A c
        have hll : (strs l).length = l.length := strs_len l
        rw [hll] at hc
        by_cases hn : l = []
        · subst hn
          refine (Any.strings_Join_none Tryd.lays156 Tryd.Builder_Extra_156 A c (bs [32]) w).mono ?_
          rintro e w' ⟨rfl, rfl⟩
          exact ⟨by rfl, Below.refl _ _⟩
        · have hA' := hA (by intro h; apply hn; have := congrArg List.length h; rw [hll] at this; exact List.eq_nil_of_length_eq_zero this)
          subst hA'
          have hz : Tryd.prog.cellsOf 9 = 1 := tc9
          have hat : ∀ (j : Nat) x, l[j]? = some x → w.cell? (ad.add j) = some (.string x) := by
            intro j x hx
            have h5 := strs_get hx
            have h6 := hcell j 0 _ _ h5 rfl
            have h7 := hrep j 0 _ _ h5 rfl
            rw [hz, Nat.mul_one, Nat.add_zero] at h6
            rw [h6]
            generalize f j 0 = v at h7
            cases h7 with
            | lit _ => rfl
          have hpos : 0 < l.length := by cases l with | nil => exact absurd rfl hn | cons => simp
          obtain ⟨bk, off, spot⟩ := ad
          have h8 := hat 0 l[0] (List.getElem?_eq_getElem hpos)
          have hspot : spot = none := by
            simp only [Addr.add, if_true, World.cell?] at h8
            split at h8
            · cases spot with
              | none => rfl
              | some _ => simp at h8
            · cases h8
          subst hspot
          have hadd : ∀ j, (⟨bk, off, none⟩ : Addr).add j = ⟨bk, off + j, none⟩ := by intro j; unfold Addr.add; split <;> simp_all
          have hbk : bk < w.heap.size := by
            have := World.block_lt_of_cell? _ _ h8
            simpa [hadd] using this
          rw [hll]
          have hj : (Lib.join (l.map (·.data.toList)) (bs [32]).data.toList).length ≤ 140737488355328 := by
            have h9 : (joined l).size = (Lib.join (l.map (·.data.toList)) [32]).length := by unfold joined; rw [bs_size]
            rw [h9] at h3
            exact h3
          refine (Tryd.strings_Join bk off c l (bs [32]) w (fun j x hx => by rw [← hadd]; exact hat j x hx) hbk h2 hc hj).mono ?_
          rintro e w' ⟨rfl, hb⟩
          exact ⟨rfl, hb⟩
end Go.Proofs.YtjdhdpbdaabdmaaDoor.Vm
