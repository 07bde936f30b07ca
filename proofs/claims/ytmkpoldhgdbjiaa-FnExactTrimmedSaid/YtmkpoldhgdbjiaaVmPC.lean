/-
  Plain laws: right grammars; Trimmed.
-/
import Derived.Test.YtmkpoldhgdbjiaaVmPB
namespace Go.Proofs.Ytmkpoldhgdbjiaa.Vm
open Go Go.RowKit Go.Proofs
set_option linter.unusedVariables false

def within (lo hi x : Int) : Bool := decide (lo ≤ x) && decide (x ≤ hi)
theorem l1In_ok (x lo hi : Int) : p_spec_l1In x lo hi = some (within lo hi x) := by
  unfold p_spec_l1In within
  by_cases h : lo ≤ x <;> simp [h]
theorem inRange_ok (x lo hi : Int) : p_impl_inRange x lo hi = some (within lo hi x) := by
  unfold p_impl_inRange within
  by_cases h : lo ≤ x <;> simp [h]
theorem orIf {β : Type} (x y : Bool) (A B : β) : (if x = true then A else if y = true then A else B) = if (x || y) = true then A else B := by cases x <;> cases y <;> rfl
theorem andIf {β : Type} (x y : Bool) (A B : β) : (if x = true then (if y = true then A else B) else B) = if (x && y) = true then A else B := by cases x <;> cases y <;> rfl
def isSym (n : Nat) (x : Int) : Bool := within 0 25 x || within 100 (100 + n - 1) x
def gramOk (g : List (List (List Int))) : Bool := within 1 20 g.length && g.all fun r => within 1 8 r.length && r.all fun row => decide ((row.length : Int) ≤ 8) && row.all (isSym g.length)
theorem gramOk_spec {g : List (List (List Int))} (h : gOk g) : p_spec_GramOk g = some (gramOk g) := by
  unfold p_spec_GramOk gramOk
  simp only [l1In_ok, Option.bind_eq_bind, Option.bind_some]
  cases hw : within 1 20 (g.length : Int) with
  | false => simp
  | true =>
    have hg : g.length ≤ 20 := by simp [within] at hw; omega
    simp only [if_true, Bool.true_and]
    have h0 := allLoop (R := Bool) (a := g) (p_spec_GramOk_L0 g) false (fun r => within 1 8 r.length && r.all fun row => decide ((row.length : Int) ≤ 8) && row.all (isSym g.length)) (fun i q1 => by
      rw [p_spec_GramOk_L0]
      have hi := h.2 _ (List.getElem_mem q1)
      have h2 := allLoop (R := Bool) (a := g[i]) (p_spec_GramOk_L2 g i) false (fun row => decide ((row.length : Int) ≤ 8) && row.all (isSym g.length)) (fun j q2 => by
        rw [p_spec_GramOk_L2]
        have hj := hi.2 _ (List.getElem_mem q2)
        have h4 := allLoop (R := Bool) (a := g[i][j]) (p_spec_GramOk_L4 g i j g[i][j]) false (isSym g.length) (fun k q3 => by
          rw [p_spec_GramOk_L4]
          have e1 : IntKind.wrap .i64 (100 + (g.length : Int)) = 100 + g.length := wrap_id (by omega) (by omega)
          have e2 : IntKind.wrap .i64 (100 + (g.length : Int) - 1) = 100 + g.length - 1 := wrap_id (by omega) (by omega)
          simp only [lt_int q3, if_true, nonneg_int, Int.toNat_natCast, List.getElem?_eq_getElem q3, Option.bind_eq_bind, Option.bind_some, l1In_ok, e1, e2, wsucc q3 (by omega), isSym]
          exact orIf _ _ _ _) (by rw [p_spec_GramOk_L4]; simp)
        simp only [nonneg_int, if_true, Int.toNat_natCast, List.getElem?_eq_getElem q1, List.getElem?_eq_getElem q2, Option.bind_eq_bind, Option.bind_some, lt_int q2, h4, wsucc q2 (by omega)]
        by_cases h8 : (8 : Int) < (g[i][j].length : Int)
        · have : ¬ (g[i][j].length : Int) ≤ 8 := by omega
          simp [h8, this]
        · have : (g[i][j].length : Int) ≤ 8 := by omega
          rw [if_neg h8]
          cases (g[i][j].all (isSym g.length)) <;> simp [this]) (by rw [p_spec_GramOk_L2]; simp [List.getElem?_eq_getElem q1])
      simp only [lt_int q1, if_true, nonneg_int, Int.toNat_natCast, List.getElem?_eq_getElem q1, Option.bind_eq_bind, Option.bind_some, l1In_ok, wsucc q1 (by omega), h2]
      cases within 1 8 (g[i].length : Int) <;> cases (g[i].all fun row => decide ((row.length : Int) ≤ 8) && row.all (isSym g.length)) <;> simp) (by rw [p_spec_GramOk_L0]; simp)
    rw [h0]
    cases (g.all fun r => within 1 8 r.length && r.all fun row => decide ((row.length : Int) ≤ 8) && row.all (isSym g.length)) <;> simp
def gWf (g : List (List (List Int))) : Prop := ∀ x ∈ g, ∀ y ∈ x, ∀ z ∈ y, -9223372036854775808 ≤ z ∧ z ≤ 9223372036854775807
theorem isSymbol_ok {g : List (List (List Int))} (h : g.length ≤ 1048576) {x : Int} (hx : x ≤ 9223372036854775807) : p_impl_isSymbol g x = some (isSym g.length x) := by
  unfold p_impl_isSymbol p_impl_isLetter p_impl_isPart isSym
  simp only [inRange_ok, Option.bind_eq_bind, Option.bind_some]
  rw [wrap_id (n := (g.length : Int) - 1) (by omega) (by omega)]
  cases h1 : within 0 25 x with
  | true => simp
  | false =>
    simp only [Bool.false_eq_true, if_false, Bool.false_or]
    by_cases h2 : 100 ≤ x
    · rw [if_pos h2, wrap_id (by omega) (by omega)]
      congr 1
      unfold within
      rw [Bool.eq_iff_iff]
      simp
      omega
    · rw [if_neg h2]
      have : within 100 (100 + (g.length : Int) - 1) x = false := by unfold within; simp; omega
      rw [this]
theorem areSymbols_ok {g : List (List (List Int))} (h : g.length ≤ 1048576) {row : List Int} (hr : row.length ≤ 1048576) (hx : ∀ z ∈ row, z ≤ 9223372036854775807) : p_impl_areSymbols g row = some (row.all (isSym g.length)) := by
  unfold p_impl_areSymbols
  rw [allLoop (R := Bool) (a := row) (p_impl_areSymbols_L0 row g) false (isSym g.length) (fun i q => by
    rw [p_impl_areSymbols_L0]
    simp only [lt_int q, if_true, nonneg_int, Int.toNat_natCast, List.getElem?_eq_getElem q, Option.bind_eq_bind, Option.bind_some, isSymbol_ok h (hx _ (List.getElem_mem q)), wsucc q (by omega)]) (by rw [p_impl_areSymbols_L0]; simp)]
  cases row.all (isSym g.length) <;> simp
theorem gramOk_impl {g : List (List (List Int))} (h : gOk g) (hw : gWf g) : p_impl_GramOk g = some (gramOk g) := by
  unfold p_impl_GramOk gramOk
  simp only [inRange_ok, Option.bind_eq_bind, Option.bind_some]
  have hg := h.1
  cases within 1 20 (g.length : Int) with
  | false => simp
  | true =>
    simp only [if_true, Bool.true_and]
    have h0 := allLoop (R := Bool) (a := g) (p_impl_GramOk_L0 g) false (fun r => within 1 8 r.length && r.all fun row => decide ((row.length : Int) ≤ 8) && row.all (isSym g.length)) (fun i q1 => by
      rw [p_impl_GramOk_L0]
      have hi := h.2 _ (List.getElem_mem q1)
      have h2 := allLoop (R := Bool) (a := g[i]) (p_impl_GramOk_L2 g i g[i]) false (fun row => decide ((row.length : Int) ≤ 8) && row.all (isSym g.length)) (fun j q2 => by
        rw [p_impl_GramOk_L2]
        have hj := hi.2 _ (List.getElem_mem q2)
        simp only [nonneg_int, if_true, Int.toNat_natCast, List.getElem?_eq_getElem q2, Option.bind_eq_bind, Option.bind_some, lt_int q2, areSymbols_ok h.1 hj (fun z hz => (hw _ (List.getElem_mem q1) _ (List.getElem_mem q2) z hz).2), wsucc q2 (by omega)]
        by_cases h8 : (8 : Int) < (g[i][j].length : Int)
        · have : ¬ (g[i][j].length : Int) ≤ 8 := by omega
          simp [h8, this]
        · have : (g[i][j].length : Int) ≤ 8 := by omega
          rw [if_neg h8]
          simp [this]) (by rw [p_impl_GramOk_L2]; simp)
      simp only [lt_int q1, if_true, nonneg_int, Int.toNat_natCast, List.getElem?_eq_getElem q1, Option.bind_eq_bind, Option.bind_some, inRange_ok, wsucc q1 (by omega), h2]
      cases within 1 8 (g[i].length : Int) <;> cases (g[i].all fun row => decide ((row.length : Int) ≤ 8) && row.all (isSym g.length)) <;> simp) (by rw [p_impl_GramOk_L0]; simp)
    rw [h0]
    cases (g.all fun r => within 1 8 r.length && r.all fun row => decide ((row.length : Int) ≤ 8) && row.all (isSym g.length)) <;> simp

/-! Trimmed. -/
theorem l1Same_ok {a b : List Int} (h : a.length ≤ 4611686018427387904) : p_spec_l1Same a b = some (decide (a = b)) := by
  unfold p_spec_l1Same
  by_cases hl : a.length = b.length
  · have := eqLoop (R := Bool) hl (p_spec_l1Same_L0 a b) false (fun i h1 h2 => by
      rw [p_spec_l1Same_L0]
      simp [lt_int h1, List.getElem?_eq_getElem h1, List.getElem?_eq_getElem h2, wsucc h1 h]) (by rw [p_spec_l1Same_L0]; simp)
    rw [if_pos (by omega), this]
    split <;> rename_i he <;> simp [he]
  · rw [if_neg (by omega)]
    have : ¬ a = b := fun e => hl (by rw [e])
    simp [this]
theorem sEqual_ok {a b : List Int} (h : a.length ≤ 4611686018427387904) : p_slices_Equal_int a b = some (decide (a = b)) := by
  unfold p_slices_Equal_int
  by_cases hl : a.length = b.length
  · have := eqLoop (R := Bool) hl (p_slices_Equal_int_L0 a b) false (fun i h1 h2 => by
      rw [p_slices_Equal_int_L0]
      simp [lt_int h1, List.getElem?_eq_getElem h1, List.getElem?_eq_getElem h2, wsucc h1 h]) (by rw [p_slices_Equal_int_L0]; simp)
    rw [if_pos (by omega), this]
    split <;> rename_i he <;> simp [he]
  · rw [if_neg (by omega)]
    have : ¬ a = b := fun e => hl (by rw [e])
    simp [this]
def add1 (acc : List (List Int)) (r : List Int) : List (List Int) := if r ∈ acc then acc else acc ++ [r]
/-- Each row once. -/
def once (l : List (List Int)) : List (List Int) := l.foldl add1 []
theorem once_snoc (l : List (List Int)) (r : List Int) : once (l ++ [r]) = add1 (once l) r := by simp [once, List.foldl_append]
theorem mem_add1 {acc : List (List Int)} {r x : List Int} : x ∈ add1 acc r ↔ x ∈ acc ∨ x = r := by
  unfold add1
  split
  · rename_i h
    constructor
    · exact .inl
    · rintro (h2 | rfl)
      · exact h2
      · exact h
  · simp
theorem mem_fold (l : List (List Int)) : ∀ (acc : List (List Int)) (x : List Int), x ∈ l.foldl add1 acc ↔ x ∈ acc ∨ x ∈ l := by
  induction l with
  | nil => intro acc x; simp
  | cons r l ih => intro acc x; rw [List.foldl_cons, ih, mem_add1]; simp [or_assoc]
theorem mem_once {l : List (List Int)} {x : List Int} : x ∈ once l ↔ x ∈ l := by rw [once, mem_fold]; simp
theorem add1_len (acc : List (List Int)) (r : List Int) : (add1 acc r).length ≤ acc.length + 1 := by unfold add1; split <;> simp
theorem or_fold (x : List Int) (l : List (List Int)) : ∀ b, l.foldl (fun b r => b || decide (x = r)) b = (b || decide (x ∈ l)) := by
  induction l with
  | nil => intro b; simp
  | cons r l ih =>
    intro b
    rw [List.foldl_cons, ih]
    by_cases h : x = r
    · simp [h]
    · simp [h]
theorem cFunc_ok {l : List (List Int)} {r : List Int} (h : l.length ≤ 1048576) (h1 : ∀ x ∈ l, x.length ≤ 1048576) : p_slices_ContainsFunc_LLint_Lint_cl44 l r = some (decide (r ∈ l)) := by
  unfold p_slices_ContainsFunc_LLint_Lint_cl44 p_slices_IndexFunc_LLint_Lint_cl44
  rw [findLoop (R := Int) (a := l) (p_slices_IndexFunc_LLint_Lint_cl44_L0 l r) (fun x => decide (x = r)) (fun i => (i : Int)) (fun i q => by
    rw [p_slices_IndexFunc_LLint_Lint_cl44_L0]
    simp [lt_int q, List.getElem?_eq_getElem q, p_impl_Trimmed_1, sEqual_ok (show l[i].length ≤ _ by have := h1 _ (List.getElem_mem q); omega), wsucc q (by omega)]) (by rw [p_slices_IndexFunc_LLint_Lint_cl44_L0]; simp)]
  by_cases hm : r ∈ l
  · have : l.findIdx (fun x => decide (x = r)) < l.length := List.findIdx_lt_length_of_exists ⟨r, hm, by simp⟩
    rw [if_pos this]
    simp [hm]
  · have : ¬ l.findIdx (fun x => decide (x = r)) < l.length := by
      intro h2
      have := List.findIdx_getElem (w := h2)
      simp at this
      exact hm (this ▸ List.getElem_mem h2)
    rw [if_neg this]
    simp [hm]
def trimmed (g : List (List (List Int))) : List (List (List Int)) := if gramOk g then g.map once else []
theorem snocLoop {α β : Type} {a : List α} (L : Int → List β → Option (List β)) (c : α → β) (hs : ∀ (i : Nat) (h : i < a.length) (m : List β), m.length = i → L (i : Int) m = L ((i + 1 : Nat) : Int) (m ++ [c a[i]])) (he : ∀ m, L (a.length : Int) m = some m) : L 0 [] = some (a.map c) := by
  have := foldLoop (a := a) L (fun m x => m ++ [c x]) id (fun i m => m.length = i) (fun i h s q => ⟨hs i h s q, by simp [q]⟩) (fun s _ => he s) [] rfl
  rw [this]
  congr 1
  have key : ∀ (l : List α) (m : List β), l.foldl (fun m x => m ++ [c x]) m = m ++ l.map c := by
    intro l
    induction l with
    | nil => intro m; simp
    | cons x l ih => intro m; rw [List.foldl_cons, ih]; simp
  simpa using key a []
theorem trimmed_impl {g : List (List (List Int))} (h : gOk g) (hw : gWf g) : p_impl_Trimmed g = some (trimmed g) := by
  unfold p_impl_Trimmed trimmed
  rw [gramOk_impl h hw]
  simp only [Option.bind_eq_bind, Option.bind_some]
  have hg := h.1
  cases gramOk g with
  | false => simp
  | true =>
    simp only [if_true]
    rw [snocLoop (p_impl_Trimmed_L0 g) once (fun i q m hm => by
      have hi := h.2 _ (List.getElem_mem q)
      have h2 := foldLoop (a := g[i]) (p_impl_Trimmed_L2 g i g[i] m) add1 id (fun j acc => acc.length ≤ j ∧ ∀ x ∈ acc, x.length ≤ 1048576) (fun j q2 acc ha => by
        have hj := hi.2 _ (List.getElem_mem q2)
        refine ⟨?_, Nat.le_trans (add1_len _ _) (by omega), fun x hx => ?_⟩
        · rw [p_impl_Trimmed_L2]
          have hcap : (acc.length + 1) * 24 ≤ 140737488355328 := by omega
          have hcl : g[i][j].length * 8 ≤ 140737488355328 := by omega
          simp only [lt_int q2, if_true, nonneg_int, Int.toNat_natCast, List.getElem?_eq_getElem q2, Option.bind_eq_bind, Option.bind_some, cFunc_ok (show acc.length ≤ 1048576 by omega) ha.2, p_slices_Clone_int, hcap, hcl, wsucc q2 (by omega), add1]
          by_cases hm : g[i][j] ∈ acc <;> simp [hm]
        · rcases mem_add1.1 hx with h3 | rfl
          · exact ha.2 x h3
          · exact hj) (fun s _ => by rw [p_impl_Trimmed_L2]; simp) [] ⟨by simp, by simp⟩
      rw [p_impl_Trimmed_L0]
      have hcap : (m.length + 1) * 24 ≤ 140737488355328 := by omega
      simp only [lt_int q, if_true, nonneg_int, Int.toNat_natCast, List.getElem?_eq_getElem q, Option.bind_eq_bind, Option.bind_some, h2, hcap, wsucc q (by omega), once, id]) (fun m => by rw [p_impl_Trimmed_L0]; simp)]
    simp
theorem trimmed_spec {g : List (List (List Int))} (h : gOk g) : p_spec_Trimmed g = some (trimmed g) := by
  unfold p_spec_Trimmed trimmed
  rw [gramOk_spec h]
  simp only [Option.bind_eq_bind, Option.bind_some]
  have hg := h.1
  cases gramOk g with
  | false => simp
  | true =>
    simp only [if_true]
    rw [snocLoop (p_spec_Trimmed_L0 g) once (fun i q m hm => by
      have hi := h.2 _ (List.getElem_mem q)
      have h2 : p_spec_Trimmed_L2 i g m 0 [] = some (once g[i]) := by
        have key : ∀ d (j : Nat), j + d = g[i].length → p_spec_Trimmed_L2 i g m j (once (g[i].take j)) = some (once g[i]) := by
          intro d
          induction d with
          | zero =>
            intro j hj
            obtain rfl : j = g[i].length := by omega
            rw [p_spec_Trimmed_L2]
            simp [List.getElem?_eq_getElem q]
          | succ d ih =>
            intro j hj
            have q2 : j < g[i].length := by omega
            have hjj := hi.2 _ (List.getElem_mem q2)
            have h4 := foldLoop (a := g[i].take j) (p_spec_Trimmed_L4 i j g m (once (g[i].take j)) |> fun f => fun k b => f b k) (fun b r => b || decide (g[i][j] = r)) id (fun _ _ => True) (fun k q3 b _ => by
              have hk : k < j := by simp at q3; omega
              have hk2 : k < g[i].length := by omega
              refine ⟨?_, trivial⟩
              show p_spec_Trimmed_L4 i j g m (once (g[i].take j)) b k = _
              rw [p_spec_Trimmed_L4]
              cases b with
              | true => simp [lt_int hk, wsucc hk (by omega)]
              | false => simp [lt_int hk, List.getElem?_eq_getElem q, List.getElem?_eq_getElem q2, List.getElem?_eq_getElem hk2, l1Same_ok (show g[i][j].length ≤ _ by omega), wsucc hk (by omega)]) (fun b _ => by
              show p_spec_Trimmed_L4 i j g m (once (g[i].take j)) b ((g[i].take j).length : Nat) = _
              have : (g[i].take j).length = j := by simp; omega
              rw [this, p_spec_Trimmed_L4]
              simp) false trivial
            rw [or_fold] at h4
            simp only [Bool.false_or, id] at h4
            have hlen : (once (g[i].take j)).length ≤ j := by
              have : ∀ (l acc : List (List Int)), (l.foldl add1 acc).length ≤ acc.length + l.length := by
                intro l
                induction l with
                | nil => intro acc; simp
                | cons r l ih => intro acc; rw [List.foldl_cons]; have := ih (add1 acc r); have := add1_len acc r; simp; omega
              have := this (g[i].take j) []
              simp at this
              unfold once
              omega
            have hcap : ((once (g[i].take j)).length + 1) * 24 ≤ 140737488355328 := by omega
            have hcl : g[i][j].length * 8 ≤ 140737488355328 := by omega
            have hn : once (g[i].take (j + 1)) = add1 (once (g[i].take j)) g[i][j] := by rw [List.take_succ_eq_append_getElem q2, once_snoc]
            rw [p_spec_Trimmed_L2]
            simp only [nonneg_int, if_true, Int.toNat_natCast, List.getElem?_eq_getElem q, List.getElem?_eq_getElem q2, Option.bind_eq_bind, Option.bind_some, lt_int q2, h4, hcap, hcl, wsucc q2 (by omega)]
            have := ih (j + 1) (by omega)
            rw [hn] at this
            unfold add1 at this
            by_cases hmem : g[i][j] ∈ g[i].take j
            · simp only [hmem, decide_true, if_true]
              rwa [if_pos (mem_once.2 hmem)] at this
            · simp only [hmem, decide_false, Bool.false_eq_true, if_false]
              rwa [if_neg (fun hh => hmem (mem_once.1 hh))] at this
        simpa [once] using key g[i].length 0 (by omega)
      rw [p_spec_Trimmed_L0]
      have hcap : (m.length + 1) * 24 ≤ 140737488355328 := by omega
      simp only [lt_int q, if_true, Option.bind_eq_bind, Option.bind_some, h2, hcap, wsucc q (by omega)]) (fun m => by rw [p_spec_Trimmed_L0]; simp)]
    simp
theorem trimmed_ok {g : List (List (List Int))} (h : gOk g) : gOk (trimmed g) := by
  unfold trimmed
  split
  · refine ⟨by have := h.1; simpa using this, fun x hx => ?_⟩
    obtain ⟨y, hy, rfl⟩ := List.mem_map.1 hx
    refine ⟨?_, fun r hr => (h.2 y hy).2 r (mem_once.1 hr)⟩
    have : ∀ (l acc : List (List Int)), (l.foldl add1 acc).length ≤ acc.length + l.length := by
      intro l
      induction l with
      | nil => intro acc; simp
      | cons r l ih => intro acc; rw [List.foldl_cons]; have := ih (add1 acc r); have := add1_len acc r; simp; omega
    have h2 := this y []
    have h3 := (h.2 y hy).1
    simp at h2
    unfold once
    omega
  · exact ⟨by simp, by simp⟩
/-- How much there is to mark. -/
theorem cnt_le (g : List (List (List Int))) : cntL (cntL List.length) g ≤ cnt3 g := by
  unfold cnt3
  have h2 : ∀ x : List (List Int), cntL List.length x ≤ cnt2 x := fun x => by unfold cnt2; omega
  have : ∀ l : List (List (List Int)), cntL (cntL List.length) l ≤ cntL cnt2 l := by
    intro l
    induction l with
    | nil => simp [cntL]
    | cons x l ih => rw [cntL_cons, cntL_cons]; have := h2 x; omega
  have := this g
  omega
end Go.Proofs.Ytmkpoldhgdbjiaa.Vm
