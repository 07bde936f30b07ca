/-
  Plain laws: the laws' own functions at rows of numbers: measured, copied, compared, marked.
-/
import Derived.Test.YtanglbgincgmaaaVmPA
import Derived.Test.YtanglbgincgmaaaVmG1
namespace Go.Proofs.Ytanglbgincgmaaa.Vm
open Go Go.RowKit Go.Proofs
set_option linter.unusedVariables false

/-! Compared. -/
theorem eqIntS_ok {a b : List Int} (h : a.length ≤ 4611686018427387904) : p_laws_eqIntS a b = some (decide (a = b)) := by
  unfold p_laws_eqIntS
  by_cases hl : a.length = b.length
  · have := eqLoop (R := Bool) hl (p_laws_eqIntS_L0 a b) false (fun i h1 h2 => by
      rw [p_laws_eqIntS_L0]
      simp [lt_int h1, List.getElem?_eq_getElem h1, List.getElem?_eq_getElem h2, wsucc h1 h]) (by rw [p_laws_eqIntS_L0]; simp)
    rw [if_pos (by omega), this]
    split <;> rename_i he <;> simp [he]
  · rw [if_neg (by omega)]
    have : ¬ a = b := fun e => hl (by rw [e])
    simp [this]
theorem eqIntSS_ok {a b : List (List Int)} (h : a.length ≤ 4611686018427387904) (h1 : ∀ x ∈ a, x.length ≤ 4611686018427387904) : p_laws_eqIntSS a b = some (decide (a = b)) := by
  unfold p_laws_eqIntSS
  by_cases hl : a.length = b.length
  · have := eqLoop (R := Bool) hl (p_laws_eqIntSS_L0 a b) false (fun i q1 q2 => by
      rw [p_laws_eqIntSS_L0]
      simp [lt_int q1, List.getElem?_eq_getElem q1, List.getElem?_eq_getElem q2, wsucc q1 h, eqIntS_ok (h1 _ (List.getElem_mem q1))]) (by rw [p_laws_eqIntSS_L0]; simp)
    rw [if_pos (by omega), this]
    split <;> rename_i he <;> simp [he]
  · rw [if_neg (by omega)]
    have : ¬ a = b := fun e => hl (by rw [e])
    simp [this]
theorem eqIntSSS_ok {a b : List (List (List Int))} (h : a.length ≤ 4611686018427387904) (h1 : ∀ x ∈ a, x.length ≤ 4611686018427387904) (h2 : ∀ x ∈ a, ∀ y ∈ x, y.length ≤ 4611686018427387904) : p_laws_eqIntSSS a b = some (decide (a = b)) := by
  unfold p_laws_eqIntSSS
  by_cases hl : a.length = b.length
  · have := eqLoop (R := Bool) hl (p_laws_eqIntSSS_L0 a b) false (fun i q1 q2 => by
      rw [p_laws_eqIntSSS_L0]
      simp [lt_int q1, List.getElem?_eq_getElem q1, List.getElem?_eq_getElem q2, wsucc q1 h, eqIntSS_ok (h1 _ (List.getElem_mem q1)) (h2 _ (List.getElem_mem q1))]) (by rw [p_laws_eqIntSSS_L0]; simp)
    rw [if_pos (by omega), this]
    split <;> rename_i he <;> simp [he]
  · rw [if_neg (by omega)]
    have : ¬ a = b := fun e => hl (by rw [e])
    simp [this]
/-- A grammar of a size that is compared. -/
def gOk (g : List (List (List Int))) : Prop := g.length ≤ 1048576 ∧ ∀ x ∈ g, x.length ≤ 1048576 ∧ ∀ y ∈ x, y.length ≤ 1048576
theorem eqGram_ok {a b : List (List (List Int))} (h : gOk a) : p_laws_eqGram a b = some (decide (a = b)) := by
  unfold p_laws_eqGram
  rw [eqIntSSS_ok (by have := h.1; omega) (fun x hx => by have := (h.2 x hx).1; omega) (fun x hx y hy => by have := (h.2 x hx).2 y hy; omega)]
  by_cases he : a = b <;> simp [he]

/-! Copied. -/
theorem copyLoop {α β : Type} {a : List α} {z : β} (L : Int → List β → Option (List β)) (c : α → β) (hs : ∀ (i : Nat) (h : i < a.length) (m : List β) (hm : i < m.length), m.length = a.length → L (i : Int) m = L ((i + 1 : Nat) : Int) (m.set i (c a[i]))) (he : ∀ m : List β, m.length = a.length → L (a.length : Int) m = some m) : L 0 (List.replicate a.length z) = some (a.map c) := by
  have key : ∀ d (i : Nat) (m : List β), i + d = a.length → m.length = a.length → L (i : Int) m = some (m.take i ++ (a.drop i).map c) := by
    intro d
    induction d with
    | zero =>
      intro i m hi hm
      obtain rfl : i = a.length := by omega
      rw [he m hm]
      simp [List.take_of_length_le (Nat.le_of_eq hm)]
    | succ d ih =>
      intro i m hi hm
      have hlt : i < a.length := by omega
      rw [hs i hlt m (by omega) hm, ih (i + 1) _ (by omega) (by simpa using hm), List.drop_eq_getElem_cons hlt]
      congr 1
      rw [List.map_cons, List.take_succ_eq_append_getElem (by simp; omega), List.take_set_of_le (Nat.le_refl _)]
      simp
  have := key a.length 0 (List.replicate a.length z) (by omega) (by simp)
  simpa using this
theorem toIntS_ok {a : List Int} (h : a.length ≤ 1048576) : p_laws_toIntS a = some a := by
  unfold p_laws_toIntS
  rw [if_pos (by omega)]
  have := copyLoop (a := a) (z := (0 : Int)) (p_laws_toIntS_L0 a) (fun x => x) (fun i q1 m q2 q3 => by
    rw [p_laws_toIntS_L0]
    simp [lt_int q1, List.getElem?_eq_getElem q1, List.getElem?_eq_getElem q2, wsucc q1 (by omega)]) (fun m hm => by rw [p_laws_toIntS_L0]; simp)
  simp [this]
theorem toIntSS_ok {a : List (List Int)} (h : a.length ≤ 1048576) (h1 : ∀ x ∈ a, x.length ≤ 1048576) : p_laws_toIntSS a = some a := by
  unfold p_laws_toIntSS
  rw [if_pos (by omega)]
  have := copyLoop (a := a) (z := ([] : List Int)) (p_laws_toIntSS_L0 a) (fun x => x) (fun i q1 m q2 q3 => by
    rw [p_laws_toIntSS_L0]
    simp [lt_int q1, List.getElem?_eq_getElem q1, List.getElem?_eq_getElem q2, wsucc q1 (by omega), toIntS_ok (h1 _ (List.getElem_mem q1))]) (fun m hm => by rw [p_laws_toIntSS_L0]; simp)
  simp [this]
theorem toIntSSS_ok {a : List (List (List Int))} (h : a.length ≤ 1048576) (h1 : ∀ x ∈ a, x.length ≤ 1048576) (h2 : ∀ x ∈ a, ∀ y ∈ x, y.length ≤ 1048576) : p_laws_toIntSSS a = some a := by
  unfold p_laws_toIntSSS
  rw [if_pos (by omega)]
  have := copyLoop (a := a) (z := ([] : List (List Int))) (p_laws_toIntSSS_L0 a) (fun x => x) (fun i q1 m q2 q3 => by
    rw [p_laws_toIntSSS_L0]
    simp [lt_int q1, List.getElem?_eq_getElem q1, List.getElem?_eq_getElem q2, wsucc q1 (by omega), toIntSS_ok (h1 _ (List.getElem_mem q1)) (h2 _ (List.getElem_mem q1))]) (fun m hm => by rw [p_laws_toIntSSS_L0]; simp)
  simp [this]
theorem toGram_ok {a : List (List (List Int))} (h : gOk a) : p_laws_toGram a = some a := by
  unfold p_laws_toGram
  rw [toIntSSS_ok h.1 (fun x hx => (h.2 x hx).1) (fun x hx y hy => (h.2 x hx).2 y hy)]
  simp

/-! Measured. -/
/-- What is left of k, if n is taken; -1 if there is too little. -/
def left (k : Int) (n : Nat) : Int := if (n : Int) ≤ k then k - n else -1
theorem left_neg (k : Int) (n : Nat) (hk : 0 ≤ k) : left k n < 0 ↔ k < n := by unfold left; split <;> omega
theorem sizeLoop {α : Type} {a : List α} (L : Int → Int → Option (Int ⊕ Int)) (cnt : α → Nat) (hs : ∀ (k : Int) (i : Nat) (h : i < a.length), 0 ≤ k → k ≤ 1048576 → L k (i : Int) = if left k (cnt a[i]) < 0 then some (.inl (-1)) else L (left k (cnt a[i])) ((i + 1 : Nat) : Int)) (he : ∀ k, L k (a.length : Int) = some (.inr k)) (k : Int) (hk : 0 ≤ k) (hk2 : k ≤ 1048576) :
    L k 0 = some (if left k (cntL cnt a) < 0 then .inl (-1) else .inr (left k (cntL cnt a))) := by
  have key : ∀ d (i : Nat) (k : Int), i + d = a.length → 0 ≤ k → k ≤ 1048576 → L k (i : Int) = some (if left k (cntL cnt (a.drop i)) < 0 then .inl (-1) else .inr (left k (cntL cnt (a.drop i)))) := by
    intro d
    induction d with
    | zero =>
      intro i k hi hk _
      obtain rfl : i = a.length := by omega
      rw [he]
      simp only [List.drop_length, cntL, List.map_nil, List.sum_nil, left]
      simp [hk]
    | succ d ih =>
      intro i k hi hk hk2
      have hlt : i < a.length := by omega
      rw [hs k i hlt hk hk2, List.drop_eq_getElem_cons hlt, cntL_cons]
      by_cases hc : left k (cnt a[i]) < 0
      · have h2 := (left_neg k (cnt a[i]) hk).1 hc
        have h3 : left k (cnt a[i] + cntL cnt (a.drop (i + 1))) < 0 := (left_neg _ _ hk).2 (by push_cast; omega)
        rw [if_pos hc, if_pos h3]
      · have h2 : (cnt a[i] : Int) ≤ k := by have := mt (left_neg k (cnt a[i]) hk).2 hc; omega
        have h4 : left k (cnt a[i]) = k - cnt a[i] := if_pos h2
        rw [if_neg hc, h4, ih (i + 1) _ (by omega) (by omega) (by omega)]
        have h5 : left (k - cnt a[i]) (cntL cnt (a.drop (i + 1))) = left k (cnt a[i] + cntL cnt (a.drop (i + 1))) := by
          unfold left
          push_cast
          split <;> split <;> omega
        rw [h5]
  have := key a.length 0 k (by omega) hk hk2
  simpa using this
theorem szIntS_ok {a : List Int} {k : Int} (h : a.length ≤ 4611686018427387904) (hk : 0 ≤ k) (hk2 : k ≤ 1048576) : p_laws_szIntS a k = some (left k a.length) := by
  unfold p_laws_szIntS left
  rw [wrap_id (by omega) (by omega)]
  split <;> split <;> first | omega | rfl
def cnt2 (a : List (List Int)) : Nat := a.length + cntL List.length a
def cnt3 (a : List (List (List Int))) : Nat := a.length + cntL cnt2 a
theorem szIntSS_ok {a : List (List Int)} {k : Int} (h : a.length ≤ 4611686018427387904) (h1 : ∀ x ∈ a, x.length ≤ 4611686018427387904) (hk : 0 ≤ k) (hk2 : k ≤ 1048576) : p_laws_szIntSS a k = some (left k (cnt2 a)) := by
  unfold p_laws_szIntSS
  rw [wrap_id (by omega) (by omega)]
  by_cases hc : k - (a.length : Int) < 0
  · rw [if_pos hc]
    have : left k (cnt2 a) < 0 := (left_neg _ _ hk).2 (by unfold cnt2; push_cast; omega)
    unfold left at this ⊢
    split at this
    · omega
    · rename_i h2; rw [if_neg h2]
  · rw [if_neg hc, sizeLoop (a := a) (p_laws_szIntSS_L0 a) List.length (fun k i q1 g1 g2 => by
      rw [p_laws_szIntSS_L0]
      simp [lt_int q1, List.getElem?_eq_getElem q1, wsucc q1 h, szIntS_ok (h1 _ (List.getElem_mem q1)) g1 g2]) (fun k => by rw [p_laws_szIntSS_L0]; simp) _ (by omega) (by omega)]
    have h5 : left (k - a.length) (cntL List.length a) = left k (cnt2 a) := by
      unfold left cnt2
      push_cast
      split <;> split <;> omega
    rw [h5]
    by_cases hn : left k (cnt2 a) < 0
    · simp only [hn, if_true, Option.bind_eq_bind, Option.bind_some]
      unfold left at hn ⊢
      split at hn
      · omega
      · rename_i h2; rw [if_neg h2]
    · simp [hn]
theorem szIntSSS_ok {a : List (List (List Int))} {k : Int} (h : a.length ≤ 4611686018427387904) (h1 : ∀ x ∈ a, x.length ≤ 4611686018427387904) (h2 : ∀ x ∈ a, ∀ y ∈ x, y.length ≤ 4611686018427387904) (hk : 0 ≤ k) (hk2 : k ≤ 1048576) : p_laws_szIntSSS a k = some (left k (cnt3 a)) := by
  unfold p_laws_szIntSSS
  rw [wrap_id (by omega) (by omega)]
  by_cases hc : k - (a.length : Int) < 0
  · rw [if_pos hc]
    have : left k (cnt3 a) < 0 := (left_neg _ _ hk).2 (by unfold cnt3; push_cast; omega)
    unfold left at this ⊢
    split at this
    · omega
    · rename_i h2; rw [if_neg h2]
  · rw [if_neg hc, sizeLoop (a := a) (p_laws_szIntSSS_L0 a) cnt2 (fun k i q1 g1 g2 => by
      rw [p_laws_szIntSSS_L0]
      simp [lt_int q1, List.getElem?_eq_getElem q1, wsucc q1 h, szIntSS_ok (h1 _ (List.getElem_mem q1)) (h2 _ (List.getElem_mem q1)) g1 g2]) (fun k => by rw [p_laws_szIntSSS_L0]; simp) _ (by omega) (by omega)]
    have h5 : left (k - a.length) (cntL cnt2 a) = left k (cnt3 a) := by
      unfold left cnt3
      push_cast
      split <;> split <;> omega
    rw [h5]
    by_cases hn : left k (cnt3 a) < 0
    · simp only [hn, if_true, Option.bind_eq_bind, Option.bind_some]
      unfold left at hn ⊢
      split at hn
      · omega
      · rename_i h2; rw [if_neg h2]
    · simp [hn]
theorem cntL_le {α : Type} {cnt : α → Nat} : ∀ {l : List α} {x : α}, x ∈ l → cnt x ≤ cntL cnt l := by
  intro l
  induction l with
  | nil => intro x h; simp at h
  | cons y l ih =>
    intro x h
    rw [cntL_cons]
    rcases List.mem_cons.1 h with rfl | h
    · omega
    · have := ih h; omega
theorem szGram_ok {a : List (List (List Int))} (h : a.length ≤ 4611686018427387904) (h1 : ∀ x ∈ a, x.length ≤ 4611686018427387904) (h2 : ∀ x ∈ a, ∀ y ∈ x, y.length ≤ 4611686018427387904) : ∃ r, p_laws_szGram a 1048576 = some r ∧ (r < 0 ∨ (0 ≤ r ∧ gOk a)) := by
  unfold p_laws_szGram
  rw [szIntSSS_ok h h1 h2 (by omega) (by omega)]
  simp only [Option.bind_eq_bind, Option.bind_some]
  by_cases hn : left 1048576 (cnt3 a) < 0
  · exact ⟨-1, by simp [hn], .inl (by omega)⟩
  · refine ⟨left 1048576 (cnt3 a), by simp [hn], .inr ⟨by omega, ?_⟩⟩
    have h3 : ((cnt3 a : Nat) : Int) ≤ 1048576 := by have := mt (left_neg 1048576 (cnt3 a) (by omega)).2 hn; omega
    have e3 : cnt3 a = a.length + cntL cnt2 a := rfl
    refine ⟨by omega, fun x hx => ?_⟩
    have e4 := cntL_le (cnt := cnt2) hx
    have e5 : cnt2 x = x.length + cntL List.length x := rfl
    refine ⟨by omega, fun y hy => ?_⟩
    have e6 := cntL_le (cnt := List.length) hy
    omega

/-! Marked. -/
end Go.Proofs.Ytanglbgincgmaaa.Vm
