/-
  Plain laws: marks that are only written.
-/
import Derived.Test.YtanglbgincgmaaaVmPD
import Derived.Test.YtanglbgincgmaaaVmG2
namespace Go.Proofs.Ytanglbgincgmaaa.Vm
open Go Go.RowKit Go.Proofs
set_option linter.unusedVariables false
/-- p writes marks from k on, cnt of them. -/
def MarkW {α : Type} (p : α → Int → Option (Int × α)) (cnt : α → Nat) (x : α) : Prop := ∀ k : Int, 1 ≤ k → k + cnt x ≤ 4611686018427387904 → ∃ x', p x k = some (k + cnt x, x')
theorem markWLoop {α : Type} {p : α → Int → Option (Int × α)} {cnt : α → Nat} {l : List α} (Lm : Int → Int → List α → Option (Int × List α))
    (ms : ∀ (k : Int) (i : Nat) (m : List α) (hi : i < m.length) (q : Int × α), m.length = l.length → p m[i] k = some q → Lm k i m = Lm q.1 ((i + 1 : Nat) : Int) (m.set i q.2)) (me : ∀ k m, Lm k (m.length : Int) m = some (k, m))
    (hx : ∀ x ∈ l, MarkW p cnt x) (k : Int) (hk : 1 ≤ k) (hm : k + cntL cnt l ≤ 4611686018427387904) : ∃ l', Lm k 0 l = some (k + cntL cnt l, l') := by
  have key : ∀ (suf pre : List α) (k : Int), (pre ++ suf).length = l.length → (∀ x ∈ suf, MarkW p cnt x) → 1 ≤ k → k + cntL cnt suf ≤ 4611686018427387904 →
      ∃ l' : List α, Lm k (pre.length : Int) (pre ++ suf) = some (k + cntL cnt suf, l') := by
    intro suf
    induction suf with
    | nil =>
      intro pre k _ _ _ _
      have := me k (pre ++ [])
      exact ⟨pre ++ [], by simpa [cntL] using this⟩
    | cons x suf ih =>
      intro pre k hlen hx hk hm
      rw [cntL_cons] at hm
      obtain ⟨x', h1⟩ := hx x List.mem_cons_self k hk (by omega)
      obtain ⟨l', g2⟩ := ih (pre ++ [x']) (k + cnt x) (by simpa using hlen) (fun y hy => hx y (List.mem_cons_of_mem _ hy)) (by omega) (by push_cast at hm ⊢; omega)
      refine ⟨l', ?_⟩
      rw [ms k pre.length (pre ++ x :: suf) (by simp) (k + cnt x, x') hlen (by simpa using h1)]
      have e1 : (pre ++ x :: suf).set pre.length x' = (pre ++ [x']) ++ suf := by simp
      have e2 : ((pre.length + 1 : Nat) : Int) = ((pre ++ [x']).length : Int) := by simp
      simp only
      rw [e1, e2, g2, cntL_cons]
      simp only [Option.some.injEq, Prod.mk.injEq, and_true]
      push_cast
      omega
  obtain ⟨l', h⟩ := key l [] k rfl hx hk hm
  exact ⟨l', by simpa using h⟩
theorem cnt1 (l : List Int) : cntL (fun _ : Int => 1) l = l.length := by
  unfold cntL
  induction l with
  | nil => rfl
  | cons x l ih => simp [ih]; omega
theorem markIntS_w (l : List Int) (h : l.length ≤ 1048576) : MarkW p_laws_markIntS List.length l := by
  intro k hk hm
  obtain ⟨l', h1⟩ := markWLoop (p := fun _ k => some (IntKind.wrap .i64 (k + 1), k)) (cnt := fun _ => 1) (l := l) p_laws_markIntS_L0
    (fun k i m hi q hl hq => by
      rw [p_laws_markIntS_L0]
      simp only [Option.some.injEq] at hq
      subst hq
      simp [lt_int hi, List.getElem?_eq_getElem hi, wsucc hi (by omega)])
    (fun k m => by rw [p_laws_markIntS_L0]; simp)
    (fun x _ k hk hm => ⟨k, by simp [wrap_id (n := k + 1) (by omega) (by omega)]⟩) k hk (by rw [cnt1]; exact hm)
  rw [cnt1] at h1
  exact ⟨l', by unfold p_laws_markIntS; simp [h1]⟩
theorem markIntSS_w (l : List (List Int)) (h : l.length ≤ 1048576) (h1 : ∀ x ∈ l, x.length ≤ 1048576) : MarkW p_laws_markIntSS (cntL List.length) l := by
  intro k hk hm
  obtain ⟨l', g2⟩ := markWLoop (p := p_laws_markIntS) (cnt := List.length) (l := l) p_laws_markIntSS_L0
    (fun k i m hi q hl hq => by rw [p_laws_markIntSS_L0]; simp [lt_int hi, List.getElem?_eq_getElem hi, wsucc hi (by omega), hq])
    (fun k m => by rw [p_laws_markIntSS_L0]; simp)
    (fun x hx => markIntS_w x (h1 x hx)) k hk hm
  exact ⟨l', by unfold p_laws_markIntSS; simp [g2]⟩
theorem markIntSSS_w (l : List (List (List Int))) (h : gOk l) : MarkW p_laws_markIntSSS (cntL (cntL List.length)) l := by
  intro k hk hm
  have h0 := h.1
  obtain ⟨l', g2⟩ := markWLoop (p := p_laws_markIntSS) (cnt := cntL List.length) (l := l) p_laws_markIntSSS_L0
    (fun k i m hi q hl hq => by rw [p_laws_markIntSSS_L0]; simp [lt_int hi, List.getElem?_eq_getElem hi, wsucc hi (by omega), hq])
    (fun k m => by rw [p_laws_markIntSSS_L0]; simp)
    (fun x hx => markIntSS_w x (h.2 x hx).1 (h.2 x hx).2) k hk hm
  exact ⟨l', by unfold p_laws_markIntSSS; simp [g2]⟩
theorem cntL_max' {α : Type} {cnt : α → Nat} {M : Nat} : ∀ {l : List α}, (∀ x ∈ l, cnt x ≤ M) → cntL cnt l ≤ l.length * M := by
  intro l
  induction l with
  | nil => intro _; simp [cntL]
  | cons x l ih =>
    intro h
    rw [cntL_cons, List.length_cons, Nat.succ_mul]
    have h1 := h x List.mem_cons_self
    have h2 := ih (fun y hy => h y (List.mem_cons_of_mem _ hy))
    omega
theorem gOk_cnt' {g : List (List (List Int))} (h : gOk g) : cntL (cntL List.length) g ≤ 1152921504606846976 := by
  have h1 : ∀ x ∈ g, cntL List.length x ≤ 1048576 * 1048576 := fun x hx => Nat.le_trans (cntL_max' (h.2 x hx).2) (Nat.mul_le_mul_right _ (h.2 x hx).1)
  exact Nat.le_trans (cntL_max' h1) (Nat.mul_le_mul_right _ h.1)
/-- Marks are written into a grammar. -/
theorem markedG {g : List (List (List Int))} (h : gOk g) : ∃ (n : Int) (g' : List (List (List Int))), 0 ≤ n ∧ p_laws_markIntSSS g 1 = some (n, g') := by
  have hc := gOk_cnt' h
  obtain ⟨g', h1⟩ := markIntSSS_w g h 1 (by omega) (by omega)
  exact ⟨_, g', by omega, h1⟩
/-- Marks in a row of numbers are found again. -/
theorem markIntS_h (l : List Int) (h : l.length ≤ 1048576) : MarkOk p_laws_markIntS p_laws_heldIntS List.length l := by
  intro k hk hm
  obtain ⟨l', h1, h2, h3⟩ := markLoop (p := fun _ k => some (IntKind.wrap .i64 (k + 1), k)) (h := fun y k => if y = k then some (IntKind.wrap .i64 (k + 1)) else none) (cnt := fun _ => 1) (l := l) p_laws_markIntS_L0 p_laws_heldIntS_L0
    (fun k i m hi q hl hq => by
      rw [p_laws_markIntS_L0]
      simp only [Option.some.injEq] at hq
      subst hq
      simp [lt_int hi, List.getElem?_eq_getElem hi, wsucc hi (by omega)])
    (fun k m => by rw [p_laws_markIntS_L0]; simp)
    (fun m k i hi q hl h0 hq => by
      rw [p_laws_heldIntS_L0]
      split at hq
      · rename_i he
        simp only [Option.some.injEq] at hq
        subst hq
        simp [lt_int hi, List.getElem?_eq_getElem hi, wsucc hi (by omega), he]
      · cases hq)
    (fun m k => by rw [p_laws_heldIntS_L0]; simp)
    (fun x _ k hk hm => ⟨k, by simp [wrap_id (n := k + 1) (by omega) (by omega)], by simp [wrap_id (n := k + 1) (by omega) (by omega)]⟩) k hk (by rw [cnt1]; exact hm)
  rw [cnt1] at h2 h3
  exact ⟨l', by unfold p_laws_markIntS; simp [h2], by unfold p_laws_heldIntS; simp [h3]⟩
end Go.Proofs.Ytanglbgincgmaaa.Vm
