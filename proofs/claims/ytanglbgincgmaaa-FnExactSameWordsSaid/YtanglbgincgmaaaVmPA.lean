/-
  Plain laws: loops over lists, as gen.py writes them.
-/
import Derived.Test.YtanglbgincgmaaaVmSimG
namespace Go.Proofs.Ytanglbgincgmaaa.Vm
open Go Go.RowKit Go.Proofs
set_option linter.unusedVariables false

theorem wsucc {i n : Nat} (h : i < n) (hn : n ≤ 4611686018427387904) : IntKind.wrap .i64 ((i : Int) + 1) = ((i + 1 : Nat) : Int) := by
  rw [wrap_id (by omega) (by omega)]; simp
theorem lt_int {i n : Nat} (h : i < n) : (i : Int) < (n : Int) := by omega
theorem not_lt_int (n : Nat) : ¬ ((n : Int) < (n : Int)) := by omega
theorem nonneg_int (i : Nat) : (0 : Int) ≤ (i : Int) := by omega

/-- A loop that goes through a list, whatever it keeps. -/
theorem foldLoop {α σ ρ : Type} {a : List α} (L : Int → σ → Option ρ) (f : σ → α → σ) (fin : σ → ρ) (inv : Nat → σ → Prop)
    (hs : ∀ i (h : i < a.length) s, inv i s → L (i : Int) s = L ((i + 1 : Nat) : Int) (f s a[i]) ∧ inv (i + 1) (f s a[i])) (he : ∀ s, inv a.length s → L (a.length : Int) s = some (fin s)) (s0 : σ) (h0 : inv 0 s0) : L 0 s0 = some (fin (a.foldl f s0)) := by
  have key : ∀ d i s, i + d = a.length → inv i s → L (i : Int) s = some (fin ((a.drop i).foldl f s)) := by
    intro d
    induction d with
    | zero =>
      intro i s hi h
      obtain rfl : i = a.length := by omega
      rw [he s h]
      simp
    | succ d ih =>
      intro i s hi h
      have hlt : i < a.length := by omega
      obtain ⟨h1, h2⟩ := hs i hlt s h
      rw [h1, ih (i + 1) _ (by omega) h2, List.drop_eq_getElem_cons hlt]
      simp only [List.foldl_cons]
  have := key a.length 0 s0 (by omega) h0
  simpa using this
/-- A loop that asks of each element, and is left at the first that is not as wanted. -/
theorem allLoop {α R : Type} {a : List α} (L : Int → Option (R ⊕ Unit)) (no : R) (p : α → Bool) (hs : ∀ i (h : i < a.length), L (i : Int) = if p a[i] = true then L ((i + 1 : Nat) : Int) else some (.inl no)) (he : L (a.length : Int) = some (.inr ())) : L 0 = some (if a.all p = true then .inr () else .inl no) := by
  have key : ∀ d i, i + d = a.length → L (i : Int) = some (if (a.drop i).all p = true then .inr () else .inl no) := by
    intro d
    induction d with
    | zero =>
      intro i hi
      obtain rfl : i = a.length := by omega
      rw [he]
      simp
    | succ d ih =>
      intro i hi
      have hlt : i < a.length := by omega
      rw [hs i hlt, List.drop_eq_getElem_cons hlt, List.all_cons]
      cases hp : p a[i] with
      | true => simpa using ih (i + 1) (by omega)
      | false => simp
  have := key a.length 0 (by omega)
  simpa using this
/-- Two lists, element by element. -/
theorem eqLoop {α R : Type} [DecidableEq α] {a b : List α} (hl : a.length = b.length) (L : Int → Option (R ⊕ Unit)) (no : R) (hs : ∀ i (h : i < a.length) (h2 : i < b.length), L (i : Int) = if a[i] = b[i] then L ((i + 1 : Nat) : Int) else some (.inl no)) (he : L (a.length : Int) = some (.inr ())) : L 0 = some (if a = b then .inr () else .inl no) := by
  have key : ∀ d i, i + d = a.length → L (i : Int) = some (if a.drop i = b.drop i then .inr () else .inl no) := by
    intro d
    induction d with
    | zero =>
      intro i hi
      obtain rfl : i = a.length := by omega
      rw [he]
      simp [hl]
    | succ d ih =>
      intro i hi
      have hlt : i < a.length := by omega
      have hlt2 : i < b.length := by omega
      rw [hs i hlt hlt2, List.drop_eq_getElem_cons hlt, List.drop_eq_getElem_cons hlt2]
      by_cases hp : a[i] = b[i]
      · simp only [hp, if_true, List.cons.injEq, true_and]
        exact ih (i + 1) (by omega)
      · rw [if_neg hp, if_neg (fun h => hp (List.cons.inj h).1)]
  have := key a.length 0 (by omega)
  simpa using this
/-- One that looks for the first element. -/
theorem findLoop {α R : Type} {a : List α} (L : Int → Option (R ⊕ Unit)) (p : α → Bool) (r : Nat → R) (hs : ∀ i (h : i < a.length), L (i : Int) = if p a[i] = true then some (.inl (r i)) else L ((i + 1 : Nat) : Int)) (he : L (a.length : Int) = some (.inr ())) : L 0 = some (if a.findIdx p < a.length then .inl (r (a.findIdx p)) else .inr ()) := by
  have key : ∀ d i, i + d = a.length → L (i : Int) = some (if i + (a.drop i).findIdx p < a.length then .inl (r (i + (a.drop i).findIdx p)) else .inr ()) := by
    intro d
    induction d with
    | zero =>
      intro i hi
      obtain rfl : i = a.length := by omega
      rw [he]
      simp
    | succ d ih =>
      intro i hi
      have hlt : i < a.length := by omega
      rw [hs i hlt, List.drop_eq_getElem_cons hlt, List.findIdx_cons]
      cases hp : p a[i] with
      | true => simp [hlt]
      | false =>
        simp only [Bool.false_eq_true, if_false, cond_false]
        rw [ih (i + 1) (by omega)]
        have : i + 1 + (a.drop (i + 1)).findIdx p = i + ((a.drop (i + 1)).findIdx p + 1) := by omega
        rw [this]
  have := key a.length 0 (by omega)
  simpa using this

/-! Marks. -/
/-- p writes marks from k on, cnt of them, and h finds them. -/
def MarkOk {α : Type} (p : α → Int → Option (Int × α)) (h : α → Int → Option Int) (cnt : α → Nat) (x : α) : Prop := ∀ k : Int, 1 ≤ k → k + cnt x ≤ 4611686018427387904 → ∃ x', p x k = some (k + cnt x, x') ∧ h x' k = some (k + cnt x)
def cntL {α : Type} (cnt : α → Nat) (l : List α) : Nat := (l.map cnt).sum
theorem cntL_cons {α : Type} (cnt : α → Nat) (x : α) (l : List α) : cntL cnt (x :: l) = cnt x + cntL cnt l := by simp [cntL]
theorem markLoop {α : Type} {p : α → Int → Option (Int × α)} {h : α → Int → Option Int} {cnt : α → Nat} {l : List α} (Lm : Int → Int → List α → Option (Int × List α)) (Lh : List α → Int → Int → Option (Int ⊕ Int))
    (ms : ∀ (k : Int) (i : Nat) (m : List α) (hi : i < m.length) (q : Int × α), m.length = l.length → p m[i] k = some q → Lm k i m = Lm q.1 ((i + 1 : Nat) : Int) (m.set i q.2)) (me : ∀ k m, Lm k (m.length : Int) m = some (k, m))
    (hs : ∀ (m : List α) (k : Int) (i : Nat) (hi : i < m.length) (q : Int), m.length = l.length → 0 ≤ q → h m[i] k = some q → Lh m k i = Lh m q ((i + 1 : Nat) : Int)) (he : ∀ (m : List α) k, Lh m k (m.length : Int) = some (.inr k))
    (hx : ∀ x ∈ l, MarkOk p h cnt x) (k : Int) (hk : 1 ≤ k) (hm : k + cntL cnt l ≤ 4611686018427387904) : ∃ l', l'.length = l.length ∧ Lm k 0 l = some (k + cntL cnt l, l') ∧ Lh l' k 0 = some (.inr (k + cntL cnt l)) := by
  have key : ∀ (suf pre : List α) (k : Int), (pre ++ suf).length = l.length → (∀ x ∈ suf, MarkOk p h cnt x) → 1 ≤ k → k + cntL cnt suf ≤ 4611686018427387904 →
      ∃ suf' : List α, suf'.length = suf.length ∧ Lm k (pre.length : Int) (pre ++ suf) = some (k + cntL cnt suf, pre ++ suf') ∧ ∀ pre' : List α, pre'.length = pre.length → Lh (pre' ++ suf') k (pre'.length : Int) = some (.inr (k + cntL cnt suf)) := by
    intro suf
    induction suf with
    | nil =>
      intro pre k _ _ _ _
      refine ⟨[], rfl, ?_, fun pre' _ => ?_⟩
      · have := me k (pre ++ [])
        simpa [cntL] using this
      · have := he (pre' ++ []) k
        simpa [cntL] using this
    | cons x suf ih =>
      intro pre k hlen hx hk hm
      rw [cntL_cons] at hm
      obtain ⟨x', h1, h2⟩ := hx x List.mem_cons_self k hk (by omega)
      obtain ⟨suf', g1, g2, g3⟩ := ih (pre ++ [x']) (k + cnt x) (by simpa using hlen) (fun y hy => hx y (List.mem_cons_of_mem _ hy)) (by omega) (by push_cast at hm ⊢; omega)
      refine ⟨x' :: suf', by simp [g1], ?_, fun pre' hp => ?_⟩
      · rw [ms k pre.length (pre ++ x :: suf) (by simp) (k + cnt x, x') hlen (by simpa using h1)]
        have e1 : (pre ++ x :: suf).set pre.length x' = (pre ++ [x']) ++ suf := by simp
        have e2 : ((pre.length + 1 : Nat) : Int) = ((pre ++ [x']).length : Int) := by simp
        simp only
        rw [e1, e2, g2]
        rw [cntL_cons]
        simp only [List.append_assoc, List.cons_append, List.nil_append, Option.some.injEq, Prod.mk.injEq, and_true]
        push_cast
        omega
      · rw [hs (pre' ++ x' :: suf') k pre'.length (by simp) (k + cnt x) (by simp [hp, g1] at hlen ⊢; omega) (by omega) (by simpa using h2)]
        have := g3 (pre' ++ [x']) (by simp [hp])
        have e2 : ((pre'.length + 1 : Nat) : Int) = ((pre' ++ [x']).length : Int) := by simp
        rw [e2]
        simp only [List.append_assoc, List.cons_append, List.nil_append] at this
        rw [this, cntL_cons]
        simp only [Option.some.injEq, Sum.inr.injEq]
        push_cast
        omega
  obtain ⟨l', h1, h2, h3⟩ := key l [] k rfl hx hk hm
  exact ⟨l', h1, by simpa using h2, by simpa using h3 [] rfl⟩
end Go.Proofs.Ytanglbgincgmaaa.Vm
