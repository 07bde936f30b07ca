/-
  Slices of numbers in the laws: copied, measured, compared.
-/
import Derived.Test.YtjdhdpbdaabdmaaDoorVmSim
namespace Go.Proofs.YtjdhdpbdaabdmaaDoor.Vm
open Go Go.RowKit Go.Proofs
set_option linter.unusedVariables false
set_option linter.unusedSimpArgs false
set_option maxHeartbeats 4000000
noncomputable def L64 : Code := nav [1,1,0,1,0,0] (bodyOf Tryd.f32)
def T64 (l : List Int) (ep i : Nat) : St := ⟨[(0, .one (.sl false 3 (ints l))), (3, .one (.ow 1 1)), (4, .one (.lit (.int .i64 i)))], [none, some (.rows 1 1 3 (upTo [.lit (.int .i64 0)] (ints l) i))], ep⟩
def lm64 : Nat → List Nat × Nat := fun _ => ([0, 3, 4], 1)
theorem step64 (cal : Cal) (k ep : Nat) (l : List Int) (i : Nat) (hi : i < l.length) (hl : l.length ≤ 9223372036854775807) :
    kept 1 (lm64 0) (exec Tryd.prog cal k 1 lm64 0 L64 (T64 l ep i)) = some (.norm, T64 l ep (i + 1)) := by
  have hx : l[i]? = some l[i] := List.getElem?_eq_getElem hi
  have hi' : (i : Int) < l.length := by omega
  have hi2 : i < (ints l).length := by rw [ints_len]; exact hi
  have hlen : (upTo [V.lit (.int .i64 0)] (ints l) i).length = l.length := by rw [upTo_len (by omega), ints_len]
  simp (implicitDefEqProofs := false) [-getElem?_pos, -getElem?_neg, L64, bodyOf, Tryd.f32, nav, T64, lm64, ints_get hx, upTo_get hi2, hlen, hi', wrap_succ hi hl, upTo_set (ints_get hx), hi]
theorem end64 (cal : Cal) (k ep : Nat) (l : List Int) :
    kept 1 (lm64 0) (exec Tryd.prog cal k 1 lm64 0 L64 (T64 l ep l.length)) = some (.exit 0, T64 l ep l.length) := by
  simp (implicitDefEqProofs := false) [-getElem?_pos, -getElem?_neg, L64, bodyOf, Tryd.f32, nav, T64, lm64]
theorem upAll {z : List V} {r : List (List V)} {n : Nat} (h : r.length = n) : upTo z r n = r := by subst h; exact upTo_all z r
theorem upZero {z : List V} {r : List (List V)} {n : Nat} (h : r.length = n) : upTo z r 0 = List.replicate n z := by subst h; exact upTo_zero z r
noncomputable def F64 : Con := con (fun l : List Int => [.one (.sl false 3 (ints l))]) (fun l => l.length * 8 ≤ 140737488355328) (fun l => ((false, [none]), [.sl true 3 (ints l)]))
theorem fn64 : Fn Tryd.prog 32 F64 := by
  refine Fn.con [] (by simp) mixed (fn := Tryd.f32) Tryd.func32 rfl rfl (by kernel_rfl) 1 (by decide) (fun _ => rfl) lm64 (fun l hl => ⟨l.length + 1, ?_⟩)
  have hloop : ∀ S, keep 1 (lm64 0) S = T64 l S.ep 0 → exec Tryd.prog (tabCal (tabOf [])) (l.length + 1) 1 lm64 0 (.loop L64) S = some (.exit 0, T64 l S.ep l.length) := fun S hS =>
    loop_to (T64 l S.ep) l.length (by simp) (by omega) hS (fun i hi => step64 _ _ S.ep l i hi (by omega)) (end64 _ _ S.ep l)
  simp only [L64, bodyOf, Tryd.f32, nav, Option.getD_some, tabOf] at hloop
  have h63 : l.length ≤ 9223372036854775807 := by omega
  simp (implicitDefEqProofs := false) [-getElem?_pos, -getElem?_neg, Tryd.f32, hl, h63, hloop, T64, lm64, upZero (ints_len l), upAll (ints_len l)]

theorem call64 {l : List Int} (h : l.length * 8 ≤ 140737488355328) : F64 [.one (.sl false 3 (ints l))] = some ((false, [none]), [.sl true 3 (ints l)]) := con_at (by intro a b h; simpa using h) h
def sz1 (l : List Int) (left : Int) : Int := if left - l.length < 0 then -1 else left - l.length
def szL {α : Type} (f : α → Int → Int) : List α → Int → Int
  | [], left => left
  | x :: r, left => if f x left < 0 then -1 else szL f r (f x left)
def szR {α : Type} (f : α → Int → Int) (l : List α) (left : Int) : Int := if left - l.length < 0 then -1 else szL f l (left - l.length)
def sz2 := szR sz1
def sz3 := szR sz2
theorem sz1_le (l : List Int) (left : Int) (h : 0 ≤ left) : sz1 l left ≤ left := by unfold sz1; split <;> omega
theorem szL_le {α : Type} {f : α → Int → Int} (hf : ∀ x left, 0 ≤ left → f x left ≤ left) : ∀ (l : List α) (left : Int), 0 ≤ left → szL f l left ≤ left := by
  intro l
  induction l with
  | nil => intro left h; simp [szL]
  | cons x l ih =>
    intro left h
    simp only [szL]
    split
    · omega
    · have := hf x left h
      have := ih (f x left) (by omega)
      omega
theorem szR_le {α : Type} {f : α → Int → Int} (hf : ∀ x left, 0 ≤ left → f x left ≤ left) (l : List α) (left : Int) (h : 0 ≤ left) : szR f l left ≤ left := by
  unfold szR
  split
  · omega
  · have := szL_le hf l (left - l.length) (by omega)
    omega
theorem szL_drop {α : Type} {f : α → Int → Int} {l : List α} {i : Nat} (h : i < l.length) (left : Int) : szL f (l.drop i) left = if f l[i] left < 0 then -1 else szL f (l.drop (i + 1)) (f l[i] left) := by
  rw [List.drop_eq_getElem_cons h]
  rfl
abbrev much : Int := 4611686018427387904
noncomputable def F63 : Con := con (fun a : List Int × Int => [.one (.sl false 3 (ints a.1)), .one (.lit (.int .i64 a.2))]) (fun a => 0 ≤ a.2 ∧ a.2 ≤ much ∧ a.1.length ≤ 140737488355328) (fun a => ((false, [none]), [.lit (.int .i64 (sz1 a.1 a.2))]))
theorem fn63 : Fn Tryd.prog 29 F63 := by
  refine Fn.con [] (by simp) mixed (fn := Tryd.f29) Tryd.func29 rfl rfl (by kernel_rfl) 2 (by decide) (fun _ => rfl) (fun _ => ([], 0)) (fun a ha => ⟨1, ?_⟩)
  obtain ⟨l, left⟩ := a
  obtain ⟨h1, h2, h3⟩ := ha
  simp only [much] at h1 h2 h3 ⊢
  have hw : IntKind.i64.wrap (left - l.length) = left - l.length := wrap_id (by omega) (by omega)
  by_cases hc : left - (l.length : Int) < 0
  · simp (implicitDefEqProofs := false) [-getElem?_pos, -getElem?_neg, Tryd.f29, hw, hc, sz1]
  · simp (implicitDefEqProofs := false) [-getElem?_pos, -getElem?_neg, Tryd.f29, hw, hc, sz1]
theorem call63 {l : List Int} {left : Int} (h1 : 0 ≤ left) (h2 : left ≤ much) (h3 : l.length ≤ 140737488355328) : F63 [.one (.sl false 3 (ints l)), .one (.lit (.int .i64 left))] = some ((false, [none]), [.lit (.int .i64 (sz1 l left))]) :=
  con_at (arg := fun a : List Int × Int => [.one (.sl false 3 (ints a.1)), .one (.lit (.int .i64 a.2))]) (a := (l, left)) (by rintro ⟨a, b⟩ ⟨c, d⟩ h; simpa using h) ⟨h1, h2, h3⟩

theorem drop_eq {α : Type} {a b : List α} {i : Nat} (h1 : i < a.length) (h2 : i < b.length) : a.drop i = b.drop i ↔ a[i] = b[i] ∧ a.drop (i + 1) = b.drop (i + 1) := by
  rw [List.drop_eq_getElem_cons h1, List.drop_eq_getElem_cons h2, List.cons.injEq]

abbrev ok29 (l : List Int) : Prop := l.length ≤ 140737488355328
abbrev ok56 (l : List (List Int)) : Prop := l.length ≤ 140737488355328 ∧ ∀ r ∈ l, ok29 r
abbrev ok41 (l : List (List (List Int))) : Prop := l.length ≤ 140737488355328 ∧ ∀ r ∈ l, ok56 r

noncomputable def L29 : Code := nav [1,1,0,1,0,0] (bodyOf Tryd.f35)
def lm29 : Nat → List Nat × Nat := fun _ => ([0, 1, 4, 5], 0)
def T29 (a b : List (Int)) (i : Nat) : St := ⟨[(0, .one (.sl false 3 (ints a))), (1, .one (.sl false 3 (ints b))), (4, .one (.lit (.bool false))), (5, .one (.lit (.int .i64 i)))], [none], 1⟩
def Q29 (a b : List (Int)) (i : Nat) (x : X) (S' : St) : Prop := if a.drop i = b.drop i then x = .exit 0 else x = .ret ∧ look S'.tm 4 = some (.one (.lit (.bool false)))
noncomputable def F29 : Con := con (fun p : List (Int) × List (Int) => [.one (.sl false 3 (ints p.1)), .one (.sl false 3 (ints p.2))]) (fun p => ok29 p.1) (fun p => ((false, [none]), [.lit (.bool (decide (p.1 = p.2)))]))
theorem dr29 : drawn (opsOf (nav [1,0,0,0] L29)) = some ([0, 1, 2, 3, 4, 5, 6, 7, 8], []) := by kernel_rfl
theorem step29 {a b : List (Int)} {i k : Nat} (hi : i < a.length) (hj : i < b.length) (hl : a.length ≤ 140737488355328) :
    kept 1 (lm29 0) (exec Tryd.prog (tabCal (tabOf [])) k 1 lm29 0 L29 (T29 a b i)) = if a[i] = b[i] then some (.norm, T29 a b (i + 1)) else some (.ret, ⟨[(0, .one (.sl false 3 (ints a))), (1, .one (.sl false 3 (ints b))), (4, .one (.lit (.bool false))), (5, .one (.lit (.int .i64 i)))], [none], 1⟩) := by
  have hx : a[i]? = some a[i] := List.getElem?_eq_getElem hi
  have hy : b[i]? = some b[i] := List.getElem?_eq_getElem hj
  have hi' : (i : Int) < a.length := by omega
  have hw := wrap_succ hi (by omega)
  have hd := dr29
  simp only [L29, bodyOf, Tryd.f35, nav, opsOf, Option.getD_some] at hd
  split
  · rename_i hc
    have hc1 : (a[i] != b[i]) = false := by simp [hc]
    simp (implicitDefEqProofs := false) [-getElem?_pos, -getElem?_neg, L29, bodyOf, Tryd.f35, nav, T29, lm29, ex_draw2 _ _ hd, ints_get hx, ints_get hy, hi', hi, hw, hc1]
  · rename_i hc
    have hc1 : (a[i] != b[i]) = true := by simp [hc]
    simp (implicitDefEqProofs := false) [-getElem?_pos, -getElem?_neg, L29, bodyOf, Tryd.f35, nav, T29, lm29, ex_draw2 _ _ hd, ints_get hx, ints_get hy, hi', hi, hw, hc1]
theorem end29 {a b : List (Int)} {k : Nat} {cal : Cal} :
    kept 1 (lm29 0) (exec Tryd.prog cal k 1 lm29 0 L29 (T29 a b a.length)) = some (.exit 0, T29 a b a.length) := by
  simp (implicitDefEqProofs := false) [-getElem?_pos, -getElem?_neg, L29, bodyOf, Tryd.f35, nav, T29, lm29]
theorem fn29 : Fn Tryd.prog 35 F29 := by
  refine Fn.con [] (by simp) mixed (fn := Tryd.f35) Tryd.func35 rfl rfl (by kernel_rfl) 2 (by decide) (fun _ => rfl) lm29 (fun p hp => ⟨p.1.length + 1, ?_⟩)
  obtain ⟨a, b⟩ := p
  have hl : a.length ≤ 140737488355328 := hp
  simp only
  by_cases hab : a.length = b.length
  · obtain ⟨x, S', hloop, hQ⟩ := loop_run (P := Tryd.prog) (cal := tabCal (tabOf [])) (k := a.length + 1) (n0 := 1) (b := 0) (lm := lm29) (c := L29) (T29 a b) (fun i => i ≤ a.length) (fun i => a.length - i) (Q29 a b) (fun i q1 => by
        rcases Nat.lt_or_ge i a.length with hi | hi
        · have hj : i < b.length := by omega
          have hst := step29 (k := a.length + 1) hi hj hl
          by_cases hf : a[i] = b[i]
          · rw [if_pos hf] at hst
            refine .inl ⟨_, hst, hi, by omega, fun x S' hq => ?_⟩
            unfold Q29 at hq ⊢
            simpa only [drop_eq hi hj, hf, true_and] using hq
          · rw [if_neg hf] at hst
            refine .inr ⟨_, _, hst, by simp, ?_⟩
            unfold Q29
            simp [drop_eq hi hj, hf, look]
        · obtain rfl : i = a.length := by omega
          refine .inr ⟨_, _, end29, by simp, ?_⟩
          unfold Q29
          have : a.drop a.length = b.drop a.length := by simp [hab]
          rw [if_pos this]) (s := 0) (Nat.zero_le _) (by omega)
    have hab2 : ((a.length : Int) != b.length) = false := by simp [hab]
    replace hloop := hloop (T29 a b 0) (by simp [keep, lm29, T29, look])
    change loopAt _ _ _ _ _ _ _ _ = _ at hloop
    simp [L29, bodyOf, Tryd.f35, nav, T29] at hloop
    unfold Q29 at hQ
    simp only [List.drop_zero] at hQ
    split at hQ
    · rename_i he
      subst hQ
      subst he
      simp (implicitDefEqProofs := false) [-getElem?_pos, -getElem?_neg, Tryd.f35, ex_loop, hloop, lm29]
    · rename_i he
      obtain ⟨rfl, hlook⟩ := hQ
      simp (implicitDefEqProofs := false) [-getElem?_pos, -getElem?_neg, Tryd.f35, ex_loop, hloop, lm29, hlook, hab2, he]
  · have hne : ¬ a = b := fun h => hab (by rw [h])
    have hab' : ¬ (a.length : Int) = b.length := by omega
    simp (implicitDefEqProofs := false) [-getElem?_pos, -getElem?_neg, Tryd.f35, hab', hab, hne]
theorem call29 {a b : List (Int)} (h : ok29 a) : F29 [.one (.sl false 3 (ints a)), .one (.sl false 3 (ints b))] = some ((false, [none]), [.lit (.bool (decide (a = b)))]) :=
  con_at (arg := fun p : List (Int) × List (Int) => [.one (.sl false 3 (ints p.1)), .one (.sl false 3 (ints p.2))]) (a := (a, b)) (by rintro ⟨a, b⟩ ⟨c, d⟩ h; simpa using h) h

end Go.Proofs.YtjdhdpbdaabdmaaDoor.Vm
