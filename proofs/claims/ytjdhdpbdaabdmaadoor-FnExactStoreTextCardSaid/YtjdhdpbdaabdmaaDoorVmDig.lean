/-
  A number's text: spec.Digits.
-/
import Derived.Test.YtjdhdpbdaabdmaaDoorVmItoa
import Derived.Test.YtjdhdpbdaabdmaaDoorVmNum
namespace Go.Proofs.YtjdhdpbdaabdmaaDoor.Vm
open Go Go.RowKit Go.Proofs
set_option linter.unusedVariables false
set_option linter.unusedSimpArgs false
set_option maxHeartbeats 4000000
def digs (m : Int) (o : List UInt8) : List UInt8 := (if m = 0 then [] else Lib.decDigits m.natAbs) ++ o
theorem digs_step {m : Int} (h : m ≠ 0) (o : List UInt8) : digs m o = digs (m.tdiv 10) (UInt8.ofNat (48 + m.natAbs % 10) :: o) := by
  unfold digs
  rw [if_neg h]
  have e : (m.tdiv 10).natAbs = m.natAbs / 10 := by rw [Int.natAbs_tdiv]; rfl
  by_cases h2 : m.tdiv 10 = 0
  · have h3 : m.natAbs / 10 = 0 := by rw [← e, h2]; rfl
    have h4 : m.natAbs < 10 := by omega
    rw [if_pos h2, Lib.decDigits_one h4, Nat.mod_eq_of_lt h4]
    rfl
  · have h3 : ¬ m.natAbs < 10 := by
      intro h4
      apply h2
      have : m.natAbs / 10 = 0 := by omega
      rw [← e] at this
      omega
    rw [if_neg h2, Lib.decDigits, dif_neg h3, e]
    simp
noncomputable def LDig : Code := nav [1,1,1,1,0,0,0] (bodyOf Tryd.f22)
def lmDig : Nat → List Nat × Nat := fun _ => ([0, 3, 4], 0)
def TDig (b : Bool) (s : Int × List UInt8 × Nat) : St := ⟨[(0, .one (.lit (.int .i64 s.1))), (3, .one (.lit (.bool b))), (4, .one (.lit (.string (bs s.2.1))))], [none], s.2.2⟩
theorem stepDig {b : Bool} {m : Int} {o : List UInt8} {ep k : Nat} {cal : Cal} (hm : i64 m) (h0 : m ≠ 0) (ho : o.length ≤ 100) :
    kept 1 (lmDig 0) (exec Tryd.prog cal k 1 lmDig 0 LDig (TDig b (m, o, ep))) = some (.norm, TDig b (m.tdiv 10, UInt8.ofNat (48 + m.natAbs % 10) :: o, ep + 1)) := by
  have hne : (m != 0) = true := by simp [h0]
  have ha : (m.tmod 10).natAbs = m.natAbs % 10 := by rw [Int.natAbs_tmod]; rfl
  have hq : IntKind.i64.wrap (m.tdiv 10) = m.tdiv 10 := by
    have : (m.tdiv 10).natAbs = m.natAbs / 10 := by rw [Int.natAbs_tdiv]; rfl
    exact wrap_id (by have := hm.1; have := hm.2; omega) (by have := hm.1; have := hm.2; omega)
  have hd10 : m.natAbs % 10 < 10 := by omega
  generalize m.natAbs % 10 = d at *
  have hu : IntKind.u8.wrap (48 + (d : Int)) = 48 + (d : Int) := wrap_u8 (by omega) (by omega)
  have hs : (48 + (d : Int)).toNat = 48 + d := by omega
  have hw1 : IntKind.i64.wrap (48 + (d : Int)) = 48 + (d : Int) := wrap_id (by omega) (by omega)
  have hcat : ∀ P T x y, binV P .add T x y (.string (strOfNums [48 + (d : Int)])) (.string (bs o)) = some (.string (bs (UInt8.ofNat (48 + d) :: o))) := fun P T x y => by
    rw [b_cat _ _ _ _ _ _ (by rw [strOfNums_size, bs_size]; simp; omega)]
    have : strOfNums [48 + (d : Int)] = bs [UInt8.ofNat (48 + d)] := by simp only [strOfNums, List.map_cons, List.map_nil, hs, bs]
    rw [this, bs_cat]
    rfl
  have c1 := c_int Tryd.prog .i64 (48 + (d : Int)) (src := 3) (dst := 5) Tryd.underlying3 Tryd.underlying5
  rw [hu] at c1
  by_cases hn : m.tmod 10 < 0
  · have e1 : m.tmod 10 = -(d : Int) := by omega
    have e2 : IntKind.i64.wrap (-m.tmod 10) = (d : Int) := by rw [e1, wrap_id (by omega) (by omega)]; omega
    simp (implicitDefEqProofs := false) [-getElem?_pos, -getElem?_neg, LDig, bodyOf, Tryd.f22, nav, TDig, lmDig, hne, hn, e2, hw1, c1, hcat, hq]
  · have e1 : m.tmod 10 = (d : Int) := by omega
    rw [e1] at hn
    simp (implicitDefEqProofs := false) [-getElem?_pos, -getElem?_neg, LDig, bodyOf, Tryd.f22, nav, TDig, lmDig, hne, e1, hn, hw1, c1, hcat, hq]
theorem endDig {b : Bool} {o : List UInt8} {ep k : Nat} {cal : Cal} :
    kept 1 (lmDig 0) (exec Tryd.prog cal k 1 lmDig 0 LDig (TDig b (0, o, ep))) = some (.exit 0, TDig b (0, o, ep)) := by
  simp (implicitDefEqProofs := false) [-getElem?_pos, -getElem?_neg, LDig, bodyOf, Tryd.f22, nav, TDig, lmDig]
theorem loopDig {b : Bool} {n : Int} {k : Nat} {cal : Cal} (hn : i64 n) (hk : n.natAbs < k) (ep : Nat) :
    ∃ x S', loopAt Tryd.prog cal k 1 lmDig 0 LDig (TDig b (n, [], ep)) = some (x, S') ∧ x = .exit 0 ∧ ∃ ep', S' = TDig b (0, digs n [], ep') := by
  obtain ⟨x, S', hloop, hQ⟩ := loop_run (P := Tryd.prog) (cal := cal) (k := k) (n0 := 1) (b := 0) (lm := lmDig) (c := LDig) (TDig b) (fun s => i64 s.1 ∧ 2 ^ s.2.1.length * s.1.natAbs ≤ 2 ^ 63) (fun s => s.1.natAbs)
    (fun s x S' => x = .exit 0 ∧ ∃ ep', S' = TDig b (0, digs s.1 s.2.1, ep')) (fun s q1 => by
      obtain ⟨m, o, e⟩ := s
      obtain ⟨q1, q2⟩ := q1
      simp only at q1 q2
      by_cases h0 : m = 0
      · subst h0
        exact .inr ⟨_, _, endDig, by simp, rfl, e, by simp [digs]⟩
      · have e1 : (m.tdiv 10).natAbs = m.natAbs / 10 := by rw [Int.natAbs_tdiv]; rfl
        have hp : 1 ≤ m.natAbs := by omega
        have hlen : o.length ≤ 63 := (Nat.pow_le_pow_iff_right (by decide)).1 (Nat.le_trans (Nat.le_mul_of_pos_right _ hp) q2)
        refine .inl ⟨_, stepDig q1 h0 (by omega), ⟨by have := q1.1; have := q1.2; constructor <;> simp only <;> omega, ?_⟩, by simp only; omega, fun x S' hq => ?_⟩
        · simp only [List.length_cons, e1, Nat.pow_succ, Nat.mul_assoc]
          exact Nat.le_trans (Nat.mul_le_mul_left _ (by omega)) q2
        · rw [digs_step h0]
          exact hq) (s := (n, [], ep)) ⟨hn, by have := hn.1; have := hn.2; simp only [List.length_nil, Nat.pow_zero, Nat.one_mul]; omega⟩ hk
  exact ⟨x, S', hloop _ (by simp [keep, lmDig, TDig, look]), hQ⟩
theorem fn_sDigits : Fn Tryd.prog 22 FDig := by
  refine Fn.con [] (by simp) mixed (fn := Tryd.f22) Tryd.func22 rfl rfl (by kernel_rfl) 1 (by decide) (fun _ => rfl) lmDig (fun n hn => ⟨n.natAbs + 1, ?_⟩)
  by_cases h0 : n = 0
  · subst h0
    have : dig 0 = bs [48] := by unfold dig Lib.itoa; rw [if_neg (by decide)]; rw [Lib.decDigits]; rfl
    simp (implicitDefEqProofs := false) [-getElem?_pos, -getElem?_neg, Tryd.f22, this]
  · have hne : (n == 0) = false := by simp [h0]
    obtain ⟨x, S', hloop, rfl, ep', rfl⟩ := loopDig (b := decide (n < 0)) (cal := tabCal (tabOf [])) hn (k := n.natAbs + 1) (by omega) 1
    simp only [TDig] at hloop
    simp [LDig, bodyOf, Tryd.f22, nav, tabOf] at hloop
    have hdg : digs n [] = Lib.decDigits n.natAbs := by unfold digs; rw [if_neg h0]; simp
    by_cases hneg : n < 0
    · have hd : dig n = bs [45] ++ bs (digs n []) := by
        rw [bs_cat]
        unfold dig Lib.itoa
        rw [if_pos hneg, hdg]
        rfl
      have hcat : ∀ P T x y, binV P .add T x y (.string (bs [45])) (.string (bs (digs n []))) = some (.string (dig n)) := fun P T x y => by
        rw [b_cat _ _ _ _ _ _ (by rw [← ba_size, ← hd]; have := dig_size hn; omega), hd]
      simp [hneg] at hloop
      simp (implicitDefEqProofs := false) [-getElem?_pos, -getElem?_neg, Tryd.f22, hne, hneg, ex_loop, hloop, lmDig, hcat]
    · have hd : dig n = bs (digs n []) := by
        unfold dig Lib.itoa
        rw [if_neg hneg, hdg]
        congr 2
        omega
      simp [hneg] at hloop
      simp (implicitDefEqProofs := false) [-getElem?_pos, -getElem?_neg, Tryd.f22, hne, hneg, ex_loop, hloop, lmDig, hd]
end Go.Proofs.YtjdhdpbdaabdmaaDoor.Vm
