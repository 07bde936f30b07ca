/-
  A text in parts: spec.Parts; strings.Contains at one byte by the shelf's contract.
-/
import Derived.Test.YtmkpoldhgdbjiaaDoorVmItoa
import Derived.Test.YtmkpoldhgdbjiaaDoorVmText
import Derived.Test.YtmkpoldhgdbjiaaDoorVmScan
import Derived.Lib.IndexLaws
namespace Go.Proofs.YtmkpoldhgdbjiaaDoor.Vm
open Go Go.RowKit Go.Proofs
set_option linter.unusedVariables false
set_option linter.unusedSimpArgs false
set_option maxHeartbeats 4000000
/-- Rows of texts. -/
def strs (l : List ByteArray) : List (List V) := l.map fun s => [.lit (.string s)]
@[simp] theorem strs_len (l : List ByteArray) : (strs l).length = l.length := by simp [strs]
theorem strs_snoc (l : List ByteArray) (s : ByteArray) : strs l ++ [[.lit (.string s)]] = strs (l ++ [s]) := by simp [strs]
theorem strs_get {l : List ByteArray} {i : Nat} {x : ByteArray} (h : l[i]? = some x) : (strs l)[i]? = some [.lit (.string x)] := by simp [strs, h]
/-- The parts: what is left, what the part that is open has. -/
def partsF (by' : UInt8) : List UInt8 → List UInt8 → List ByteArray
  | [], cur => [bs cur]
  | c :: r, cur => if c = by' then bs cur :: partsF by' r [] else partsF by' r (cur ++ [c])
def parts (by' : UInt8) (s : ByteArray) : List ByteArray := partsF by' s.data.toList []
theorem partsF_pos (b : UInt8) : ∀ (l cur : List UInt8), 1 ≤ (partsF b l cur).length
  | [], _ => by simp [partsF]
  | c :: r, cur => by
    unfold partsF
    split
    · simp
    · exact partsF_pos b r _
theorem partsF_one (b : UInt8) : ∀ (l cur : List UInt8), 1 < (partsF b l cur).length ↔ b ∈ l
  | [], _ => by simp [partsF]
  | c :: r, cur => by
    unfold partsF
    split
    · rename_i h
      subst h
      have := partsF_pos c r []
      simp
      omega
    · rename_i h
      rw [partsF_one b r]
      simp [Ne.symm h, fun e : b = c => h e.symm]
theorem idx_in (l : List UInt8) (c : UInt8) : decide (0 ≤ Lib.indexByte l c) = decide (c ∈ l) := by
  rw [decide_eq_decide]
  induction l with
  | nil => simp [Lib.indexByte]
  | cons b l ih =>
    unfold Lib.indexByte
    have hge := Lib.indexByte_ge l c
    by_cases hb : b = c
    · subst hb
      simp
    · have hb' : (b == c) = false := by simpa using hb
      have hcb : ¬ c = b := fun e => hb e.symm
      simp only [hb', Bool.false_eq_true, if_false, List.mem_cons, hcb, false_or]
      rw [← ih]
      split
      · rename_i h
        have : Lib.indexByte l c = -1 := by simpa using h
        rw [this]
      · rename_i h
        have : Lib.indexByte l c ≠ -1 := by simpa using h
        constructor <;> intro h' <;> omega
noncomputable def FHas : Con := con (fun s : ByteArray => ([.string s, .string (bs [10])] : List Value).map fun v => TV.one (.lit v)) (fun _ => True) (fun s => ((false, [none]), [.lit (.bool (decide (10 ∈ s.data.toList)))]))
theorem fn_Contains : Fn Tryd.prog 29 FHas :=
  Fn.lits (vals := fun s : ByteArray => [.string s, .string (bs [10])]) (r := fun s => .bool (decide (10 ∈ s.data.toList))) ⟨_, Tryd.func29, rfl, rfl⟩ (fun _ => rfl) (fun s _ w _ => (Tryd.strings_Contains_one s 10 w).mono (by
    rintro e w' ⟨rfl, rfl⟩
    exact ⟨by rw [idx_in], Below.refl _ _⟩))
theorem callHas (s : ByteArray) : FHas [.one (.lit (.string s)), .one (.lit (.string (bs [10])))] = some ((false, [none]), [.lit (.bool (decide (10 ∈ s.data.toList)))]) :=
  con_at (arg := fun s : ByteArray => ([.string s, .string (bs [10])] : List Value).map fun v => TV.one (.lit v)) (by intro a b h; simpa using h) trivial
/-! ### spec.Parts -/
noncomputable def LPar : Code := nav [1,1,1,0,1,0,0] (bodyOf Tryd.f21)
def lmPar : Nat → List Nat × Nat := fun _ => ([0, 1, 5, 6, 7], 1)
/-- i: where it stands; j: where the open part began; o: the parts that are there. -/
def TPar (s : ByteArray) (b : UInt8) (q : Nat × Nat × List ByteArray × Nat × Nat) : St := ⟨[(0, .one (.lit (.string s))), (1, .one (.lit (.int .u8 b.toNat))), (5, .one (.ow 1 q.2.2.2.1)), (6, .one (.lit (.int .i64 q.2.1))), (7, .one (.lit (.int .i64 q.1)))], [none, some (.rows q.2.2.2.1 1 9 (strs q.2.2.1))], q.2.2.2.2⟩
theorem stepPar {s : ByteArray} {b : UInt8} {i j hv ep k : Nat} {o : List ByteArray} {cal : Cal} (hi : i ≤ s.size) (hj : j ≤ i) (ho : o.length ≤ i) (hs : s.size ≤ 4294967296) :
    kept 1 (lmPar 0) (exec Tryd.prog cal k 1 lmPar 0 LPar (TPar s b (i, j, o, hv, ep))) = some (.norm, if i = s.size ∨ s.data.toList[i]? = some b then TPar s b (i + 1, i + 1, o ++ [s.extract j i], ep + 1, ep + 2) else TPar s b (i + 1, j, o, hv, ep)) := by
  have hi' : (i : Int) ≤ s.size := by omega
  have hw1 : IntKind.i64.wrap ((i : Int) + 1) = (i : Int) + 1 := wrap_id (by omega) (by omega)
  have hsz : (o.length + 1) * 16 ≤ 140737488355328 := by omega
  have q2 := q_piece (P := Tryd.prog) Tryd.underlying9 hj hi
  by_cases hn : i = s.size
  · have he : ((i : Int) == s.size) = true := by simp [hn]
    rw [if_pos (.inl hn)]
    simp (implicitDefEqProofs := false) [-getElem?_pos, -getElem?_neg, LPar, bodyOf, Tryd.f21, nav, TPar, lmPar, hi', hw1, he, q2, strs_snoc, hsz]
  · have he : ((i : Int) == s.size) = false := by
      have : ¬ (i : Int) = s.size := by omega
      simpa using this
    have hlt : i < s.data.toList.length := by
      have h2 : i < s.size := by omega
      rw [Array.length_toList]
      exact h2
    obtain ⟨c, hc⟩ : ∃ c, s.data.toList[i]? = some c := ⟨_, List.getElem?_eq_getElem hlt⟩
    have q1 := q_index (P := Tryd.prog) Tryd.underlying9 hc
    by_cases hb : c = b
    · subst hb
      rw [if_pos (.inr hc)]
      simp (implicitDefEqProofs := false) [-getElem?_pos, -getElem?_neg, LPar, bodyOf, Tryd.f21, nav, TPar, lmPar, hi', hw1, he, q1, q2, strs_snoc, hsz]
    · have hb2 : ((c.toNat : Int) == b.toNat) = false := by
        have : ¬ c.toNat = b.toNat := fun e => hb (UInt8.toNat_inj.1 e)
        have h3 : ¬ (c.toNat : Int) = b.toNat := by omega
        simpa using h3
      rw [if_neg (fun h => h.elim hn (fun h => hb (Option.some.inj (hc.symm.trans h))))]
      simp (implicitDefEqProofs := false) [-getElem?_pos, -getElem?_neg, LPar, bodyOf, Tryd.f21, nav, TPar, lmPar, hi', hw1, he, q1, hb2]
theorem endPar {s : ByteArray} {b : UInt8} {j hv ep k : Nat} {o : List ByteArray} {cal : Cal} :
    kept 1 (lmPar 0) (exec Tryd.prog cal k 1 lmPar 0 LPar (TPar s b (s.size + 1, j, o, hv, ep))) = some (.exit 0, TPar s b (s.size + 1, j, o, hv, ep)) := by
  have hi' : ¬ ((s.size : Int) + 1) ≤ s.size := by omega
  simp (implicitDefEqProofs := false) [-getElem?_pos, -getElem?_neg, LPar, bodyOf, Tryd.f21, nav, TPar, lmPar, hi']
def finPar (s : ByteArray) (b : UInt8) (i j : Nat) (o : List ByteArray) : List ByteArray := if i ≤ s.size then o ++ partsF b (s.data.toList.drop i) ((s.data.toList.take i).drop j) else o
theorem fin_cut {s : ByteArray} {b : UInt8} {i j : Nat} {o : List ByteArray} (hi : i ≤ s.size) (hc : i = s.size ∨ s.data.toList[i]? = some b) : finPar s b i j o = finPar s b (i + 1) (i + 1) (o ++ [s.extract j i]) := by
  have hl : s.data.toList.length = s.size := Array.length_toList
  unfold finPar
  rw [if_pos hi, sub_bs]
  by_cases hn : i = s.size
  · have : ¬ i + 1 ≤ s.size := by omega
    rw [if_neg this, List.drop_eq_nil_of_le (by omega)]
    rfl
  · have hb := hc.resolve_left hn
    have hlt : i < s.data.toList.length := by omega
    have he : s.data.toList[i] = b := (List.getElem?_eq_some_iff.1 hb).2
    rw [if_pos (by omega), List.drop_eq_getElem_cons hlt, he, partsF, if_pos rfl, List.append_assoc]
    have hd : (s.data.toList.take (i + 1)).drop (i + 1) = [] := List.drop_eq_nil_of_le (by rw [List.length_take]; omega)
    rw [hd]
    rfl
theorem fin_go {s : ByteArray} {b : UInt8} {i j : Nat} {o : List ByteArray} (hi : i ≤ s.size) (hj : j ≤ i) (hc : ¬ (i = s.size ∨ s.data.toList[i]? = some b)) : finPar s b i j o = finPar s b (i + 1) j o := by
  have hl : s.data.toList.length = s.size := Array.length_toList
  have h1 : i ≠ s.size := fun h => hc (.inl h)
  have hlt : i < s.data.toList.length := by omega
  have hb : ¬ s.data.toList[i] = b := fun h => hc (.inr (by rw [List.getElem?_eq_getElem hlt, h]))
  unfold finPar
  rw [if_pos hi, if_pos (by omega), List.drop_eq_getElem_cons hlt, partsF, if_neg hb, List.take_succ_eq_append_getElem hlt, List.drop_append_of_le_length (by rw [List.length_take]; omega)]
noncomputable def FPar : Con := con (fun p : ByteArray × UInt8 => [.one (.lit (.string p.1)), .one (.lit (.int .u8 p.2.toNat))]) (fun p => p.1.size ≤ 4294967296) (fun p => ((false, [none]), [.sl true 9 (strs (parts p.2 p.1))]))
theorem callPar {s : ByteArray} (b : UInt8) (h : s.size ≤ 4294967296) : FPar [.one (.lit (.string s)), .one (.lit (.int .u8 b.toNat))] = some ((false, [none]), [.sl true 9 (strs (parts b s))]) :=
  con_at (arg := fun p : ByteArray × UInt8 => [.one (.lit (.string p.1)), .one (.lit (.int .u8 p.2.toNat))]) (a := (s, b)) (by
    rintro ⟨a, b⟩ ⟨c, d⟩ h
    simp at h
    have e : b = d := UInt8.toNat_inj.1 (by have := h.2; omega)
    rw [h.1, e]) h
theorem fn_sParts : Fn Tryd.prog 21 FPar := by
  refine Fn.con [] (by simp) mixed (fn := Tryd.f21) rfl rfl rfl (by kernel_rfl) 2 (by decide) (fun _ => rfl) lmPar (fun p hp => ⟨p.1.size + 3, ?_⟩)
  obtain ⟨s, b⟩ := p
  simp only at hp ⊢
  obtain ⟨x, S', hloop, rfl, j, hv, ep, rfl⟩ := loop_run (P := Tryd.prog) (cal := tabCal (tabOf [])) (k := s.size + 3) (n0 := 1) (b := 0) (lm := lmPar) (c := LPar) (TPar s b) (fun q => q.2.1 ≤ q.1 ∧ q.1 ≤ s.size + 1 ∧ q.2.2.1.length ≤ q.1) (fun q => s.size + 1 - q.1)
    (fun q x S' => x = .exit 0 ∧ ∃ j' hv' ep', S' = TPar s b (s.size + 1, j', finPar s b q.1 q.2.1 q.2.2.1, hv', ep')) (fun q q1 => by
      obtain ⟨i, j, o, hv, ep⟩ := q
      obtain ⟨q1, q2, q3⟩ := q1
      simp only at q1 q2 q3
      by_cases hi : i ≤ s.size
      · have hst := stepPar (b := b) (hv := hv) (ep := ep) (k := s.size + 3) (cal := tabCal (tabOf [])) hi q1 q3 hp
        by_cases hc : i = s.size ∨ s.data.toList[i]? = some b
        · rw [if_pos hc] at hst
          refine .inl ⟨_, hst, ⟨Nat.le_refl _, by simp only; omega, by simp; omega⟩, by simp only; omega, fun x S' hq => ?_⟩
          simp only at hq ⊢
          rw [fin_cut hi hc]
          exact hq
        · rw [if_neg hc] at hst
          refine .inl ⟨_, hst, ⟨by simp only; omega, by simp only; omega, by simp only; omega⟩, by simp only; omega, fun x S' hq => ?_⟩
          simp only at hq ⊢
          rw [fin_go hi q1 hc]
          exact hq
      · obtain rfl : i = s.size + 1 := by omega
        refine .inr ⟨_, _, endPar, by simp, rfl, j, hv, ep, ?_⟩
        unfold finPar
        rw [if_neg hi]) (s := (0, 0, [], 1, 2)) ⟨Nat.le_refl _, Nat.zero_le _, Nat.le_refl _⟩ (by simp only; omega)
  have hloop := hloop (TPar s b (0, 0, [], 1, 2)) (by simp [keep, lmPar, TPar, look])
  have hf : finPar s b 0 0 [] = parts b s := by unfold finPar parts; simp
  change loopAt _ _ _ _ _ _ _ _ = _ at hloop
  have hz : strs [] = [] := rfl
  simp [LPar, bodyOf, Tryd.f21, nav, TPar, tabOf, hf, hz] at hloop
  simp (implicitDefEqProofs := false) [-getElem?_pos, -getElem?_neg, Tryd.f21, ex_loop, hloop, lmPar]
end Go.Proofs.YtmkpoldhgdbjiaaDoor.Vm
