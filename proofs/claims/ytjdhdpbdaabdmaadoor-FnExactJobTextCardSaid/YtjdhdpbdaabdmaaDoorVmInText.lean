/-
  An input's text: spec.InputText, impl.InputText.
-/
import Derived.Test.YtjdhdpbdaabdmaaDoorVmLet
namespace Go.Proofs.YtjdhdpbdaabdmaaDoor.Vm
open Go Go.RowKit Go.Proofs
set_option linter.unusedVariables false
set_option linter.unusedSimpArgs false
set_option maxHeartbeats 4000000
/-- Rows of bytes. -/
def bytes (l : List Int) : List (List V) := l.map fun n => [.lit (.int .u8 n)]
@[simp] theorem bytes_len (l : List Int) : (bytes l).length = l.length := by simp [bytes]
@[simp] theorem bytesR_bytes (l : List Int) : bytesR (bytes l) = some l := by
  induction l with
  | nil => rfl
  | cons n l ih =>
    show (bytesR (bytes l)).bind (fun l' => some (n :: l')) = _
    rw [ih]
    rfl
theorem bytes_snoc (l : List Int) (n : Int) : bytes l ++ [[.lit (.int .u8 n)]] = bytes (l ++ [n]) := by simp [bytes]
theorem c_nil (P : Program) {src dst e : Nat} (hs : P.underlying src = some (.slice e)) (he : P.underlying e = some (.int .u8)) (hd : P.underlying dst = some .string) : convV P src dst (.slice none 0 0) = some (.string (bs [])) := by
  unfold convV convert
  rw [quiet_bind, quiet_und hs, Option.bind_some, quiet_bind, quiet_und hd, Option.bind_some]
  simp only
  rw [quiet_bind, quiet_und he, Option.bind_some]
  rfl
def inText (w : List Int) : ByteArray := if inputOk w then bs (w.map fun x => UInt8.ofNat (97 + x).toNat) else bs []
theorem strOf (w : List Int) : strOfNums (w.map fun x => 97 + x) = bs (w.map fun x => UInt8.ofNat (97 + x).toNat) := by simp [strOfNums, bs]
theorem inText_size {w : List Int} : (inText w).size ≤ 10 := by
  unfold inText
  split
  · rename_i h
    unfold inputOk at h
    simp only [Bool.and_eq_true, decide_eq_true_eq] at h
    simp
    exact h.1
  · simp
noncomputable def FInText : Con := con (fun w : List Int => [VI w]) okI (fun w => ((false, [none]), [.lit (.string (inText w))]))
theorem callInText {w : List Int} (h : okI w) : FInText [VI w] = some ((false, [none]), [.lit (.string (inText w))]) := con_at (arg := fun w : List Int => [VI w]) VI_inj h
theorem let_conv {x : Int} (h : letter x = true) : IntKind.i64.wrap (97 + x) = 97 + x ∧ IntKind.u8.wrap (97 + x) = 97 + x := by
  unfold letter at h
  simp only [Bool.and_eq_true, decide_eq_true_eq] at h
  exact ⟨wrap_id (by omega) (by omega), wrap_u8 (by omega) (by omega)⟩
/-- The bytes that are there behind i letters. -/
def pre (w : List Int) (i : Nat) : List Int := (w.take i).map fun x => 97 + x
theorem pre_len {w : List Int} {i : Nat} (h : i ≤ w.length) : (pre w i).length = i := by simp [pre]; omega
theorem pre_snoc {w : List Int} {i : Nat} (h : i < w.length) : pre w i ++ [97 + w[i]] = pre w (i + 1) := by
  unfold pre
  rw [List.take_succ_eq_append_getElem h, List.map_append]
  rfl
theorem pre_all (w : List Int) : strOfNums (pre w w.length) = bs (w.map fun x => UInt8.ofNat (97 + x).toNat) := by unfold pre; rw [List.take_length, strOf]
/-! ### spec -/
noncomputable def LsTx : Code := nav [1,1,1,0,1,0,0] (bodyOf Tryd.f31)
def lmsTx : Nat → List Nat × Nat := fun _ => ([0, 3, 4], 1)
def TsTx (w : List Int) (s : Nat × Nat × Nat) : St := ⟨[(0, VI w), (3, .one (.ow 1 s.2.1)), (4, .one (.lit (.int .i64 s.1)))], [none, some (.rows s.2.1 2 5 (bytes (pre w s.1)))], s.2.2⟩
theorem stepsTx {w : List Int} {i hv ep k : Nat} {cal : Cal} (hi : i < w.length) (hw : w.length ≤ 10) (hl : letter w[i] = true) :
    kept 1 (lmsTx 0) (exec Tryd.prog cal k 1 lmsTx 0 LsTx (TsTx w (i, hv, ep))) = some (.norm, TsTx w (i + 1, ep + 1, ep + 2)) := by
  have hx : w[i]? = some w[i] := List.getElem?_eq_getElem hi
  have hi' : (i : Int) < w.length := by omega
  have hw1 := wrap_succ hi (by omega)
  obtain ⟨h1, h2⟩ := let_conv hl
  have c1 := c_int Tryd.prog .i64 (97 + w[i]) (src := 3) (dst := 5) Tryd.underlying3 Tryd.underlying5
  rw [h2] at c1
  have hlen := pre_len (show i ≤ w.length by omega)
  have hsz : i ≤ 140737488355327 := by omega
  simp (implicitDefEqProofs := false) [-getElem?_pos, -getElem?_neg, LsTx, bodyOf, Tryd.f31, nav, TsTx, lmsTx, ints_get hx, hi', hi, h1, c1, hw1, bytes_snoc, pre_snoc hi, hlen, hsz]
theorem endsTx {w : List Int} {hv ep k : Nat} {cal : Cal} : kept 1 (lmsTx 0) (exec Tryd.prog cal k 1 lmsTx 0 LsTx (TsTx w (w.length, hv, ep))) = some (.exit 0, TsTx w (w.length, hv, ep)) := by
  simp (implicitDefEqProofs := false) [-getElem?_pos, -getElem?_neg, LsTx, bodyOf, Tryd.f31, nav, TsTx, lmsTx]
theorem ok_split {w : List Int} (h : inputOk w = true) : w.length ≤ 10 ∧ ∀ (i : Nat) (hi : i < w.length), letter w[i] = true := by
  unfold inputOk at h
  simp only [Bool.and_eq_true, decide_eq_true_eq] at h
  exact ⟨h.1, fun i hi => List.all_eq_true.1 h.2 _ (List.getElem_mem hi)⟩
theorem fn_sInText : Fn Tryd.prog 31 FInText := by
  refine Fn.con [(59, FInputOk)] (by simp [fn_sInputOk]) mixed (fn := Tryd.f31) Tryd.func31 rfl rfl (by kernel_rfl) 1 (by decide) (fun _ => rfl) lmsTx (fun w hw => ⟨w.length + 1, ?_⟩)
  have hcall := callInputOk hw
  unfold inText
  cases hq : inputOk w
  · rw [hq] at hcall
    simp (implicitDefEqProofs := false) [-getElem?_pos, -getElem?_neg, Tryd.f31, hcall]
  · rw [hq] at hcall
    obtain ⟨h10, hlet⟩ := ok_split hq
    obtain ⟨⟨hv, ep⟩, hloop⟩ := steps (P := Tryd.prog) (cal := tabCal (tabOf [(59, FInputOk)])) (k := w.length + 1) (n0 := 1) (b := 0) (lm := lmsTx) (c := LsTx) w.length (TsTx w) (fun i e hi => ⟨_, stepsTx (hv := e.1) (ep := e.2) hi h10 (hlet i hi)⟩) (fun e => endsTx) (2, 3) (by simp [keep, lmsTx, TsTx, look]) (by omega)
    have hz : bytes (pre w 0) = [] := rfl
    simp [LsTx, bodyOf, Tryd.f31, nav, TsTx, tabOf, hz] at hloop
    simp (implicitDefEqProofs := false) [-getElem?_pos, -getElem?_neg, Tryd.f31, hcall, ex_loop, hloop, lmsTx, pre_all]
/-! ### impl -/
noncomputable def LiTx : Code := nav [1,1,1,0,1,0,0] (bodyOf Tryd.f34)
def lmiTx : Nat → List Nat × Nat := fun _ => ([3, 9, 10, 11], 2)
def TiTx (w : List Int) (s : Nat × Nat × Nat × Nat) : St := if s.1 = 0 then ⟨[(3, .one (.lit (.slice none 0 0))), (9, VI w), (10, .one (.lit (.int .i64 w.length))), (11, .one (.lit (.int .i64 0)))], [none], s.2.2.2⟩
  else ⟨[(3, .one (.ow 2 s.2.1)), (9, VI w), (10, .one (.lit (.int .i64 w.length))), (11, .one (.lit (.int .i64 s.1)))], [none, none, some (.rows s.2.1 s.2.2.1 5 (bytes (pre w s.1)))], s.2.2.2⟩
theorem stepiTx {w : List Int} {i k : Nat} {e : Nat × Nat × Nat} {cal : Cal} (hi : i < w.length) (hw : w.length ≤ 10) (hl : letter w[i] = true) :
    ∃ e', kept 1 (lmiTx 0) (exec Tryd.prog cal k 1 lmiTx 0 LiTx (TiTx w (i, e))) = some (.norm, TiTx w (i + 1, e')) := by
  have hx : w[i]? = some w[i] := List.getElem?_eq_getElem hi
  have hi' : (i : Int) < w.length := by omega
  have hw1 := wrap_succ hi (by omega)
  obtain ⟨h1, h2⟩ := let_conv hl
  have c1 := c_int Tryd.prog .i64 (97 + w[i]) (src := 3) (dst := 5) Tryd.underlying3 Tryd.underlying5
  rw [h2] at c1
  have hlen := pre_len (show i ≤ w.length by omega)
  have hsz : i ≤ 140737488355327 := by omega
  have hs := pre_snoc hi
  obtain ⟨hv, cv, ep⟩ := e
  by_cases h0 : i = 0
  · subst h0
    refine ⟨(ep + 1, ep + 1, ep + 2), ?_⟩
    have h0 : [[V.lit (.int .u8 (97 + w[0]))]] = bytes (pre w 1) := by
      show _ = bytes (pre w (0 + 1))
      rw [← hs]
      rfl
    simp at hw1
    simp (implicitDefEqProofs := false) [-getElem?_pos, -getElem?_neg, LiTx, bodyOf, Tryd.f34, nav, TiTx, lmiTx, ints_get hx, hi', hi, h1, c1, hw1]
    exact h0
  · refine ⟨(ep + 1, cv, ep + 2), ?_⟩
    simp (implicitDefEqProofs := false) [-getElem?_pos, -getElem?_neg, LiTx, bodyOf, Tryd.f34, nav, TiTx, lmiTx, ints_get hx, hi', hi, h1, c1, hw1, bytes_snoc, hs, hlen, hsz, h0]
theorem endiTx {w : List Int} {e : Nat × Nat × Nat} {k : Nat} {cal : Cal} : kept 1 (lmiTx 0) (exec Tryd.prog cal k 1 lmiTx 0 LiTx (TiTx w (w.length, e))) = some (.exit 0, TiTx w (w.length, e)) := by
  by_cases h0 : w.length = 0
  · simp only [TiTx, h0, if_true]
    simp (implicitDefEqProofs := false) [-getElem?_pos, -getElem?_neg, LiTx, bodyOf, Tryd.f34, nav, lmiTx]
  · simp only [TiTx, h0, if_false]
    simp (implicitDefEqProofs := false) [-getElem?_pos, -getElem?_neg, LiTx, bodyOf, Tryd.f34, nav, lmiTx]
theorem fn_iInText : Fn Tryd.prog 34 FInText := by
  refine Fn.con [(63, FInputOk)] (by simp [fn_iInputOk]) mixed (fn := Tryd.f34) Tryd.func34 rfl rfl (by kernel_rfl) 1 (by decide) (fun _ => rfl) lmiTx (fun w hw => ⟨w.length + 1, ?_⟩)
  have hcall := callInputOk hw
  unfold inText
  cases hq : inputOk w
  · rw [hq] at hcall
    simp (implicitDefEqProofs := false) [-getElem?_pos, -getElem?_neg, Tryd.f34, hcall]
  · rw [hq] at hcall
    obtain ⟨h10, hlet⟩ := ok_split hq
    obtain ⟨⟨hv, cv, ep⟩, hloop⟩ := steps (P := Tryd.prog) (cal := tabCal (tabOf [(63, FInputOk)])) (k := w.length + 1) (n0 := 1) (b := 0) (lm := lmiTx) (c := LiTx) w.length (TiTx w) (fun i e hi => stepiTx hi h10 (hlet i hi)) (fun e => endiTx) (0, 0, 2) (by simp [keep, lmiTx, TiTx, look]) (by omega)
    by_cases h0 : w.length = 0
    · obtain rfl : w = [] := List.eq_nil_of_length_eq_zero h0
      have cn := c_nil Tryd.prog (src := 94) (dst := 9) (e := 5) Tryd.underlying94 Tryd.underlying5 Tryd.underlying9
      simp [LiTx, bodyOf, Tryd.f34, nav, TiTx, tabOf] at hloop
      simp (implicitDefEqProofs := false) [-getElem?_pos, -getElem?_neg, Tryd.f34, hcall, ex_loop, hloop, lmiTx, cn]
    · simp [LiTx, bodyOf, Tryd.f34, nav, TiTx, tabOf, h0] at hloop
      simp (implicitDefEqProofs := false) [-getElem?_pos, -getElem?_neg, Tryd.f34, hcall, ex_loop, hloop, lmiTx, pre_all]
end Go.Proofs.YtjdhdpbdaabdmaaDoor.Vm
