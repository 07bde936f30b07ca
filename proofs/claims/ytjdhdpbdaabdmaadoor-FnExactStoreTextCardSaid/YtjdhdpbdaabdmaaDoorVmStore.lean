/-
  A store's text: l9Letter, letterText, StoreText (spec, impl); the law FnExactStoreText tells true.
-/
import Derived.Test.YtjdhdpbdaabdmaaDoorVmDig
import Derived.Test.YtjdhdpbdaabdmaaDoorVmLet
import Derived.Test.YtjdhdpbdaabdmaaDoorVmJoin
import Derived.Test.YtjdhdpbdaabdmaaDoorVmTyS
namespace Go.Proofs.YtjdhdpbdaabdmaaDoor.Vm
open Go Go.RowKit Go.Proofs
set_option linter.unusedVariables false
set_option linter.unusedSimpArgs false
set_option maxHeartbeats 8000000
def letT (s : Int) : ByteArray := if letter s then bs [UInt8.ofNat (97 + s).toNat] else bs [63]
theorem letT_size (s : Int) : (letT s).size ≤ 1 := by unfold letT; split <;> simp
noncomputable def FLetT : Con := con (fun s : Int => [.one (.lit (.int .i64 s))]) (fun _ => True) (fun s => ((false, [none]), [.lit (.string (letT s))]))
theorem callLetT (s : Int) : FLetT [.one (.lit (.int .i64 s))] = some ((false, [none]), [.lit (.string (letT s))]) :=
  con_at (arg := fun s : Int => [.one (.lit (.int .i64 s))]) (by intro a b h; simpa using h) trivial
theorem let_u8 {x : Int} (h : letter x = true) : IntKind.i64.wrap (97 + x) = 97 + x ∧ convV Tryd.prog 3 5 (.int .i64 (97 + x)) = some (.int .u8 (97 + x)) ∧ strOfNums [97 + x] = bs [UInt8.ofNat (97 + x).toNat] := by
  unfold letter at h
  simp only [Bool.and_eq_true, decide_eq_true_eq] at h
  refine ⟨wrap_id (by omega) (by omega), ?_, rfl⟩
  rw [c_int Tryd.prog .i64 (97 + x) (src := 3) (dst := 5) Tryd.underlying3 Tryd.underlying5, wrap_u8 (by omega) (by omega)]
theorem fn_l9Letter : Fn Tryd.prog 23 FLetT := by
  refine Fn.con [(50, FIn)] (by simp [fn_l1In]) mixed (fn := Tryd.f23) Tryd.func23 rfl rfl (by kernel_rfl) 1 (by decide) (fun _ => rfl) (fun _ => ([], 0)) (fun s _ => ⟨1, ?_⟩)
  have hcall := callIn s 0 25
  unfold letT
  cases hq : letter s
  · have hq2 : (decide (0 ≤ s) && decide (s ≤ 25)) = false := hq
    rw [hq2] at hcall
    simp (implicitDefEqProofs := false) [-getElem?_pos, -getElem?_neg, Tryd.f23, hcall]
  · have hq2 : (decide (0 ≤ s) && decide (s ≤ 25)) = true := hq
    rw [hq2] at hcall
    obtain ⟨h1, h2, h3⟩ := let_u8 hq
    simp (implicitDefEqProofs := false) [-getElem?_pos, -getElem?_neg, Tryd.f23, hcall, h1, h2, h3]
theorem fn_letterText : Fn Tryd.prog 26 FLetT := by
  refine Fn.con [(53, FLet)] (by simp [fn_isLetter]) mixed (fn := Tryd.f26) Tryd.func26 rfl rfl (by kernel_rfl) 1 (by decide) (fun _ => rfl) (fun _ => ([], 0)) (fun s _ => ⟨1, ?_⟩)
  have hcall := callLet s
  unfold letT
  cases hq : letter s
  · rw [hq] at hcall
    simp (implicitDefEqProofs := false) [-getElem?_pos, -getElem?_neg, Tryd.f26, hcall]
  · rw [hq] at hcall
    obtain ⟨h1, h2, h3⟩ := let_u8 hq
    simp (implicitDefEqProofs := false) [-getElem?_pos, -getElem?_neg, Tryd.f26, hcall, h1, h2, h3]
/-- A line's text. -/
def lineT (x : TyLine) : ByteArray := dig x.1.length ++ letT x.2.1 ++ dig x.2.2.length
def linesT (l : List TyLine) : List ByteArray := l.map lineT
def storeText (x : TyStore) : ByteArray := joined (linesT x.2)
/-- The text of the first i lines. -/
def upT (l : List TyLine) (i : Nat) : ByteArray := joined ((linesT l).take i)
theorem upT_zero (l : List TyLine) : upT l 0 = bs [] := rfl
theorem upT_one {l : List TyLine} (h : 0 < l.length) : lineT l[0] = upT l 1 := by
  unfold upT linesT
  rw [List.take_succ_eq_append_getElem (by simpa using h)]
  simp [joined_one]
theorem upT_succ {l : List TyLine} {i : Nat} (h : i < l.length) (h0 : i ≠ 0) : upT l i ++ bs [32] ++ dig l[i].1.length ++ letT l[i].2.1 ++ dig l[i].2.2.length = upT l (i + 1) := by
  unfold upT linesT
  have hne : (l.map lineT).take i ≠ [] := by
    intro e
    have he := congrArg List.length e
    rw [List.length_take, List.length_map, List.length_nil] at he
    omega
  rw [List.take_succ_eq_append_getElem (by simpa using h), joined_snoc _ _ hne]
  simp [lineT, ba_assoc]
theorem lineT_size {x : TyLine} (h : ok_Line x) : (lineT x).size ≤ 43 := by
  have s1 := dig_size (n := x.1.length) ⟨by omega, by have := h.1.1; omega⟩
  have s2 := letT_size x.2.1
  have s3 := dig_size (n := x.2.2.length) ⟨by omega, by have := h.2.2.1; omega⟩
  simp only [lineT, ba_size]
  omega
theorem joined_lines {l : List TyLine} (h : ∀ y ∈ l, ok_Line y) : (joined (linesT l)).size ≤ l.length * 44 := by
  have := joined_size 43 (linesT l) (by
    intro x hx
    obtain ⟨y, hy, rfl⟩ := List.mem_map.1 hx
    exact lineT_size (h y hy))
  simpa [linesT] using this
theorem upT_size {l : List TyLine} (h : ∀ y ∈ l, ok_Line y) (i : Nat) : (upT l i).size ≤ l.length * 44 := by
  have h1 : upT l i = joined (linesT (l.take i)) := by unfold upT linesT; rw [List.map_take]
  have h2 := joined_lines (l := l.take i) (fun y hy => h y (List.mem_of_mem_take hy))
  rw [h1]
  have h3 : (l.take i).length ≤ l.length := List.length_take_le' i l
  exact Nat.le_trans h2 (Nat.mul_le_mul_right _ h3)
noncomputable def FStoreText : Con := con (fun x : TyStore => [.agg (cI_Store false x)]) ok_Store (fun x => ((false, [none]), [.lit (.string (storeText x))]))
theorem callStoreText {x : TyStore} (h : ok_Store x) : FStoreText [.agg (cI_Store false x)] = some ((false, [none]), [.lit (.string (storeText x))]) :=
  con_at (arg := fun x : TyStore => [.agg (cI_Store false x)]) (fun a b h => cI_Store_inj false a b (by simpa using h)) h
/-! ### spec -/
noncomputable def LsSt : Code := nav [1,1,0,1,0,0] (bodyOf Tryd.f7)
def lmsSt : Nat → List Nat × Nat := fun _ => ([1, 3, 4], 1)
def TsSt (c : Int) (l : List TyLine) (s : Nat × Nat) : St := ⟨[(1, .one (.bp 1 1 0)), (3, .one (.lit (.string (upT l s.1)))), (4, .one (.lit (.int .i64 s.1)))], [none, some (.box 1 [.lit (.int .i64 c), .sl false 74 (l.map (cI_Line false))])], s.2⟩
theorem dr_sSt : drawn (opsOf (nav [1,0,0,1] LsSt)) = some ([0, 1, 2, 3, 4, 5, 6, 7, 10, 11, 12, 13, 14, 15, 18, 19, 20, 21, 22, 23, 24], [8, 9, 16, 17, 25, 26, 27]) := by kernel_rfl
theorem stepsSt {c : Int} {l : List TyLine} {i e k : Nat} (hi : i < l.length) (hl : l.length ≤ 3000000000000) (hok : ∀ y ∈ l, ok_Line y) :
    ∃ e', kept 1 (lmsSt 0) (exec Tryd.prog (tabCal (tabOf [(22, FDig), (23, FLetT)])) k 1 lmsSt 0 LsSt (TsSt c l (i, e))) = some (.norm, TsSt c l (i + 1, e')) := by
  have hx : l[i]? = some l[i] := List.getElem?_eq_getElem hi
  have hi' : (i : Int) < l.length := by omega
  have hw := wrap_succ hi (by omega)
  have ho := hok _ (List.getElem_mem hi)
  have b1 : i64 (l[i].1.length : Int) := ⟨by omega, by have := ho.1.1; omega⟩
  have b3 : i64 (l[i].2.2.length : Int) := ⟨by omega, by have := ho.2.2.1; omega⟩
  have c1 := callDig b1
  have c2 := callLetT l[i].2.1
  have c3 := callDig b3
  have s1 := dig_size b1
  have s2 := letT_size l[i].2.1
  have s3 := dig_size b3
  have s0 := upT_size hok i
  have hd := dr_sSt
  simp only [LsSt, bodyOf, Tryd.f7, nav, opsOf, Option.getD_some] at hd
  refine ⟨e + 3, ?_⟩
  by_cases h0 : i = 0
  · subst h0
    have hJ := upT_one hi
    have e1 : ∀ P T x y, binV P .add T x y (.string (bs [])) (.string (dig l[0].1.length)) = some (.string (dig l[0].1.length)) := fun P T x y => by rw [b_cat _ _ _ _ _ _ (by simp; omega), ba_nil]
    have e2 := fun P T x y => b_cat P T x y (dig l[0].1.length) (letT l[0].2.1) (by omega)
    have e3 : ∀ P T x y, binV P .add T x y (.string (dig l[0].1.length ++ letT l[0].2.1)) (.string (dig l[0].2.2.length)) = some (.string (upT l 1)) := fun P T x y => by rw [b_cat _ _ _ _ _ _ (by rw [ba_size]; omega), ← hJ]; rfl
    have hz := upT_zero l
    have hw0 : IntKind.i64.wrap 1 = 1 := wrap_id (by omega) (by omega)
    simp (implicitDefEqProofs := false) [-getElem?_pos, -getElem?_neg, LsSt, bodyOf, Tryd.f7, nav, TsSt, lmsSt, hx, cI_Line, hi', hi, ex_draw2 _ _ hd, c1, c2, c3, hz, e1, e2, e3, hw0]
  · have hp : (i : Int) > 0 := by omega
    have hp2 : 0 < i := by omega
    have e0 := fun P T x y => b_cat P T x y (upT l i) (bs [32]) (by simp; omega)
    have e1 := fun P T x y => b_cat P T x y (upT l i ++ bs [32]) (dig l[i].1.length) (by rw [ba_size, bs_size]; simp; omega)
    have e2 := fun P T x y => b_cat P T x y (upT l i ++ bs [32] ++ dig l[i].1.length) (letT l[i].2.1) (by simp only [ba_size, bs_size]; simp; omega)
    have e3 : ∀ P T x y, binV P .add T x y (.string (upT l i ++ bs [32] ++ dig l[i].1.length ++ letT l[i].2.1)) (.string (dig l[i].2.2.length)) = some (.string (upT l (i + 1))) := fun P T x y => by rw [b_cat _ _ _ _ _ _ (by simp only [ba_size, bs_size]; simp; omega), upT_succ hi h0]
    simp (implicitDefEqProofs := false) [-getElem?_pos, -getElem?_neg, LsSt, bodyOf, Tryd.f7, nav, TsSt, lmsSt, hx, cI_Line, hi', hi, hp, hp2, ex_draw2 _ _ hd, c1, c2, c3, e0, e1, e2, e3, hw]
theorem endsSt {c : Int} {l : List TyLine} {e k : Nat} {cal : Cal} : kept 1 (lmsSt 0) (exec Tryd.prog cal k 1 lmsSt 0 LsSt (TsSt c l (l.length, e))) = some (.exit 0, TsSt c l (l.length, e)) := by
  simp (implicitDefEqProofs := false) [-getElem?_pos, -getElem?_neg, LsSt, bodyOf, Tryd.f7, nav, TsSt, lmsSt]
theorem upT_all (l : List TyLine) : upT l l.length = joined (linesT l) := by unfold upT; rw [List.take_of_length_le (by simp [linesT])]
theorem fn_sStoreText : Fn Tryd.prog 7 FStoreText := by
  refine Fn.con [(22, FDig), (23, FLetT)] (by simp [fn_sDigits, fn_l9Letter]) mixed (fn := Tryd.f7) Tryd.func7 rfl rfl (by kernel_rfl) 1 (by decide) (fun _ => rfl) lmsSt (fun x hx => ⟨x.2.length + 1, ?_⟩)
  obtain ⟨c, l⟩ := x
  obtain ⟨h1, h2, h3⟩ := hx
  simp only at h1 h2 h3 ⊢
  obtain ⟨e', hloop⟩ := steps (P := Tryd.prog) (cal := tabCal (tabOf [(22, FDig), (23, FLetT)])) (k := l.length + 1) (n0 := 1) (b := 0) (lm := lmsSt) (c := LsSt) l.length (TsSt c l) (fun i e hi => stepsSt hi (by omega) h3) (fun e => endsSt) 2 (by simp [keep, lmsSt, TsSt, look]) (by omega)
  have hz := upT_zero l
  simp [LsSt, bodyOf, Tryd.f7, nav, TsSt, tabOf, hz] at hloop
  simp (implicitDefEqProofs := false) [-getElem?_pos, -getElem?_neg, Tryd.f7, cI_Store, ex_loop, hloop, lmsSt, upT_all, storeText]
/-! ### impl -/
noncomputable def LiSt : Code := nav [1,1,0,1,0,0] (bodyOf Tryd.f9)
def lmiSt : Nat → List Nat × Nat := fun _ => ([3, 7, 8, 9], 4)
def TiSt (x0 : Option Blk) (l : List TyLine) (s : Nat × Nat × Nat × Nat × Option Blk) : St := if s.1 = 0 then ⟨[(3, .one (.lit (.slice none 0 0))), (7, .one (.sl false 74 (l.map (cI_Line false)))), (8, .one (.lit (.int .i64 l.length))), (9, .one (.lit (.int .i64 0)))], [none, x0], s.2.2.2.1⟩
  else ⟨[(3, .one (.ow 4 s.2.1)), (7, .one (.sl false 74 (l.map (cI_Line false)))), (8, .one (.lit (.int .i64 l.length))), (9, .one (.lit (.int .i64 s.1)))], [none, x0, s.2.2.2.2, none, some (.rows s.2.1 s.2.2.1 9 (strs ((linesT l).take s.1)))], s.2.2.2.1⟩
theorem dr_iSt : drawn (opsOf (nav [1,1,0,0,1] LiSt)) = some ([0, 1, 2, 3, 5, 6, 9, 10, 11], [4, 7, 8, 12, 13, 14, 15, 16]) := by kernel_rfl
theorem stepiSt {x0 : Option Blk} {l : List TyLine} {i k : Nat} {e : Nat × Nat × Nat × Option Blk} (hi : i < l.length) (hl : l.length ≤ 3000000000000) (hok : ∀ y ∈ l, ok_Line y) :
    ∃ e', kept 1 (lmiSt 0) (exec Tryd.prog (tabCal (tabOf [(25, FDig), (26, FLetT), (27, FJoin)])) k 1 lmiSt 0 LiSt (TiSt x0 l (i, e))) = some (.norm, TiSt x0 l (i + 1, e')) := by
  have hx : l[i]? = some l[i] := List.getElem?_eq_getElem hi
  have hi' : (i : Int) < l.length := by omega
  have hw := wrap_succ hi (by omega)
  have ho := hok _ (List.getElem_mem hi)
  have b1 : i64 (l[i].1.length : Int) := ⟨by omega, by have := ho.1.1; omega⟩
  have b3 : i64 (l[i].2.2.length : Int) := ⟨by omega, by have := ho.2.2.1; omega⟩
  have c1 := callDig b1
  have c2 := callLetT l[i].2.1
  have c3 := callDig b3
  have s1 := dig_size b1
  have s2 := letT_size l[i].2.1
  have s3 := dig_size b3
  have hd := dr_iSt
  simp only [LiSt, bodyOf, Tryd.f9, nav, opsOf, Option.getD_some] at hd
  have e2 := fun P T x y => b_cat P T x y (dig l[i].1.length) (letT l[i].2.1) (by omega)
  have e3 : ∀ P T x y, binV P .add T x y (.string (dig l[i].1.length ++ letT l[i].2.1)) (.string (dig l[i].2.2.length)) = some (.string (lineT l[i])) := fun P T x y => by rw [b_cat _ _ _ _ _ _ (by rw [ba_size]; omega)]; rfl
  obtain ⟨hv, cv, ep, x2⟩ := e
  have ht : strs ((linesT l).take i) ++ [[.lit (.string (lineT l[i]))]] = strs ((linesT l).take (i + 1)) := by
    rw [strs_snoc, List.take_succ_eq_append_getElem (by simpa [linesT] using hi)]
    simp [linesT]
  by_cases h0 : i = 0
  · subst h0
    have h1 : [[V.lit (.string (lineT l[0]))]] = strs ((linesT l).take 1) := ht
    have hw0 : IntKind.i64.wrap 1 = 1 := wrap_id (by omega) (by omega)
    refine ⟨(ep + 5, ep + 5, ep + 6, some (.box ep (cI_Line false l[0]))), ?_⟩
    simp (implicitDefEqProofs := false) [-getElem?_pos, -getElem?_neg, LiSt, bodyOf, Tryd.f9, nav, TiSt, lmiSt, hx, cI_Line, hi', hi, ex_draw2 _ _ hd, c1, c2, c3, e2, e3, hw0]
    exact h1
  · have hm : min i (linesT l).length = i := by simp [linesT]; omega
    have hsz : (i + 1) * 16 ≤ 140737488355328 := by omega
    refine ⟨(ep + 5, cv, ep + 6, x2), ?_⟩
    simp (implicitDefEqProofs := false) [-getElem?_pos, -getElem?_neg, LiSt, bodyOf, Tryd.f9, nav, TiSt, lmiSt, hx, cI_Line, hi', hi, ex_draw2 _ _ hd, c1, c2, c3, e2, e3, hw, h0, ht, hm, hsz]
theorem endiSt {x0 : Option Blk} {l : List TyLine} {e : Nat × Nat × Nat × Option Blk} {k : Nat} {cal : Cal} : kept 1 (lmiSt 0) (exec Tryd.prog cal k 1 lmiSt 0 LiSt (TiSt x0 l (l.length, e))) = some (.exit 0, TiSt x0 l (l.length, e)) := by
  by_cases h0 : l.length = 0
  · simp only [TiSt, h0, if_true]
    simp (implicitDefEqProofs := false) [-getElem?_pos, -getElem?_neg, LiSt, bodyOf, Tryd.f9, nav, lmiSt]
  · simp only [TiSt, h0, if_false]
    simp (implicitDefEqProofs := false) [-getElem?_pos, -getElem?_neg, LiSt, bodyOf, Tryd.f9, nav, lmiSt]
theorem fn_iStoreText : Fn Tryd.prog 9 FStoreText Tab := by
  refine Fn.con [(25, FDig), (26, FLetT), (27, FJoin)] (by simp [fn_iDigits, fn_letterText.any, fn_Join.any]) mixed (fn := Tryd.f9) Tryd.func9 rfl rfl (by kernel_rfl) 1 (by decide) (fun _ => rfl) lmiSt (fun x hx => ⟨x.2.length + 1, ?_⟩) stab_tab
  obtain ⟨c, l⟩ := x
  obtain ⟨h1, h2, h3⟩ := hx
  simp only at h1 h2 h3 ⊢
  obtain ⟨⟨hv, cv, ep, x2⟩, hloop⟩ := steps (P := Tryd.prog) (cal := tabCal (tabOf [(25, FDig), (26, FLetT), (27, FJoin)])) (k := l.length + 1) (n0 := 1) (b := 0) (lm := lmiSt) (c := LiSt) l.length (TiSt (some (.box 1 [.lit (.int .i64 c), .sl false 74 (l.map (cI_Line false))])) l) (fun i e hi => stepiSt hi (by omega) h3) (fun e => endiSt) (0, 0, 2, none) (by simp [keep, lmiSt, TiSt, look]) (by omega)
  by_cases h0 : l.length = 0
  · obtain rfl : l = [] := List.eq_nil_of_length_eq_zero h0
    have cn := callJoinNil
    have hn : joined [] = joined (linesT []) := rfl
    simp [LiSt, bodyOf, Tryd.f9, nav, TiSt, tabOf] at hloop
    simp (implicitDefEqProofs := false) [-getElem?_pos, -getElem?_neg, Tryd.f9, cI_Store, ex_loop, hloop, lmiSt, cn, storeText, hn]
  · have hs := joined_lines h3
    have hl2 : (linesT l).length = l.length := by simp [linesT]
    have cj := callJoin (l := linesT l) (by omega) (by omega)
    have ht : (linesT l).take l.length = linesT l := List.take_of_length_le (by omega)
    simp [LiSt, bodyOf, Tryd.f9, nav, TiSt, tabOf, h0, ht] at hloop
    simp (implicitDefEqProofs := false) [-getElem?_pos, -getElem?_neg, Tryd.f9, cI_Store, ex_loop, hloop, lmiSt, cj, storeText]
end Go.Proofs.YtjdhdpbdaabdmaaDoor.Vm
