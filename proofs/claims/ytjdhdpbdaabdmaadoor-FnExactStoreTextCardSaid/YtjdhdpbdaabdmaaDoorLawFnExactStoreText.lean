/-
  The row of FnExactStoreText: the program's law, as the small machine tells it, tells true. No conditions.
-/
import Derived.Test.YtjdhdpbdaabdmaaDoorRows
import Derived.Test.YtjdhdpbdaabdmaaDoorCards
import Derived.Test.YtjdhdpbdaabdmaaDoorTie
import Derived.Test.YtjdhdpbdaabdmaaDoorVmStoreL
import Derived.Test.YtjdhdpbdaabdmaaDoorVmOpens
import Derived.WalkKit
import Derived.ProofKit
import Derived.OpenShut
import Derived.ShutString
import Derived.ChangeOld
import Derived.Below
import Derived.SizedLaws
import Derived.LaidMore
import Derived.Stop.Joined
import Derived.Stop.LaidErr
import Derived.SevenTiedAt
import Derived.Lib.LaidTab
namespace Go.Proofs.YtjdhdpbdaabdmaaDoor.fnExactStoreText
open Go.ChangeShapes Go.WideShapes Go.ChangeAt Go.RowKit Go.Proofs.YtjdhdpbdaabdmaaDoor.Vm
open Go.ChangeMaps (open_string shut_string)
set_option linter.unusedVariables false
theorem own : ownKnob Tryd.prog.godebug = none := by kernel_rfl
theorem laidOut : laidOutB Tryd.prog = true := by kernel_rfl
theorem o3 : Opens Tryd.prog 3 1 (fun x : Int => [V.lit (.int .i64 x)]) (fun x => (Lit.int .i64 x).wf = true) := opens_int (by exact Tryd.underlying3) (by kernel_rfl)
theorem b3 : Tryd.prog.bytesOf 3 = 8 := by kernel_rfl
theorem o33 : Opens Tryd.prog 33 1 (fun x : (List Int) => [V.sl false 3 (x.map fun (y0 : Int) => [V.lit (.int .i64 y0)])]) (fun x => (x.length * 8 ≤ 140737488351232 ∧ ∀ y0 ∈ x, (Lit.int .i64 y0).wf = true)) := (opens_slice (by exact Tryd.underlying33) (by kernel_rfl) o3).imp (fun x h => by rw [b3] at h; exact h)
theorem o152 : Opens Tryd.prog 152 2 (fun x : (Int × (List Int)) => ([V.lit (.int .i64 x.1)] ++ [V.sl false 3 (x.2.map fun (y0 : Int) => [V.lit (.int .i64 y0)])])) (fun x => ((Lit.int .i64 x.1).wf = true ∧ (x.2.length * 8 ≤ 140737488351232 ∧ ∀ y0 ∈ x.2, (Lit.int .i64 y0).wf = true))) := opens_struct (fs := #[_, _]) (by exact Tryd.underlying152) (by kernel_rfl) (opensF_cons rfl o3 (opensF_one rfl o33)) (fun x => x) (fun x => x) (fun _ => rfl)
theorem b152 : Tryd.prog.bytesOf 152 = 32 := by kernel_rfl
theorem o105 : Opens Tryd.prog 105 1 (fun x : (List (Int × (List Int))) => [V.sl false 152 (x.map fun (y0 : (Int × (List Int))) => ([V.lit (.int .i64 y0.1)] ++ [V.sl false 3 (y0.2.map fun (y1 : Int) => [V.lit (.int .i64 y1)])]))]) (fun x => (x.length * 32 ≤ 140737488351232 ∧ ∀ y0 ∈ x, ((Lit.int .i64 y0.1).wf = true ∧ (y0.2.length * 8 ≤ 140737488351232 ∧ ∀ y1 ∈ y0.2, (Lit.int .i64 y1).wf = true)))) := (opens_slice (by exact Tryd.underlying105) (by kernel_rfl) o152).imp (fun x h => by rw [b152] at h; exact h)
theorem o107 : Opens Tryd.prog 107 3 (fun x : ((List (Int × (List Int))) × Int × (List (Int × (List Int)))) => ([V.sl false 152 (x.1.map fun (y0 : (Int × (List Int))) => ([V.lit (.int .i64 y0.1)] ++ [V.sl false 3 (y0.2.map fun (y1 : Int) => [V.lit (.int .i64 y1)])]))] ++ ([V.lit (.int .i64 x.2.1)] ++ [V.sl false 152 (x.2.2.map fun (y0 : (Int × (List Int))) => ([V.lit (.int .i64 y0.1)] ++ [V.sl false 3 (y0.2.map fun (y1 : Int) => [V.lit (.int .i64 y1)])]))]))) (fun x => ((x.1.length * 32 ≤ 140737488351232 ∧ ∀ y0 ∈ x.1, ((Lit.int .i64 y0.1).wf = true ∧ (y0.2.length * 8 ≤ 140737488351232 ∧ ∀ y1 ∈ y0.2, (Lit.int .i64 y1).wf = true))) ∧ (Lit.int .i64 x.2.1).wf = true ∧ (x.2.2.length * 32 ≤ 140737488351232 ∧ ∀ y0 ∈ x.2.2, ((Lit.int .i64 y0.1).wf = true ∧ (y0.2.length * 8 ≤ 140737488351232 ∧ ∀ y1 ∈ y0.2, (Lit.int .i64 y1).wf = true))))) := opens_struct (fs := #[_, _, _]) (by exact Tryd.underlying107) (by kernel_rfl) (opensF_cons rfl o105 (opensF_cons rfl o3 (opensF_one rfl o105))) (fun x => x) (fun x => x) (fun _ => rfl)
theorem b107 : Tryd.prog.bytesOf 107 = 56 := by kernel_rfl
theorem o22 : Opens Tryd.prog 22 1 (fun x : (List ((List (Int × (List Int))) × Int × (List (Int × (List Int))))) => [V.sl false 107 (x.map fun (y0 : ((List (Int × (List Int))) × Int × (List (Int × (List Int))))) => ([V.sl false 152 (y0.1.map fun (y1 : (Int × (List Int))) => ([V.lit (.int .i64 y1.1)] ++ [V.sl false 3 (y1.2.map fun (y2 : Int) => [V.lit (.int .i64 y2)])]))] ++ ([V.lit (.int .i64 y0.2.1)] ++ [V.sl false 152 (y0.2.2.map fun (y1 : (Int × (List Int))) => ([V.lit (.int .i64 y1.1)] ++ [V.sl false 3 (y1.2.map fun (y2 : Int) => [V.lit (.int .i64 y2)])]))])))]) (fun x => (x.length * 56 ≤ 140737488351232 ∧ ∀ y0 ∈ x, ((y0.1.length * 32 ≤ 140737488351232 ∧ ∀ y1 ∈ y0.1, ((Lit.int .i64 y1.1).wf = true ∧ (y1.2.length * 8 ≤ 140737488351232 ∧ ∀ y2 ∈ y1.2, (Lit.int .i64 y2).wf = true))) ∧ (Lit.int .i64 y0.2.1).wf = true ∧ (y0.2.2.length * 32 ≤ 140737488351232 ∧ ∀ y1 ∈ y0.2.2, ((Lit.int .i64 y1.1).wf = true ∧ (y1.2.length * 8 ≤ 140737488351232 ∧ ∀ y2 ∈ y1.2, (Lit.int .i64 y2).wf = true)))))) := (opens_slice (by exact Tryd.underlying22) (by kernel_rfl) o107).imp (fun x h => by rw [b107] at h; exact h)
theorem o24 : Opens Tryd.prog 24 2 (fun x : (Int × (List ((List (Int × (List Int))) × Int × (List (Int × (List Int)))))) => ([V.lit (.int .i64 x.1)] ++ [V.sl false 107 (x.2.map fun (y0 : ((List (Int × (List Int))) × Int × (List (Int × (List Int))))) => ([V.sl false 152 (y0.1.map fun (y1 : (Int × (List Int))) => ([V.lit (.int .i64 y1.1)] ++ [V.sl false 3 (y1.2.map fun (y2 : Int) => [V.lit (.int .i64 y2)])]))] ++ ([V.lit (.int .i64 y0.2.1)] ++ [V.sl false 152 (y0.2.2.map fun (y1 : (Int × (List Int))) => ([V.lit (.int .i64 y1.1)] ++ [V.sl false 3 (y1.2.map fun (y2 : Int) => [V.lit (.int .i64 y2)])]))])))])) (fun x => ((Lit.int .i64 x.1).wf = true ∧ (x.2.length * 56 ≤ 140737488351232 ∧ ∀ y0 ∈ x.2, ((y0.1.length * 32 ≤ 140737488351232 ∧ ∀ y1 ∈ y0.1, ((Lit.int .i64 y1.1).wf = true ∧ (y1.2.length * 8 ≤ 140737488351232 ∧ ∀ y2 ∈ y1.2, (Lit.int .i64 y2).wf = true))) ∧ (Lit.int .i64 y0.2.1).wf = true ∧ (y0.2.2.length * 32 ≤ 140737488351232 ∧ ∀ y1 ∈ y0.2.2, ((Lit.int .i64 y1.1).wf = true ∧ (y1.2.length * 8 ≤ 140737488351232 ∧ ∀ y2 ∈ y1.2, (Lit.int .i64 y2).wf = true))))))) := opens_struct (fs := #[_, _]) (by exact Tryd.underlying24) (by kernel_rfl) (opensF_cons rfl o3 (opensF_one rfl o22)) (fun x => x) (fun x => x) (fun _ => rfl)
theorem door_met (os : Os) (args : Array Value) : laidMetH Tryd.prog Rows.fnExactStoreTextRow.laid ((World.doorLaid Tryd.prog 400 os).forCall (fun _ _ => 0) ⟨#[], args, []⟩).memory :=
  laidMetH_of_parts3 (fuel := 8) (laidMet_of_run' 8 (by kernel_rfl) (by kernel_rfl)) (by kernel_rfl) (by kernel_rfl)
theorem tab {W : World} (h : laidMetH Tryd.prog Rows.fnExactStoreTextRow.laid W) : Tab W := by
  rw [MakeChecks.laidMetH_plain _ _ _ (by kernel_rfl)] at h
  have h' : laidMet Tryd.prog [("math/bits.deBruijn32tab", Rows.laid_math_bits_deBruijn32tab), ("math/bits.deBruijn64tab", Rows.laid_math_bits_deBruijn64tab), ("internal/strconv.uint64pow10", Rows.laid_internal_strconv_uint64pow10)] W := h
  have h2 := h'.tail.tail
  exact Lib.tabIs_of_head (k := .u64) (zs := Lib.pow10Tab) (rest := _) (g := 1) (t := 171) (e := 165) (n := 20) (by kernel_rfl) (by kernel_rfl) Tryd.underlying171 Tryd.underlying165 (by kernel_rfl) (by kernel_rfl) h2
set_option maxRecDepth 100000 in
theorem lifted (os : Os) (started : os.Started) (H : Type) (enc : TypeId × Value → H) :
    ReturnsInHanded {} Tryd.checked os 3 .any (fun w args => (Rows.fnExactStoreTextSpec.pre enc Tryd.prog Tryd.f3 Rows.fnExactStoreTextRow.domain false w args ∧ laidMetH Tryd.prog Rows.fnExactStoreTextRow.laid w) ∧ sizedMet enc Tryd.prog Tryd.f3 (OpenSpec.ofChange Rows.fnExactStoreTextSpec) false w args) (Rows.fnExactStoreTextSpec.post enc Tryd.prog Tryd.f3 false true false false) := by
  refine returnsInHanded_of_change_and (C := Tryd.checked) (X := fun w _ => laidMetH Tryd.prog Rows.fnExactStoreTextRow.laid w) (fun _ _ _ hh h => h.of_heap hh) own started (by kernel_rfl) Tryd.func3
    (ChangeSpec.witness_shaped (enc := enc) (C := Tryd.checked) (os := os) (X := fun w _ => laidMetH Tryd.prog Rows.fnExactStoreTextRow.laid w) false (World.doorLaid Tryd.prog 400 os) #[.agg #[.int .i64 0, .slice none 0 0]] 8 rfl (World.shaped_of_RefB (by kernel_rfl) (by kernel_rfl)) (by kernel_rfl) (by kernel_rfl) (by kernel_rfl) (door_met os _)) ?_
  intro W base args ds gs before hval0 hW _ hsz0 hL _
  have hsz : ∀ n ∈ DataW.weightsEach Tryd.prog (Tryd.f3.params.toList ++ Rows.fnExactStoreTextSpec.plain.varTypes Tryd.prog) (ds ++ gs), n ≤ reachBytes := fun n hn => of_decide_eq_true (List.all_eq_true.1 hsz0 n hn)
  have hval : ∀ (j : Nat) t v, Tryd.f3.params[j]? = some t → args[j]? = some v → Value.okWide Tryd.prog W .any base t v := hval0
  have hW' := hW
  obtain ⟨p, q, hA0, hV, rfl, hfz, hnd⟩ := hW
  have hA : DataW.TrodAll enc Tryd.prog W 0 (fun _ => true) true Tryd.f3.params.toList args.toList ds p := hA0
  rw [Tryd.params3] at hA hval hsz
  obtain ⟨v0, vs0, d0, ds0, p0, q0, hargs, rfl, rfl, h0, r0⟩ := trodAll_cons hA
  obtain ⟨rfl, rfl, rfl⟩ := trodAll_nil r0
  obtain rfl : args = #[v0] := by cases args; simp_all
  obtain ⟨rfl, rfl⟩ := trodVars_none hV
  have k0 := h0
  have lt0 : ∀ x ∈ p0, x.block < W.heap.size := by obtain ⟨m, hm⟩ := k0; exact DataW.trod_lt m _ _ _ hm
  obtain ⟨x0, a0, g0⟩ := row_struct o24 (fs := #[_, _]) (by exact Tryd.underlying24) (hval 0 24 v0 rfl rfl) h0 (fun n hn => hsz n (wEach_mem (j := 0) rfl rfl n hn))
  clear hA0 hval0 hsz0 hsz
  refine (Fn.law fn_lawStore (callLawStore x0 g0) (tab hL) rfl (args_cons a0 args_nil)).mono fun e W' ⟨he, bel⟩ => ?_
  subst he
  exact ⟨_, rfl, _, _, _, [], _, [], hW', trodAll_mk1 (shut_bool Tryd.underlying4 _), (trodAll_cons_mk (Below.trod laidOut (by kernel_rfl) (of_decide_eq_true (by kernel_rfl)) k0 bel lt0) trodAll_mk0), rfl, bel.frame _, fun h => by cases h⟩
theorem over : Rows.fnExactStoreTextRow.holds Tryd.pinned (OpenSpec.ofChange Rows.fnExactStoreTextSpec) :=
  OpenClaim.holds_of_wide 3 Tryd.f3 rfl rfl rfl rfl rfl rfl rfl ⟨rfl, rfl, rfl, rfl, rfl⟩ rfl rfl rfl rfl rfl (by kernel_rfl) Tryd.func3 (by kernel_rfl)
    (of_decide_eq_true (by kernel_rfl)) (by unfold Func.isWrapper; first | (rw [if_pos (by decide +kernel)]; kernel_rfl) | (rw [if_neg (by decide +kernel)]; exact ⟨rfl, rfl⟩))
    (fun os started H enc _ => lifted os started H enc)
theorem rowsaid : Rows.FnExactStoreTextSaid := over
theorem proved : Rows.FnExactStoreTextCardSaid :=
  Claim7.holds_tied_plain_at .later [] [.data, .data, .data] true (true, "bd1e927bf7a6bad5e491e98df87aca56def555dbcfc10f8fad977a4352f21493") false
    rowsaid (fun _ h => by cases h) (by kernel_rfl) (fun _ h => by cases h) fnExactStoreText_row_tie rfl ⟨rfl, rfl⟩ (by kernel_rfl) rfl
    (fun f fn hf hfn => by
      obtain rfl : f = 3 := Option.some.inj ((show Tryd.prog.funcNamed "loop.example/g00485/laws.FnExactStoreText" = some 3 by kernel_rfl).symm.trans hf) |>.symm
      obtain rfl : fn = Tryd.f3 := (Option.some.inj (Tryd.func3.symm.trans hfn)).symm
      exact ⟨by kernel_rfl, fun j t ht => by
        rw [Tryd.params3] at ht
        have hm : t ∈ [24] := by simpa using Array.mem_of_getElem? ht
        have hall : ([24].all fun u => !Tryd.prog.wantsStandIn u) = true := by kernel_rfl
        exact (show Tryd.prog.wantsStandIn t = false by simpa using List.all_eq_true.1 hall t hm)⟩)
    (by kernel_rfl)
#print axioms proved
end Go.Proofs.YtjdhdpbdaabdmaaDoor.fnExactStoreText
namespace Go.Proofs.YtjdhdpbdaabdmaaDoor
/-- The card, under a short name, for the claim. -/
theorem fnExactStoreText_holds : Rows.FnExactStoreTextCardSaid := fnExactStoreText.proved
end Go.Proofs.YtjdhdpbdaabdmaaDoor
