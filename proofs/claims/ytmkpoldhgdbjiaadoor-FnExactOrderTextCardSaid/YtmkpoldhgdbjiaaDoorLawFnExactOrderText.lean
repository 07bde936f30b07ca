/-
  The row of FnExactOrderText: the program's law, as the small machine tells it, tells true. No conditions.
-/
import Derived.Test.YtmkpoldhgdbjiaaDoorRows
import Derived.Test.YtmkpoldhgdbjiaaDoorCards
import Derived.Test.YtmkpoldhgdbjiaaDoorTie
import Derived.Test.YtmkpoldhgdbjiaaDoorVmOrd
import Derived.Test.YtmkpoldhgdbjiaaDoorVmOpens
import Derived.WalkKit
import Derived.ProofKit
import Derived.OpenShut
import Derived.ShutString
import Derived.ChangeOld
import Derived.Below
import Derived.SizedLaws
import Derived.LaidMore
import Derived.Stop.Joined
import Derived.Stop.LaidErr
import Derived.SevenTiedAt
import Derived.Lib.LaidTab
namespace Go.Proofs.YtmkpoldhgdbjiaaDoor.fnExactOrderText
open Go.ChangeShapes Go.WideShapes Go.ChangeAt Go.RowKit Go.Proofs.YtmkpoldhgdbjiaaDoor.Vm
open Go.ChangeMaps (open_string shut_string)
set_option linter.unusedVariables false
theorem own : ownKnob Tryd.prog.godebug = none := by kernel_rfl
theorem laidOut : laidOutB Tryd.prog = true := by kernel_rfl
theorem o3 : Opens Tryd.prog 3 1 (fun x : Int => [V.lit (.int .i64 x)]) (fun x => (Lit.int .i64 x).wf = true) := opens_int (by exact Tryd.underlying3) (by kernel_rfl)
theorem o9 : Opens Tryd.prog 9 1 (fun x : ByteArray => [V.lit (.string x)]) (fun x => x.size ≤ 140737488351232) := opens_string (by exact Tryd.underlying9) (by kernel_rfl)
theorem b3 : Tryd.prog.bytesOf 3 = 8 := by kernel_rfl
theorem o29 : Opens Tryd.prog 29 1 (fun x : (List Int) => [V.sl false 3 (x.map fun (y0 : Int) => [V.lit (.int .i64 y0)])]) (fun x => (x.length * 8 ≤ 140737488351232 ∧ ∀ y0 ∈ x, (Lit.int .i64 y0).wf = true)) := (opens_slice (by exact Tryd.underlying29) (by kernel_rfl) o3).imp (fun x h => by rw [b3] at h; exact h)
theorem o31 : Opens Tryd.prog 31 6 (fun x : (Int × Int × Int × Int × ByteArray × (List Int)) => ([V.lit (.int .i64 x.1)] ++ ([V.lit (.int .i64 x.2.1)] ++ ([V.lit (.int .i64 x.2.2.1)] ++ ([V.lit (.int .i64 x.2.2.2.1)] ++ ([V.lit (.string x.2.2.2.2.1)] ++ [V.sl false 3 (x.2.2.2.2.2.map fun (y0 : Int) => [V.lit (.int .i64 y0)])])))))) (fun x => ((Lit.int .i64 x.1).wf = true ∧ (Lit.int .i64 x.2.1).wf = true ∧ (Lit.int .i64 x.2.2.1).wf = true ∧ (Lit.int .i64 x.2.2.2.1).wf = true ∧ x.2.2.2.2.1.size ≤ 140737488351232 ∧ (x.2.2.2.2.2.length * 8 ≤ 140737488351232 ∧ ∀ y0 ∈ x.2.2.2.2.2, (Lit.int .i64 y0).wf = true))) := opens_struct (fs := #[_, _, _, _, _, _]) (by exact Tryd.underlying31) (by kernel_rfl) (opensF_cons rfl o3 (opensF_cons rfl o3 (opensF_cons rfl o3 (opensF_cons rfl o3 (opensF_cons rfl o9 (opensF_one rfl o29)))))) (fun x => x) (fun x => x) (fun _ => rfl)
theorem door_met (os : Os) (args : Array Value) : laidMetH Tryd.prog Rows.fnExactOrderTextRow.laid ((World.doorLaid Tryd.prog 400 os).forCall (fun _ _ => 0) ⟨#[], args, []⟩).memory :=
  laidMetH_of_parts3 (fuel := 8) (laidMet_of_run' 8 (by kernel_rfl) (by kernel_rfl)) (by kernel_rfl) (by kernel_rfl)
theorem tab {W : World} (h : laidMetH Tryd.prog Rows.fnExactOrderTextRow.laid W) : Tab W := by
  rw [MakeChecks.laidMetH_plain _ _ _ (by kernel_rfl)] at h
  have h' : laidMet Tryd.prog [("math/bits.deBruijn32tab", Rows.laid_math_bits_deBruijn32tab), ("math/bits.deBruijn64tab", Rows.laid_math_bits_deBruijn64tab), ("internal/strconv.uint64pow10", Rows.laid_internal_strconv_uint64pow10)] W := h
  have h2 := h'.tail.tail
  exact Lib.tabIs_of_head (k := .u64) (zs := Lib.pow10Tab) (rest := _) (g := 1) (t := 64) (e := 55) (n := 20) (by kernel_rfl) (by kernel_rfl) Tryd.underlying64 Tryd.underlying55 (by kernel_rfl) (by kernel_rfl) h2
set_option maxRecDepth 100000 in
theorem lifted (os : Os) (started : os.Started) (H : Type) (enc : TypeId × Value → H) :
    ReturnsInHanded {} Tryd.checked os 4 .any (fun w args => (Rows.fnExactOrderTextSpec.pre enc Tryd.prog Tryd.f4 Rows.fnExactOrderTextRow.domain false w args ∧ laidMetH Tryd.prog Rows.fnExactOrderTextRow.laid w) ∧ sizedMet enc Tryd.prog Tryd.f4 (OpenSpec.ofChange Rows.fnExactOrderTextSpec) false w args) (Rows.fnExactOrderTextSpec.post enc Tryd.prog Tryd.f4 false true false false) := by
  refine returnsInHanded_of_change_and (C := Tryd.checked) (X := fun w _ => laidMetH Tryd.prog Rows.fnExactOrderTextRow.laid w) (fun _ _ _ hh h => h.of_heap hh) own started (by kernel_rfl) Tryd.func4
    (ChangeSpec.witness_shaped (enc := enc) (C := Tryd.checked) (os := os) (X := fun w _ => laidMetH Tryd.prog Rows.fnExactOrderTextRow.laid w) false (World.doorLaid Tryd.prog 400 os) #[.agg #[.int .i64 0, .int .i64 0, .int .i64 0, .int .i64 0, .string ByteArray.empty, .slice none 0 0]] 8 rfl (World.shaped_of_RefB (by kernel_rfl) (by kernel_rfl)) (by kernel_rfl) (by kernel_rfl) (by kernel_rfl) (door_met os _)) ?_
  intro W base args ds gs before hval0 hW _ hsz0 hL _
  have hsz : ∀ n ∈ DataW.weightsEach Tryd.prog (Tryd.f4.params.toList ++ Rows.fnExactOrderTextSpec.plain.varTypes Tryd.prog) (ds ++ gs), n ≤ reachBytes := fun n hn => of_decide_eq_true (List.all_eq_true.1 hsz0 n hn)
  have hval : ∀ (j : Nat) t v, Tryd.f4.params[j]? = some t → args[j]? = some v → Value.okWide Tryd.prog W .any base t v := hval0
  have hW' := hW
  obtain ⟨p, q, hA0, hV, rfl, hfz, hnd⟩ := hW
  have hA : DataW.TrodAll enc Tryd.prog W 0 (fun _ => true) true Tryd.f4.params.toList args.toList ds p := hA0
  rw [Tryd.params4] at hA hval hsz
  obtain ⟨v0, vs0, d0, ds0, p0, q0, hargs, rfl, rfl, h0, r0⟩ := trodAll_cons hA
  obtain ⟨rfl, rfl, rfl⟩ := trodAll_nil r0
  obtain rfl : args = #[v0] := by cases args; simp_all
  obtain ⟨rfl, rfl⟩ := trodVars_none hV
  have k0 := h0
  have lt0 : ∀ x ∈ p0, x.block < W.heap.size := by obtain ⟨m, hm⟩ := k0; exact DataW.trod_lt m _ _ _ hm
  obtain ⟨x0, a0, g0⟩ := row_struct o31 (fs := #[_, _, _, _, _, _]) (by exact Tryd.underlying31) (hval 0 31 v0 rfl rfl) h0 (fun n hn => hsz n (wEach_mem (j := 0) rfl rfl n hn))
  clear hA0 hval0 hsz0 hsz
  refine (Fn.law fn_lawOr (callLawOr x0 g0) (tab hL) rfl (args_cons a0 args_nil)).mono fun e W' ⟨he, bel⟩ => ?_
  subst he
  exact ⟨_, rfl, _, _, _, [], _, [], hW', trodAll_mk1 (shut_bool Tryd.underlying4 _), (trodAll_cons_mk (Below.trod laidOut (by kernel_rfl) (of_decide_eq_true (by kernel_rfl)) k0 bel lt0) trodAll_mk0), rfl, bel.frame _, fun h => by cases h⟩
theorem over : Rows.fnExactOrderTextRow.holds Tryd.pinned (OpenSpec.ofChange Rows.fnExactOrderTextSpec) :=
  OpenClaim.holds_of_wide 4 Tryd.f4 rfl rfl rfl rfl rfl rfl rfl ⟨rfl, rfl, rfl, rfl, rfl⟩ rfl rfl rfl rfl rfl (by kernel_rfl) Tryd.func4 (by kernel_rfl)
    (of_decide_eq_true (by kernel_rfl)) (by unfold Func.isWrapper; first | (rw [if_pos (by decide +kernel)]; kernel_rfl) | (rw [if_neg (by decide +kernel)]; exact ⟨rfl, rfl⟩))
    (fun os started H enc _ => lifted os started H enc)
theorem rowsaid : Rows.FnExactOrderTextSaid := over
theorem proved : Rows.FnExactOrderTextCardSaid :=
  Claim7.holds_tied_plain_at .later [] [.data, .data, .data] true (true, "7dd4872f4bac0b12bb63f482d50b3d6e708bc69ea52ad1eb11b989becb4a1b48") false
    rowsaid (fun _ h => by cases h) (by kernel_rfl) (fun _ h => by cases h) fnExactOrderText_row_tie rfl ⟨rfl, rfl⟩ (by kernel_rfl) rfl
    (fun f fn hf hfn => by
      obtain rfl : f = 4 := Option.some.inj ((show Tryd.prog.funcNamed "loop.example/g00485/laws.FnExactOrderText" = some 4 by kernel_rfl).symm.trans hf) |>.symm
      obtain rfl : fn = Tryd.f4 := (Option.some.inj (Tryd.func4.symm.trans hfn)).symm
      exact ⟨by kernel_rfl, fun j t ht => by
        rw [Tryd.params4] at ht
        have hm : t ∈ [31] := by simpa using Array.mem_of_getElem? ht
        have hall : ([31].all fun u => !Tryd.prog.wantsStandIn u) = true := by kernel_rfl
        exact (show Tryd.prog.wantsStandIn t = false by simpa using List.all_eq_true.1 hall t hm)⟩)
    (by kernel_rfl)
#print axioms proved
end Go.Proofs.YtmkpoldhgdbjiaaDoor.fnExactOrderText
namespace Go.Proofs.YtmkpoldhgdbjiaaDoor
/-- The card, under a short name, for the claim. -/
theorem fnExactOrderText_holds : Rows.FnExactOrderTextCardSaid := fnExactOrderText.proved
end Go.Proofs.YtmkpoldhgdbjiaaDoor
