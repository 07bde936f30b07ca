/-
  The row of FnExactSameWords: the program's law, as the small machine tells it, tells true. No conditions.
-/
import Derived.Test.YtanglbgincgmaaaRows
import Derived.Test.YtanglbgincgmaaaVmLSame
import Derived.Test.YtanglbgincgmaaaVmOpens
import Derived.WalkKit
import Derived.ProofKit
import Derived.OpenShut
import Derived.ShutString
import Derived.ChangeOld
import Derived.Below
import Derived.SizedLaws
namespace Go.Proofs.Ytanglbgincgmaaa.fnExactSameWords
open Go.ChangeShapes Go.WideShapes Go.ChangeAt Go.RowKit Go.Proofs.Ytanglbgincgmaaa.Vm
open Go.ChangeMaps (open_string shut_string)
set_option linter.unusedVariables false
theorem own : ownKnob Try.prog.godebug = none := by kernel_rfl
theorem laidOut : laidOutB Try.prog = true := by kernel_rfl
theorem o3 : Opens Try.prog 3 1 (fun x : Int => [V.lit (.int .i64 x)]) (fun x => (Lit.int .i64 x).wf = true) := opens_int (by exact Try.underlying3) (by kernel_rfl)
theorem b3 : Try.prog.bytesOf 3 = 8 := by kernel_rfl
theorem o31 : Opens Try.prog 31 1 (fun x : (List Int) => [V.sl false 3 (x.map fun (y0 : Int) => [V.lit (.int .i64 y0)])]) (fun x => (x.length * 8 ≤ 140737488351232 ∧ ∀ y0 ∈ x, (Lit.int .i64 y0).wf = true)) := (opens_slice (by exact Try.underlying31) (by kernel_rfl) o3).imp (fun x h => by rw [b3] at h; exact h)
theorem b31 : Try.prog.bytesOf 31 = 24 := by kernel_rfl
theorem o38 : Opens Try.prog 38 1 (fun x : (List (List Int)) => [V.sl false 31 (x.map fun (y0 : (List Int)) => [V.sl false 3 (y0.map fun (y1 : Int) => [V.lit (.int .i64 y1)])])]) (fun x => (x.length * 24 ≤ 140737488351232 ∧ ∀ y0 ∈ x, (y0.length * 8 ≤ 140737488351232 ∧ ∀ y1 ∈ y0, (Lit.int .i64 y1).wf = true))) := (opens_slice (by exact Try.underlying38) (by kernel_rfl) o31).imp (fun x h => by rw [b31] at h; exact h)
theorem b38 : Try.prog.bytesOf 38 = 24 := by kernel_rfl
theorem o22 : Opens Try.prog 22 1 (fun x : (List (List (List Int))) => [V.sl false 38 (x.map fun (y0 : (List (List Int))) => [V.sl false 31 (y0.map fun (y1 : (List Int)) => [V.sl false 3 (y1.map fun (y2 : Int) => [V.lit (.int .i64 y2)])])])]) (fun x => (x.length * 24 ≤ 140737488351232 ∧ ∀ y0 ∈ x, (y0.length * 24 ≤ 140737488351232 ∧ ∀ y1 ∈ y0, (y1.length * 8 ≤ 140737488351232 ∧ ∀ y2 ∈ y1, (Lit.int .i64 y2).wf = true)))) := (opens_slice (by exact Try.underlying22) (by kernel_rfl) o38).imp (fun x h => by rw [b38] at h; exact h)
theorem o24 : Opens Try.prog 24 1 (fun x : ((List (List (List Int)))) => [V.sl false 38 (x.map fun (y0 : (List (List Int))) => [V.sl false 31 (y0.map fun (y1 : (List Int)) => [V.sl false 3 (y1.map fun (y2 : Int) => [V.lit (.int .i64 y2)])])])]) (fun x => ((x.length * 24 ≤ 140737488351232 ∧ ∀ y0 ∈ x, (y0.length * 24 ≤ 140737488351232 ∧ ∀ y1 ∈ y0, (y1.length * 8 ≤ 140737488351232 ∧ ∀ y2 ∈ y1, (Lit.int .i64 y2).wf = true))))) := opens_struct (fs := #[_]) (by exact Try.underlying24) (by kernel_rfl) (opensF_one rfl o22) (fun x => x) (fun x => x) (fun _ => rfl)
set_option maxRecDepth 100000 in
theorem lifted (os : Os) (started : os.Started) (H : Type) (enc : TypeId × Value → H) :
    ReturnsInHanded {} Try.checked os 5 .any (Rows.fnExactSameWordsSpec.pre6 enc Try.prog Try.f5 Rows.fnExactSameWordsRow.domain false) (Rows.fnExactSameWordsSpec.post enc Try.prog Try.f5 false true false false) := by
  refine returnsInHanded_of_change_sized (C := Try.checked) own started (by kernel_rfl) Try.func5
    (ChangeSpec.witness6 (enc := enc) (C := Try.checked) false ⟨#[], #[.agg #[.slice none 0 0], .agg #[.slice none 0 0]], []⟩ 8 (by kernel_rfl) (by kernel_rfl) (by kernel_rfl) (by kernel_rfl)) ?_
  intro W base args ds gs before hval0 hW hcnd hsz0 _
  have hsz : ∀ n ∈ DataW.weightsEach Try.prog (Try.f5.params.toList ++ Rows.fnExactSameWordsSpec.plain.varTypes Try.prog) (ds ++ gs), n ≤ reachBytes := fun n hn => of_decide_eq_true (List.all_eq_true.1 hsz0 n hn)
  have hval : ∀ (j : Nat) t v, Try.f5.params[j]? = some t → args[j]? = some v → Value.okWide Try.prog W .any base t v := hval0
  have hW' := hW
  obtain ⟨p, q, hA0, hV, rfl, hfz, hnd⟩ := hW
  have hA : DataW.TrodAll enc Try.prog W 0 (fun _ => true) true Try.f5.params.toList args.toList ds p := hA0
  rw [Try.params5] at hA hval hsz
  obtain ⟨v0, vs0, d0, ds0, p0, q0, hargs, rfl, rfl, h0, r0⟩ := trodAll_cons hA
  obtain ⟨v1, vs1, d1, ds1, p1, q1, rfl, rfl, rfl, h1, r1⟩ := trodAll_cons r0
  obtain ⟨rfl, rfl, rfl⟩ := trodAll_nil r1
  obtain rfl : args = #[v0, v1] := by cases args; simp_all
  obtain ⟨rfl, rfl⟩ := trodVars_none hV
  have k0 := h0
  have lt0 : ∀ x ∈ p0, x.block < W.heap.size := by obtain ⟨m, hm⟩ := k0; exact DataW.trod_lt m _ _ _ hm
  have k1 := h1
  have lt1 : ∀ x ∈ p1, x.block < W.heap.size := by obtain ⟨m, hm⟩ := k1; exact DataW.trod_lt m _ _ _ hm
  obtain ⟨x0, a0, g0⟩ := row_struct o24 (fs := #[_]) (by exact Try.underlying24) (hval 0 24 v0 rfl rfl) h0 (fun n hn => hsz n (wEach_mem (j := 0) rfl rfl n hn))
  obtain ⟨x1, a1, g1⟩ := row_struct o24 (fs := #[_]) (by exact Try.underlying24) (hval 1 24 v1 rfl rfl) h1 (fun n hn => hsz n (wEach_mem (j := 1) rfl rfl n hn))
  clear hA0 hval0 hsz0 hsz
  refine (Fn.law fn_laws_FnExactSameWords ((fun x0 x1 (g0 : rowG x0) (g1 : rowG x1) => c_laws_FnExactSameWords (lawSameWords g0 g1)) x0 x1 g0 g1) trivial rfl (args_cons a0 (args_cons a1 args_nil))).mono fun e W' ⟨he, bel⟩ => ?_
  subst he
  exact ⟨_, rfl, _, _, _, [], _, [], hW', trodAll_mk1 (shut_bool Try.underlying4 _), (trodAll_cons_mk (Below.trod laidOut (by kernel_rfl) (of_decide_eq_true (by kernel_rfl)) k0 bel lt0) (trodAll_cons_mk (Below.trod laidOut (by kernel_rfl) (of_decide_eq_true (by kernel_rfl)) k1 bel lt1) trodAll_mk0)), rfl, bel.frame _, fun h => by cases h⟩
theorem over : Rows.fnExactSameWordsRow.holds Try.pinned (OpenSpec.ofChange Rows.fnExactSameWordsSpec) :=
  OpenClaim.holds_of_wide 5 Try.f5 rfl rfl rfl rfl rfl rfl rfl ⟨rfl, rfl, rfl, rfl, rfl⟩ rfl rfl rfl rfl rfl (by kernel_rfl) Try.func5 (by kernel_rfl)
    (of_decide_eq_true (by kernel_rfl)) (by unfold Func.isWrapper; first | (rw [if_pos (by decide +kernel)]; kernel_rfl) | (rw [if_neg (by decide +kernel)]; exact ⟨rfl, rfl⟩))
    (fun os started H enc _ => lifted os started H enc)
theorem proved : Rows.FnExactSameWordsSaid := over
#print axioms proved
end Go.Proofs.Ytanglbgincgmaaa.fnExactSameWords
namespace Go.Proofs.Ytanglbgincgmaaa
/-- The row, under a short name, for the claim. -/
theorem fnExactSameWords_holds : Rows.FnExactSameWordsSaid := fnExactSameWords.proved
end Go.Proofs.Ytanglbgincgmaaa
