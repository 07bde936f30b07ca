/-
  The row of FnExactInOrder: what is plain of it (PureInOrder.law) and what the program does, put together. No conditions.
-/
import Derived.Test.YtmkpoldhgdbjiaaRows
import Derived.Test.YtmkpoldhgdbjiaaPFnExactInOrderx2
import Derived.Test.YtmkpoldhgdbjiaaPureInOrder
import Derived.Test.YtmkpoldhgdbjiaaOpens
import Derived.WalkKit
import Derived.ProofKit
import Derived.OpenShut
import Derived.ShutString
import Derived.ChangeOld
import Derived.Below
import Derived.SizedLaws
namespace Go.Proofs.Ytmkpoldhgdbjiaa.fnExactInOrder
open Go.ChangeShapes Go.WideShapes Go.ChangeAt Go.RowKit Go.Proofs.Ytmkpoldhgdbjiaa.Opn Go.Proofs.Ytmkpoldhgdbjiaa.PFnExactInOrder
open Go.Proofs.YtmkpoldhgdbjiaaW.PrintWords Go.Proofs.YtmkpoldhgdbjiaaW.PrintLast Go.Proofs.YtmkpoldhgdbjiaaW.PrintMore
open Go.ChangeMaps (open_string shut_string)
set_option linter.unusedVariables false
theorem own : ownKnob Try.prog.godebug = none := by kernel_rfl
theorem laidOut : laidOutB Try.prog = true := by kernel_rfl
theorem o3 : Opens Try.prog 3 (Kd.int .i64) (fun x => (Lit.int .i64 x).wf = true) := opens_int (by exact Try.underlying3) (by kernel_rfl)
theorem o9 : Opens Try.prog 9 Kd.string (fun x => x.size ≤ 140737488351232) := opens_string (by exact Try.underlying9) (by kernel_rfl)
abbrev K54 := k54
abbrev L54 := S54
abbrev G54 (x : S54) : Prop := (Lit.int .i64 x.f0).wf = true ∧ (Lit.int .i64 x.f1).wf = true ∧ x.f2.size ≤ 140737488351232
theorem o54 : Opens Try.prog 54 K54 G54 := opens_struct (fs := #[_, _, _]) (by exact Try.underlying54) (by kernel_rfl) (opensF_cons rfl o3 (opensF_cons rfl o3 (opensF_one rfl o9))) _ (fun p => (⟨p.1, p.2.1, p.2.2⟩ : S54)) (fun _ => rfl)
theorem b54 : Try.prog.bytesOf 54 = 32 := by kernel_rfl
theorem o22 : Opens Try.prog 22 (Kd.slice 54 K54) (fun x => (x.length * 32 ≤ 140737488351232 ∧ ∀ y ∈ x, G54 y)) := (opens_slice (by exact Try.underlying22) (by kernel_rfl) o54).imp (fun x h => by rw [b54] at h; exact h)
theorem walk (a0 : Int) (A1 : Option Addr) (c1 : Nat) (l1 : List L54) (W : World) (h0 : (Lit.int .i64 a0).wf = true) (h1 : (l1.length * 32 ≤ 140737488351232 ∧ ∀ y ∈ l1, G54 y)) (hr1 : Kd.C K54 W A1 l1.length l1) (hc1 : l1.length ≤ c1) :
    Calls Try.prog 3 #[.int .i64 a0, .slice A1 l1.length c1] W fun e w' => e = .returned (.bool true) ∧ Below W.heap.size W w' := by
  obtain ⟨k, h⟩ := PureInOrder.law a0 l1 h0 h1
  refine (laws_FnExactInOrder.calls k a0 _ _ l1 true W hr1 hc1 h).mono ?_
  rintro e w' ⟨rfl, hd⟩
  exact ⟨rfl, hd⟩
set_option maxRecDepth 100000 in
theorem lifted (os : Os) (started : os.Started) (H : Type) (enc : TypeId × Value → H) :
    ReturnsInHanded {} Try.checked os 3 .any (Rows.fnExactInOrderSpec.pre6 enc Try.prog Try.f3 Rows.fnExactInOrderRow.domain false) (Rows.fnExactInOrderSpec.post enc Try.prog Try.f3 false true false false) := by
  refine returnsInHanded_of_change_sized (C := Try.checked) own started (by kernel_rfl) Try.func3
    (ChangeSpec.witness6 (enc := enc) (C := Try.checked) false ⟨#[], #[.int .i64 0, .slice none 0 0], []⟩ 8 (by kernel_rfl) (by kernel_rfl) (by kernel_rfl) (by kernel_rfl)) ?_
  intro W base args ds gs before hval0 hW hcnd hsz0 _
  have hsz : ∀ n ∈ DataW.weightsEach Try.prog (Try.f3.params.toList ++ Rows.fnExactInOrderSpec.plain.varTypes Try.prog) (ds ++ gs), n ≤ reachBytes := fun n hn => of_decide_eq_true (List.all_eq_true.1 hsz0 n hn)
  have hval : ∀ (j : Nat) t v, Try.f3.params[j]? = some t → args[j]? = some v → Value.okWide Try.prog W .any base t v := hval0
  have hW' := hW
  obtain ⟨p, q, hA0, hV, rfl, hfz, hnd⟩ := hW
  have hA : DataW.TrodAll enc Try.prog W 0 (fun _ => true) true Try.f3.params.toList args.toList ds p := hA0
  rw [Try.params3] at hA hval hsz
  obtain ⟨v0, vs0, d0, ds0, p0, q0, hargs, rfl, rfl, h0, r0⟩ := trodAll_cons hA
  obtain ⟨v1, vs1, d1, ds1, p1, q1, rfl, rfl, rfl, h1, r1⟩ := trodAll_cons r0
  obtain ⟨rfl, rfl, rfl⟩ := trodAll_nil r1
  obtain rfl : args = #[v0, v1] := by cases args; simp_all
  obtain ⟨rfl, rfl⟩ := trodVars_none hV
  have k0 := h0
  have lt0 : ∀ x ∈ p0, x.block < W.heap.size := by obtain ⟨m, hm⟩ := k0; exact DataW.trod_lt m _ _ _ hm
  have k1 := h1
  have lt1 : ∀ x ∈ p1, x.block < W.heap.size := by obtain ⟨m, hm⟩ := k1; exact DataW.trod_lt m _ _ _ hm
  obtain ⟨a0, rfl, rfl, rfl, w0⟩ := open_int Try.underlying3 (hval 0 3 v0 rfl rfl) h0
  obtain ⟨A1, c1, l1, rfl, hc1, hr1, g1⟩ := row_slice o22 Try.underlying22 (hval 1 22 v1 rfl rfl) h1 (fun n hn => hsz n (weightsEach_mem (j := 1) rfl rfl n hn))
  clear hA0 hval0 hsz0 hsz
  refine (walk a0 A1 c1 l1 W w0 g1 hr1 hc1).mono fun e W' ⟨he, bel⟩ => ?_
  subst he
  exact ⟨_, rfl, _, _, _, [], _, [], hW', trodAll_mk1 (shut_bool Try.underlying4 _), (trodAll_cons_mk (shut_int Try.underlying3 w0) (trodAll_cons_mk (Below.trod laidOut (by kernel_rfl) (of_decide_eq_true (by kernel_rfl)) k1 bel lt1) trodAll_mk0)), rfl, bel.frame _, fun h => by cases h⟩
theorem over : Rows.fnExactInOrderRow.holds Try.pinned (OpenSpec.ofChange Rows.fnExactInOrderSpec) :=
  OpenClaim.holds_of_wide 3 Try.f3 rfl rfl rfl rfl rfl rfl rfl ⟨rfl, rfl, rfl, rfl, rfl⟩ rfl rfl rfl rfl rfl (by kernel_rfl) Try.func3 (by kernel_rfl)
    (of_decide_eq_true (by kernel_rfl)) (by unfold Func.isWrapper; first | (rw [if_pos (by decide +kernel)]; kernel_rfl) | (rw [if_neg (by decide +kernel)]; exact ⟨rfl, rfl⟩))
    (fun os started H enc _ => lifted os started H enc)
theorem proved : Rows.FnExactInOrderSaid := over
#print axioms proved
end Go.Proofs.Ytmkpoldhgdbjiaa.fnExactInOrder
namespace Go.Proofs.Ytmkpoldhgdbjiaa
/-- The row, under a short name, for the claim. -/
theorem fnExactInOrder_holds : Rows.FnExactInOrderSaid := fnExactInOrder.proved
end Go.Proofs.Ytmkpoldhgdbjiaa
