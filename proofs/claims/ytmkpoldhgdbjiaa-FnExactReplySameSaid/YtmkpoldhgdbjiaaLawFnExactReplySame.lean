/-
  The row of FnExactReplySame: what is plain of it (PureReplySame.law) and what the program does, put together. No conditions.
-/
import Derived.Test.YtmkpoldhgdbjiaaRows
import Derived.Test.YtmkpoldhgdbjiaaPFnExactReplySamex4
import Derived.Test.YtmkpoldhgdbjiaaPureReplySame
import Derived.Test.YtmkpoldhgdbjiaaOpens
import Derived.WalkKit
import Derived.ProofKit
import Derived.OpenShut
import Derived.ShutString
import Derived.ChangeOld
import Derived.Below
import Derived.SizedLaws
namespace Go.Proofs.Ytmkpoldhgdbjiaa.fnExactReplySame
open Go.ChangeShapes Go.WideShapes Go.ChangeAt Go.RowKit Go.Proofs.Ytmkpoldhgdbjiaa.Opn Go.Proofs.Ytmkpoldhgdbjiaa.PFnExactReplySame
open Go.Proofs.YtmkpoldhgdbjiaaW.PrintWords Go.Proofs.YtmkpoldhgdbjiaaW.PrintLast Go.Proofs.YtmkpoldhgdbjiaaW.PrintMore
open Go.ChangeMaps (open_string shut_string)
set_option linter.unusedVariables false
theorem own : ownKnob Try.prog.godebug = none := by kernel_rfl
theorem laidOut : laidOutB Try.prog = true := by kernel_rfl
theorem o3 : Opens Try.prog 3 (Kd.int .i64) (fun x => (Lit.int .i64 x).wf = true) := opens_int (by exact Try.underlying3) (by kernel_rfl)
theorem o9 : Opens Try.prog 9 Kd.string (fun x => x.size ≤ 140737488351232) := opens_string (by exact Try.underlying9) (by kernel_rfl)
abbrev K54 := k54
abbrev L54 := S54
abbrev G54 (x : S54) : Prop := (Lit.int .i64 x.f0).wf = true ∧ (Lit.int .i64 x.f1).wf = true ∧ x.f2.size ≤ 140737488351232
theorem o54 : Opens Try.prog 54 K54 G54 := opens_struct (fs := #[_, _, _]) (by exact Try.underlying54) (by kernel_rfl) (opensF_cons rfl o3 (opensF_cons rfl o3 (opensF_one rfl o9))) _ (fun p => (⟨p.1, p.2.1, p.2.2⟩ : S54)) (fun _ => rfl)
theorem b54 : Try.prog.bytesOf 54 = 32 := by kernel_rfl
theorem o22 : Opens Try.prog 22 (Kd.slice 54 K54) (fun x => (x.length * 32 ≤ 140737488351232 ∧ ∀ y ∈ x, G54 y)) := (opens_slice (by exact Try.underlying22) (by kernel_rfl) o54).imp (fun x h => by rw [b54] at h; exact h)
abbrev L30 := (Int × (List L54))
abbrev K30 : Kd L30 := Kd.iso (Kd.pair (Kd.int .i64) (Kd.slice 54 K54)) (fun x => x)
abbrev G30 (x : L30) : Prop := (Lit.int .i64 x.1).wf = true ∧ (x.2.length * 32 ≤ 140737488351232 ∧ ∀ y ∈ x.2, G54 y)
theorem o30 : Opens Try.prog 30 K30 G30 := opens_struct (fs := #[_, _]) (by exact Try.underlying30) (by kernel_rfl) (opensF_cons rfl o3 (opensF_one rfl o22)) _ (fun p => p) (fun _ => rfl)
theorem walk (a0_0 : Int) (A0_1 : Option Addr) (c0_1 : Nat) (l0_1 : List L54) (a1_0 : Int) (A1_1 : Option Addr) (c1_1 : Nat) (l1_1 : List L54) (W : World) (h0 : ((Lit.int .i64 a0_0).wf = true ∧ (l0_1.length * 32 ≤ 140737488351232 ∧ ∀ y ∈ l0_1, G54 y))) (h1 : ((Lit.int .i64 a1_0).wf = true ∧ (l1_1.length * 32 ≤ 140737488351232 ∧ ∀ y ∈ l1_1, G54 y))) (hr0_1 : Kd.C K54 W A0_1 l0_1.length l0_1) (hc0_1 : l0_1.length ≤ c0_1) (hr1_1 : Kd.C K54 W A1_1 l1_1.length l1_1) (hc1_1 : l1_1.length ≤ c1_1) :
    Calls Try.prog 4 #[.agg #[.int .i64 a0_0, .slice A0_1 l0_1.length c0_1], .agg #[.int .i64 a1_0, .slice A1_1 l1_1.length c1_1]] W fun e w' => e = .returned (.bool true) ∧ Below W.heap.size W w' := by
  obtain ⟨k, h⟩ := PureReplySame.law a0_0 l0_1 a1_0 l1_1 h0 h1
  refine (laws_FnExactReplySame.calls k a0_0 _ _ l0_1 a1_0 _ _ l1_1 true W hr0_1 hc0_1 hr1_1 hc1_1 h).mono ?_
  rintro e w' ⟨rfl, hd⟩
  exact ⟨rfl, hd⟩
set_option maxRecDepth 100000 in
theorem lifted (os : Os) (started : os.Started) (H : Type) (enc : TypeId × Value → H) :
    ReturnsInHanded {} Try.checked os 4 .any (Rows.fnExactReplySameSpec.pre6 enc Try.prog Try.f4 Rows.fnExactReplySameRow.domain false) (Rows.fnExactReplySameSpec.post enc Try.prog Try.f4 false true false false) := by
  refine returnsInHanded_of_change_sized (C := Try.checked) own started (by kernel_rfl) Try.func4
    (ChangeSpec.witness6 (enc := enc) (C := Try.checked) false ⟨#[], #[.agg #[.int .i64 0, .slice none 0 0], .agg #[.int .i64 0, .slice none 0 0]], []⟩ 8 (by kernel_rfl) (by kernel_rfl) (by kernel_rfl) (by kernel_rfl)) ?_
  intro W base args ds gs before hval0 hW hcnd hsz0 _
  have hsz : ∀ n ∈ DataW.weightsEach Try.prog (Try.f4.params.toList ++ Rows.fnExactReplySameSpec.plain.varTypes Try.prog) (ds ++ gs), n ≤ reachBytes := fun n hn => of_decide_eq_true (List.all_eq_true.1 hsz0 n hn)
  have hval : ∀ (j : Nat) t v, Try.f4.params[j]? = some t → args[j]? = some v → Value.okWide Try.prog W .any base t v := hval0
  have hW' := hW
  obtain ⟨p, q, hA0, hV, rfl, hfz, hnd⟩ := hW
  have hA : DataW.TrodAll enc Try.prog W 0 (fun _ => true) true Try.f4.params.toList args.toList ds p := hA0
  rw [Try.params4] at hA hval hsz
  obtain ⟨v0, vs0, d0, ds0, p0, q0, hargs, rfl, rfl, h0, r0⟩ := trodAll_cons hA
  obtain ⟨v1, vs1, d1, ds1, p1, q1, rfl, rfl, rfl, h1, r1⟩ := trodAll_cons r0
  obtain ⟨rfl, rfl, rfl⟩ := trodAll_nil r1
  obtain rfl : args = #[v0, v1] := by cases args; simp_all
  obtain ⟨rfl, rfl⟩ := trodVars_none hV
  have k0 := h0
  have lt0 : ∀ x ∈ p0, x.block < W.heap.size := by obtain ⟨m, hm⟩ := k0; exact DataW.trod_lt m _ _ _ hm
  have k1 := h1
  have lt1 : ∀ x ∈ p1, x.block < W.heap.size := by obtain ⟨m, hm⟩ := k1; exact DataW.trod_lt m _ _ _ hm
  obtain ⟨cs0, x0, rfl, hK0, g0⟩ := row_struct o30 (fs := #[_, _]) (by exact Try.underlying30) (hval 0 30 v0 rfl rfl) h0 (fun n hn => hsz n (weightsEach_mem (j := 0) rfl rfl n hn))
  obtain ⟨_, _, rfl, rfl, ⟨A0_1, c0_1, rfl, hc0_1, hr0_1⟩⟩ := hK0
  obtain ⟨cs1, x1, rfl, hK1, g1⟩ := row_struct o30 (fs := #[_, _]) (by exact Try.underlying30) (hval 1 30 v1 rfl rfl) h1 (fun n hn => hsz n (weightsEach_mem (j := 1) rfl rfl n hn))
  obtain ⟨_, _, rfl, rfl, ⟨A1_1, c1_1, rfl, hc1_1, hr1_1⟩⟩ := hK1
  clear hA0 hval0 hsz0 hsz
  refine (walk x0.1 A0_1 c0_1 x0.2 x1.1 A1_1 c1_1 x1.2 W g0 g1 hr0_1 hc0_1 hr1_1 hc1_1).mono fun e W' ⟨he, bel⟩ => ?_
  subst he
  exact ⟨_, rfl, _, _, _, [], _, [], hW', trodAll_mk1 (shut_bool Try.underlying4 _), (trodAll_cons_mk (Below.trod laidOut (by kernel_rfl) (of_decide_eq_true (by kernel_rfl)) k0 bel lt0) (trodAll_cons_mk (Below.trod laidOut (by kernel_rfl) (of_decide_eq_true (by kernel_rfl)) k1 bel lt1) trodAll_mk0)), rfl, bel.frame _, fun h => by cases h⟩
theorem over : Rows.fnExactReplySameRow.holds Try.pinned (OpenSpec.ofChange Rows.fnExactReplySameSpec) :=
  OpenClaim.holds_of_wide 4 Try.f4 rfl rfl rfl rfl rfl rfl rfl ⟨rfl, rfl, rfl, rfl, rfl⟩ rfl rfl rfl rfl rfl (by kernel_rfl) Try.func4 (by kernel_rfl)
    (of_decide_eq_true (by kernel_rfl)) (by unfold Func.isWrapper; first | (rw [if_pos (by decide +kernel)]; kernel_rfl) | (rw [if_neg (by decide +kernel)]; exact ⟨rfl, rfl⟩))
    (fun os started H enc _ => lifted os started H enc)
theorem proved : Rows.FnExactReplySameSaid := over
#print axioms proved
end Go.Proofs.Ytmkpoldhgdbjiaa.fnExactReplySame
namespace Go.Proofs.Ytmkpoldhgdbjiaa
/-- The row, under a short name, for the claim. -/
theorem fnExactReplySame_holds : Rows.FnExactReplySameSaid := fnExactReplySame.proved
end Go.Proofs.Ytmkpoldhgdbjiaa
