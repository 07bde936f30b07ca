/-
  The law FnExactStoreText tells true.
-/
import Derived.Test.YtjdhdpbdaabdmaaDoorVmStore
namespace Go.Proofs.YtjdhdpbdaabdmaaDoor.Vm
open Go Go.RowKit Go.Proofs
set_option linter.unusedVariables false
set_option linter.unusedSimpArgs false
set_option maxHeartbeats 8000000
noncomputable def FLawStore : Con := con (fun x : TyStore => [.agg (cL_Store x)]) ok_Store (fun x => ((false, [none]), [.lit (.bool true)]))
theorem drLawStore : drawn (opsOf (nav [1,1,1,1,1,1,1,1,0,0] (bodyOf Tryd.f3))) = some ([0, 1], [2, 3, 4]) := by kernel_rfl
theorem fn_lawStore : Fn Tryd.prog 3 FLawStore Tab := by
  refine Fn.con [(6, FSzStore), (7, FStoreText), (8, FToStore), (9, FStoreText), (10, FEqStore)] (by simp [fn_szStore.any, fn_sStoreText.any, fn_toStore.any, fn_iStoreText, fn_eqStore.any]) mixed (fn := Tryd.f3) Tryd.func3 rfl rfl (by kernel_rfl) 1 (by decide) (fun _ => rfl) (fun _ => ([], 0)) (fun x hx => ⟨1, ?_⟩) stab_tab
  have c1 := callSzStore (left := 1048576) (by omega) (by simp only [much]; omega) hx
  have c2 := callToStore hx
  have c3 := callStoreText hx
  have c4 := callEqStore (y := x) hx
  simp only [cL_Store, cI_Store] at c1 c2 c3 c4
  have hd := drLawStore
  simp only [bodyOf, Tryd.f3, nav, opsOf, Option.getD_some] at hd
  generalize sz_Store x 1048576 = q at c1
  by_cases hz : q < 0
  · simp (implicitDefEqProofs := false) [-getElem?_pos, -getElem?_neg, Tryd.f3, cL_Store, cI_Store, c1, hz]
  · simp (implicitDefEqProofs := false) [-getElem?_pos, -getElem?_neg, Tryd.f3, cL_Store, cI_Store, c1, c2, c3, c4, hz, ex_draw2 _ _ hd, erRows_ints]
theorem callLawStore (x : TyStore) (h : ok_Store x) : FLawStore [.agg (cL_Store x)] = some ((false, [none]), [.lit (.bool true)]) := con_at (arg := fun x : TyStore => [.agg (cL_Store x)]) (fun a b h => cL_Store_inj a b (by simpa using h)) h

end Go.Proofs.YtjdhdpbdaabdmaaDoor.Vm
