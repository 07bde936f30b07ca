/-
  A job's text: JobText (spec, impl); the law FnExactJobText tells true.
-/
import Derived.Test.YtjdhdpbdaabdmaaDoorVmDig
import Derived.Test.YtjdhdpbdaabdmaaDoorVmInText
import Derived.Test.YtjdhdpbdaabdmaaDoorVmTyJ
namespace Go.Proofs.YtjdhdpbdaabdmaaDoor.Vm
open Go Go.RowKit Go.Proofs
set_option linter.unusedVariables false
set_option linter.unusedSimpArgs false
set_option maxHeartbeats 8000000
def jobText (x : TyJob) : ByteArray := dig x.1 ++ bs [58] ++ inText x.2.2.1 ++ bs [47] ++ dig x.2.2.2.2.1 ++ bs [47] ++ dig x.2.2.2.2.2.2.1
theorem jobText_size {x : TyJob} (h : ok_Job x) : (jobText x).size ≤ 100 := by
  have s1 := dig_size (wf_i64 h.1)
  have s2 := dig_size (wf_i64 h.2.2.2.2.1)
  have s3 := dig_size (wf_i64 h.2.2.2.2.2.2.1)
  have s4 := inText_size (w := x.2.2.1)
  simp only [jobText, ba_size, bs_size, List.length_cons, List.length_nil]
  omega
noncomputable def FJobText : Con := con (fun x : TyJob => [.agg (cI_Job false x)]) ok_Job (fun x => ((false, [none]), [.lit (.string (jobText x))]))
theorem callJobText {x : TyJob} (h : ok_Job x) : FJobText [.agg (cI_Job false x)] = some ((false, [none]), [.lit (.string (jobText x))]) :=
  con_at (arg := fun x : TyJob => [.agg (cI_Job false x)]) (fun a b h => cI_Job_inj false a b (by simpa using h)) h
theorem dr_sJob : drawn (opsOf (nav [1,0] (bodyOf Tryd.f12))) = some ([0, 1, 4, 5, 9, 10, 11, 15, 16, 17], [2, 3, 6, 7, 8, 12, 13, 14, 18, 19, 20]) := by kernel_rfl
theorem dr_iJob : drawn (opsOf (nav [1,0] (bodyOf Tryd.f14))) = some ([0, 1, 4, 5, 9, 10, 11, 15, 16, 17], [2, 3, 6, 7, 8, 12, 13, 14, 18, 19, 20]) := by kernel_rfl
theorem fn_sJobText : Fn Tryd.prog 12 FJobText := by
  refine Fn.con [(22, FDig), (31, FInText)] (by simp [fn_sDigits, fn_sInText]) mixed (fn := Tryd.f12) Tryd.func12 rfl rfl (by kernel_rfl) 1 (by decide) (fun _ => rfl) (fun _ => ([], 0)) (fun x hx => ⟨1, ?_⟩)
  obtain ⟨tk, g, w, r⟩ := x
  obtain ⟨h1, h2, h3, h4⟩ := hx
  simp only at h1 h3 h4
  have hwl : okI w := by have := h3.1; simp only [okI]; omega
  have hd := dr_sJob
  simp only [bodyOf, Tryd.f12, nav, opsOf, Option.getD_some] at hd
  have d1 := callDig (wf_i64 h1)
  have d2 := callInText hwl
  have d3 := callDig (wf_i64 h4.2.1)
  have d4 := callDig (wf_i64 h4.2.2.2.1)
  have s1 := dig_size (wf_i64 h1)
  have s2 := inText_size (w := w)
  have s3 := dig_size (wf_i64 h4.2.1)
  have s4 := dig_size (wf_i64 h4.2.2.2.1)
  have e0 := fun P T x y => b_cat P T x y (dig tk) (bs [58]) (by simp only [ba_size, bs_size, List.length_cons, List.length_nil]; omega)
  have e1 := fun P T x y => b_cat P T x y (dig tk ++ bs [58]) (inText w) (by simp only [ba_size, bs_size, List.length_cons, List.length_nil]; omega)
  have e2 := fun P T x y => b_cat P T x y (dig tk ++ bs [58] ++ inText w) (bs [47]) (by simp only [ba_size, bs_size, List.length_cons, List.length_nil]; omega)
  have e3 := fun P T x y => b_cat P T x y (dig tk ++ bs [58] ++ inText w ++ bs [47]) (dig r.2.1) (by simp only [ba_size, bs_size, List.length_cons, List.length_nil]; omega)
  have e4 := fun P T x y => b_cat P T x y (dig tk ++ bs [58] ++ inText w ++ bs [47] ++ dig r.2.1) (bs [47]) (by simp only [ba_size, bs_size, List.length_cons, List.length_nil]; omega)
  have e5 := fun P T x y => b_cat P T x y (dig tk ++ bs [58] ++ inText w ++ bs [47] ++ dig r.2.1 ++ bs [47]) (dig r.2.2.2.1) (by simp only [ba_size, bs_size, List.length_cons, List.length_nil]; omega)
  simp (implicitDefEqProofs := false) [-getElem?_pos, -getElem?_neg, Tryd.f12, cI_Job, ex_draw2 _ _ hd, d1, d2, d3, d4, jobText, e0, e1, e2, e3, e4, e5]
theorem fn_iJobText : Fn Tryd.prog 14 FJobText Tab := by
  refine Fn.con [(25, FDig), (34, FInText)] (by simp [fn_iDigits, fn_iInText.any]) mixed (fn := Tryd.f14) Tryd.func14 rfl rfl (by kernel_rfl) 1 (by decide) (fun _ => rfl) (fun _ => ([], 0)) (fun x hx => ⟨1, ?_⟩) stab_tab
  obtain ⟨tk, g, w, r⟩ := x
  obtain ⟨h1, h2, h3, h4⟩ := hx
  simp only at h1 h3 h4
  have hwl : okI w := by have := h3.1; simp only [okI]; omega
  have hd := dr_iJob
  simp only [bodyOf, Tryd.f14, nav, opsOf, Option.getD_some] at hd
  have d1 := callDig (wf_i64 h1)
  have d2 := callInText hwl
  have d3 := callDig (wf_i64 h4.2.1)
  have d4 := callDig (wf_i64 h4.2.2.2.1)
  have s1 := dig_size (wf_i64 h1)
  have s2 := inText_size (w := w)
  have s3 := dig_size (wf_i64 h4.2.1)
  have s4 := dig_size (wf_i64 h4.2.2.2.1)
  have e0 := fun P T x y => b_cat P T x y (dig tk) (bs [58]) (by simp only [ba_size, bs_size, List.length_cons, List.length_nil]; omega)
  have e1 := fun P T x y => b_cat P T x y (dig tk ++ bs [58]) (inText w) (by simp only [ba_size, bs_size, List.length_cons, List.length_nil]; omega)
  have e2 := fun P T x y => b_cat P T x y (dig tk ++ bs [58] ++ inText w) (bs [47]) (by simp only [ba_size, bs_size, List.length_cons, List.length_nil]; omega)
  have e3 := fun P T x y => b_cat P T x y (dig tk ++ bs [58] ++ inText w ++ bs [47]) (dig r.2.1) (by simp only [ba_size, bs_size, List.length_cons, List.length_nil]; omega)
  have e4 := fun P T x y => b_cat P T x y (dig tk ++ bs [58] ++ inText w ++ bs [47] ++ dig r.2.1) (bs [47]) (by simp only [ba_size, bs_size, List.length_cons, List.length_nil]; omega)
  have e5 := fun P T x y => b_cat P T x y (dig tk ++ bs [58] ++ inText w ++ bs [47] ++ dig r.2.1 ++ bs [47]) (dig r.2.2.2.1) (by simp only [ba_size, bs_size, List.length_cons, List.length_nil]; omega)
  simp (implicitDefEqProofs := false) [-getElem?_pos, -getElem?_neg, Tryd.f14, cI_Job, ex_draw2 _ _ hd, d1, d2, d3, d4, jobText, e0, e1, e2, e3, e4, e5]
noncomputable def FLawJob : Con := con (fun x : TyJob => [.agg (cL_Job x)]) ok_Job (fun x => ((false, [none]), [.lit (.bool true)]))
theorem drLawJob : drawn (opsOf (nav [1,1,1,1,1,1,1,1,0,0] (bodyOf Tryd.f4))) = some ([0, 1], [2, 3, 4]) := by kernel_rfl
theorem fn_lawJob : Fn Tryd.prog 4 FLawJob Tab := by
  refine Fn.con [(11, FSzJob), (12, FJobText), (13, FToJob), (14, FJobText), (15, FEqJob)] (by simp [fn_szJob.any, fn_sJobText.any, fn_toJob.any, fn_iJobText, fn_eqJob.any]) mixed (fn := Tryd.f4) Tryd.func4 rfl rfl (by kernel_rfl) 1 (by decide) (fun _ => rfl) (fun _ => ([], 0)) (fun x hx => ⟨1, ?_⟩) stab_tab
  have c1 := callSzJob (left := 1048576) (by omega) (by simp only [much]; omega) hx
  have c2 := callToJob hx
  have c3 := callJobText hx
  have c4 := callEqJob (y := x) hx
  simp only [cL_Job, cI_Job] at c1 c2 c3 c4
  have hd := drLawJob
  simp only [bodyOf, Tryd.f4, nav, opsOf, Option.getD_some] at hd
  generalize sz_Job x 1048576 = q at c1
  by_cases hz : q < 0
  · simp (implicitDefEqProofs := false) [-getElem?_pos, -getElem?_neg, Tryd.f4, cL_Job, cI_Job, c1, hz]
  · simp (implicitDefEqProofs := false) [-getElem?_pos, -getElem?_neg, Tryd.f4, cL_Job, cI_Job, c1, c2, c3, c4, hz, ex_draw2 _ _ hd, erRows_ints]
theorem callLawJob (x : TyJob) (h : ok_Job x) : FLawJob [.agg (cL_Job x)] = some ((false, [none]), [.lit (.bool true)]) := con_at (arg := fun x : TyJob => [.agg (cL_Job x)]) (fun a b h => cL_Job_inj a b (by simpa using h)) h


end Go.Proofs.YtjdhdpbdaabdmaaDoor.Vm
