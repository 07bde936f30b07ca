/-
  The small machine is true to the model: an operation that runs.
-/
import Derived.Test.YtanglbgincgmaaaVmSoundM
import Derived.Tactics
namespace Go.Proofs.Ytanglbgincgmaaa.Vm
open Go Go.RowKit
set_option linter.unusedVariables false
section
variable {P : Program} {S S' : St} {m : Mp} {w w' w0 : World} {a : Act} {B : Nat} {z : Nat → Nat} {mem mem1 mem' : Mem} {ep ep' : Nat} {cal : Cal}

/-- What is called does as it is told. -/
def CalOk (P : Program) (B : Nat) (w0 : World) (cal : Cal) (x : Bool := false) : Prop := ∀ g vs mem ep r, cal g vs mem ep = some r → ∀ (m : Mp) (w : World) (ys : Array Value), Good P.cellsOf B w0 mem ep m w → ys.size = vs.length →
  (∀ (j : Nat) (v : TV) (y : Value), vs[j]? = some v → ys[j]? = some y → RTV P.cellsOf mem ep m w v y) →
  (∃ fn, P.funcs[g]? = some fn ∧ (fn.name == "runtime.NumGoroutine") = false ∧ fn.body.isNone = false) ∧
  Calls P g ys w fun e w' => ∃ v, e = .returned v ∧ (x = true ∨ r.2.2 = ep + 1 → Ext w w') ∧ ∃ m', RTV P.cellsOf r.2.1 r.2.2 m' w' r.1 v ∧ Good P.cellsOf B w0 r.2.1 r.2.2 m' w' ∧ Evo ep r.2.2 mem r.2.1 m m' w w'
theorem CalOk.draw {P : Program} {B : Nat} {w0 : World} {cal : Cal} (h : CalOk P B w0 cal) : CalOk P B w0 (cal1 cal) true := by
  intro g vs mem ep r hr m w ys hg hl ha
  unfold cal1 at hr
  simp only [Option.bind_eq_some_iff] at hr
  obtain ⟨r0, h0, hr⟩ := hr
  split at hr
  · rename_i he
    simp only [Option.some.injEq] at hr
    subst hr
    obtain ⟨h1, h2⟩ := h g vs mem ep _ h0 m w ys hg hl ha
    refine ⟨h1, h2.mono fun e w' h3 => ?_⟩
    obtain ⟨v, h4, h5, h6⟩ := h3
    exact ⟨v, h4, fun _ => h5 (.inr he), h6⟩
  · cases hr

theorem Evo.heap {ep : Nat} {mem : Mem} (hh : w'.heap = w.heap) : Evo ep ep mem mem m m w w' :=
  ⟨Nat.le_refl _, by rw [hh]; exact Nat.le_refl _, fun k hk => ⟨hk.1, by rw [hh]⟩, fun k hk _ => ⟨hk, by rw [hh]⟩, fun id bv c h => .inr ⟨c, h, rfl⟩, fun id hv cv e rs h => .inr ⟨cv, rs, h, rfl⟩, fun id hv cv e rs h => .inr ⟨hv, e, rs, h, fun k hk => ⟨⟨hk.1, hk.2.1, by rw [hh]; exact hk.2.2⟩, by rw [hh]⟩⟩, fun id hv cv e rs rs' h1 h2 _ _ => by
    obtain ⟨_, _, _, rfl⟩ := rows_inj4 h1 h2
    exact NestEq.same (fun _ _ _ => by rw [hh])⟩
theorem Good.heap (hg : Good z B w0 mem ep m w) (hh : w'.heap = w.heap) (hb : Below B w w') : Good z B w0 mem ep m w' :=
  ⟨fun id b h => (hg.blk id b h).keep (Evo.heap hh) rfl (fun k hk _ => ⟨hk, by rw [hh]⟩), fun k hk => by rw [hh]; exact hg.lab k hk, hg.below.trans hb, by rw [hh]; exact hg.hB, hg.fst⟩
theorem Tms.evo {S' : St} {m' : Mp} (hT : Tms z S m w a.tmps) (he : Evo S.ep S'.ep S.mem S'.mem m m' w w') (ht : S'.tm = S.tm) : Tms z S' m' w' a.tmps := fun t tv h => (hT t tv (by rw [← ht]; exact h)).evo he

/-- A temporary that is written. -/
theorem tms_put (hT : Tms z S m w a.tmps) {dst : Option Tmp} (hd : ∀ d, dst = some d → d < a.tmps.size) {r : TV × Mem × Nat} {v : Value} {m' : Mp} (he : Evo S.ep r.2.2 S.mem r.2.1 m m' w w') (hv : RTV z r.2.1 r.2.2 m' w' r.1 v) :
    Tms z (putT S dst r) m' w' (a.put dst v).tmps := by
  intro t tv h
  cases dst with
  | none =>
    simp only [putT, Act.put] at h ⊢
    exact (hT t tv h).evo he
  | some d =>
    have hlt := hd d rfl
    simp only [putT, look] at h
    simp only [putT, Act.put]
    split at h
    · rename_i hdt
      subst hdt
      simp only [Option.some.injEq] at h
      subst h
      simpa [hlt] using hv
    · rename_i hdt
      have := (hT t tv h).evo he
      have hq : (a.tmps.setIfInBounds d v).getD t undef = a.tmps.getD t undef := by
        simp [Array.getElem?_setIfInBounds_ne hdt]
      rw [hq]
      exact this
theorem undef_rtv {mem : Mem} {ep : Nat} : RTV z mem ep m w (.tup []) undef := .tup rfl (by simp)

theorem evs_rtv (hT : Tms z S m w a.tmps) : ∀ (xs : List Operand) (vs : List TV), evs S xs = some vs → vs.length = xs.length ∧ ∀ (j : Nat) (v : TV) (x : Operand), vs[j]? = some v → xs[j]? = some x → RTV z S.mem S.ep m w v (a.eval x) := by
  intro xs
  induction xs with
  | nil => intro vs h; simp only [evs, Option.some.injEq] at h; subst h; exact ⟨rfl, by simp⟩
  | cons x xs ih =>
    intro vs h
    simp only [evs, Option.bind_eq_some_iff, Option.some.injEq] at h
    obtain ⟨v, hv, vs', hvs, rfl⟩ := h
    obtain ⟨h1, h2⟩ := ih vs' hvs
    refine ⟨by simp [h1], fun j u y hu hy => ?_⟩
    cases j with
    | zero => simp at hu hy; subst hu; subst hy; exact ev_rtv hT hv
    | succ j => simp at hu hy; exact h2 j u y hu hy

theorem run_callFunc {g : Nat} {args : Array Value} (h : ∃ fn, P.funcs[g]? = some fn ∧ (fn.name == "runtime.NumGoroutine") = false ∧ fn.body.isNone = false) (w : World) : (callFunc g args).run P w = .ok (.enter g args) w := by
  obtain ⟨fn, h1, h2, h3⟩ := h
  have h2' : ¬ fn.name = "runtime.NumGoroutine" := by simpa using h2
  have h3' : ¬ fn.body = none := by
    intro h
    rw [h] at h3
    cases h3
  unfold callFunc
  simp [program, Sem.run, h1, h2', h3']

/-- What holds behind an operation. -/
def After (x : Bool) (P : Program) (B : Nat) (w0 : World) (S S' : St) (m : Mp) (w : World) (a : Act) (o : Oper) (K : Act → World → Prop) : Prop :=
  ∀ v m' w', Good P.cellsOf B w0 S'.mem S'.ep m' w' → Tms P.cellsOf S' m' w' (a.put o.dst v).tmps → Evo S.ep S'.ep S.mem S'.mem m m' w w' → ((freshKind o || (x && isCall o)) = true → Ext w w') → K (a.put o.dst v) w'

theorem runOp_sound {x : Bool} (hcal : CalOk P B w0 cal x) (hg : Good P.cellsOf B w0 S.mem S.ep m w) (hT : Tms P.cellsOf S m w a.tmps) {o : Oper} (hd : ∀ d, o.dst = some d → d < a.tmps.size) (h : runOp P cal S o = some S')
    {K : Act → World → Prop} {Q : Exit → Act → World → Prop} (hK : After x P B w0 S S' m w a o K) : o.wp P a w K Q := by
  unfold runOp at h
  split at h
  · rename_i T x v ho
    simp only [Option.bind_eq_some_iff] at h
    obtain ⟨p, hp, tv, htv, cs, hcs, h⟩ := h
    split at h
    · rename_i hc
      obtain ⟨hc1, hc2, hc3⟩ := hc
      simp only [Option.bind_eq_some_iff, Option.some.injEq] at h
      obtain ⟨mem', hm', rfl⟩ := h
      obtain ⟨w', hr, m', g1, g2⟩ := step_store hg hT ho hp htv hcs hc1 hc2 hm'
      unfold Oper.wp
      rw [hr]
      simp only [Oper.upon]
      refine hK undef m' w' g1 ?_ g2 (fun hf => ?_)
      · rw [hc3]
        exact Tms.evo (S' := ⟨S.tm, mem'.1, mem'.2⟩) hT g2 rfl
      · simp [freshKind, quietKind, isCall, ho] at hf
    · cases h
  · rename_i f args ts ho
    simp only [Option.bind_eq_some_iff] at h
    obtain ⟨fv, hf, h⟩ := h
    have hfr := ev1_rv hT hf
    have go : ∀ (g : Nat) (cs : List V) (ps : Array Value) (vs : List TV) (r : TV × Mem × Nat), a.eval f = .func (.func g) #[] ps → ps.size = cs.length → (∀ (j : Nat) (u : V) (y : Value), cs[j]? = some u → ps[j]? = some y → RV P.cellsOf S.mem S.ep m w u y) →
        evs S args.toList = some vs → cal g (vs ++ cs.map .one) S.mem S.ep = some r → S' = putT S o.dst r → o.wp P a w K Q := by
      intro g cs ps vs r hev hpl hps hvs hr hS
      subst hS
      obtain ⟨e1, e2⟩ := evs_rtv hT _ _ hvs
      have hal : (args.map a.eval).size = vs.length := by simp [e1]
      obtain ⟨hfn, hcalls⟩ := hcal g _ S.mem S.ep r hr m w (args.map a.eval ++ ps) hg (by simp [e1, hpl]) (fun j v y hv hy => by
        rcases Nat.lt_or_ge j vs.length with hj | hj
        · rw [List.getElem?_append_left hj] at hv
          rw [Array.getElem?_append_left (by omega), Array.getElem?_map] at hy
          obtain ⟨x, hx, rfl⟩ := Option.map_eq_some_iff.1 hy
          exact e2 j v x hv (by simpa using hx)
        · rw [List.getElem?_append_right hj, List.getElem?_map] at hv
          obtain ⟨u, hu, rfl⟩ := Option.map_eq_some_iff.1 hv
          rw [Array.getElem?_append_right (by omega), hal] at hy
          exact .one (hps _ u y hu hy))
      have hex : (execOp a.eval o).run P w = .ok (.enter g (args.map a.eval ++ ps)) w := by
        unfold execOp
        simp only [ho, resolve, hev, Deferred.ofValue]
        simp only [invoke, Sem.run_bind, Sem.run_pure, Result.andThen_ok]
        simpa using run_callFunc (args := args.map a.eval ++ ps) hfn w
      unfold Oper.wp
      rw [hex]
      simp only [Oper.upon]
      refine hcalls.mono fun e w' he => ?_
      obtain ⟨v, rfl, hE, m', q1, q2, q3⟩ := he
      refine hK v m' w' ?_ ?_ ?_ (fun hx => hE (.inl ?_))
      rotate_left 3
      · simp only [freshKind, quietKind, ho, Bool.false_or, Bool.and_eq_true] at hx
        exact hx.1
      · cases o.dst <;> exact q2
      · exact tms_put hT hd q3 q1
      · cases o.dst <;> exact q3
    split at h
    · rename_i g first cap
      split at h
      · rename_i hc
        obtain ⟨hc1, hc2⟩ := hc
        have hc1 : first = #[] := Array.eq_empty_of_size_eq_zero hc1
        have hc2 : cap = #[] := Array.eq_empty_of_size_eq_zero hc2
        subst hc1
        subst hc2
        simp only [Option.bind_eq_some_iff, Option.some.injEq] at h
        obtain ⟨vs, hvs, r, hr, rfl⟩ := h
        have hev := (evL_eq hT (show evL S f = some _ by unfold evL; rw [hf])).1
        exact go g [] #[] vs r hev rfl (by simp) hvs (by simpa using hr) rfl
      · cases h
    · rename_i g cs
      simp only [Option.bind_eq_some_iff, Option.some.injEq] at h
      obtain ⟨vs, hvs, r, hr, rfl⟩ := h
      generalize hy : a.eval f = y at hfr
      cases hfr with
      | cl hn hh => exact go g cs _ vs r hy hn hh hvs hr rfl
    · cases h
  · simp only [Option.bind_eq_some_iff, Option.some.injEq] at h
    obtain ⟨r, hr, rfl⟩ := h
    obtain ⟨_, v, w', hex, hE, m', q1, q2, q3⟩ := step_sound hg hT hr
    unfold Oper.wp
    rw [hex]
    simp only [Oper.upon]
    refine hK v m' w' ?_ ?_ ?_ (fun hf => hE ?_)
    · cases o.dst <;> exact q2
    · exact tms_put hT hd q3 q1
    · cases o.dst <;> exact q3
    · rcases Bool.or_eq_true_iff.1 hf with hf | hf
      · exact hf
      · exfalso
        rw [Bool.and_eq_true] at hf
        replace hf := hf.2
        unfold stepOp at hr
        unfold isCall at hf
        split at hf
        · rename_i c hc
          rw [hc] at hr
          simp only at hr
          split at hf
          · rename_i hcv
            rw [hcv] at hr
            cases hr
          · cases hf
        · cases hf

theorem wants_wanted (hT : Tms P.cellsOf S m w a.tmps) {ops : Array Oper} {o : Oper} {b : Bool} (h : wants S ops o = some b) : Region.wanted o (yielded ops a.tmps) = b := by
  unfold wants at h
  unfold Region.wanted
  split at h
  · rename_i hgd
    simp only [Option.some.injEq] at h
    rw [hgd]
    exact h
  · rename_i j want hgd
    rw [hgd]
    simp only [Option.bind_eq_some_iff] at h
    obtain ⟨oj, hj, d, hdst, tv, hlk, h⟩ := h
    split at h
    · rename_i t
      simp only [Option.some.injEq] at h
      subst h
      have := hT _ _ hlk
      have hb : a.tmps.getD d undef = .bool t := by
        generalize a.tmps.getD d undef = y at this
        cases this with
        | one hh => cases hh with | lit => rfl
      have hb2 : a.tmps[d]? = some (.bool t) := by
        cases hq : a.tmps[d]? with
        | none => simp [hq, undef] at hb
        | some y => simp [hq] at hb; rw [hb]
      have : yielded ops a.tmps j = some t := by
        unfold yielded
        simp [hj, hdst, hb2]
      simp only [this]
      cases t <;> cases want <;> rfl
    · simp only [Option.some.injEq] at h
      subst h
      have hR := hT _ _ hlk
      have hy : yielded ops a.tmps j = none := by
        unfold yielded
        cases hq : a.tmps[d]? with
        | none => simp [hj, hdst, hq]
        | some y =>
          have he : a.tmps.getD d undef = y := by simp [hq]
          rw [he] at hR
          cases hR with
          | tup => simp [hj, hdst, hq]
      simp only [hy]
      cases want <;> rfl
    · cases h
end
end Go.Proofs.Ytanglbgincgmaaa.Vm
