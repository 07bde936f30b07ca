/-
  The small machine is true to the model: regions.
-/
import Derived.Test.YtanglbgincgmaaaVmSoundN
namespace Go.Proofs.Ytanglbgincgmaaa.Vm
open Go Go.RowKit Go.Proofs.Ytanglbgincgmaaa.VmLast
set_option linter.unusedVariables false
section
variable {P : Program} {B nt : Nat} {w0 : World} {cal : Cal} {Q : Exit → Act → World → Prop} {ops : Array Oper}

/-- What holds behind a piece of code. -/
def Ends (P : Program) (B : Nat) (w0 : World) (nt : Nat) (S S' : St) (m : Mp) (w : World) (a' : Act) (w' : World) : Prop :=
  a'.tmps.size = nt ∧ a'.defers = [] ∧ ∃ m', Good P.cellsOf B w0 S'.mem S'.ep m' w' ∧ Tms P.cellsOf S' m' w' a'.tmps ∧ Evo S.ep S'.ep S.mem S'.mem m m' w w'
theorem Ends.trans {S S1 S' : St} {m m1 : Mp} {w w1 : World} {a' : Act} {w' : World} (h : Evo S.ep S1.ep S.mem S1.mem m m1 w w1) (k : Ends P B w0 nt S1 S' m1 w1 a' w') : Ends P B w0 nt S S' m w a' w' := by
  obtain ⟨h1, h2, m', h3, h4, h5⟩ := k
  exact ⟨h1, h2, m', h3, h4, h.trans h5⟩
theorem put_size (a : Act) (dst : Option Tmp) (v : Value) : (a.put dst v).tmps.size = a.tmps.size := by cases dst <;> simp [Act.put]
theorem put_defers (a : Act) (dst : Option Tmp) (v : Value) : (a.put dst v).defers = a.defers := by cases dst <;> simp [Act.put]
theorem dstOk_spec {o : Oper} (h : dstOk nt o = true) : ∀ d, o.dst = some d → d < nt := by
  intro d hd
  unfold dstOk at h
  rw [hd] at h
  simpa using h

/-- One operation, wanted or not. -/
theorem one_sound {x : Bool} (hcal : CalOk P B w0 cal x) {S S1 : St} {m : Mp} {w : World} {a : Act} (hg : Good P.cellsOf B w0 S.mem S.ep m w) (hT : Tms P.cellsOf S m w a.tmps) {o : Oper} (hd : ∀ d, o.dst = some d → d < a.tmps.size) {b : Bool}
    (hw : wants S ops o = some b) (h : (if b then runOp P cal S o else some (putT S o.dst (.tup [], S.mem, S.ep))) = some S1) {K : Act → World → Prop} (hK : After x P B w0 S S1 m w a o K) :
    if Region.wanted o (yielded ops a.tmps) then o.wp P a w K Q else K (a.put o.dst undef) w := by
  rw [wants_wanted hT hw]
  cases b with
  | true =>
    simp only [if_true] at h ⊢
    exact runOp_sound hcal hg hT hd h hK
  | false =>
    simp only [Bool.false_eq_true, if_false, Option.some.injEq] at h ⊢
    subst h
    refine hK undef m w ?_ (tms_put hT hd Evo.refl undef_rtv) ?_ (fun _ => Ext.refl w)
    · cases o.dst <;> exact hg
    · cases o.dst <;> exact Evo.refl

theorem runOps_sound (hcal : CalOk P B w0 cal) : ∀ (l : List Oper) {S S' : St} {m : Mp} {w : World} {a : Act}, runOps P cal ops l S = some S' → Good P.cellsOf B w0 S.mem S.ep m w → Tms P.cellsOf S m w a.tmps → a.tmps.size = nt → a.defers = [] →
    (∀ o ∈ l, dstOk nt o = true) → (∀ a' w', Ends P B w0 nt S S' m w a' w' → Q .normal a' w') → wpList P ops Q l a w := by
  intro l
  induction l with
  | nil =>
    intro S S' m w a h hg hT hs hde _ hQ
    simp only [runOps, Option.some.injEq] at h
    subst h
    exact hQ a w ⟨hs, hde, m, hg, hT, Evo.refl⟩
  | cons o l ih =>
    intro S S' m w a h hg hT hs hde hl hQ
    simp only [runOps, Option.bind_eq_some_iff] at h
    obtain ⟨b, hb, h⟩ := h
    obtain ⟨S1, h1, h2⟩ : ∃ S1, (if b then runOp P cal S o else some (putT S o.dst (.tup [], S.mem, S.ep))) = some S1 ∧ runOps P cal ops l S1 = some S' := by
      cases b with
      | true =>
        simp only [if_true, Option.bind_eq_some_iff] at h
        exact h
      | false => exact ⟨_, rfl, h⟩
    have hd := dstOk_spec (hl o List.mem_cons_self)
    refine wpList_step fun K hKK => one_sound hcal hg hT (fun d h => by rw [hs]; exact hd d h) hb h1 (fun v m' w' q1 q2 q3 _ => hKK _ _ ?_)
    exact ih h2 q1 q2 (by rw [put_size]; exact hs) (by rw [put_defers]; exact hde) (fun o ho => hl o (List.mem_cons_of_mem _ ho)) (fun a' w'' he => hQ a' w'' (he.trans q3))

theorem lit_any {S : St} {m : Mp} {w : World} {a : Act} (hT : Tms P.cellsOf S m w a.tmps) {o : Oper} (hk : litKind o = true) {r : TV × Mem × Nat} (h : stepOp P S o = some r) :
    ∃ v, (∀ w', (execOp a.eval o).run P w' = .ok (.value v) w') ∧ RTV P.cellsOf S.mem S.ep m w r.1 v ∧ r.2 = (S.mem, S.ep) := by
  unfold litKind at hk
  split at hk
  · rename_i op T x y T' ho
    unfold stepOp at h
    simp only [ho] at h
    split at h
    · simp only [Option.bind_eq_some_iff, Option.some.injEq] at h
      obtain ⟨t, ht, rfl⟩ := h
      refine ⟨.bool t, fun w' => ?_, .one (.lit rfl), rfl⟩
      have he : execOp a.eval o = (do let x ← (do eqGuard op T x (.const (.slice none 0 0)) (a.eval x) (.slice none 0 0); binOp op T (a.eval x) (.slice none 0 0)); pure (Next.value x)) := by
        unfold execOp
        simp only [ho]
        rfl
      rw [he]
      exact run_value (nilV_run hT ht w')
    simp only [Option.bind_eq_some_iff, Option.some.injEq] at h
    obtain ⟨vx, hx, vy, hy, v, hq, tv, hl, rfl⟩ := h
    obtain ⟨ex, _⟩ := evL_eq hT hx
    obtain ⟨ey, _⟩ := evL_eq hT hy
    refine ⟨v, fun w' => ?_, lift_rtv hl, rfl⟩
    have he : execOp a.eval o = (do let x ← (do eqGuard op T x y vx vy; binOp op T vx vy); pure (Next.value x)) := by
      unfold execOp
      simp only [ho, ex, ey]
    rw [he]
    exact run_value (quiet_run (show quiet P _ = some v from hq) w')
  · rename_i op T x ho
    unfold stepOp at h
    simp only [ho, Option.bind_eq_some_iff, Option.some.injEq] at h
    obtain ⟨vx, hx, v, hq, tv, hl, rfl⟩ := h
    obtain ⟨ex, _⟩ := evL_eq hT hx
    refine ⟨v, fun w' => ?_, lift_rtv hl, rfl⟩
    have he : execOp a.eval o = (do let x ← Op.unary op vx; pure (Next.value x)) := by
      unfold execOp
      simp only [ho, ex]
    rw [he]
    exact run_value (quiet_run (show quiet P _ = some v from hq) w')
  · cases hk

theorem singles_sound (hcal : CalOk P B w0 cal true) {ds : List Nat} {wI : World} (hQ0 : ∀ c a w, ¬ Q (.panic c) a w) (hl : ∀ (i : Nat) (o : Oper), ops[i]? = some o → dstOk nt o = true) : ∀ (s : List Nat) (l : Array Bool) {S S' : St} {m : Mp} {w : World} {a : Act} (fuel : Nat), s.length ≤ fuel → chkS ops ds s l = true → runI P cal ops s S = some S' →
    Good P.cellsOf B w0 S.mem S.ep m w → Tms P.cellsOf S m w a.tmps → a.tmps.size = nt → a.defers = [] → (∀ a' w', Ends P B w0 nt S S' m w a' w' → Q .normal a' w') → wpAnyLast P .any ops Q (Ext wI) ds fuel l a w := by
  intro s
  induction s with
  | nil =>
    intro l S S' m w a fuel _ hc h hg hT hs hde hQ
    simp only [runI, Option.some.injEq] at h
    subst h
    simp only [chkS] at hc
    exact done_ hc (hQ a w ⟨hs, hde, m, hg, hT, Evo.refl⟩)
  | cons i s ih =>
    intro l S S' m w a fuel hf hc h hg hT hs hde hQ
    obtain ⟨fuel, rfl⟩ : ∃ n, fuel = n + 1 := ⟨fuel - 1, by simp at hf; omega⟩
    simp only [runI, Option.bind_eq_some_iff] at h
    obtain ⟨o, ho, b, hb, h⟩ := h
    obtain ⟨S1, h1, h2⟩ : ∃ S1, (if b then runOp P cal S o else some (putT S o.dst (.tup [], S.mem, S.ep))) = some S1 ∧ runI P cal ops s S1 = some S' := by
      cases b with
      | true =>
        simp only [if_true, Option.bind_eq_some_iff] at h
        exact h
      | false => exact ⟨_, rfl, h⟩
    have hd : ∀ d, o.dst = some d → d < a.tmps.size := fun d h => by rw [hs]; exact dstOk_spec (hl i o ho) d h
    simp only [chkS] at hc
    rw [Bool.and_eq_true, Bool.or_eq_true] at hc
    obtain ⟨hc, hc3⟩ := hc
    rcases hc with hc | hc
    rotate_left
    · simp only [Bool.and_eq_true, ho, Option.elim_some] at hc
      obtain ⟨hk, hany⟩ := hc
      have go : ∀ (v : Value), Yields P ops o v a → S1.mem = S.mem → S1.ep = S.ep → Tms P.cellsOf S1 m w (a.put o.dst v).tmps → wpAnyLast P .any ops Q (Ext wI) ds (fuel + 1) l a w := by
        intro v hy e1 e2 hT1
        refine pure_ (l.setIfInBounds i true) ho rfl hany (fun c a' w' hq => absurd hq (hQ0 _ _ _)) hy rfl ?_
        refine ih _ fuel (by simp at hf; omega) hc3 h2 (by rw [e1, e2]; exact hg) hT1 (by rw [put_size]; exact hs) (by rw [put_defers]; exact hde) (fun a' w'' he => hQ a' w'' (Ends.trans (S := S) (S1 := S1) (m := m) (m1 := m) (w := w) (w1 := w) ?_ he))
        rw [e1, e2]
        exact Evo.refl
      cases b with
      | true =>
        simp only [if_true] at h1
        obtain ⟨r, hr, rfl⟩ : ∃ r, stepOp P S o = some r ∧ S1 = putT S o.dst r := by
          unfold runOp at h1
          split at h1
          · rename_i ho'; simp [litKind, ho'] at hk
          · rename_i ho'; simp [litKind, ho'] at hk
          · simp only [Option.bind_eq_some_iff, Option.some.injEq] at h1
            obtain ⟨r, hr, h1⟩ := h1
            exact ⟨r, hr, h1.symm⟩
        obtain ⟨v, hv, hrt, he⟩ := lit_any hT hk hr
        obtain ⟨tv, mm, ee⟩ := r
        simp only [Prod.mk.injEq] at he
        obtain ⟨rfl, rfl⟩ := he
        refine go v (.inl ⟨wants_wanted hT hb, hv⟩) ?_ ?_ (tms_put hT hd Evo.refl hrt)
        · cases o.dst <;> rfl
        · cases o.dst <;> rfl
      | false =>
        simp only [Bool.false_eq_true, if_false, Option.some.injEq] at h1
        subst h1
        refine go undef (.inr ⟨wants_wanted hT hb, rfl⟩) ?_ ?_ (tms_put hT hd Evo.refl undef_rtv)
        · cases o.dst <;> rfl
        · cases o.dst <;> rfl
    simp only [Bool.and_eq_true, Bool.or_eq_true, beq_iff_eq] at hc
    obtain ⟨hc1, hc2⟩ := hc
    refine wpAnyLast_all hc1 (by simp) (fun j hj => ?_)
    obtain rfl : j = i := by simpa using hj
    have hK := one_sound (K := fun a' w' => (j ∉ ds → Ext wI w → Ext wI w') ∧ wpAnyLast P .any ops Q (Ext wI) ds fuel (l.setIfInBounds j true) a' w') (Q := Q) hcal hg hT (fun d h => by rw [hs]; exact dstOk_spec (hl j o ho) d h) hb h1 (fun v m' w' q1 q2 q3 q4 => by
      refine ⟨fun hn he => he.trans (q4 ?_), ?_⟩
      · rcases hc2 with hc2 | hc2
        · exact absurd (by simpa using hc2) hn
        · rw [ho] at hc2
          simpa using hc2
      · exact ih _ fuel (by simp at hf; omega) hc3 h2 q1 q2 (by rw [put_size]; exact hs) (by rw [put_defers]; exact hde) (fun a' w'' he => hQ a' w'' (he.trans q3)))
    unfold wpOp
    simp only [ho]
    split
    · rename_i hwt
      rw [if_pos hwt] at hK
      exact .inl hK
    · rename_i hwt
      rw [if_neg hwt] at hK
      exact hK

theorem takes_sound (hcal : CalOk P B w0 cal true) {ds : List Nat} (hQ0 : ∀ c a w, ¬ Q (.panic c) a w) (hl : ∀ (i : Nat) (o : Oper), ops[i]? = some o → dstOk nt o = true) {m : Mp} {w : World} : ∀ (t : List Nat) (l : Array Bool) {S S' : St} {a : Act} (fuel : Nat), t.length ≤ fuel → chkT ops ds t l = true → runI P cal ops t S = some S' →
    Good P.cellsOf B w0 S.mem S.ep m w → Tms P.cellsOf S m w a.tmps → a.tmps.size = nt → a.defers = [] →
    (∀ a', Good P.cellsOf B w0 S'.mem S'.ep m w → Tms P.cellsOf S' m w a'.tmps → Evo S.ep S'.ep S.mem S'.mem m m w w → a'.tmps.size = nt → a'.defers = [] → wpAnyLast P .any ops Q (Ext w) ds (fuel - t.length) (marked l t) a' w) → wpAnyLast P .any ops Q (Ext w) ds fuel l a w := by
  intro t
  induction t with
  | nil =>
    intro l S S' a fuel _ hc h hg hT hs hde hQ
    simp only [runI, Option.some.injEq] at h
    subst h
    exact hQ a hg hT Evo.refl hs hde
  | cons i t ih =>
    intro l S S' a fuel hf hc h hg hT hs hde hQ
    obtain ⟨fuel, rfl⟩ : ∃ n, fuel = n + 1 := ⟨fuel - 1, by simp at hf; omega⟩
    simp only [runI, Option.bind_eq_some_iff] at h
    obtain ⟨o, ho, b, hb, h⟩ := h
    simp only [chkT, Bool.and_eq_true, ho] at hc
    obtain ⟨⟨hc1, hc2⟩, hc3⟩ := hc
    have hc2 : quietKind o = true := hc2
    have hd : ∀ d, o.dst = some d → d < a.tmps.size := fun d h => by rw [hs]; exact dstOk_spec (hl i o ho) d h
    have hlen : fuel + 1 - (i :: t).length = fuel - t.length := by simp
    rw [hlen] at hQ
    have go : ∀ (v : Value) (S1 : St), YieldsIf P ops (Ext w) o v a → S1.mem = S.mem → S1.ep = S.ep → Tms P.cellsOf S1 m w (a.put o.dst v).tmps → runI P cal ops t S1 = some S' → wpAnyLast P .any ops Q (Ext w) ds (fuel + 1) l a w := by
      intro v S1 hy e1 e2 hT1 h1
      refine take_ (l.setIfInBounds i true) ho rfl hc1 (fun c a' w' hq => absurd hq (hQ0 _ _ _)) hy (Ext.refl w) rfl ?_
      refine ih _ fuel (by simp at hf; omega) hc3 h1 (by rw [e1, e2]; exact hg) hT1 (by rw [put_size]; exact hs) (by rw [put_defers]; exact hde) (fun a' g1 g2 g3 g4 g5 => hQ a' g1 g2 ?_ g4 g5)
      rw [← e1, ← e2]
      exact g3
    cases b with
    | true =>
      simp only [if_true, Option.bind_eq_some_iff] at h
      obtain ⟨S1, h1, h2⟩ := h
      obtain ⟨r, hr, rfl⟩ : ∃ r, stepOp P S o = some r ∧ S1 = putT S o.dst r := by
        unfold runOp at h1
        split at h1
        · rename_i ho'; simp [quietKind, ho'] at hc2
        · rename_i ho'; simp [quietKind, ho'] at hc2
        · simp only [Option.bind_eq_some_iff, Option.some.injEq] at h1
          obtain ⟨r, hr, h1⟩ := h1
          exact ⟨r, hr, h1.symm⟩
      obtain ⟨hq, _⟩ := step_sound hg hT hr
      obtain ⟨e1, v, hv, hrt⟩ := hq hc2
      obtain ⟨tv, mm, ee⟩ := r
      simp only [Prod.mk.injEq] at e1
      obtain ⟨rfl, rfl⟩ := e1
      refine go v _ (.inl ⟨?_, hv⟩) ?_ ?_ (tms_put hT hd Evo.refl hrt) h2
      · exact wants_wanted hT hb
      · cases o.dst <;> rfl
      · cases o.dst <;> rfl
    | false =>
      simp only [Bool.false_eq_true, if_false] at h
      refine go undef _ (.inr ⟨wants_wanted hT hb, rfl⟩) ?_ ?_ (tms_put hT hd Evo.refl undef_rtv) h
      · cases o.dst <;> rfl
      · cases o.dst <;> rfl

theorem drawn_spec {p : List Nat × List Nat} (h : drawn ops = some p) : ∃ ds, p.1.length + p.2.length ≤ ops.size ∧ chkT ops ds p.1 (Array.replicate ops.size false) = true ∧ chkS ops ds p.2 (marked (Array.replicate ops.size false) p.1) = true := by
  unfold drawn at h
  simp only [Option.bind_eq_some_iff] at h
  obtain ⟨s, hs, h⟩ := h
  split at h
  · rename_i hc
    simp only [Option.some.injEq] at h
    subst h
    exact ⟨_, hc⟩
  · cases h

theorem region_sound (hcal : CalOk P B w0 cal) (hm : P.follows .mixedOrders = true) {id : Nat} {draw : Bool} {S S' : St} {m : Mp} {w : World} {a : Act}
    (h : (if draw then (drawn ops).bind fun p => (runI P (cal1 cal) ops p.1 S).bind fun S' => (runI P (cal1 cal) ops p.2 S').bind fun S'' => some (X.norm, S'') else (runOps P cal ops ops.toList S).bind fun S' => some (.norm, S')) = some (X.norm, S'))
    (hg : Good P.cellsOf B w0 S.mem S.ep m w) (hT : Tms P.cellsOf S m w a.tmps) (hs : a.tmps.size = nt) (hde : a.defers = []) (hl : ops.toList.all (dstOk nt) = true) (hQ0 : ∀ c a w, ¬ Q (.panic c) a w) (hQ : ∀ a' w', Ends P B w0 nt S S' m w a' w' → Q .normal a' w') :
    (Code.region id ops draw).wp P Q a w := by
  have hl' : ∀ o ∈ ops.toList, dstOk nt o = true := List.all_eq_true.1 hl
  cases draw with
  | false =>
    simp only [Bool.false_eq_true, if_false, Option.bind_eq_some_iff, Option.some.injEq, Prod.mk.injEq, true_and] at h
    obtain ⟨S1, h1, rfl⟩ := h
    exact wp_region_list (runOps_sound hcal _ h1 hg hT hs hde hl' hQ)
  | true =>
    simp only [if_true, Option.bind_eq_some_iff, Option.some.injEq, Prod.mk.injEq, true_and] at h
    obtain ⟨p, hp, S1, h1, S2, h2, rfl⟩ := h
    obtain ⟨ds, hlen, hct, hcs⟩ := drawn_spec hp
    have hbel : Below B w { w with drawn := w.drawn + 1 } := ⟨rfl, rfl, rfl, Nat.le_refl _, fun _ _ => rfl⟩
    have hE : Evo S.ep S.ep S.mem S.mem m m w { w with drawn := w.drawn + 1 } := Evo.heap rfl
    have hl2 : ∀ (i : Nat) (o : Oper), ops[i]? = some o → dstOk nt o = true := fun i o ho => hl' o (Array.mem_toList_iff.2 (Array.mem_of_getElem? ho))
    refine wp_region_last (S := Ext { w with drawn := w.drawn + 1 }) (ds := ds) hm ?_
    refine takes_sound hcal.draw hQ0 hl2 p.1 _ ops.size (by omega) hct h1 (hg.heap rfl hbel) (Tms.evo (S' := S) hT hE rfl) hs hde (fun a' g1 g2 g3 g4 g5 => ?_)
    exact singles_sound hcal.draw hQ0 hl2 p.2 _ _ (by omega) hcs h2 g1 g2 g4 g5 (fun a'' w'' he => hQ a'' w'' (he.trans (hE.trans g3)))
end
end Go.Proofs.Ytanglbgincgmaaa.Vm
