/-
  The small machine is true to the model: code, and a function's body.
-/
import Derived.Test.YtjdhdpbdaabdmaaDoorVmSoundO
namespace Go.Proofs.YtjdhdpbdaabdmaaDoor.Vm
open Go Go.RowKit
set_option linter.unusedVariables false
section
variable {P : Program} {B nt : Nat} {w0 : World} {cal : Cal} {z : Nat → Nat}

def exitOf : X → Exit
  | .norm => .normal
  | .exit id => .exit id
  | .ret => .ret
/-- Blocks that are no longer told. -/
def Sub (mem mem' : Mem) : Prop := ∀ (id : Nat) (b : Blk), mem'[id]? = some (some b) → mem[id]? = some (some b)
theorem Sub.evo {mem mem' : Mem} {ep : Nat} {m : Mp} {w : World} (h : Sub mem mem') : Evo ep ep mem mem' m m w w :=
  ⟨Nat.le_refl _, Nat.le_refl _, fun k hk => ⟨hk.1, rfl⟩, fun k hk _ => hk, fun id bv c hc => .inr ⟨c, h _ _ hc, rfl⟩, fun id hv cv e rs hc => .inr ⟨cv, rs, h _ _ hc, rfl⟩, fun id hv cv e rs hc => .inr ⟨hv, e, rs, h _ _ hc, fun k hk => ⟨hk, rfl⟩⟩⟩
theorem Sub.good {mem mem' : Mem} {ep : Nat} {m : Mp} {w : World} (h : Sub mem mem') (h0 : mem'[0]? = some none) (hg : Good z B w0 mem ep m w) : Good z B w0 mem' ep m w :=
  ⟨fun id b hb => (hg.blk id b (h _ _ hb)).keep h.evo rfl (fun k hk _ => ⟨hk, rfl⟩), hg.lab, hg.below, hg.hB, h0⟩
theorem Sub.take (mem : Mem) (n : Nat) : Sub mem (mem.take n) := by
  intro id b h
  rw [List.getElem?_take] at h
  split at h
  · exact h
  · cases h
theorem look_keep (tm : List (Nat × TV)) : ∀ (l : List Nat) (t : Nat) (v : TV), look (l.filterMap fun t => (look tm t).map fun v => (t, v)) t = some v → look tm t = some v := by
  intro l
  induction l with
  | nil => intro t v h; simp [look] at h
  | cons x l ih =>
    intro t v h
    simp only [List.filterMap_cons] at h
    cases hx : look tm x with
    | none =>
      simp only [hx, Option.map_none] at h
      exact ih t v h
    | some u =>
      simp only [hx, Option.map_some, look] at h
      split at h
      · rename_i he
        subst he
        rw [hx]
        exact h
      · exact ih t v h

theorem wp_loop_fuel {c : Code} {Q : Exit → Act → World → Prop} (I : Nat → Act → World → Prop) (h00 : ∀ a w, ¬ I 0 a w) (round : ∀ n a w, I (n + 1) a w → c.wp P (Exit.then (I n) Q) a w) {n : Nat} {a : Act} {w : World} (h : I n a w) : (Code.loop c).wp P Q a w := by
  classical
  have least : ∀ a w, (∃ n, I n a w) → ∃ n, I n a w ∧ ∀ k, I k a w → n ≤ k := by
    intro a w ⟨n, hn⟩
    induction n using Nat.strongRecOn with
    | _ n ih =>
      by_cases hk : ∃ k, k < n ∧ I k a w
      · obtain ⟨k, hk1, hk2⟩ := hk
        exact ih k hk1 hk2
      · exact ⟨n, hn, fun k hIk => Nat.le_of_not_lt fun hlt => hk ⟨k, hlt, hIk⟩⟩
  refine wp_loop (fun a w => ∃ n, I n a w) (fun a w => if h : ∃ n, I n a w then (least a w h).choose else 0) ⟨n, h⟩ (fun a w hI => ?_)
  obtain ⟨h1, h2⟩ := (least a w hI).choose_spec
  simp only [dif_pos hI]
  generalize (least a w hI).choose = q at h1 h2
  cases q with
  | zero => exact absurd h1 (h00 a w)
  | succ q =>
    refine wp_mono (round q a w h1) (fun e a' w' he => ?_)
    cases e with
    | normal =>
      have hex : ∃ n, I n a' w' := ⟨q, he⟩
      refine ⟨hex, ?_⟩
      simp only [dif_pos hex]
      have := (least a' w' hex).choose_spec.2 q he
      omega
    | _ => exact he

theorem exec_sound (hcal : CalOk P B w0 cal) (hm : P.follows .mixedOrders = true) {k n0 : Nat} (hn0 : 0 < n0) {lm : Nat → List Nat × Nat} : ∀ (c : Code) (b : Nat) {S : St} {x : X} {S' : St} {m : Mp} {w : World} {a : Act}, exec P cal k n0 lm b c S = some (x, S') →
    Good P.cellsOf B w0 S.mem S.ep m w → Tms P.cellsOf S m w a.tmps → a.tmps.size = nt → a.defers = [] → dsts nt c = true → c.wp P (fun e a' w' => e = exitOf x ∧ Ends P B w0 nt S S' m w a' w') a w := by
  intro c
  induction c with
  | skip =>
    intro b S x S' m w a h hg hT hs hde hd
    simp only [exec, Option.some.injEq, Prod.mk.injEq] at h
    obtain ⟨rfl, rfl⟩ := h
    exact wp_skip ⟨rfl, hs, hde, m, hg, hT, Evo.refl⟩
  | region id ops draw =>
    intro b S x S' m w a h hg hT hs hde hd
    simp only [exec] at h
    have hx : x = .norm := by
      cases draw
      · simp only [Bool.false_eq_true, if_false, Option.bind_eq_some_iff, Option.some.injEq, Prod.mk.injEq] at h
        obtain ⟨_, _, h, _⟩ := h
        exact h.symm
      · simp only [if_true, Option.bind_eq_some_iff, Option.some.injEq, Prod.mk.injEq] at h
        obtain ⟨_, _, _, _, _, _, h, _⟩ := h
        exact h.symm
    subst hx
    exact region_sound hcal hm h hg hT hs hde hd (fun c a w hq => by cases hq.1) (fun a' w' he => ⟨rfl, he⟩)
  | seq c1 c2 ih1 ih2 =>
    intro b S x S' m w a h hg hT hs hde hd
    simp only [exec, Option.bind_eq_some_iff] at h
    obtain ⟨⟨x1, S1⟩, h1, h2⟩ := h
    simp only [dsts, Bool.and_eq_true] at hd
    refine wp_seq (wp_mono (ih1 b h1 hg hT hs hde hd.1) (fun e a1 w1 he => ?_))
    obtain ⟨rfl, hs1, hde1, m1, g1, g2, g3⟩ := he
    cases x1 with
    | norm =>
      simp only at h2
      exact wp_mono (ih2 b h2 g1 g2 hs1 hde1 hd.2) (fun e a2 w2 ⟨he, hen⟩ => ⟨he, hen.trans g3⟩)
    | exit id =>
      simp only [Option.some.injEq, Prod.mk.injEq] at h2
      obtain ⟨rfl, rfl⟩ := h2
      exact ⟨rfl, hs1, hde1, m1, g1, g2, g3⟩
    | ret =>
      simp only [Option.some.injEq, Prod.mk.injEq] at h2
      obtain ⟨rfl, rfl⟩ := h2
      exact ⟨rfl, hs1, hde1, m1, g1, g2, g3⟩
  | cond c c1 c2 ih1 ih2 =>
    intro b S x S' m w a h hg hT hs hde hd
    simp only [exec, Option.bind_eq_some_iff] at h
    obtain ⟨v, hv, h⟩ := h
    simp only [dsts, Bool.and_eq_true] at hd
    split at h
    · rename_i t
      have hc := (evL_eq hT hv).1
      cases t with
      | true => exact wp_cond_true hc (ih1 b (by simpa using h) hg hT hs hde hd.1)
      | false => exact wp_cond_false hc (ih2 b (by simpa using h) hg hT hs hde hd.2)
    · cases h
  | block id c ih =>
    intro b S x S' m w a h hg hT hs hde hd
    simp only [exec, Option.bind_eq_some_iff] at h
    obtain ⟨⟨x1, S1⟩, h1, h2⟩ := h
    refine wp_block (wp_mono (ih id h1 hg hT hs hde hd) (fun e a1 w1 he => ?_))
    obtain ⟨rfl, hen⟩ := he
    cases x1 with
    | norm =>
      simp only [Option.some.injEq, Prod.mk.injEq] at h2
      obtain ⟨rfl, rfl⟩ := h2
      exact ⟨rfl, hen⟩
    | exit id' =>
      simp only at h2
      simp only [exitOf, Exit.inBlock]
      split at h2
      · rename_i he
        simp only [Option.some.injEq, Prod.mk.injEq] at h2
        obtain ⟨rfl, rfl⟩ := h2
        rw [if_pos he]
        exact ⟨rfl, hen⟩
      · rename_i he
        simp only [Option.some.injEq, Prod.mk.injEq] at h2
        obtain ⟨rfl, rfl⟩ := h2
        rw [if_neg he]
        exact ⟨rfl, hen⟩
    | ret =>
      simp only [Option.some.injEq, Prod.mk.injEq] at h2
      obtain ⟨rfl, rfl⟩ := h2
      exact ⟨rfl, hen⟩
  | loop c ih =>
    intro b S x S' m w a h hg hT hs hde hd
    simp only [exec, Option.bind_eq_some_iff, Option.some.injEq, Prod.mk.injEq] at h
    obtain ⟨⟨x0, S0⟩, h, hxx, rfl⟩ := h
    simp only at hxx
    subst hxx
    suffices hW : (Code.loop c).wp P (fun e a' w' => e = exitOf x0 ∧ Ends P B w0 nt S S0 m w a' w') a w by
      refine wp_mono hW (fun e a1 w1 he => ?_)
      obtain ⟨rfl, hs1, hde1, m1, q1, q2, q3⟩ := he
      have hsub : Sub S0.mem (keep n0 (lm b) S0).mem := Sub.take _ _
      refine ⟨rfl, hs1, hde1, m1, hsub.good (by have h6 := q1.fst; show (S0.mem.take (n0 + (lm b).2))[0]? = _; rw [List.getElem?_take, if_pos (by omega)]; exact h6) q1, fun t tv ht => (q2 t tv (look_keep _ _ _ _ ht)).evo hsub.evo, q3.trans (hsub.evo (ep := S0.ep))⟩
    refine wp_loop_fuel (fun n a1 w1 => ∃ S1 m1, iter (fun S => exec P cal k n0 lm b c (keep n0 (lm b) S)) n S1 = some (x0, S0) ∧ Good P.cellsOf B w0 S1.mem S1.ep m1 w1 ∧ Tms P.cellsOf S1 m1 w1 a1.tmps ∧ a1.tmps.size = nt ∧ a1.defers = [] ∧ Evo S.ep S1.ep S.mem S1.mem m m1 w w1)
      (fun a1 w1 ⟨S1, m1, hi, _⟩ => by simp [iter] at hi) (fun n a1 w1 hI => ?_) (n := k) ⟨S, m, h, hg, hT, hs, hde, Evo.refl⟩
    obtain ⟨S1, m1, hi, g1, g2, g3, g4, g5⟩ := hI
    simp only [iter, Option.bind_eq_some_iff] at hi
    obtain ⟨⟨x2, S2⟩, h1, h2⟩ := hi
    have hsub : Sub S1.mem (keep n0 (lm b) S1).mem := Sub.take _ _
    have hTk : Tms P.cellsOf (keep n0 (lm b) S1) m1 w1 a1.tmps := fun t tv ht => (g2 t tv (look_keep _ _ _ _ ht)).evo hsub.evo
    refine wp_mono (ih b h1 (hsub.good (by have h6 := g1.fst; show (S1.mem.take (n0 + (lm b).2))[0]? = _; rw [List.getElem?_take, if_pos (by omega)]; exact h6) g1) hTk g3 g4 hd) (fun e a2 w2 he => ?_)
    obtain ⟨rfl, hs2, hde2, m2, q1, q2, q3⟩ := he
    have hev : Evo S.ep S2.ep S.mem S2.mem m m2 w w2 := (g5.trans (hsub.evo (ep := S1.ep))).trans q3
    cases x2 with
    | norm => exact ⟨S2, m2, h2, q1, q2, hs2, hde2, hev⟩
    | exit id =>
      simp only [Option.some.injEq, Prod.mk.injEq] at h2
      obtain ⟨rfl, rfl⟩ := h2
      exact ⟨rfl, hs2, hde2, m2, q1, q2, hev⟩
    | ret =>
      simp only [Option.some.injEq, Prod.mk.injEq] at h2
      obtain ⟨rfl, rfl⟩ := h2
      exact ⟨rfl, hs2, hde2, m2, q1, q2, hev⟩
  | exit id =>
    intro b S x S' m w a h hg hT hs hde hd
    simp only [exec, Option.some.injEq, Prod.mk.injEq] at h
    obtain ⟨rfl, rfl⟩ := h
    exact wp_exit ⟨rfl, hs, hde, m, hg, hT, Evo.refl⟩
  | ret =>
    intro b S x S' m w a h hg hT hs hde hd
    simp only [exec, Option.some.injEq, Prod.mk.injEq] at h
    obtain ⟨rfl, rfl⟩ := h
    exact wp_ret ⟨rfl, hs, hde, m, hg, hT, Evo.refl⟩
  | _ =>
    intro b S x S' m w a h
    simp [exec] at h

/-- What a result stands for. -/
def resF (tmps : Array Value) : ResultVar → Sem Value
  | .tmp t => pure (tmps.getD t undef)
  | .cell a t => do loadVar t (← asAddr (tmps.getD a undef))
theorem resL_run {S : St} {m : Mp} {w : World} {tmps : Array Value} (hg : Good P.cellsOf B w0 S.mem S.ep m w) (hT : Tms P.cellsOf S m w tmps) : ∀ (l : List ResultVar) (tvs : List TV), resL P S l = some tvs →
    ∃ vs : List Value, (l.mapM (resF tmps)).run P w = .ok vs w ∧ vs.length = tvs.length ∧
      ∀ (j : Nat) (u : TV) (y : Value), tvs[j]? = some u → vs[j]? = some y → RTV P.cellsOf S.mem S.ep m w u y := by
  intro l
  induction l with
  | nil => intro tvs h; simp only [resL, Option.some.injEq] at h; subst h; exact ⟨[], by simp, rfl, by simp⟩
  | cons x l ih =>
    intro tvs h
    simp only [resL, Option.bind_eq_some_iff, Option.some.injEq] at h
    obtain ⟨tv, htv, tvs', htvs, rfl⟩ := h
    obtain ⟨vs, h1, h2, h3⟩ := ih tvs' htvs
    have fin : ∀ (v : Value), (resF tmps x).run P w = .ok v w → RTV P.cellsOf S.mem S.ep m w tv v →
        ∃ vs : List Value, ((x :: l).mapM (resF tmps)).run P w = .ok vs w ∧ vs.length = (tv :: tvs').length ∧
          ∀ (j : Nat) (u : TV) (y : Value), (tv :: tvs')[j]? = some u → vs[j]? = some y → RTV P.cellsOf S.mem S.ep m w u y := by
      intro v hv hr
      refine ⟨v :: vs, ?_, by simp [h2], fun j u y a b => ?_⟩
      · rw [List.mapM_cons]
        simp only [Sem.run_bind, hv, Result.andThen_ok, h1, Sem.run_pure]
      · cases j with
        | zero => simp at a b; subst a; subst b; exact hr
        | succ j => simp at a b; exact h3 j u y a b
    cases x with
    | tmp t => exact fin _ rfl (hT t tv htv)
    | cell a T =>
      simp only [resV] at htv
      split at htv
      · cases htv
      · rename_i h0
        simp only [Option.bind_eq_some_iff] at htv
        obtain ⟨p, hp, hl⟩ := htv
        have hrp : RV P.cellsOf S.mem S.ep m w p (tmps.getD a undef) := by
          unfold ev1 at hp
          split at hp
          · rename_i v' he
            simp only [Option.some.injEq] at hp
            subst hp
            have := hT a _ he
            cases this with
            | one h => exact h
          · cases hp
        obtain ⟨v, hv, hr⟩ := loadV_run hg hrp hl h0
        refine fin v ?_ hr
        have := hv w (Ext.refl w)
        unfold Instr.loadAt at this
        show (do loadVar T (← asAddr (tmps.getD a undef)) : Sem Value).run P w = .ok v w
        generalize tmps.getD a undef = y at this hrp ⊢
        cases y with
        | pointer o =>
          cases o with
          | none => simp [Instr.sureAddr, stuck, Sem.run] at this
          | some ad => simpa [Instr.sureAddr, asAddr] using this
        | _ => simp [Instr.sureAddr, stuck, Sem.run] at this

theorem slots_look : ∀ (args : List TV) (k t : Nat) (v : TV), look (slots k args) t = some v → k ≤ t ∧ args[t - k]? = some v := by
  intro args
  induction args with
  | nil => intro k t v h; simp [slots, look] at h
  | cons x args ih =>
    intro k t v h
    simp only [slots, look] at h
    split at h
    · rename_i he
      subst he
      simpa using h
    · rename_i he
      obtain ⟨h1, h2⟩ := ih (k + 1) t v h
      refine ⟨by omega, ?_⟩
      obtain ⟨d, rfl⟩ : ∃ d, t = k + 1 + d := ⟨t - (k + 1), by omega⟩
      rw [show k + 1 + d - k = d + 1 from by omega]
      rw [show k + 1 + d - (k + 1) = d from by omega] at h2
      simpa using h2

/-- What a function's body does. -/
theorem body_sound (hcal : CalOk P B w0 cal) (hm : P.follows .mixedOrders = true) {f : Nat} {fn : Func} {c : Code} (hf : P.funcs[f]? = some fn) (hb : fn.body = some c) (hd : dsts fn.ntmps c = true) {args : List TV} {ys : Array Value} (hsz : ys.size ≤ fn.ntmps) (hl : ys.size = args.length)
    {k : Nat} {lm : Nat → List Nat × Nat} {mem : Mem} {ep : Nat} {r : TV × Mem × Nat} (h : body P cal k lm fn args mem ep = some r) {m : Mp} {w : World} (hg : Good P.cellsOf B w0 mem ep m w)
    (ha : ∀ (j : Nat) (v : TV) (y : Value), args[j]? = some v → ys[j]? = some y → RTV P.cellsOf mem ep m w v y) :
    Calls P f ys w fun e w' => ∃ v, e = .returned v ∧ ∃ m', RTV P.cellsOf r.2.1 r.2.2 m' w' r.1 v ∧ Good P.cellsOf B w0 r.2.1 r.2.2 m' w' ∧ Evo ep r.2.2 mem r.2.1 m m' w w' := by
  unfold body at h
  simp only [hb, Option.bind_some, Option.bind_eq_some_iff] at h
  obtain ⟨⟨x, S'⟩, hex, h⟩ := h
  obtain ⟨tv, htv, hr⟩ : ∃ tv, resT P S' fn = some tv ∧ r = (tv, S'.mem, S'.ep) ∧ (x = .norm ∨ x = .ret) := by
    cases x with
    | exit id => cases h
    | norm =>
      simp only [Option.bind_eq_some_iff, Option.some.injEq] at h
      obtain ⟨v, hv, rfl⟩ := h
      exact ⟨v, hv, rfl, .inl rfl⟩
    | ret =>
      simp only [Option.bind_eq_some_iff, Option.some.injEq] at h
      obtain ⟨v, hv, rfl⟩ := h
      exact ⟨v, hv, rfl, .inr rfl⟩
  obtain ⟨rfl, hx⟩ := hr
  have hT : Tms P.cellsOf ⟨slots 0 args, mem, ep⟩ m w (ys ++ Array.replicate (fn.ntmps - ys.size) undef) := by
    intro t v ht
    obtain ⟨_, h2⟩ := slots_look _ _ _ _ ht
    simp only [Nat.sub_zero] at h2
    have hlt : t < ys.size := by rw [hl]; exact (List.getElem?_eq_some_iff.1 h2).1
    have e1 : (ys ++ Array.replicate (fn.ntmps - ys.size) undef).getD t undef = ys[t] := by
      simp [Array.getElem?_append_left hlt, hlt]
    rw [e1]
    exact ha t v _ h2 (Array.getElem?_eq_getElem hlt)
  refine calls_of_wp hf hb (wp_mono (exec_sound (nt := fn.ntmps) hcal hm (List.getElem?_eq_some_iff.1 hg.fst).1 c 0 hex hg hT (by simp; omega) rfl hd) (fun e a' w' he => ?_))
  obtain ⟨rfl, hs', hde', m', g1, g2, g3⟩ := he
  have key : ∃ v, (results fn a'.tmps).run P w' = .ok v w' ∧ RTV P.cellsOf S'.mem S'.ep m' w' tv v := by
    unfold resT at htv
    simp only [Option.bind_eq_some_iff] at htv
    obtain ⟨tvs, htvs, htv⟩ := htv
    obtain ⟨vs, h1, h2, h3⟩ := resL_run g1 g2 _ _ htvs
    have hres : results fn a'.tmps = (do let vs ← fn.results.mapM (resF a'.tmps); pure (if h : vs.size = 1 then vs[0] else .tuple vs)) := rfl
    rw [hres, Array.mapM_eq_mapM_toList]
    refine ⟨if h : vs.toArray.size = 1 then vs.toArray[0] else .tuple vs.toArray, ?_, ?_⟩
    · simp only [Sem.run_bind, Sem.run_map, h1]
      rfl
    · split at htv
      · rename_i v
        simp only [Option.some.injEq] at htv
        subst htv
        obtain ⟨y, rfl⟩ : ∃ y, vs = [y] := List.length_eq_one_iff.1 (by simpa using h2)
        exact h3 0 v y rfl rfl
      · rename_i hne
        simp only [Option.some.injEq] at htv
        subst htv
        have : ¬ vs.toArray.size = 1 := by
          intro h1
          rw [List.size_toArray, h2] at h1
          obtain ⟨v, rfl⟩ := List.length_eq_one_iff.1 h1
          exact hne v rfl
        rw [dif_neg this]
        exact .tup (by simpa using h2) (fun j u y a b => h3 j u y a (by simpa using b))
  obtain ⟨v, hv, hr⟩ := key
  rcases hx with rfl | rfl
  · exact ⟨hde', v, hv, v, rfl, m', hr, g1, g3⟩
  · exact ⟨hde', v, hv, v, rfl, m', hr, g1, g3⟩
end
end Go.Proofs.YtjdhdpbdaabdmaaDoor.Vm
