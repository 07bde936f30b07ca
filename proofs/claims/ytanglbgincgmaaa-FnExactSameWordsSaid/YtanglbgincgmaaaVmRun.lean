/-
  Running the small machine: loops, numbers, rows of numbers.
-/
import Derived.Test.YtanglbgincgmaaaVmLand
namespace Go.Proofs.Ytanglbgincgmaaa.Vm
open Go Go.RowKit
set_option linter.unusedVariables false

/-- A piece of code, by the way that leads to it. -/
def nav : List Nat → Code → Code
  | [], c => c
  | 0 :: r, .seq x _ => nav r x
  | 1 :: r, .seq _ y => nav r y
  | _ :: r, .block _ c => nav r c
  | _ :: r, .loop c => nav r c
  | 0 :: r, .cond _ x _ => nav r x
  | 1 :: r, .cond _ _ y => nav r y
  | _, c => c
def bodyOf (fn : Func) : Code := fn.body.getD .skip
/-- What is kept of a step. -/
def kept (n0 : Nat) (ann : List Nat × Nat) (r : Option (X × St)) : Option (X × St) := r.bind fun r => some (r.1, keep n0 ann r.2)

theorem loop_to {P : Program} {cal : Cal} {k n0 b : Nat} {lm : Nat → List Nat × Nat} {c : Code} (T : Nat → St) {S S' : St} {x : X} (n : Nat) (hx : x ≠ .norm) (hk : n < k) (h0 : keep n0 (lm b) S = T 0)
    (hs : ∀ i, i < n → kept n0 (lm b) (exec P cal k n0 lm b c (T i)) = some (.norm, T (i + 1))) (he : kept n0 (lm b) (exec P cal k n0 lm b c (T n)) = some (x, S')) (hold : (lm (b + 2000000)).2 ≠ 8888888 := by first | simp | assumption) : exec P cal k n0 lm b (.loop c) S = some (x, S') := by
  have key : ∀ d i q S, i + d = n → d < q → keep n0 (lm b) S = T i → ∃ S2, iter (fun S => exec P cal k n0 lm b c (keep n0 (lm b) S)) q S = some (x, S2) ∧ keep n0 (lm b) S2 = S' := by
    intro d
    induction d with
    | zero =>
      intro i q S hi hq hS
      obtain ⟨q, rfl⟩ : ∃ p, q = p + 1 := ⟨q - 1, by omega⟩
      have : i = n := by omega
      subst this
      simp only [kept, Option.bind_eq_some_iff, Option.some.injEq, Prod.mk.injEq] at he
      obtain ⟨⟨x1, S1⟩, h1, rfl, h2⟩ := he
      refine ⟨S1, ?_, h2⟩
      simp only [iter, hS, h1, Option.bind_some]
    | succ d ih =>
      intro i q S hi hq hS
      obtain ⟨q, rfl⟩ : ∃ p, q = p + 1 := ⟨q - 1, by omega⟩
      have h1 := hs i (by omega)
      simp only [kept, Option.bind_eq_some_iff, Option.some.injEq, Prod.mk.injEq] at h1
      obtain ⟨⟨x1, S1⟩, h1, h2, h3⟩ := h1
      simp only at h2 h3
      subst h2
      obtain ⟨S2, h4, h5⟩ := ih (i + 1) q S1 (by omega) (by omega) h3
      refine ⟨S2, ?_, h5⟩
      simpa only [iter, hS, h1, Option.bind_some] using h4
  obtain ⟨S2, h1, h2⟩ := key n 0 k S (by omega) hk h0
  simp only [exec, if_neg hold, h1, Option.bind_some, h2]

theorem loop_keep {P : Program} {cal : Cal} {k n0 b : Nat} {lm : Nat → List Nat × Nat} {c : Code} {S S2 : St} (h : keep n0 (lm b) S = keep n0 (lm b) S2) (hold : (lm (b + 2000000)).2 ≠ 8888888) : exec P cal k n0 lm b (.loop c) S = exec P cal k n0 lm b (.loop c) S2 := by
  have : ∀ q, iter (fun S => exec P cal k n0 lm b c (keep n0 (lm b) S)) q S = iter (fun S => exec P cal k n0 lm b c (keep n0 (lm b) S)) q S2 := by
    intro q
    cases q with
    | zero => rfl
    | succ q => simp only [iter, h]
  simp only [exec, if_neg hold, this]
theorem loop_run {P : Program} {cal : Cal} {k n0 b : Nat} {lm : Nat → List Nat × Nat} {c : Code} {σ : Type} (T : σ → St) (inv : σ → Prop) (μ : σ → Nat) (Q : σ → X → St → Prop)
    (hs : ∀ s, inv s → (∃ s', kept n0 (lm b) (exec P cal k n0 lm b c (T s)) = some (.norm, T s') ∧ inv s' ∧ μ s' < μ s ∧ ∀ x S', Q s' x S' → Q s x S') ∨ ∃ x S', kept n0 (lm b) (exec P cal k n0 lm b c (T s)) = some (x, S') ∧ x ≠ .norm ∧ Q s x S')
    {s : σ} (hi : inv s) (hk : μ s < k) (hold : (lm (b + 2000000)).2 ≠ 8888888 := by first | simp | assumption) : ∃ x S', (∀ S, keep n0 (lm b) S = T s → exec P cal k n0 lm b (.loop c) S = some (x, S')) ∧ Q s x S' := by
  have key : ∀ q s, inv s → μ s < q → ∃ x S', (∀ S, keep n0 (lm b) S = T s → ∃ S2, iter (fun S => exec P cal k n0 lm b c (keep n0 (lm b) S)) q S = some (x, S2) ∧ keep n0 (lm b) S2 = S') ∧ Q s x S' := by
    intro q
    induction q with
    | zero => intro s _ h; omega
    | succ q ih =>
      intro s hi hq
      rcases hs s hi with ⟨s', h1, h2, h3, h4⟩ | ⟨x, S', h1, h2, h3⟩
      · simp only [kept, Option.bind_eq_some_iff, Option.some.injEq, Prod.mk.injEq] at h1
        obtain ⟨⟨x1, S1⟩, h5, h6, h7⟩ := h1
        simp only at h6 h7
        subst h6
        obtain ⟨x, S', h8, h9⟩ := ih s' h2 (by omega)
        refine ⟨x, S', fun S hS => ?_, h4 x S' h9⟩
        obtain ⟨S2, h10, h11⟩ := h8 S1 h7
        exact ⟨S2, by simpa only [iter, hS, h5, Option.bind_some] using h10, h11⟩
      · simp only [kept, Option.bind_eq_some_iff, Option.some.injEq, Prod.mk.injEq] at h1
        obtain ⟨⟨x1, S1⟩, h5, h6, h7⟩ := h1
        simp only at h6 h7
        subst h6
        refine ⟨x1, S', fun S hS => ⟨S1, ?_, h7⟩, h3⟩
        simp only [iter, hS, h5, Option.bind_some]
  obtain ⟨x, S', h1, h2⟩ := key k s hi hk
  refine ⟨x, S', fun S hS => ?_, h2⟩
  obtain ⟨S2, h3, h4⟩ := h1 S hS
  simp only [exec, if_neg hold, h3, Option.bind_some, h4]

theorem look_filter (tm : List (Nat × TV)) : ∀ (l : List Nat) (t : Nat), look (l.filterMap fun t => (look tm t).map fun v => (t, v)) t = if t ∈ l then look tm t else none := by
  intro l
  induction l with
  | nil => intro t; simp [look]
  | cons x l ih =>
    intro t
    simp only [List.filterMap_cons]
    by_cases hx : x = t
    · subst hx
      cases hl : look tm x with
      | none =>
        simp only [Option.map_none]
        rw [ih, hl]
        simp
      | some v => simp [look]
    · have hx' : ¬ t = x := fun e => hx e.symm
      cases hl : look tm x with
      | none =>
        simp only [Option.map_none]
        rw [ih]
        simp [hx']
      | some v =>
        simp only [Option.map_some, look, if_neg hx]
        rw [ih]
        simp [hx']
theorem keep_keep (n : Nat) (ann : List Nat × Nat) (S : St) : keep n ann (keep n ann S) = keep n ann S := by
  unfold keep
  simp only [St.mk.injEq, List.take_take, Nat.min_self, and_true]
  have key : ∀ l : List Nat, (∀ t ∈ l, t ∈ ann.1) → (l.filterMap fun t => (look (ann.1.filterMap fun t => (look S.tm t).map fun v => (t, v)) t).map fun v => (t, v)) = l.filterMap fun t => (look S.tm t).map fun v => (t, v) := by
    intro l
    induction l with
    | nil => intro _; rfl
    | cons x l ih =>
      intro h
      simp only [List.filterMap_cons]
      rw [look_filter, if_pos (h x List.mem_cons_self), ih (fun t ht => h t (List.mem_cons_of_mem _ ht))]
  exact key ann.1 (fun _ h => h)
theorem cal1_tab (tab : Nat → Option Con) : cal1 (tabCal tab) = tabCal tab := by
  funext g vs mem ep
  unfold cal1 tabCal
  cases tab g with
  | none => rfl
  | some F =>
    simp only [Option.bind_some]
    cases seenTs mem vs with
    | none => rfl
    | some us =>
      simp only [Option.bind_some]
      cases F us with
      | none => rfl
      | some r =>
        simp only [Option.bind_some]
        cases landC (vs.all bareT) ep mem.length r.2 with
        | none => rfl
        | some p => simp
/-- A loop, from what is kept at its head. -/
noncomputable def loopAt (P : Program) (cal : Cal) (k n0 : Nat) (lm : Nat → List Nat × Nat) (b : Nat) (c : Code) (T : St) : Option (X × St) := exec P cal k n0 lm b (.loop c) T
/-- The rounds behind the first. -/
noncomputable def goOn (P : Program) (cal : Cal) (k n0 : Nat) (lm : Nat → List Nat × Nat) (b : Nat) (c : Code) (q : Nat) (r : X × St) : Option (X × St) := match r.1 with
  | .norm => iterF (fun S => exec P cal k n0 lm b c S) (keepF n0 lm b) q r.2
  | x => some (x, r.2)
/-- A loop of the new kind, from its head on: at most q rounds more. -/
noncomputable def lexec (P : Program) (cal : Cal) (k n0 : Nat) (lm : Nat → List Nat × Nat) (b : Nat) (c : Code) : Nat → St → Option (X × St)
  | 0, _ => none
  | q + 1, T => (exec P cal k n0 lm b c T).bind (goOn P cal k n0 lm b c q)
theorem iterF_eq {P : Program} {cal : Cal} {k n0 b : Nat} {lm : Nat → List Nat × Nat} {c : Code} (q : Nat) (S : St) : iterF (fun S => exec P cal k n0 lm b c S) (keepF n0 lm b) q S = lexec P cal k n0 lm b c q (keepF n0 lm b S) := by
  cases q <;> rfl
/-- And as it is left. -/
noncomputable def lexecE (P : Program) (cal : Cal) (k n0 : Nat) (lm : Nat → List Nat × Nat) (b : Nat) (c : Code) (q : Nat) (T : St) : Option (X × St) := (lexec P cal k n0 lm b c q T).bind fun r => some (endF n0 lm b r)
theorem ex_loop {P : Program} {cal : Cal} {k n0 b : Nat} {lm : Nat → List Nat × Nat} {S : St} (c : Code) : exec P cal k n0 lm b (.loop c) S = if (lm (b + 2000000)).2 = 8888888 then lexecE P cal k n0 lm b c k (keepF n0 lm b S) else loopAt P cal k n0 lm b c (keep n0 (lm b) S) := by
  by_cases h : (lm (b + 2000000)).2 = 8888888
  · rw [if_pos h]
    simp only [exec, if_pos h, iterF_eq]
    rfl
  · rw [if_neg h]
    exact loop_keep (keep_keep _ _ _).symm h
/-- A loop of the new kind comes to its end so, given rounds enough. -/
def Loops (P : Program) (cal : Nat → Cal) (n0 : Nat) (lm : Nat → List Nat × Nat) (b : Nat) (c : Code) (T : St) (r : X × St) : Prop := ∃ K, ∀ k, K ≤ k → ∀ q, K ≤ q → lexecE P (cal k) k n0 lm b c q T = some r
theorem Loops.step {P : Program} {cal : Nat → Cal} {n0 b : Nat} {lm : Nat → List Nat × Nat} {c : Code} {T T' : St} {r : X × St} (K : Nat) (h : ∀ k, K ≤ k → (exec P (cal k) k n0 lm b c T).bind (fun r => some (r.1, keepF n0 lm b r.2)) = some (.norm, T')) (h2 : Loops P cal n0 lm b c T' r) : Loops P cal n0 lm b c T r := by
  obtain ⟨K2, h2⟩ := h2
  refine ⟨K + K2 + 1, fun k hk q hq => ?_⟩
  obtain ⟨q, rfl⟩ : ∃ p, q = p + 1 := ⟨q - 1, by omega⟩
  have h1 := h k (by omega)
  simp only [Option.bind_eq_some_iff, Option.some.injEq, Prod.mk.injEq] at h1
  obtain ⟨⟨x1, S1⟩, h3, h4, h5⟩ := h1
  simp only at h4 h5
  subst h4
  have := h2 k (by omega) q (by omega)
  unfold lexecE at this ⊢
  simp only [lexec, h3, Option.bind_some, goOn, iterF_eq, h5]
  exact this
theorem Loops.stop {P : Program} {cal : Nat → Cal} {n0 b : Nat} {lm : Nat → List Nat × Nat} {c : Code} {T : St} {r : X × St} (K : Nat) (h : ∀ k, K ≤ k → (exec P (cal k) k n0 lm b c T).bind (fun r => some (endF n0 lm b r)) = some r) (hx : r.1 ≠ .norm) : Loops P cal n0 lm b c T r := by
  refine ⟨K + 1, fun k hk q hq => ?_⟩
  obtain ⟨q, rfl⟩ : ∃ p, q = p + 1 := ⟨q - 1, by omega⟩
  have h1 := h k (by omega)
  simp only [Option.bind_eq_some_iff, Option.some.injEq] at h1
  obtain ⟨⟨x1, S1⟩, h3, h4⟩ := h1
  have hx1 : x1 ≠ .norm := by
    rintro rfl
    subst h4
    exact hx rfl
  unfold lexecE
  simp only [lexec, h3, Option.bind_some, goOn]
  cases x1 with
  | norm => exact absurd rfl hx1
  | exit id => simp only [Option.bind_some, h4]
  | ret => simp only [Option.bind_some, h4]

section
variable {P : Program} {cal : Cal} {k n0 b : Nat} {lm : Nat → List Nat × Nat} {S : St}
theorem ex_skip : exec P cal k n0 lm b .skip S = some (.norm, S) := rfl
theorem fin_eq (l : List Nat) (n : Nat) : fin (l, n) S = if n = 7777777 then nilS l S else finH (l, n) S := rfl
theorem finH_eq (l : List Nat) (n : Nat) : finH (l, n) S = if n = 8888888 then hintS l S else S := rfl
theorem ex_region (id : Nat) (ops : Array Oper) : exec P cal k n0 lm b (.region id ops false) S = (runOps P cal ops ops.toList S).bind fun S' => some (.norm, fin (lm (id + 1000000)) S') := by
  show ((runOps P cal ops ops.toList S).bind fun S' => some (X.norm, S')).bind _ = _
  cases runOps P cal ops ops.toList S <;> rfl
def thn (r : X × St) (f : St → Option (X × St)) : Option (X × St) := match r.1 with
  | .norm => f r.2
  | e => some (e, r.2)
theorem ex_seq (x y : Code) : exec P cal k n0 lm b (.seq x y) S = (exec P cal k n0 lm b x S).bind fun r => thn r (exec P cal k n0 lm b y) := rfl
theorem thn_norm (S : St) (f : St → Option (X × St)) : thn (.norm, S) f = f S := rfl
theorem thn_exit (id : Nat) (S : St) (f : St → Option (X × St)) : thn (.exit id, S) f = some (.exit id, S) := rfl
theorem thn_ret (S : St) (f : St → Option (X × St)) : thn (.ret, S) f = some (.ret, S) := rfl
def iff (v : Value) (x y : Option (X × St)) : Option (X × St) := match v with
  | .bool t => if t then x else y
  | _ => none
theorem ex_cond (c : Operand) (x y : Code) : exec P cal k n0 lm b (.cond c x y) S = (evL S c).bind fun v => iff v (exec P cal k n0 lm b x S) (exec P cal k n0 lm b y S) := rfl
theorem iff_bool (t : Bool) (x y : Option (X × St)) : iff (.bool t) x y = if t then x else y := rfl
def out (id : Nat) (r : X × St) : Option (X × St) := match r.1 with
  | .exit id' => if id' = id then some (.norm, r.2) else some (.exit id', r.2)
  | e => some (e, r.2)
theorem ex_block (id : Nat) (c : Code) : exec P cal k n0 lm b (.block id c) S = (exec P cal k n0 lm id c S).bind (out id) := rfl
theorem out_norm (id : Nat) (S : St) : out id (.norm, S) = some (.norm, S) := rfl
theorem out_ret (id : Nat) (S : St) : out id (.ret, S) = some (.ret, S) := rfl
theorem out_exit (id id' : Nat) (S : St) : out id (.exit id', S) = if id' = id then some (.norm, S) else some (.exit id', S) := rfl
theorem ro_nil (ops : Array Oper) : runOps P cal ops [] S = some S := rfl
theorem ro_none (ops : Array Oper) (dst : Option Tmp) (op : Op) (type : TypeId) (pos : String) (after : Array Edge) (rest : List Oper) : runOps P cal ops ({ dst := dst, op := op, type := type, pos := pos, after := after, guard := none } :: rest) S = (runOp P cal S { dst := dst, op := op, type := type, pos := pos, after := after, guard := none }).bind (runOps P cal ops rest) := rfl
/-- One that is guarded. -/
def gd (P : Program) (cal : Cal) (ops : Array Oper) (o : Oper) (rest : List Oper) (S : St) (b : Bool) : Option St := if b then (runOp P cal S o).bind (runOps P cal ops rest) else runOps P cal ops rest (putT S o.dst (.tup [], S.mem, S.ep))
theorem ro_some (ops : Array Oper) (dst : Option Tmp) (op : Op) (type : TypeId) (pos : String) (after : Array Edge) (g : Nat × Bool) (rest : List Oper) : runOps P cal ops ({ dst := dst, op := op, type := type, pos := pos, after := after, guard := some g } :: rest) S = (wants S ops { dst := dst, op := op, type := type, pos := pos, after := after, guard := some g }).bind (gd P cal ops { dst := dst, op := op, type := type, pos := pos, after := after, guard := some g } rest S) := rfl
theorem gd_true (ops : Array Oper) (o : Oper) (rest : List Oper) : gd P cal ops o rest S true = (runOp P cal S o).bind (runOps P cal ops rest) := rfl
theorem gd_false (ops : Array Oper) (o : Oper) (rest : List Oper) : gd P cal ops o rest S false = runOps P cal ops rest (putT S o.dst (.tup [], S.mem, S.ep)) := rfl
def ri (P : Program) (cal : Cal) (ops : Array Oper) (rest : List Nat) (S : St) (o : Oper) : Option St := (wants S ops o).bind fun b => if b then (runOp P cal S o).bind (runI P cal ops rest) else runI P cal ops rest (putT S o.dst (.tup [], S.mem, S.ep))
theorem ri_nil (ops : Array Oper) : runI P cal ops [] S = some S := rfl
theorem ri_cons (ops : Array Oper) (i : Nat) (rest : List Nat) : runI P cal ops (i :: rest) S = (ops[i]?).bind (ri P cal ops rest S) := rfl
theorem ri_none (ops : Array Oper) (rest : List Nat) (dst : Option Tmp) (op : Op) (type : TypeId) (pos : String) (after : Array Edge) : ri P cal ops rest S { dst := dst, op := op, type := type, pos := pos, after := after, guard := none } = (runOp P cal S { dst := dst, op := op, type := type, pos := pos, after := after, guard := none }).bind (runI P cal ops rest) := rfl
theorem ex_draw2 (id : Nat) (ops : Array Oper) {p : List Nat × List Nat} (h : drawn ops = some p) : exec P cal k n0 lm b (.region id ops true) S = ((runI P (cal1 cal) ops p.1 S).bind (runI P cal ops p.2)).bind fun S'' => some (.norm, fin (lm (id + 1000000)) S'') := by
  show (regD P cal ops (normF n0 lm id) S).bind _ = _
  unfold regD
  rw [h]
  simp only
  cases runI P (cal1 cal) ops p.1 S with
  | none => rfl
  | some S' =>
    simp only [Option.bind_some]
    cases runI P cal ops p.2 S' <;> rfl
/-- A region of many orders. -/
noncomputable def sameK (P : Program) (cal : Cal) (ops : Array Oper) (nf : St → St) (S S1 : St) (r : List (List Nat)) (S2 : St) : Option St := open Classical in if S2 = S1 then sameO P cal ops nf S S1 r else none
noncomputable def sameN (P : Program) (cal : Cal) (ops : Array Oper) (nf : St → St) (S S1 : St) (r : List (List Nat)) (S2 : St) : Option St := sameK P cal ops nf S S1 r (nf S2)
noncomputable def allK (P : Program) (cal : Cal) (ops : Array Oper) (nf : St → St) (S : St) (r : List (List Nat)) (S1 : St) : Option St := sameO P cal ops nf S (nf S1) r
noncomputable def allS (P : Program) (cal : Cal) (ops : Array Oper) (nf : St → St) (os : List (List Nat)) (S : St) : Option St := allO P cal ops nf S os
theorem sameN_eq (ops : Array Oper) (nf : St → St) (S1 S2 : St) (r : List (List Nat)) : sameN P cal ops nf S S1 r S2 = sameK P cal ops nf S S1 r (nf S2) := rfl
theorem sameK_eq (ops : Array Oper) (nf : St → St) (S1 : St) (r : List (List Nat)) : sameK P cal ops nf S S1 r S1 = sameO P cal ops nf S S1 r := if_pos rfl
theorem allK_eq (ops : Array Oper) (nf : St → St) (S1 : St) (r : List (List Nat)) : allK P cal ops nf S r S1 = sameO P cal ops nf S (nf S1) r := rfl
theorem allS_cons (ops : Array Oper) (nf : St → St) (o : List Nat) (r : List (List Nat)) : allS P cal ops nf (o :: r) S = (runI P cal ops o S).bind (allK P cal ops nf S r) := rfl
theorem sameO_nil (ops : Array Oper) (nf : St → St) (S1 : St) : sameO P cal ops nf S S1 [] = some S1 := rfl
theorem sameO_cons (ops : Array Oper) (nf : St → St) (S1 : St) (o : List Nat) (r : List (List Nat)) : sameO P cal ops nf S S1 (o :: r) = (runI P cal ops o S).bind (sameN P cal ops nf S S1 r) := rfl
theorem normF_eq (id : Nat) : normF n0 lm id S = keep n0 (lm (id + 6000000)) (finH (lm (id + 7000000)) S) := rfl
theorem ex_drawM (id : Nat) (ops : Array Oper) {p : List Nat × List (List Nat)} (h0 : drawn ops = none) (h : drawnM ops = some p) : exec P cal k n0 lm b (.region id ops true) S = ((runI P (cal1 cal) ops p.1 S).bind (allS P (cal1 cal) ops (normF n0 lm id) p.2)).bind fun S'' => some (.norm, fin (lm (id + 1000000)) S'') := by
  show (regD P cal ops (normF n0 lm id) S).bind _ = _
  unfold regD
  rw [h0]
  simp only [h, Option.bind_some]
  cases runI P (cal1 cal) ops p.1 S with
  | none => rfl
  | some S' =>
    simp only [Option.bind_some]
    show ((allO P (cal1 cal) ops (normF n0 lm id) S' p.2).bind _).bind _ = (allO P (cal1 cal) ops (normF n0 lm id) S' p.2).bind _
    cases allO P (cal1 cal) ops (normF n0 lm id) S' p.2 <;> rfl
theorem ex_exit (id : Nat) : exec P cal k n0 lm b (.exit id) S = some (.exit id, S) := rfl
theorem ex_ret : exec P cal k n0 lm b .ret S = some (.ret, S) := rfl
end
section
variable (P : Program) (T : Nat) (x y : Operand) (a b : Int)
theorem b_add : binV P .add T x y (.int .i64 a) (.int .i64 b) = some (.int .i64 (IntKind.i64.wrap (a + b))) := rfl
theorem b_sub : binV P .sub T x y (.int .i64 a) (.int .i64 b) = some (.int .i64 (IntKind.i64.wrap (a - b))) := rfl
theorem b_mul : binV P .mul T x y (.int .i64 a) (.int .i64 b) = some (.int .i64 (IntKind.i64.wrap (a * b))) := rfl
theorem b_lss : binV P .lss T x y (.int .i64 a) (.int .i64 b) = some (.bool (decide (a < b))) := rfl
theorem b_leq : binV P .leq T x y (.int .i64 a) (.int .i64 b) = some (.bool (decide (a ≤ b))) := rfl
theorem b_gtr : binV P .gtr T x y (.int .i64 a) (.int .i64 b) = some (.bool (decide (a > b))) := rfl
theorem b_geq : binV P .geq T x y (.int .i64 a) (.int .i64 b) = some (.bool (decide (a ≥ b))) := rfl
theorem b_eql : binV P .eql T x y (.int .i64 a) (.int .i64 b) = some (.bool (a == b)) := rfl
theorem b_neq : binV P .neq T x y (.int .i64 a) (.int .i64 b) = some (.bool (a != b)) := rfl
theorem u_not (b : Bool) : unV P .not (.bool b) = some (.bool (!b)) := rfl
end
theorem wrap_id {n : Int} (h1 : -9223372036854775808 ≤ n) (h2 : n ≤ 9223372036854775807) : IntKind.i64.wrap n = n := by
  unfold IntKind.wrap
  simp [IntKind.bits, IntKind.signed]
  omega
theorem wrap_succ {i n : Nat} (h : i < n) (hn : n ≤ 9223372036854775807) : IntKind.i64.wrap ((i : Int) + 1) = ((i + 1 : Nat) : Int) := by rw [wrap_id (by omega) (by omega)]; simp

/-- Rows of numbers. -/
def ints (l : List Int) : List (List V) := l.map fun x => [.lit (.int .i64 x)]
theorem ints_get {l : List Int} {i : Nat} {x : Int} (h : l[i]? = some x) : (ints l)[i]? = some [.lit (.int .i64 x)] := by simp [ints, h]
theorem ints_len (l : List Int) : (ints l).length = l.length := by simp [ints]
theorem ints_set (l : List Int) (i : Nat) (x : Int) : (ints l).set i [.lit (.int .i64 x)] = ints (l.set i x) := by simp [ints, List.map_set]
theorem ints_rep (n : Nat) : List.replicate n [V.lit (.int .i64 0)] = ints (List.replicate n 0) := by simp [ints]
def deInts : List (List V) → Option (List Int)
  | [] => some []
  | r :: rs => match r with
    | [.lit (.int .i64 x)] => (deInts rs).bind fun l => some (x :: l)
    | _ => none
theorem deInts_ints (l : List Int) : deInts (ints l) = some l := by
  induction l with
  | nil => rfl
  | cons x l ih =>
    show (match [V.lit (.int .i64 x)] with | [.lit (.int .i64 x)] => (deInts (ints l)).bind fun l => some (x :: l) | _ => none) = _
    simp [ih]
theorem deInts_some : ∀ (rs : List (List V)) (l : List Int), deInts rs = some l → rs = ints l := by
  intro rs
  induction rs with
  | nil => intro l h; simp only [deInts, Option.some.injEq] at h; subst h; rfl
  | cons r rs ih =>
    intro l h
    simp only [deInts] at h
    split at h
    · simp only [Option.bind_eq_some_iff, Option.some.injEq] at h
      obtain ⟨l', h1, rfl⟩ := h
      rw [ih l' h1]
      rfl
    · cases h
/-- A row that is being written, z where nothing is yet. -/
def upTo {α : Type} (z : α) (l : List α) (i : Nat) : List α := l.take i ++ List.replicate (l.length - i) z
theorem upTo_set {α : Type} {z : α} {l : List α} {i : Nat} {x : α} (h : l[i]? = some x) : (upTo z l i).set i x = upTo z l (i + 1) := by
  have hlt := (List.getElem?_eq_some_iff.1 h).1
  have hx := (List.getElem?_eq_some_iff.1 h).2
  unfold upTo
  rw [List.set_append_right _ _ (by simp; omega)]
  have e : l.length - i = (l.length - (i + 1)) + 1 := by omega
  have e2 : i - (l.take i).length = 0 := by simp; omega
  rw [e, e2, List.replicate_succ, List.set_cons_zero, List.take_succ_eq_append_getElem hlt, hx]
  simp
theorem upTo_get {α : Type} {z : α} {l : List α} {i : Nat} (h : i < l.length) : (upTo z l i)[i]? = some z := by
  unfold upTo
  rw [List.getElem?_append_right (by simp; omega), List.getElem?_replicate]
  simp
  omega
theorem upTo_zero {α : Type} (z : α) (l : List α) : upTo z l 0 = List.replicate l.length z := by simp [upTo]
theorem upTo_all {α : Type} (z : α) (l : List α) : upTo z l l.length = l := by simp [upTo]
theorem upTo_len {α : Type} {z : α} {l : List α} {i : Nat} (h : i ≤ l.length) : (upTo z l i).length = l.length := by simp [upTo]; omega
end Go.Proofs.Ytanglbgincgmaaa.Vm
