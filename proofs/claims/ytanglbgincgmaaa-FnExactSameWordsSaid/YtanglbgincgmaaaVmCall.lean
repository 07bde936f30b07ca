/-
  The small machine: what is called by what is told of it.
-/
import Derived.Test.YtanglbgincgmaaaVmSC
namespace Go.Proofs.Ytanglbgincgmaaa.Vm
open Go Go.RowKit
set_option linter.unusedVariables false

abbrev Sh := Bool × List (Option Nat)
def sh1 : TV → Option (Option Nat)
  | .one _ => some none
  | .agg cs => some (some cs.length)
  | .tup _ => none
def shL : List TV → Option (List (Option Nat))
  | [] => some []
  | x :: r => (sh1 x).bind fun s => (shL r).bind fun t => some (s :: t)
def shT : TV → Option Sh
  | .tup l => (shL l).bind fun s => some (true, s)
  | x => (sh1 x).bind fun s => some (false, [s])
def flatL : List TV → Option (List V)
  | [] => some []
  | x :: r => x.cells.bind fun cs => (flatL r).bind fun t => some (cs ++ t)
def flatT : TV → Option (List V)
  | .tup l => flatL l
  | x => x.cells
def cut : List (Option Nat) → List V → List TV
  | [], _ => []
  | none :: r, v :: cs => .one v :: cut r cs
  | none :: _, [] => []
  | some n :: r, cs => .agg (cs.take n) :: cut r (cs.drop n)
def unflat : Sh → List V → TV
  | (true, l), cs => .tup (cut l cs)
  | (false, l), cs => (cut l cs).headD (.tup [])

/-- As it is handed on: to be read alone. -/
def seen0 (mem : Mem) : V → Option V
  | .lit v => some (.lit v)
  | .sl false e rows => some (.sl false e rows)
  | .ow id hv => (rowsH mem id hv).bind fun b => some (.sl false b.2.1 (erRows b.2.2))
  | .vw id cv _ e rows => if seenC mem id cv then some (.sl false e rows) else none
  | _ => none
def seen0L (mem : Mem) : List V → Option (List V)
  | [] => some []
  | v :: r => (seen0 mem v).bind fun u => (seen0L mem r).bind fun us => some (u :: us)
def seen1 (mem : Mem) : V → Option V
  | .rp row off => some (.rp row off)
  | .bp id bv off => (boxOf mem id bv).bind fun cells => (seen0L mem cells).bind fun us => some (.rp us off)
  | _ => none
def seen1L (mem : Mem) : List V → Option (List V)
  | [] => some []
  | v :: r => (seen1 mem v).bind fun u => (seen1L mem r).bind fun us => some (u :: us)
def seen (mem : Mem) : V → Option V
  | .lit v => some (.lit v)
  | .sl false e rows => some (.sl false e rows)
  | .ow id hv => (rowsH mem id hv).bind fun b => some (.sl false b.2.1 (erRows b.2.2))
  | .vw id cv _ e rows => if seenC mem id cv then some (.sl false e rows) else none
  | .rp row off => some (.rp row off)
  | .bp id bv off => (boxOf mem id bv).bind fun cells => (seen0L mem cells).bind fun us => some (.rp us off)
  | .cl g cs => (seen1L mem cs).bind fun us => some (.cl g us)
  | _ => none
def seenL (mem : Mem) : List V → Option (List V)
  | [] => some []
  | v :: r => (seen mem v).bind fun u => (seenL mem r).bind fun us => some (u :: us)
def seenT (mem : Mem) : TV → Option TV
  | .one v => (seen mem v).bind fun u => some (.one u)
  | .agg cs => (seenL mem cs).bind fun us => some (.agg us)
  | .tup _ => none
def seenTs (mem : Mem) : List TV → Option (List TV)
  | [] => some []
  | v :: r => (seenT mem v).bind fun u => (seenTs mem r).bind fun us => some (u :: us)
def isRp : V → Bool
  | .rp _ _ => true
  | _ => false
def bare1 : V → Bool
  | .lit _ | .sl false _ _ | .rp _ _ => true
  | .cl _ cs => cs.all isRp
  | _ => false
def bareT : TV → Bool
  | .one v => bare1 v
  | .agg cs => cs.all bare1
  | .tup _ => false
mutual
/-- Nothing in it that another one owns. -/
def pure0 : V → Bool
  | .lit _ => true
  | .sl true _ rows => pureRows rows
  | _ => false
def pureRows : List (List V) → Bool
  | [] => true
  | r :: rs => pureRow r && pureRows rs
def pureRow : List V → Bool
  | [] => true
  | v :: vs => pure0 v && pureRow vs
end
def ownC : V → Bool
  | .sl true _ _ => true
  | _ => false
def ownNo (cs : List V) (j : Nat) : Nat := (cs.take j).countP ownC
/-- Where results land: own ones in blocks of their own. -/
def landC (ok : Bool) (ep : Nat) : Nat → List V → Option (List V × List Blk)
  | _, [] => some ([], [])
  | n, .lit v :: r => (landC ok ep n r).bind fun p => some (.lit v :: p.1, p.2)
  | n, .sl true e rows :: r => if ok || pureRows rows then (landC ok ep (n + 1) r).bind fun p => some (.ow n ep :: p.1, .rows ep ep e rows :: p.2) else none
  | n, .sl false e rows :: r => if ok then (landC ok ep n r).bind fun p => some (.sl false e rows :: p.1, p.2) else none
  | _, _ => none

abbrev Con := List TV → Option (Sh × List V)
def tabCal (tab : Nat → Option Con) : Cal := fun g vs mem ep => (tab g).bind fun F => (seenTs mem vs).bind fun us => (F us).bind fun r => (landC (vs.all bareT) ep mem.length r.2).bind fun p => some (unflat r.1 p.1, mem ++ p.2.map some, ep + 1)
/-- What a body tells. -/
noncomputable def told (P : Program) (cal : Cal) (k : Nat) (lm : Nat → List Nat × Nat) (fn : Func) : Con := fun vs => (body P cal k lm fn vs [none] 1).bind fun r => (flatT r.1).bind fun cs => (shT r.1).bind fun s => (foldL r.2.1 cs).bind fun p => some (s, p.1)

section
variable {P : Program} {z : Nat → Nat} {B : Nat} {w0 w w' : World} {mem mem' : Mem} {ep ep' : Nat} {m m' : Mp}

inductive ArgT (z : Nat → Nat) (w : World) (R : Nat → Prop) : TV → Value → Prop
  | one {v : V} {y : Value} (hb : bare1 v = true) (h : Rep z w R (fun _ => False) v y) : ArgT z w R (.one v) y
  | agg {cs : List V} {ys : Array Value} (hb : cs.all bare1 = true) (hs : ys.size = cs.length) (h : ∀ (j : Nat) (u : V) (y : Value), cs[j]? = some u → ys[j]? = some y → Rep z w R (fun _ => False) u y) : ArgT z w R (.agg cs) (.agg ys)

/-- What comes back. c: which own one each new block belongs to (0: none). -/
def OutOk (z : Nat → Nat) (w w' : World) (R : Nat → Prop) (c : Nat → Nat) (r : Sh × List V) (v : Value) : Prop :=
  ∃ ys : List Value, ys.length = r.2.length ∧
    (∀ (mem : Mem) (ep : Nat) (m : Mp) (w2 : World) (cs : List V), cs.length = r.2.length → (∀ (j : Nat) (u : V) (y : Value), cs[j]? = some u → ys[j]? = some y → RV z mem ep m w2 u y) → RTV z mem ep m w2 (unflat r.1 cs) v) ∧
    ∀ (j : Nat) (u : V) (y : Value), r.2[j]? = some u → ys[j]? = some y → Rep z w' (fun k => (R k ∧ k < w.heap.size) ∨ (w.heap.size ≤ k ∧ k < w'.heap.size ∧ c k = 0)) (fun k => w.heap.size ≤ k ∧ k < w'.heap.size ∧ c k = ownNo r.2 j + 1) u y

/-- What holds of the world and goes on holding, whatever is done from its end on. -/
def Stab (J : World → Prop) : Prop := ∀ w w', J w → Below w.heap.size w w' → J w'
theorem stab_true : Stab (fun _ => True) := fun _ _ _ _ => trivial
/-- A function does as it is told, in every world in which J holds. -/
def Fn (P : Program) (g : Nat) (F : Con) (J : World → Prop := fun _ => True) : Prop := (∃ fn, P.funcs[g]? = some fn ∧ (fn.name == "runtime.NumGoroutine") = false ∧ fn.body.isNone = false) ∧
  ∀ vs r, F vs = some r → ∀ (R : Nat → Prop) (w : World) (ys : Array Value), J w → ys.size = vs.length → (∀ (j : Nat) (v : TV) (y : Value), vs[j]? = some v → ys[j]? = some y → ArgT P.cellsOf w R v y) →
    Calls P g ys w fun e w' => ∃ v, e = .returned v ∧ Below w.heap.size w w' ∧ ∃ c, OutOk P.cellsOf w w' R c r v

theorem Fn.any {P : Program} {g : Nat} {F : Con} (h : Fn P g F) {J : World → Prop} : Fn P g F J := ⟨h.1, fun vs r hr R w ys _ hl ha => h.2 vs r hr R w ys trivial hl ha⟩
theorem shapeL : ∀ (l : List TV) (ys : List Value) (s : List (Option Nat)) (cs : List V), shL l = some s → flatL l = some cs → ys.length = l.length → (∀ (j : Nat) (u : TV) (y : Value), l[j]? = some u → ys[j]? = some y → RTV z mem ep m w u y) →
    ∃ xs : List Value, xs.length = cs.length ∧ (∀ (j : Nat) (u : V) (y : Value), cs[j]? = some u → xs[j]? = some y → RV z mem ep m w u y) ∧
      ∀ (mem' : Mem) (ep' : Nat) (m' : Mp) (w2 : World) (cs' : List V), cs'.length = cs.length → (∀ (j : Nat) (u : V) (y : Value), cs'[j]? = some u → xs[j]? = some y → RV z mem' ep' m' w2 u y) →
        (cut s cs').length = l.length ∧ ∀ (j : Nat) (u : TV) (y : Value), (cut s cs')[j]? = some u → ys[j]? = some y → RTV z mem' ep' m' w2 u y := by
  intro l
  induction l with
  | nil =>
    intro ys s cs hs hc hl hr
    simp only [shL, Option.some.injEq] at hs
    simp only [flatL, Option.some.injEq] at hc
    subst hs
    subst hc
    exact ⟨[], rfl, by simp, fun _ _ _ _ _ _ _ => ⟨by simp [cut], by simp [cut]⟩⟩
  | cons x l ih =>
    intro ys s cs hs hc hl hr
    simp only [shL, Option.bind_eq_some_iff, Option.some.injEq] at hs
    obtain ⟨s0, hs0, s1, hs1, rfl⟩ := hs
    simp only [flatL, Option.bind_eq_some_iff, Option.some.injEq] at hc
    obtain ⟨c0, hc0, c1, hc1, rfl⟩ := hc
    obtain ⟨y, ys, rfl⟩ : ∃ y t, ys = y :: t := by cases ys with | nil => simp at hl | cons y t => exact ⟨y, t, rfl⟩
    obtain ⟨xs, h1, h2, h3⟩ := ih ys s1 c1 hs1 hc1 (by simpa using hl) (fun j u y' a b => hr (j + 1) u y' (by simpa using a) (by simpa using b))
    have h0 := hr 0 x y rfl rfl
    cases h0 with
    | one h =>
      simp only [TV.cells, Option.some.injEq] at hc0
      subst hc0
      simp only [sh1, Option.some.injEq] at hs0
      subst hs0
      refine ⟨y :: xs, by simp [h1], fun j u y' a b => ?_, fun mem' ep' m' w2 cs' hl' hr' => ?_⟩
      · cases j with
        | zero => simp at a b; subst a; subst b; exact h
        | succ j => simp at a b; exact h2 j u y' a b
      · obtain ⟨v', cs', rfl⟩ : ∃ v t, cs' = v :: t := by cases cs' with | nil => simp at hl' | cons v t => exact ⟨v, t, rfl⟩
        obtain ⟨h4, h5⟩ := h3 mem' ep' m' w2 cs' (by simpa using hl') (fun j u y' a b => hr' (j + 1) u y' (by simpa using a) (by simpa using b))
        refine ⟨by simp [cut, h4], fun j u y' a b => ?_⟩
        cases j with
        | zero => simp [cut] at a b; subst a; subst b; exact .one (hr' 0 v' y rfl rfl)
        | succ j => simp [cut] at a b; exact h5 j u y' a b
    | agg hz h =>
      rename_i cs0 ys0
      simp only [TV.cells, Option.some.injEq] at hc0
      subst hc0
      simp only [sh1, Option.some.injEq] at hs0
      subst hs0
      have hyl : ys0.toList.length = cs0.length := by rw [Array.length_toList]; exact hz
      refine ⟨ys0.toList ++ xs, by simp [h1, hz], fun j u y' a b => ?_, fun mem' ep' m' w2 cs' hl' hr' => ?_⟩
      · rcases Nat.lt_or_ge j cs0.length with hj | hj
        · rw [List.getElem?_append_left hj] at a
          rw [List.getElem?_append_left (by omega)] at b
          exact h j u y' a (by simpa using b)
        · rw [List.getElem?_append_right hj] at a
          rw [List.getElem?_append_right (by omega), hyl] at b
          exact h2 _ u y' a b
      · simp only [List.length_append] at hl'
        obtain ⟨h4, h5⟩ := h3 mem' ep' m' w2 (cs'.drop cs0.length) (by simp; omega) (fun j u y' a b => by
          rw [List.getElem?_drop] at a
          exact hr' (cs0.length + j) u y' a (by rw [List.getElem?_append_right (by omega), hyl]; simpa using b))
        refine ⟨by simp [cut, h4], fun j u y' a b => ?_⟩
        cases j with
        | zero =>
          simp [cut] at a b
          subst a
          subst b
          refine .agg (by simp; omega) (fun i u y' a b => ?_)
          rw [List.getElem?_take] at a
          split at a
          · rename_i hi
            exact hr' i u y' a (by rw [List.getElem?_append_left (by omega)]; simpa using b)
          · cases a
        | succ j => simp [cut] at a b; exact h5 j u y' a b
    | tup => simp [TV.cells] at hc0
theorem shapeT {tv : TV} {y : Value} {s : Sh} {cs : List V} (h : RTV z mem ep m w tv y) (hs : shT tv = some s) (hc : flatT tv = some cs) :
    ∃ xs : List Value, xs.length = cs.length ∧ (∀ (j : Nat) (u : V) (y : Value), cs[j]? = some u → xs[j]? = some y → RV z mem ep m w u y) ∧
      ∀ (mem' : Mem) (ep' : Nat) (m' : Mp) (w2 : World) (cs' : List V), cs'.length = cs.length → (∀ (j : Nat) (u : V) (y : Value), cs'[j]? = some u → xs[j]? = some y → RV z mem' ep' m' w2 u y) → RTV z mem' ep' m' w2 (unflat s cs') y := by
  have single : ∀ s0, sh1 tv = some s0 → s = (false, [s0]) → tv.cells = some cs → ∃ xs : List Value, xs.length = cs.length ∧ (∀ (j : Nat) (u : V) (y : Value), cs[j]? = some u → xs[j]? = some y → RV z mem ep m w u y) ∧
      ∀ (mem' : Mem) (ep' : Nat) (m' : Mp) (w2 : World) (cs' : List V), cs'.length = cs.length → (∀ (j : Nat) (u : V) (y : Value), cs'[j]? = some u → xs[j]? = some y → RV z mem' ep' m' w2 u y) → RTV z mem' ep' m' w2 (unflat s cs') y := by
    intro s0 h1 h2 h3
    subst h2
    obtain ⟨xs, g1, g2, g3⟩ := shapeL (z := z) (mem := mem) (ep := ep) (m := m) (w := w) [tv] [y] [s0] cs (by simp [shL, h1]) (by simp [flatL, h3]) rfl (fun j u y' a b => by
      cases j with
      | zero => simp at a b; subst a; subst b; exact h
      | succ j => simp at a)
    refine ⟨xs, g1, g2, fun mem' ep' m' w2 cs' hl hr => ?_⟩
    obtain ⟨g4, g5⟩ := g3 mem' ep' m' w2 cs' hl hr
    obtain ⟨u, hu⟩ : ∃ u, cut [s0] cs' = [u] := List.length_eq_one_iff.1 (by simpa using g4)
    simp only [unflat, hu, List.headD_cons]
    exact g5 0 u y (by rw [hu]; rfl) rfl
  cases h with
  | one h' =>
    simp only [shT, Option.bind_eq_some_iff, Option.some.injEq] at hs
    obtain ⟨s0, h1, h2⟩ := hs
    exact single s0 h1 h2.symm hc
  | agg hz h' =>
    simp only [shT, Option.bind_eq_some_iff, Option.some.injEq] at hs
    obtain ⟨s0, h1, h2⟩ := hs
    exact single s0 h1 h2.symm hc
  | tup hz h' =>
    rename_i l ys
    simp only [shT, Option.bind_eq_some_iff, Option.some.injEq] at hs
    obtain ⟨s0, h1, rfl⟩ := hs
    simp only [flatT] at hc
    obtain ⟨xs, g1, g2, g3⟩ := shapeL (z := z) (mem := mem) (ep := ep) (m := m) (w := w) l ys.toList s0 cs h1 hc (by simpa using hz) (fun j u y' a b => h' j u y' a (by simpa using b))
    refine ⟨xs, g1, g2, fun mem' ep' m' w2 cs' hl hr => ?_⟩
    obtain ⟨g4, g5⟩ := g3 mem' ep' m' w2 cs' hl hr
    exact .tup (by rw [g4]; exact hz) (fun j u y' a b => g5 j u y' a (by simpa using b))

theorem rp_rv {row : List V} {off : Nat} {y : Value} {R : Nat → Prop} (h : Rep z w R (fun _ => False) (.rp row off) y) (hR : ∀ k, R k → k < w.heap.size → m.G k = 0) : RV z mem ep m w (.rp row off) y := by
  have h2 := h.bound.mono (ro' := roG m w) (fun k hk => ⟨hR k hk.1 hk.2, hk.2⟩) (fun k hk => hk)
  cases h2 with
  | rp ad f h1 hcell hr => exact .rp ad f h1 hcell (fun j u a => (hr j u a).mono (fun _ h => h) (fun _ h => h))
theorem bare_rv {v : V} {y : Value} {R : Nat → Prop} (hb : bare1 v = true) (h : Rep z w R (fun _ => False) v y) (hR : ∀ k, R k → k < w.heap.size → m.G k = 0) : RV z mem ep m w v y := by
  cases v with
  | lit x =>
    cases h with
    | lit h => exact .lit h
  | sl own e rows =>
    cases own with
    | true => simp [bare1] at hb
    | false => exact .ro (h.bound.mono (fun k hk => ⟨hR k hk.1 hk.2, hk.2⟩) (fun k hk => hk.1))
  | rp row off => exact rp_rv h hR
  | cl g cs =>
    cases h with
    | cl hn hr =>
      refine .cl hn (fun j u y a b => ?_)
      have h1 := List.all_eq_true.1 (show cs.all isRp = true from hb) u (List.mem_of_getElem? a)
      have h2 := hr j u y a b
      cases u <;> simp [isRp] at h1
      exact rp_rv h2 hR
  | _ => simp [bare1] at hb

/-- A function does as its body tells. -/
theorem Fn.of_body {J : World → Prop} {cal : Cal} (hcal : ∀ w0, J w0 → CalOk P w0.heap.size w0 cal) (hm : P.follows .mixedOrders = true) {g : Nat} {fn : Func} {c : Code} (hf : P.funcs[g]? = some fn) (hn : (fn.name == "runtime.NumGoroutine") = false) (hb : fn.body = some c) (hd : dsts fn.ntmps c = true) {np : Nat} (hnp : np ≤ fn.ntmps) {lm : Nat → List Nat × Nat} {F : Con}
    (hF : ∀ vs r, F vs = some r → vs.length = np ∧ ∃ k, told P cal k lm fn vs = some r) : Fn P g F J := by
  refine ⟨⟨fn, hf, hn, by rw [hb]; rfl⟩, fun vs r hr R w ys hJ hl ha => ?_⟩
  obtain ⟨hvl, k, hr⟩ := hF vs r hr
  unfold told at hr
  simp only [Option.bind_eq_some_iff, Option.some.injEq] at hr
  obtain ⟨q, hq, cs, hcs, s, hs, p, hp, rfl⟩ := hr
  classical
  let m0 : Mp := ⟨fun k => if k < w.heap.size ∧ ¬ R k then 1 else 0, fun _ => default⟩
  have hg : Good P.cellsOf w.heap.size w [none] 1 m0 w := by
    refine ⟨fun id b hb' => ?_, fun k hk => ?_, Below.refl _ _, Nat.le_refl _, rfl⟩
    · cases id with
      | zero => simp at hb'
      | succ id => simp at hb'
    · have hk' : (if k < w.heap.size ∧ ¬ R k then 1 else 0) ≠ 0 := hk
      split at hk'
      · rename_i h1
        refine ⟨h1.1, .inr ?_⟩
        show (if k < w.heap.size ∧ ¬ R k then 1 else 0) = 1
        rw [if_pos h1]
      · exact absurd rfl hk'
  have hR : ∀ k, R k → k < w.heap.size → m0.G k = 0 := by
    intro k hk hlt
    show (if k < w.heap.size ∧ ¬ R k then 1 else 0) = 0
    rw [if_neg (fun h => h.2 hk)]
  have hargs : ∀ (j : Nat) (v : TV) (y : Value), vs[j]? = some v → ys[j]? = some y → RTV P.cellsOf [none] 1 m0 w v y := by
    intro j v y a b
    have := ha j v y a b
    cases this with
    | one hb h => exact .one (bare_rv hb h hR)
    | agg hb hz h => exact .agg hz (fun i u x c d => bare_rv (List.all_eq_true.1 hb u (List.mem_of_getElem? c)) (h i u x c d) hR)
  refine (body_sound (hcal w hJ) hm hf hb hd (by omega) hl hq hg hargs).mono fun e w' he => ?_
  obtain ⟨v, rfl, m', h1, h2, h3⟩ := he
  refine ⟨v, rfl, h2.below, ?_⟩
  obtain ⟨xs, g1, g2, g3⟩ := shapeT h1 hs hcs
  obtain ⟨hl', hG, L, hF', hinj, hdead⟩ := foldL_rep cs q.2.1 p.2 p.1 xs h2 g1 g2 hp
  have hlab : ∀ k, m'.G k = 0 → k < w.heap.size → R k := by
    intro k hk hlt
    by_cases h : R k
    · exact h
    · have : m0.G k = 1 := by
        show (if k < w.heap.size ∧ ¬ R k then 1 else 0) = 1
        rw [if_pos ⟨hlt, h⟩]
      have := (h3.fgn k this hlt).1
      omega
  let c : Nat → Nat := fun k => if m'.G k = 0 then 0 else if h : ∃ j, L j ≠ 0 ∧ L j = m'.G k then ownNo p.1 h.choose + 1 else 1
  have hc : ∀ k j, L j ≠ 0 → m'.G k = L j → c k = ownNo p.1 j + 1 := by
    intro k j h0 hk
    have hex : ∃ j, L j ≠ 0 ∧ L j = m'.G k := ⟨j, h0, hk.symm⟩
    show (if m'.G k = 0 then 0 else if h : ∃ j, L j ≠ 0 ∧ L j = m'.G k then ownNo p.1 h.choose + 1 else 1) = _
    rw [if_neg (by rw [hk]; exact h0), dif_pos hex]
    have h5 := hex.choose_spec
    rw [hinj _ _ h5.1 (h5.2.trans hk)]
  refine ⟨c, xs, by rw [g1, hl'], fun mem' ep' m2 w2 cs' hl2 hr2 => g3 mem' ep' m2 w2 cs' (by simpa [hl'] using hl2) hr2, fun j u y a b => ?_⟩
  refine (hF' j u y a b).mono (fun k hk => ?_) (fun k hk => ?_)
  · rcases Nat.lt_or_ge k w.heap.size with hlt | hge
    · exact .inl ⟨hlab k hk.1 hlt, hlt⟩
    · refine .inr ⟨hge, hk.2, ?_⟩
      show (if m'.G k = 0 then 0 else _) = 0
      rw [if_pos hk.1]
  · obtain ⟨h5, h6, h7⟩ := hk
    have hge : w.heap.size ≤ k := by
      have h8 := (h2.lab k (by rw [h6]; exact h5)).2
      exact h8.resolve_right (by rw [h6]; exact h2.ne1 (hdead j h5).1)
    exact ⟨hge, h7, hc k j h5 h6⟩
end
end Go.Proofs.Ytanglbgincgmaaa.Vm
