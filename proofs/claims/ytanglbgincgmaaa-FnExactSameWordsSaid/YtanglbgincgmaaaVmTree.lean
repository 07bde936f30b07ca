/-
  The small machine: what is called to write into a slice that was handed over.
-/
import Derived.Test.YtanglbgincgmaaaVmCon
namespace Go.Proofs.Ytanglbgincgmaaa.Vm
open Go Go.RowKit
set_option linter.unusedVariables false

/-- What a function does in its caller's memory. -/
abbrev ICon := List TV → Mem → Nat → Option (TV × Mem × Nat)
def calI (tab : Nat → Option Con) (inl : Nat → Option ICon) : Cal := fun g vs mem ep => match inl g with
  | some I => (I vs mem ep).bind fun r => some (r.1, r.2.1, r.2.2 + 2)
  | none => tabCal tab g vs mem ep
section
variable {P : Program} {z : Nat → Nat} {B : Nat} {w0 w w' : World} {mem mem' : Mem} {ep ep' : Nat} {m m' : Mp}

def IAt (P : Program) (B : Nat) (w0 : World) (g : Nat) (I : ICon) : Prop := ∀ vs mem ep r, I vs mem ep = some r → ∀ (m : Mp) (w : World) (ys : Array Value), Good P.cellsOf B w0 mem ep m w → ys.size = vs.length →
  (∀ (j : Nat) (v : TV) (y : Value), vs[j]? = some v → ys[j]? = some y → RTV P.cellsOf mem ep m w v y) →
  Calls P g ys w fun e w' => ∃ v, e = .returned v ∧ ∃ m', RTV P.cellsOf r.2.1 r.2.2 m' w' r.1 v ∧ Good P.cellsOf B w0 r.2.1 r.2.2 m' w' ∧ Evo ep r.2.2 mem r.2.1 m m' w w'
/-- A function does in its caller's memory as it is told. -/
def IFn (P : Program) (g : Nat) (I : ICon) (J : World → Prop := fun _ => True) : Prop := (∃ fn, P.funcs[g]? = some fn ∧ (fn.name == "runtime.NumGoroutine") = false ∧ fn.body.isNone = false) ∧ ∀ w0, J w0 → IAt P w0.heap.size w0 g I
theorem IFn.any {g : Nat} {I : ICon} (h : IFn P g I) {J : World → Prop} : IFn P g I J := ⟨h.1, fun w0 _ => h.2 w0 trivial⟩

/-- Later stamps do no harm. -/
theorem RV.up {v : V} {y : Value} (h : RV z mem ep m w v y) (he : ep ≤ ep') : RV z mem ep' m w v y := by
  induction h with
  | lit h => exact .lit h
  | ro h => exact .ro h
  | ow hid h1 h => exact .ow (by omega) h1 h
  | bp hid h1 h => exact .bp (by omega) h1 h
  | ip hid h1 h => exact .ip (by omega) h1 h
  | rp ad f hro hcell hr => exact .rp ad f hro hcell hr
  | vw hid h1 h hp => exact .vw (by omega) h1 h (fun hv i j hpe => ⟨by have := (hp hv i j hpe).1; omega, (hp hv i j hpe).2⟩)
  | vp hid h1 h => exact .vp (by omega) h1 h
  | ap h ih => exact .ap ih
  | np h x hp hx ih => exact .np ih x (fun hv i j hpe => ⟨by have := (hp hv i j hpe).1; omega, (hp hv i j hpe).2⟩) hx
  | cl hn h ih => exact .cl hn ih
theorem RTV.up {v : TV} {y : Value} (h : RTV z mem ep m w v y) (he : ep ≤ ep') : RTV z mem ep' m w v y := by
  induction h with
  | one h => exact .one (h.up he)
  | agg hs h => exact .agg hs (fun j u y a b => (h j u y a b).up he)
  | tup hs h ih => exact .tup hs ih
theorem RBlk.up {id : Nat} {b : Blk} (h : RBlk z mem ep m w id b) (he : ep ≤ ep') : RBlk z mem ep' m w id b := by
  cases b with
  | box bv cells =>
    obtain ⟨h0, g, T, cs, h1, h2, h3, h4, h5⟩ := h
    exact ⟨by omega, g, T, cs, h1, h2, h3, h4, fun j u y a b => (h5 j u y a b).up he⟩
  | rows hv cv e rs =>
    obtain ⟨h0, h1, h2⟩ := h
    exact ⟨by omega, by omega, h2⟩
theorem Good.up (h : Good z B w0 mem ep m w) (he : ep ≤ ep') : Good z B w0 mem ep' m w := ⟨fun id b hb => (h.blk id b hb).up he, h.lab, h.below, h.hB, h.fst⟩
theorem Evo.up (h : Evo ep ep' mem mem' m m' w w') {ep2 : Nat} (he : ep' ≤ ep2) : Evo ep ep2 mem mem' m m' w w' := ⟨Nat.le_trans h.le he, h.size, h.ro, h.fgn, h.box, h.rows, h.view, h.nest⟩

theorem calI_ok {J : World → Prop} (hst : Stab J) {tab : Nat → Option Con} (ht : ∀ g F, tab g = some F → Fn P g F J) {inl : Nat → Option ICon} (hi : ∀ g I, inl g = some I → IFn P g I J) {w0 : World} (hJ0 : J w0) : CalOk P w0.heap.size w0 (calI tab inl) := by
  intro g vs mem ep r h m w ys hg hl hr
  unfold calI at h
  split at h
  · rename_i I hI
    simp only [Option.bind_eq_some_iff, Option.some.injEq] at h
    obtain ⟨r0, h0, rfl⟩ := h
    obtain ⟨hfn, hc⟩ := hi g I hI
    refine ⟨hfn, (hc w0 hJ0 vs mem ep r0 h0 m w ys hg hl hr).mono fun e w' he => ?_⟩
    obtain ⟨v, h1, m', h2, h3, h4⟩ := he
    have := h4.le
    refine ⟨v, h1, fun hx => ?_, m', h2.up (by show r0.2.2 ≤ r0.2.2 + 2; omega), h3.up (by show r0.2.2 ≤ r0.2.2 + 2; omega), h4.up (by show r0.2.2 ≤ r0.2.2 + 2; omega)⟩
    rcases hx with hx | hx
    · cases hx
    · exfalso
      have hx : r0.2.2 + 2 = ep + 1 := hx
      omega
  · exact tabCal_ok hst ht hJ0 g vs mem ep r h m w ys hg hl hr

/-- A function that is told by what its body does in its caller's memory. -/
theorem IFn.of_body {J : World → Prop} {cal : Cal} (hcal : ∀ w0, J w0 → CalOk P w0.heap.size w0 cal) (hm : P.follows .mixedOrders = true) {g : Nat} {fn : Func} {c : Code} (hf : P.funcs[g]? = some fn) (hn : (fn.name == "runtime.NumGoroutine") = false) (hb : fn.body = some c) (hd : dsts fn.ntmps c = true) {np : Nat} (hnp : np ≤ fn.ntmps) {lm : Nat → List Nat × Nat} {I : ICon}
    (hI : ∀ vs mem ep r, I vs mem ep = some r → mem[0]? = some none → vs.length = np ∧ ∃ k mem1 ep1, body P cal k lm fn vs mem ep = some (r.1, mem1, ep1) ∧ Sub mem1 r.2.1 ∧ r.2.1[0]? = some none ∧ ep1 ≤ r.2.2) : IFn P g I J := by
  refine ⟨⟨fn, hf, hn, by rw [hb]; rfl⟩, fun w0 hJ vs mem ep r hr m w ys hg hl ha => ?_⟩
  obtain ⟨hvl, k, mem1, ep1, h1, h2, h3, h4⟩ := hI vs mem ep r hr hg.fst
  refine (body_sound (hcal w0 hJ) hm hf hb hd (by omega) hl h1 hg ha).mono fun e w' he => ?_
  obtain ⟨v, rfl, m', q1, q2, q3⟩ := he
  exact ⟨v, rfl, m', (q1.evo h2.evo).up h4, (h2.good h3 q2).up h4, (q3.trans h2.evo).up h4⟩

/-- What a function does to the slice that is its first argument: its rows, the others; what comes back, the rows then. -/
abbrev TCon := List (List V) → List TV → Option (Value × List (List V))
def TFn (P : Program) (g e : Nat) (F : TCon) (J : World → Prop := fun _ => True) : Prop := (∃ fn, P.funcs[g]? = some fn ∧ (fn.name == "runtime.NumGoroutine") = false ∧ fn.body.isNone = false) ∧
  ∀ rows rest v rows', F rows rest = some (v, rows') → ∀ w0, J w0 → ∀ (m : Mp) (w : World) (ys : Array Value), Good P.cellsOf w0.heap.size w0 [none, some (.rows 1 1 e rows)] 2 m w → ys.size = rest.length + 1 →
    (∀ (j : Nat) (v : TV) (y : Value), (TV.one (.ow 1 1) :: rest)[j]? = some v → ys[j]? = some y → RTV P.cellsOf [none, some (.rows 1 1 e rows)] 2 m w v y) →
    Calls P g ys w fun ex w' => ex = .returned v ∧ v.oneCell' = true ∧ ∃ mem' ep' cv m', mem'[1]? = some (some (.rows 1 cv e rows')) ∧ Good P.cellsOf w0.heap.size w0 mem' ep' m' w' ∧ Evo 2 ep' [none, some (.rows 1 1 e rows)] mem' m m' w w'
theorem TFn.of_body {J : World → Prop} {cal : Cal} (hcal : ∀ w0, J w0 → CalOk P w0.heap.size w0 cal) (hm : P.follows .mixedOrders = true) {g : Nat} {fn : Func} {c : Code} (hf : P.funcs[g]? = some fn) (hn : (fn.name == "runtime.NumGoroutine") = false) (hb : fn.body = some c) (hd : dsts fn.ntmps c = true) {np : Nat} (hnp : np ≤ fn.ntmps) {lm : Nat → List Nat × Nat} {e : Nat} {F : TCon}
    (hF : ∀ rows rest v rows', F rows rest = some (v, rows') → rest.length + 1 = np ∧ ∃ k mem1 ep1 cv, body P cal k lm fn (.one (.ow 1 1) :: rest) [none, some (.rows 1 1 e rows)] 2 = some (.one (.lit v), mem1, ep1) ∧ mem1[1]? = some (some (.rows 1 cv e rows'))) : TFn P g e F J := by
  refine ⟨⟨fn, hf, hn, by rw [hb]; rfl⟩, fun rows rest v rows' hr w0 hJ m w ys hg hl ha => ?_⟩
  obtain ⟨hvl, k, mem1, ep1, cv, h1, h2⟩ := hF rows rest v rows' hr
  refine (body_sound (hcal w0 hJ) hm hf hb hd (by omega) (by simpa using hl) h1 hg ha).mono fun ex w' he => ?_
  obtain ⟨v', rfl, m', q1, q2, q3⟩ := he
  have : v' = v ∧ v.oneCell' = true := by
    cases q1 with
    | one q => cases q with | lit h => exact ⟨rfl, h⟩
  obtain ⟨rfl, hc⟩ := this
  exact ⟨rfl, hc, mem1, ep1, cv, m', h2, q2, q3⟩

/-- A tree, handed over. -/
theorem TFn.call {g e : Nat} {F : TCon} {J : World → Prop} (hF : TFn P g e F J) (hJ : J w0) (hg : Good P.cellsOf w0.heap.size w0 mem ep m w) {D : Nat → Prop} (hD : ∀ k, D k → m.G k ≠ 0 ∧ w0.heap.size ≤ k) {rows rows' : List (List V)} {y0 : Value} (hrep : Rep P.cellsOf w (roG m w) D (.sl true e rows) y0)
    {rest : List TV} {v : Value} (hr : F rows rest = some (v, rows')) (hbare : rest.all bareT = true) {ys : Array Value} (hl : ys.size = rest.length + 1) (h0 : ys[0]? = some y0) (ha : ∀ (j : Nat) (v : TV) (y : Value), rest[j]? = some v → ys[j + 1]? = some y → RTV P.cellsOf mem ep m w v y) :
    Calls P g ys w fun ex w' => ex = .returned v ∧ v.oneCell' = true ∧ Below w0.heap.size w0 w' ∧ w.heap.size ≤ w'.heap.size ∧ (∀ k, k < w.heap.size → ¬ D k → w'.heap[k]? = w.heap[k]?) ∧
      ∃ D' Z : Nat → Prop, (∀ k, D' k → (k < w.heap.size → D k) ∧ k < w'.heap.size ∧ ¬ Z k) ∧ (∀ k, Z k → (k < w.heap.size → D k) ∧ k < w'.heap.size) ∧ Rep P.cellsOf w' (fun k => roG m w k ∨ Z k) D' (.sl true e rows') y0 := by
  classical
  let m1 : Mp := ⟨fun k => if k < w.heap.size then (if m.G k = 0 then 0 else if D k then 2 else 1) else 0, fun _ => y0⟩
  have hG0 : ∀ k, m.G k = 0 → m1.G k = 0 := by
    intro k hk
    show (if k < w.heap.size then (if m.G k = 0 then 0 else if D k then 2 else 1) else 0) = 0
    simp [hk]
  have hG1 : ∀ k, k < w.heap.size → m.G k ≠ 0 → ¬ D k → m1.G k = 1 := by
    intro k hlt hk hd
    show (if k < w.heap.size then (if m.G k = 0 then 0 else if D k then 2 else 1) else 0) = 1
    simp [hk, hd, hlt]
  have hG2 : ∀ k, k < w.heap.size → D k → m1.G k = 2 := by
    intro k hlt hd
    show (if k < w.heap.size then (if m.G k = 0 then 0 else if D k then 2 else 1) else 0) = 2
    simp [(hD k hd).1, hd, hlt]
  have hro : ∀ k, roG m w k → roG m1 w k := fun k hk => ⟨hG0 k hk.1, hk.2⟩
  have hg1 : Good P.cellsOf w0.heap.size w0 [none, some (.rows 1 1 e rows)] 2 m1 w := by
    refine ⟨fun id b hb => ?_, fun k hk => ?_, hg.below, hg.hB, rfl⟩
    · match id with
      | 0 => simp at hb
      | 1 =>
        simp at hb
        subst hb
        cases hrep with
        | own cells f ho hok hrow hr =>
          refine ⟨by omega, by omega, cells, f, ho, fun k hk => hG2 k (ownsRow_lt ho hk) (hok k hk), hrow, fun i j row u y a b c => ?_⟩
          refine (hr i j row u y a b c).bound.mono (fun k hk => hro k hk.1) (fun k hk => ?_)
          exact ⟨⟨hG2 k hk.2 hk.1.1, hk.1.2.1, hk.2⟩, hk.1.2.2⟩
      | id + 2 => simp at hb
    · have hk' : (if k < w.heap.size then (if m.G k = 0 then 0 else if D k then 2 else 1) else 0) ≠ 0 := hk
      split at hk'
      · rename_i hlt
        refine ⟨hlt, ?_⟩
        by_cases hd : D k
        · exact .inl (hD k hd).2
        · refine .inr (hG1 k hlt (fun h => ?_) hd)
          simp [h] at hk'
      · exact absurd rfl hk'
  have bare_up : ∀ (v : V) (y : Value), bare1 v = true → RV P.cellsOf mem ep m w v y → RV P.cellsOf [none, some (.rows 1 1 e rows)] 2 m1 w v y := by
    intro v y hb h
    cases h with
    | lit h => exact .lit h
    | ro h => exact .ro (h.mono hro (fun _ h => h))
    | rp ad f h1 hcell hr => exact .rp ad f (fun j u a => hro _ (h1 j u a)) hcell (fun j u a => (hr j u a).mono hro (fun _ h => h))
    | cl hn hh =>
      refine .cl hn (fun j u y a b => ?_)
      have h1 := List.all_eq_true.1 (show _ = true from hb) u (List.mem_of_getElem? a)
      have h2 := hh j u y a b
      cases h2 with
      | rp ad f h7 hcell hr => exact .rp ad f (fun j u a => hro _ (h7 j u a)) hcell (fun j u a => (hr j u a).mono hro (fun _ h => h))
      | _ => simp [isRp] at h1
    | _ => simp [bare1] at hb
  refine (hF.2 rows rest v rows' hr w0 hJ m1 w ys hg1 hl (fun j v y a b => ?_)).mono fun ex w' he => ?_
  · cases j with
    | zero =>
      simp at a
      subst a
      rw [h0] at b
      simp only [Option.some.injEq] at b
      subst b
      exact .one (.ow (by omega) (rep_one hrep) (fun _ _ _ _ => rfl))
    | succ j =>
      have a' : rest[j]? = some v := by simpa using a
      have h2 := ha j v y a' b
      have hb := List.all_eq_true.1 hbare v (List.mem_of_getElem? a')
      cases h2 with
      | one h => exact .one (bare_up _ _ hb h)
      | agg hs h => exact .agg hs (fun i u x c d => bare_up _ _ (List.all_eq_true.1 hb u (List.mem_of_getElem? c)) (h i u x c d))
      | tup => cases hb
  · obtain ⟨rfl, hone, mem2, ep2, cv, m2, q1, q2, q3⟩ := he
    have hhd : m2.hd 1 = y0 := by
      rcases q3.rows 1 1 cv e rows' q1 with h | ⟨_, _, _, h⟩
      · omega
      · exact h
    have hlt2 : ∀ k, k < w.heap.size → m2.G k ≠ 0 → m2.G k ≠ 1 → D k := by
      intro k hlt n0 n1
      by_cases h : m.G k = 0
      · exact absurd (q3.ro k ⟨hG0 k h, hlt⟩).1 n0
      · by_cases hd : D k
        · exact hd
        · exact absurd (q3.fgn k (hG1 k hlt h hd) hlt).1 n1
    refine ⟨rfl, hone, q2.below, q3.size, fun k hlt hd => ?_, fun k => m2.G k = 2 ∧ k < w'.heap.size, fun k => m2.G k = 0 ∧ k < w'.heap.size ∧ ¬ roG m w k, fun k hk => ?_, fun k hk => ?_, ?_⟩
    · by_cases h : m.G k = 0
      · exact (q3.ro k ⟨hG0 k h, hlt⟩).2
      · exact (q3.fgn k (hG1 k hlt h hd) hlt).2
    · exact ⟨fun hlt => hlt2 k hlt (by omega) (by omega), hk.2, fun hz => by omega⟩
    · refine ⟨fun hlt => ?_, hk.2.1⟩
      by_cases hd : D k
      · exact hd
      · have h : m.G k ≠ 0 := fun h => hk.2.2 ⟨h, hlt⟩
        have := (q3.fgn k (hG1 k hlt h hd) hlt).1
        omega
    · obtain ⟨_, _, cs, f, h1, h2, h3, h4⟩ := q2.blk 1 _ q1
      rw [hhd] at h1 h2
      refine .own cs f h1 (fun k hk => ⟨h2 k hk, ownsRow_lt h1 hk⟩) h3 (fun i j row u y a b c => (h4 i j row u y a b c).mono (fun k hk => ?_) (fun k hk => ?_))
      · by_cases h : roG m w k
        · exact .inl h
        · exact .inr ⟨hk.1, hk.2, h⟩
      · exact ⟨⟨hk.1.1, hk.1.2.2⟩, by rw [← hhd]; exact hk.1.2.1, hk.2⟩

/-- Where the tree was block id's, or lay in it. -/
theorem tree_back (hg : Good z B w0 mem ep m w) {id : Nat} {hv cv e0 : Nat} {rs : List (List V)} (hm : mem[id]? = some (some (.rows hv cv e0 rs))) (hbel : Below B w0 w') (hsz : w.heap.size ≤ w'.heap.size) {D D' Z : Nat → Prop} (hD : ∀ k, D k → m.G k = id + 1)
    (hsame : ∀ k, k < w.heap.size → ¬ D k → w'.heap[k]? = w.heap[k]?) (hD' : ∀ k, D' k → (k < w.heap.size → D k) ∧ k < w'.heap.size ∧ ¬ Z k) (hZ : ∀ k, Z k → (k < w.heap.size → D k) ∧ k < w'.heap.size) {rs' : List (List V)}
    (hnew : ∀ m3 : Mp, (∀ k, k < w.heap.size → ¬ D k → m3.G k = m.G k) → (∀ k, D' k → m3.G k = id + 1) → (∀ k, Z k → m3.G k = 0) → m3.hd = m.hd → RBlk z (mem.set id (some (.rows hv ep e0 rs'))) (ep + 1) m3 w' id (.rows hv ep e0 rs')) :
    ∃ m', Good z B w0 (mem.set id (some (.rows hv ep e0 rs'))) (ep + 1) m' w' ∧ Evo ep (ep + 1) mem (mem.set id (some (.rows hv ep e0 rs'))) m m' w w' := by
  classical
  have hid : id ≠ 0 := by
    rintro rfl
    have := hg.fst
    rw [hm] at this
    cases this
  have hlen : id < mem.length := (List.getElem?_eq_some_iff.1 hm).1
  let m3 : Mp := ⟨fun k => if k < w.heap.size ∧ ¬ D k then m.G k else if D' k then id + 1 else if Z k then 0 else if k < w'.heap.size then 1 else 0, m.hd⟩
  have g1 : ∀ k, k < w.heap.size → ¬ D k → m3.G k = m.G k := fun k h1 h2 => if_pos ⟨h1, h2⟩
  have nn : ∀ k, ((k < w.heap.size → D k)) → ¬ (k < w.heap.size ∧ ¬ D k) := fun k h hh => hh.2 (h hh.1)
  have g2 : ∀ k, D' k → m3.G k = id + 1 := by
    intro k hk
    show (if k < w.heap.size ∧ ¬ D k then m.G k else if D' k then id + 1 else if Z k then 0 else if k < w'.heap.size then 1 else 0) = id + 1
    rw [if_neg (nn k (hD' k hk).1), if_pos hk]
  have g3 : ∀ k, Z k → m3.G k = 0 := by
    intro k hk
    show (if k < w.heap.size ∧ ¬ D k then m.G k else if D' k then id + 1 else if Z k then 0 else if k < w'.heap.size then 1 else 0) = 0
    rw [if_neg (nn k (hZ k hk).1), if_neg (fun h => (hD' k h).2.2 hk), if_pos hk]
  have hne : ∀ (i : Nat) (b : Blk), i ≠ id → (mem.set id (some (.rows hv ep e0 rs')))[i]? = some (some b) → mem[i]? = some (some b) := by
    intro i b hi h
    rwa [List.getElem?_set_ne (fun e => hi e.symm)] at h
  have hself : (mem.set id (some (.rows hv ep e0 rs')))[id]? = some (some (.rows hv ep e0 rs')) := List.getElem?_set_self hlen
  have hoth : ∀ i k, i ≠ id → m.G k = i + 1 → k < w.heap.size → m3.G k = i + 1 ∧ w'.heap[k]? = w.heap[k]? := by
    intro i k hi hk hlt
    have hd : ¬ D k := fun h => by have := hD k h; omega
    exact ⟨(g1 k hlt hd).trans hk, hsame k hlt hd⟩
  have hE : Evo ep (ep + 1) mem (mem.set id (some (.rows hv ep e0 rs'))) m m3 w w' := by
    refine ⟨by omega, hsz, fun k hk => ?_, fun k hk hlt => ?_, fun i bv c hc => ?_, fun i hv1 cv1 e rs1 hc => ?_, fun i hv1 cv1 e rs1 hc => ?_, fun i hv1 cv1 e rs1 rs2 h7 hc l1 l2 => ?_⟩
    · have hd : ¬ D k := fun h => by have := hD k h; have := hk.1; omega
      exact ⟨(g1 k hk.2 hd).trans hk.1, hsame k hk.2 hd⟩
    · have hd : ¬ D k := fun h => by have := hD k h; omega
      exact ⟨(g1 k hlt hd).trans hk, hsame k hlt hd⟩
    · by_cases hi : i = id
      · subst hi
        rw [hself] at hc
        cases hc
      · exact .inr ⟨c, hne i _ hi hc, rfl⟩
    · by_cases hi : i = id
      · subst hi
        rw [hself] at hc
        cases hc
        exact .inr ⟨cv, rs, hm, rfl⟩
      · exact .inr ⟨cv1, rs1, hne i _ hi hc, rfl⟩
    · by_cases hi : i = id
      · subst hi
        rw [hself] at hc
        cases hc
        exact .inl (Nat.le_refl _)
      · exact .inr ⟨hv1, e, rs1, hne i _ hi hc, fun k hk => ⟨⟨(hoth i k hi hk.1 hk.2.2).1, hk.2.1, Nat.lt_of_lt_of_le hk.2.2 hsz⟩, (hoth i k hi hk.1 hk.2.2).2⟩⟩
    · by_cases hi : i = id
      · subst hi
        rw [hself] at hc
        cases hc
        omega
      · obtain ⟨_, _, _, rfl⟩ := rows_inj4 h7 (hne i _ hi hc)
        obtain ⟨_, _, cs, f, ho, hG, _, _⟩ := hg.blk i _ h7
        exact NestEq.same (fun g hgg hlt => (hoth i g hi (hG g hgg) hlt).2)
  refine ⟨m3, ⟨fun i b hb => ?_, fun k hk => ?_, hbel, Nat.le_trans hg.hB hsz, ?_⟩, hE⟩
  · by_cases hi : i = id
    · subst hi
      rw [hself] at hb
      cases hb
      exact hnew m3 g1 g2 g3 rfl
    · exact (hg.blk i b (hne i b hi hb)).keep hE rfl (fun k hk hlt => hoth i k hi hk hlt)
  · have hk' : (if k < w.heap.size ∧ ¬ D k then m.G k else if D' k then id + 1 else if Z k then 0 else if k < w'.heap.size then 1 else 0) ≠ 0 := hk
    split at hk'
    · rename_i h
      have h6 := hg.lab k hk'
      exact ⟨Nat.lt_of_lt_of_le h6.1 hsz, h6.2.imp (fun e => e) (fun e => (g1 k h.1 h.2).trans e)⟩
    · rename_i h
      split at hk'
      · rename_i h1
        refine ⟨(hD' k h1).2.1, .inl ?_⟩
        rcases Nat.lt_or_ge k w.heap.size with hlt | hge
        · exact hg.ge hm (hD k ((hD' k h1).1 hlt))
        · exact Nat.le_trans hg.hB hge
      · rename_i h1
        split at hk'
        · exact absurd rfl hk'
        · rename_i h2
          split at hk'
          · rename_i h3
            refine ⟨h3, .inr ?_⟩
            show (if k < w.heap.size ∧ ¬ D k then m.G k else if D' k then id + 1 else if Z k then 0 else if k < w'.heap.size then 1 else 0) = 1
            rw [if_neg h, if_neg h1, if_neg h2, if_pos h3]
          · exact absurd rfl hk'
  · rw [List.getElem?_set_ne hid]
    exact hg.fst

end
/-- A function told by what it does to a slice, in its caller's memory. -/
def tI (e : Nat) (F : TCon) : ICon := fun vs mem ep => match vs with
  | .one x :: rest => if rest.all bareT = true then (match x with
    | .ow id hv => (rowsH mem id hv).bind fun b => if b.2.1 = e then (F b.2.2 rest).bind fun r => some (.one (.lit r.1), mem.set id (some (.rows hv ep e r.2)), ep + 1) else none
    | .vw id cv (some (hv, i, j)) _ _ => (rowsH mem id hv).bind fun b => if b.1 = cv then (b.2.2[i]?).bind fun row => (row[j]?).bind fun
      | .sl true e2 r2 => if e2 = e then (F r2 rest).bind fun r => some (.one (.lit r.1), mem.set id (some (.rows hv ep b.2.1 (b.2.2.set i (row.set j (.sl true e r.2))))), ep + 1) else none
      | _ => none
      else none
    | .lit (.slice none 0 0) => (F [] rest).bind fun r => if r.2.isEmpty = true then some (.one (.lit r.1), mem, ep + 1) else none
    | _ => none) else none
  | _ => none
section
variable {P : Program} {z : Nat → Nat} {B : Nat} {w0 w w' : World} {mem mem' : Mem} {ep ep' : Nat} {m m' : Mp}
theorem own_rep {id hv cv e : Nat} {rs : List (List V)} (hb : RBlk z mem ep m w id (.rows hv cv e rs)) : Rep z w (roG m w) (fun k => m.G k = id + 1 ∧ k < w.heap.size) (.sl true e rs) (m.hd id) := by
  obtain ⟨_, _, cs, f, h1, h2, h3, h4⟩ := hb
  exact .own cs f h1 (fun k hk => ⟨h2 k hk, ownsRow_lt h1 hk⟩) h3 (fun i j row u y a b c => (h4 i j row u y a b c).mono (fun _ h => h) (fun k hk => ⟨⟨hk.1.1, hk.1.2.2⟩, hk.1.2.1, hk.2⟩))
theorem evo_idle (hg : Good z B w0 mem ep m w) (hbel : Below B w0 w') (hsz : w.heap.size ≤ w'.heap.size) (hsame : ∀ k, k < w.heap.size → w'.heap[k]? = w.heap[k]?) : ∃ m', Good z B w0 mem (ep + 1) m' w' ∧ Evo ep (ep + 1) mem mem m m' w w' := by
  have hE : Evo ep (ep + 1) mem mem m m w w' := ⟨by omega, hsz, fun k hk => ⟨hk.1, hsame k hk.2⟩, fun k hk hlt => ⟨hk, hsame k hlt⟩, fun id bv c hc => .inr ⟨c, hc, rfl⟩, fun id hv cv e rs hc => .inr ⟨cv, rs, hc, rfl⟩,
    fun id hv cv e rs hc => .inr ⟨hv, e, rs, hc, fun k hk => ⟨⟨hk.1, hk.2.1, Nat.lt_of_lt_of_le hk.2.2 hsz⟩, hsame k hk.2.2⟩⟩, fun id hv cv e rs rs' h1 h2 _ _ => by
      obtain ⟨_, _, _, rfl⟩ := rows_inj4 h1 h2
      exact NestEq.same (fun g _ hlt => hsame g hlt)⟩
  exact ⟨m, ⟨fun i b hb => (hg.blk i b hb).keep hE rfl (fun k hk hlt => ⟨hk, hsame k hlt⟩), fun k hk => ⟨Nat.lt_of_lt_of_le (hg.lab k hk).1 hsz, (hg.lab k hk).2⟩, hbel, Nat.le_trans hg.hB hsz, hg.fst⟩, hE⟩
theorem tI_ok {g e : Nat} {F : TCon} {J : World → Prop} (hF : TFn P g e F J) : IFn P g (tI e F) J := by
  refine ⟨hF.1, fun w0 hJ vs mem ep r h m w ys hg hl ha => ?_⟩
  unfold tI at h
  split at h
  · rename_i x rest
    split at h
    · rename_i hbare
      obtain ⟨y0, hy0⟩ : ∃ y0, ys[0]? = some y0 := ⟨_, Array.getElem?_eq_getElem (by rw [hl]; simp)⟩
      have hx : RV P.cellsOf mem ep m w x y0 := by
        have := ha 0 _ y0 rfl hy0
        cases this with
        | one h => exact h
      have ha' : ∀ (j : Nat) (v : TV) (y : Value), rest[j]? = some v → ys[j + 1]? = some y → RTV P.cellsOf mem ep m w v y := fun j v y a b => ha (j + 1) v y (by simpa using a) b
      have hl' : ys.size = rest.length + 1 := by rw [hl]; simp
      split at h
      · rename_i id hv
        simp only [Option.bind_eq_some_iff] at h
        obtain ⟨b, hb, h⟩ := h
        have hm := rowsH_some hb
        split at h
        · rename_i he
          simp only [Option.bind_eq_some_iff, Option.some.injEq] at h
          obtain ⟨q, hq, rfl⟩ := h
          have hy : y0 = m.hd id := by
            cases hx with
            | ow _ _ h => exact h _ _ _ hm
          have hbk := hg.blk id _ hm
          have hrep := own_rep hbk
          rw [← hy, he] at hrep
          refine (hF.call hJ hg (D := fun k => m.G k = id + 1 ∧ k < w.heap.size) (fun k hk => ⟨by omega, hg.ge hm hk.1⟩) hrep hq hbare hl' hy0 ha').mono fun ex w' hx => ?_
          obtain ⟨rfl, hone, hbel, hsz, hsame, D', Z, hD', hZ, hr'⟩ := hx
          obtain ⟨m', g1, g2⟩ := tree_back (rs' := q.2) hg hm hbel hsz (D := fun k => m.G k = id + 1 ∧ k < w.heap.size) (fun k hk => hk.1) hsame hD' hZ (fun m3 a1 a2 a3 a4 => by
            rw [he]
            cases hr' with
            | own cs f ho hok hrow hr =>
              refine ⟨by have := hbk.1; omega, by omega, cs, f, by rw [a4, ← hy]; exact ho, fun k hk => a2 k (hok k (by rw [a4, ← hy] at hk; exact hk)), hrow, fun i j row u y a b c => (hr i j row u y a b c).mono (fun k hk => ?_) (fun k hk => ?_)⟩
              · rcases hk with hk | hk
                · exact ⟨(a1 k hk.2 (fun h => by have := hk.1; omega)).trans hk.1, Nat.lt_of_lt_of_le hk.2 hsz⟩
                · exact ⟨a3 k hk, (hZ k hk).2⟩
              · exact ⟨⟨a2 k hk.1, by rw [a4, ← hy]; exact hk.2.1, (hD' k hk.1).2.1⟩, hk.2.2⟩)
          rw [he] at g1 g2
          exact ⟨_, rfl, m', .one (.lit hone), g1, g2⟩
        · cases h
      · rename_i id cv hv i j e' rows
        simp only [Option.bind_eq_some_iff] at h
        obtain ⟨b, hb, h⟩ := h
        have hm := rowsH_some hb
        split at h
        · rename_i hcv
          simp only [Option.bind_eq_some_iff] at h
          obtain ⟨row, hrow0, u, hu, h⟩ := h
          split at h
          · rename_i e2 r2
            split at h
            · rename_i he
              simp only [Option.bind_eq_some_iff, Option.some.injEq] at h
              obtain ⟨q, hq, rfl⟩ := h
              subst he
              obtain ⟨_, _, cs, f, h1, h2, h3, h4⟩ := hg.blk id _ hm
              have hpos : cs[i * P.cellsOf b.2.1 + j]? = some y0 := by
                cases hx with
                | vw hid hone hh hp =>
                  rw [← hcv] at hp
                  obtain ⟨_, hp⟩ := hp hv i j rfl
                  obtain ⟨row', f2, r2', g, q1, q2, q3, q4⟩ := hp _ _ hm
                  rw [hrow0] at q1
                  simp only [Option.some.injEq] at q1
                  subst q1
                  have hz := h3 row (List.mem_of_getElem? hrow0)
                  rw [hz] at q4
                  have hj := (List.getElem?_eq_some_iff.1 hu).1
                  have hi := (List.getElem?_eq_some_iff.1 hrow0).1
                  have hlt : i * P.cellsOf b.2.1 + j < cs.length := by
                    rw [h1.1]
                    have : (i + 1) * P.cellsOf b.2.1 ≤ b.2.2.length * P.cellsOf b.2.1 := Nat.mul_le_mul_right _ hi
                    rw [Nat.succ_mul] at this
                    omega
                  have hc0 := List.getElem?_eq_getElem hlt
                  rw [own_cell h1 q3 hc0] at q4
                  rw [hc0]
                  exact q4
              have hrep := (h4 i j row _ y0 hrow0 hu hpos)
              refine (hF.call hJ hg (D := fun k => inG m w id k ∧ f k = (i, j)) (fun k hk => ⟨by have := hk.1.1; omega, hg.ge hm hk.1.1⟩) hrep hq hbare hl' hy0 ha').mono fun ex w' hx => ?_
              obtain ⟨rfl, hone, hbel, hsz, hsame, D', Z, hD', hZ, hr'⟩ := hx
              classical
              obtain ⟨m', g1, g2⟩ := tree_back (rs' := b.2.2.set i (row.set j (.sl true e2 q.2))) hg hm hbel hsz (D := fun k => inG m w id k ∧ f k = (i, j)) (fun k hk => hk.1.1) hsame hD' hZ (fun m3 a1 a2 a3 a4 => by
                have hhd : ∀ k, (m.hd id).ownBlock = some k → k < w.heap.size ∧ ¬ (inG m w id k ∧ f k = (i, j)) := fun k hk => ⟨ownsRow_lt h1 hk, fun h => h.1.2.1 hk.symm⟩
                have hD1 : ∀ k, D' k → some k ≠ (m.hd id).ownBlock := by
                  intro k hk he
                  obtain ⟨q1, q2⟩ := hhd k he.symm
                  exact q2 ((hD' k hk).1 q1)
                refine ⟨by omega, by omega, cs, fun k => if D' k then (i, j) else f k, ?_, fun k hk => ?_, fun r hr => ?_, fun i' j' row' u' y' x1 x2 x3 => ?_⟩
                · rw [a4]
                  refine ⟨by rw [List.length_set]; exact h1.1, ?_⟩
                  rw [List.length_set]
                  rcases h1.2 with h5 | ⟨gg, cap, cur, h5, hgg, hh, rr⟩
                  · exact .inl h5
                  · have hb : (m.hd id).ownBlock = some gg := by rw [h5]; rfl
                    exact .inr ⟨gg, cap, cur, h5, hgg, (hsame gg (hhd gg hb).1 (hhd gg hb).2).trans hh, rr⟩
                · rw [a4] at hk
                  exact (a1 k (hhd k hk).1 (hhd k hk).2).trans (h2 k hk)
                · rcases List.mem_or_eq_of_mem_set hr with hr | rfl
                  · exact h3 r hr
                  · rw [List.length_set]; exact h3 row (List.mem_of_getElem? hrow0)
                · have other : ∀ (row1 : List V), b.2.2[i']? = some row1 → row1[j']? = some u' → (i', j') ≠ (i, j) → Rep P.cellsOf w' (roG m3 w') (fun k => inG m3 w' id k ∧ (if D' k then (i, j) else f k) = (i', j')) u' y' := by
                    intro row1 t1 t2 hne
                    refine ((h4 i' j' row1 u' y' t1 t2 x3).bound.move (fun k hk => ?_)).mono (fun k hk => ?_) (fun k hk => ?_)
                    · rcases hk with hk | hk
                      · exact hsame k hk.2 (fun h => by have := h.1.1; have := hk.1.1; omega)
                      · exact hsame k hk.2 (fun h => hne (hk.1.2.symm.trans h.2))
                    · exact ⟨(a1 k hk.2 (fun h => by have := h.1.1; have := hk.1.1; omega)).trans hk.1.1, Nat.lt_of_lt_of_le hk.2 hsz⟩
                    · have hd : ¬ (inG m w id k ∧ f k = (i, j)) := fun h => hne (hk.1.2.symm.trans h.2)
                      refine ⟨⟨(a1 k hk.2 hd).trans hk.1.1.1, by rw [a4]; exact hk.1.1.2.1, Nat.lt_of_lt_of_le hk.2 hsz⟩, ?_⟩
                      rw [if_neg (fun h => hd ((hD' k h).1 hk.2))]
                      exact hk.1.2
                  by_cases hi : i' = i
                  · subst hi
                    have hlt := (List.getElem?_eq_some_iff.1 hrow0).1
                    rw [List.getElem?_set_self hlt] at x1
                    simp only [Option.some.injEq] at x1
                    subst x1
                    by_cases hj : j' = j
                    · subst hj
                      rw [List.getElem?_set_self (List.getElem?_eq_some_iff.1 hu).1] at x2
                      simp only [Option.some.injEq] at x2
                      subst x2
                      rw [hpos] at x3
                      simp only [Option.some.injEq] at x3
                      subst x3
                      refine hr'.mono (fun k hk => ?_) (fun k hk => ?_)
                      · rcases hk with hk | hk
                        · exact ⟨(a1 k hk.2 (fun h => by have := h.1.1; have := hk.1; omega)).trans hk.1, Nat.lt_of_lt_of_le hk.2 hsz⟩
                        · exact ⟨a3 k hk, (hZ k hk).2⟩
                      · exact ⟨⟨a2 k hk, by rw [a4]; exact hD1 k hk, (hD' k hk).2.1⟩, if_pos hk⟩
                    · rw [List.getElem?_set_ne (fun e => hj e.symm)] at x2
                      exact other row hrow0 x2 (fun e => hj (by simpa using e))
                  · rw [List.getElem?_set_ne (fun e => hi e.symm)] at x1
                    exact other row' x1 x2 (fun e => hi (by simp only [Prod.mk.injEq] at e; exact e.1)))
              exact ⟨_, rfl, m', .one (.lit hone), g1, g2⟩
            · cases h
          · cases h
        · cases h
      · simp only [Option.bind_eq_some_iff] at h
        obtain ⟨q, hq, h⟩ := h
        split at h
        · rename_i hq2
          simp only [Option.some.injEq] at h
          subst h
          have hy : y0 = .slice none 0 0 := by
            cases hx with
            | lit _ => rfl
          have hrep : Rep P.cellsOf w (roG m w) (fun _ => False) (.sl true e []) y0 := by
            rw [hy]
            exact .own [] (fun _ => (0, 0)) ⟨by simp, .inl ⟨rfl, rfl⟩⟩ (fun k hk => by simp [Value.ownBlock] at hk) (by simp) (by simp)
          refine (hF.call hJ hg (D := fun _ => False) (fun k hk => hk.elim) hrep hq hbare hl' hy0 ha').mono fun ex w' hx => ?_
          obtain ⟨rfl, hone, hbel, hsz, hsame, D', Z, hD', hZ, hr'⟩ := hx
          obtain ⟨m', g1, g2⟩ := evo_idle hg hbel hsz (fun k hk => hsame k hk (fun h => h))
          exact ⟨_, rfl, m', .one (.lit hone), g1, g2⟩
        · cases h
      · cases h
    · cases h
  · cases h
end
open Classical in
noncomputable def tcon {α : Type} (rows : α → List (List V)) (arg : α → List TV) (ok : α → Prop) (val : α → Value) (rows' : α → List (List V)) : TCon := fun rs rest => if h : ∃ a, rows a = rs ∧ arg a = rest ∧ ok a then some (val h.choose, rows' h.choose) else none
theorem tcon_at {α : Type} {rows : α → List (List V)} {arg : α → List TV} {ok : α → Prop} {val : α → Value} {rows' : α → List (List V)} (inj : ∀ a b, rows a = rows b → arg a = arg b → a = b) {a : α} (h : ok a) : tcon rows arg ok val rows' (rows a) (arg a) = some (val a, rows' a) := by
  have hex : ∃ b, rows b = rows a ∧ arg b = arg a ∧ ok b := ⟨a, rfl, rfl, h⟩
  unfold tcon
  rw [dif_pos hex, inj _ _ hex.choose_spec.1 hex.choose_spec.2.1]
theorem tcon_of {α : Type} {rows : α → List (List V)} {arg : α → List TV} {ok : α → Prop} {val : α → Value} {rows' : α → List (List V)} {rs rs' : List (List V)} {rest : List TV} {v : Value} (h : tcon rows arg ok val rows' rs rest = some (v, rs')) : ∃ a, rs = rows a ∧ rest = arg a ∧ ok a ∧ v = val a ∧ rs' = rows' a := by
  unfold tcon at h
  split at h
  · rename_i hex
    simp only [Option.some.injEq, Prod.mk.injEq] at h
    exact ⟨hex.choose, hex.choose_spec.1.symm, hex.choose_spec.2.1.symm, hex.choose_spec.2.2, h.1.symm, h.2.symm⟩
  · cases h
def inlOf : List (Nat × ICon) → Nat → Option ICon
  | [], _ => none
  | (k, F) :: r, g => if k = g then some F else inlOf r g
theorem inlOf_ok {P : Program} {J : World → Prop} : ∀ (l : List (Nat × ICon)), (∀ p ∈ l, IFn P p.1 p.2 J) → ∀ g F, inlOf l g = some F → IFn P g F J := by
  intro l
  induction l with
  | nil => intro _ g F h; cases h
  | cons p l ih =>
    intro hl g F h
    obtain ⟨k, F'⟩ := p
    simp only [inlOf] at h
    split at h
    · rename_i he
      subst he
      simp only [Option.some.injEq] at h
      subst h
      exact hl _ List.mem_cons_self
    · exact ih (fun p hp => hl p (List.mem_cons_of_mem _ hp)) g F h
theorem Fn.conI {P : Program} {α : Type} {arg : α → List TV} {ok : α → Prop} {res : α → Sh × List V} (l : List (Nat × Con)) (li : List (Nat × ICon)) {J : World → Prop} (hl : ∀ p ∈ l, Fn P p.1 p.2 J) (hli : ∀ p ∈ li, IFn P p.1 p.2 J) (hm : P.follows .mixedOrders = true) {g : Nat} {fn : Func} {c : Code} (hf : P.funcs[g]? = some fn) (hn : (fn.name == "runtime.NumGoroutine") = false) (hb : fn.body = some c) (hd : dsts fn.ntmps c = true) (np : Nat) (hnp : np ≤ fn.ntmps) (harg : ∀ a, (arg a).length = np) (lm : Nat → List Nat × Nat)
    (h : ∀ a, ok a → ∃ k, told P (calI (tabOf l) (inlOf li)) k lm fn (arg a) = some (res a)) (hst : Stab J := by exact stab_true) : Fn P g (Vm.con arg ok res) J :=
  Fn.of_body (fun w0 h0 => calI_ok hst (tabOf_ok l hl) (inlOf_ok li hli) h0) hm hf hn hb hd hnp (fun vs r hr => by
    obtain ⟨a, rfl, ha, rfl⟩ := con_of hr
    exact ⟨harg a, h a ha⟩)
theorem TFn.con {P : Program} {α : Type} {rows : α → List (List V)} {arg : α → List TV} {ok : α → Prop} {val : α → Value} {rows' : α → List (List V)} {e : Nat} (l : List (Nat × Con)) (li : List (Nat × ICon)) {J : World → Prop} (hl : ∀ p ∈ l, Fn P p.1 p.2 J) (hli : ∀ p ∈ li, IFn P p.1 p.2 J) (hm : P.follows .mixedOrders = true) {g : Nat} {fn : Func} {c : Code} (hf : P.funcs[g]? = some fn) (hn : (fn.name == "runtime.NumGoroutine") = false) (hb : fn.body = some c) (hd : dsts fn.ntmps c = true) (np : Nat) (hnp : np ≤ fn.ntmps) (harg : ∀ a, (arg a).length + 1 = np) (lm : Nat → List Nat × Nat)
    (h : ∀ a, ok a → ∃ k mem1 ep1 cv, body P (calI (tabOf l) (inlOf li)) k lm fn (.one (.ow 1 1) :: arg a) [none, some (.rows 1 1 e (rows a))] 2 = some (.one (.lit (val a)), mem1, ep1) ∧ mem1[1]? = some (some (.rows 1 cv e (rows' a)))) (hst : Stab J := by exact stab_true) : TFn P g e (tcon rows arg ok val rows') J :=
  TFn.of_body (fun w0 h0 => calI_ok hst (tabOf_ok l hl) (inlOf_ok li hli) h0) hm hf hn hb hd hnp (fun rs rest v rs' hr => by
    obtain ⟨a, rfl, rfl, ha, rfl, rfl⟩ := tcon_of hr
    exact ⟨harg a, h a ha⟩)
theorem IFn.con {P : Program} {I : ICon} (l : List (Nat × Con)) (li : List (Nat × ICon)) {J : World → Prop} (hl : ∀ p ∈ l, Fn P p.1 p.2 J) (hli : ∀ p ∈ li, IFn P p.1 p.2 J) (hm : P.follows .mixedOrders = true) {g : Nat} {fn : Func} {c : Code} (hf : P.funcs[g]? = some fn) (hn : (fn.name == "runtime.NumGoroutine") = false) (hb : fn.body = some c) (hd : dsts fn.ntmps c = true) (np : Nat) (hnp : np ≤ fn.ntmps) (lm : Nat → List Nat × Nat)
    (hI : ∀ vs mem ep r, I vs mem ep = some r → mem[0]? = some none → vs.length = np ∧ ∃ k mem1 ep1, body P (calI (tabOf l) (inlOf li)) k lm fn vs mem ep = some (r.1, mem1, ep1) ∧ Sub mem1 r.2.1 ∧ r.2.1[0]? = some none ∧ ep1 ≤ r.2.2) (hst : Stab J := by exact stab_true) : IFn P g I J :=
  IFn.of_body (fun w0 h0 => calI_ok hst (tabOf_ok l hl) (inlOf_ok li hli) h0) hm hf hn hb hd hnp hI
theorem Sub.left (mem l : Mem) : Sub (mem ++ l) mem := fun id b h => by
  rw [List.getElem?_append_left (List.getElem?_eq_some_iff.1 h).1]
  exact h
theorem rowsH_lt {mem : Mem} {id hv : Nat} {b : Nat × Nat × List (List V)} (h : rowsH mem id hv = some b) : id < mem.length := (List.getElem?_eq_some_iff.1 (rowsH_some h)).1
theorem rowsH_app {mem : Mem} {id hv : Nat} {b : Nat × Nat × List (List V)} (h : rowsH mem id hv = some b) (l : Mem) : rowsH (mem ++ l) id hv = some b := by
  have := rowsH_lt h
  unfold rowsH at h ⊢
  rw [List.getElem?_append_left this]
  exact h
theorem set_app {mem : Mem} {id hv : Nat} {b : Nat × Nat × List (List V)} (h : rowsH mem id hv = some b) (l : Mem) (x : Option Blk) : (mem ++ l).set id x = mem.set id x ++ l := List.set_append_left _ _ (rowsH_lt h)
theorem set_fst {mem : Mem} {id hv : Nat} {b : Nat × Nat × List (List V)} (h : rowsH mem id hv = some b) (h0 : mem[0]? = some none) (x : Option Blk) : (mem.set id x)[0]? = some none := by
  have := rowsH_some h
  rw [List.getElem?_set_ne (fun e => by subst e; rw [h0] at this; cases this)]
  exact h0
theorem app_last (mem : Mem) (x : Option Blk) : (mem ++ [x])[mem.length]? = some x := by simp
theorem app_last' (mem : Mem) (i : Nat) (y x : Option Blk) : (mem.set i y ++ [x])[mem.length]? = some x := by
  have := app_last (mem.set i y) x
  rwa [List.length_set] at this
/-- One argument, a slice: at one without rows it may be nil or not, and either way the same comes back. -/
theorem Fn.empty1 {P : Program} {g : Nat} {F F0 : Con} {J : World → Prop} (h0 : Fn P g F0 J) (h : ∀ vs r, F vs = some r → F0 vs = some r ∨ ∃ e, vs = [.one (.sl false e [])] ∧ ∀ A c, F0 [.one (.lit (.slice A 0 c))] = some r) : Fn P g F J := by
  refine ⟨h0.1, fun vs r hr R w ys hJ hl ha => ?_⟩
  rcases h vs r hr with h1 | ⟨e, rfl, h1⟩
  · exact h0.2 vs r h1 R w ys hJ hl ha
  · obtain ⟨y0, hy0⟩ : ∃ y, ys[0]? = some y := ⟨_, Array.getElem?_eq_getElem (by rw [hl]; simp)⟩
    obtain ⟨A, c, rfl⟩ : ∃ A c, y0 = .slice A 0 c := by
      have := ha 0 _ y0 rfl hy0
      cases this with
      | one hb h =>
        cases h with
        | roS => exact ⟨_, _, rfl⟩
    refine h0.2 _ r (h1 A c) R w ys hJ (by simpa using hl) (fun j v y a b => ?_)
    cases j with
    | zero =>
      simp at a
      subst a
      rw [hy0] at b
      simp only [Option.some.injEq] at b
      subst b
      exact .one rfl (.lit rfl)
    | succ j => simp at a
end Go.Proofs.Ytanglbgincgmaaa.Vm
