/-
  The small machine: functions that yield a pointer to a box of their own.
-/
import Derived.Test.YtanglbgincgmaaaVmBox
namespace Go.Proofs.Ytanglbgincgmaaa.Vm
open Go Go.RowKit
set_option linter.unusedVariables false

/-- The cells of the box that is yielded. -/
abbrev PCon := List TV → Option (List V)
def POut (z : Nat → Nat) (w w' : World) (R : Nat → Prop) (r : List V) (v : Value) : Prop := ∃ (b T : Nat) (cs : Array Value), v = .pointer (some ⟨b, 0, none⟩) ∧ w.heap.size ≤ b ∧ w'.heap[b]? = some (.cells cs T (0, 0)) ∧ cs.size = r.length ∧ ∃ c : Nat → Nat, c b = 1 ∧
  ∀ (j : Nat) (u : V) (y : Value), r[j]? = some u → cs[j]? = some y → Rep z w' (fun k => (R k ∧ k < w.heap.size) ∨ (w.heap.size ≤ k ∧ k < w'.heap.size ∧ c k = 0)) (fun k => w.heap.size ≤ k ∧ k < w'.heap.size ∧ c k = ownNo r j + 2) u y
def PAt (P : Program) (g : Nat) (J : World → Prop) (vs : List TV) (r : List V) : Prop := ∀ (R : Nat → Prop) (w : World) (ys : Array Value), J w → ys.size = vs.length → (∀ (j : Nat) (v : TV) (y : Value), vs[j]? = some v → ys[j]? = some y → ArgT P.cellsOf w R v y) →
    Calls P g ys w fun e w' => ∃ v, e = .returned v ∧ Below w.heap.size w w' ∧ POut P.cellsOf w w' R r v
def PFn (P : Program) (g : Nat) (F : PCon) (J : World → Prop := fun _ => True) : Prop := Has P g ∧ ∀ vs r, F vs = some r → PAt P g J vs r
/-- In its caller's memory. -/
def pI (es : List (List (Option Nat))) (F : PCon) : ICon := fun vs mem ep => (seenTs mem vs).bind fun us => (F (fixTs es us)).bind fun r => (landC (vs.all bareT) ep (mem.length + 1) r).bind fun p => some (.one (.bp mem.length ep 0), mem ++ some (.box ep p.1) :: p.2.map some, ep + 1)
section
variable {P : Program} {z : Nat → Nat} {B : Nat} {w0 w w' : World} {mem mem' : Mem} {ep ep' : Nat} {m m' : Mp}
theorem land_box (hg : Good z B w0 mem ep m w) (hbel : Below w.heap.size w w') {R : Nat → Prop} {r : List V} {v : Value} (ho : POut z w w' R r v) {ok : Bool} (hR : ok = true → ∀ k, R k → k < w.heap.size → m.G k = 0)
    {cs : List V} {bs : List Blk} (hl : landC ok ep (mem.length + 1) r = some (cs, bs)) :
    ∃ m', RTV z (mem ++ some (.box ep cs) :: bs.map some) (ep + 1) m' w' (.one (.bp mem.length ep 0)) v ∧ Good z B w0 (mem ++ some (.box ep cs) :: bs.map some) (ep + 1) m' w' ∧ Evo ep (ep + 1) mem (mem ++ some (.box ep cs) :: bs.map some) m m' w w' := by
  classical
  obtain ⟨b, T, ys, rfl, hbge, hbh, hyl, c, hcb, hrep⟩ := ho
  have hblt : b < w'.heap.size := (Array.getElem?_eq_some_iff.1 hbh).1
  obtain ⟨h1, h2, h3⟩ := landC_spec _ _ _ _ hl
  let G : Nat → Nat := fun k => if k < w.heap.size then m.G k else if k < w'.heap.size ∧ c k ≠ 0 then mem.length + c k else 0
  let hd : Nat → Value := fun i => if i < mem.length then m.hd i else if i = mem.length then .pointer (some ⟨b, 0, none⟩) else if h : ∃ j u, r[j]? = some u ∧ ownC u = true ∧ ownNo r j = i - mem.length - 1 then ys.getD h.choose default else default
  let m' : Mp := ⟨G, hd⟩
  have hG1 : ∀ k, k < w.heap.size → m'.G k = m.G k := fun k hk => if_pos hk
  have hG2 : ∀ k q, w.heap.size ≤ k → k < w'.heap.size → c k = q + 1 → m'.G k = mem.length + q + 1 := by
    intro k q hk hk' hc
    show (if k < w.heap.size then m.G k else if k < w'.heap.size ∧ c k ≠ 0 then mem.length + c k else 0) = _
    rw [if_neg (by omega), if_pos ⟨hk', by omega⟩, hc]
    omega
  have hG3 : ∀ k, w.heap.size ≤ k → c k = 0 → m'.G k = 0 := by
    intro k hk hc
    show (if k < w.heap.size then m.G k else if k < w'.heap.size ∧ c k ≠ 0 then mem.length + c k else 0) = _
    rw [if_neg (by omega), if_neg (by omega)]
  have hhd : ∀ i, i < mem.length → m'.hd i = m.hd i := fun i hi => if_pos hi
  have hhdb : m'.hd mem.length = .pointer (some ⟨b, 0, none⟩) := by
    show (if mem.length < mem.length then _ else if mem.length = mem.length then _ else _) = _
    rw [if_neg (by omega), if_pos rfl]
  have hhd2 : ∀ (j : Nat) (u : V) (y : Value), r[j]? = some u → ys[j]? = some y → ownC u = true → m'.hd (mem.length + 1 + ownNo r j) = y := by
    intro j u y a e hu
    have hex : ∃ j' u', r[j']? = some u' ∧ ownC u' = true ∧ ownNo r j' = mem.length + 1 + ownNo r j - mem.length - 1 := ⟨j, u, a, hu, by omega⟩
    show (if mem.length + 1 + ownNo r j < mem.length then _ else if mem.length + 1 + ownNo r j = mem.length then _ else if h : ∃ j' u', r[j']? = some u' ∧ ownC u' = true ∧ ownNo r j' = mem.length + 1 + ownNo r j - mem.length - 1 then ys.getD h.choose default else default) = y
    rw [if_neg (by omega), if_neg (by omega), dif_pos hex]
    obtain ⟨u', h4, h5, h6⟩ := hex.choose_spec
    have : hex.choose = j := ownNo_inj r _ _ u' u h4 a h5 hu (by omega)
    rw [this]
    rw [Array.getD_eq_getD_getElem?, e]; rfl
  have hcase : ∀ (i : Nat) (bl : Blk), (mem ++ some (Blk.box ep cs) :: bs.map some)[i]? = some (some bl) → (i < mem.length ∧ mem[i]? = some (some bl)) ∨ (i = mem.length ∧ bl = .box ep cs) ∨ (mem.length + 1 ≤ i ∧ bs[i - mem.length - 1]? = some bl) := by
    intro i bl h
    rcases Nat.lt_or_ge i mem.length with hi | hi
    · rw [List.getElem?_append_left hi] at h
      exact .inl ⟨hi, h⟩
    · rw [List.getElem?_append_right hi] at h
      cases hq : i - mem.length with
      | zero =>
        rw [hq] at h
        simp only [List.getElem?_cons_zero, Option.some.injEq] at h
        exact .inr (.inl ⟨by omega, h.symm⟩)
      | succ q =>
        rw [hq, List.getElem?_cons_succ, List.getElem?_map] at h
        obtain ⟨b', h4, h5⟩ := Option.map_eq_some_iff.1 h
        simp only [Option.some.injEq] at h5
        exact .inr (.inr ⟨by omega, by rw [show q + 1 - 1 = q by omega, h4, h5]⟩)
  have stamp : ∀ (i : Nat) (bl : Blk), bs[i]? = some bl → ∃ e rows, bl = .rows ep ep e rows := by
    intro i bl h
    obtain ⟨j, e, rows, _, _, e3⟩ := h3 _ _ h
    exact ⟨e, rows, e3⟩
  have hE : Evo ep (ep + 1) mem (mem ++ some (.box ep cs) :: bs.map some) m m' w w' := by
    refine ⟨by omega, hbel.size, fun k hk => ⟨(hG1 k hk.2).trans hk.1, hbel.block k hk.2⟩, fun k hk hlt => ⟨(hG1 k hlt).trans hk, hbel.block k hlt⟩, fun id bv cc hc => ?_, fun id hv cv e rs hc => ?_, fun id hv cv e rs hc => ?_, fun id hv cv e rs rs' h7 hc l1 _ => ?_⟩
    · rcases hcase id _ hc with ⟨hi, h⟩ | ⟨hi, h⟩ | ⟨hi, h⟩
      · exact .inr ⟨cc, h, hhd id hi⟩
      · cases h; exact .inl (Nat.le_refl _)
      · obtain ⟨e, rows, h⟩ := stamp _ _ h
        cases h
    · rcases hcase id _ hc with ⟨hi, h⟩ | ⟨hi, h⟩ | ⟨hi, h⟩
      · exact .inr ⟨cv, rs, h, hhd id hi⟩
      · cases h
      · obtain ⟨e, rows, h⟩ := stamp _ _ h
        cases h
        exact .inl (Nat.le_refl _)
    · rcases hcase id _ hc with ⟨hi, h⟩ | ⟨hi, h⟩ | ⟨hi, h⟩
      · exact .inr ⟨hv, e, rs, h, fun k hk => ⟨⟨(hG1 k hk.2.2).trans hk.1, by rw [hhd id hi]; exact hk.2.1, Nat.lt_of_lt_of_le hk.2.2 hbel.size⟩, hbel.block k hk.2.2⟩⟩
      · cases h
      · obtain ⟨e, rows, h⟩ := stamp _ _ h
        cases h
        exact .inl (Nat.le_refl _)
    · rcases hcase id _ hc with ⟨hi, h⟩ | ⟨hi, h⟩ | ⟨hi, h⟩
      · obtain ⟨_, _, _, rfl⟩ := rows_inj4 h7 h
        exact NestEq.same (fun g _ hlt => hbel.block g hlt)
      · cases h
      · obtain ⟨e, rows, h⟩ := stamp _ _ h
        cases h
        omega
  have hro : ok = true → ∀ k, ((R k ∧ k < w.heap.size) ∨ (w.heap.size ≤ k ∧ k < w'.heap.size ∧ c k = 0)) → roG m' w' k := by
    intro hok k hk
    rcases hk with ⟨h4, h5⟩ | ⟨h4, h5, h6⟩
    · exact ⟨(hG1 k h5).trans (hR hok k h4 h5), Nat.lt_of_lt_of_le h5 hbel.size⟩
    · exact ⟨hG3 k h4 h6, h5⟩
  have toRo : ∀ {u : V} {y : Value} {okk : Nat → Prop}, (ok = true ∨ pure0 u = true) → Rep z w' (fun k => (R k ∧ k < w.heap.size) ∨ (w.heap.size ≤ k ∧ k < w'.heap.size ∧ c k = 0)) okk u y → Rep z w' (roG m' w') okk u y := by
    intro u y okk hk h
    rcases hk with hk | hk
    · exact h.mono (hro hk) (fun _ h => h)
    · exact pure_rep h hk
  have hval : ∀ (j : Nat) (u : V) (y : Value), cs[j]? = some u → ys[j]? = some y → RV z (mem ++ some (.box ep cs) :: bs.map some) (ep + 1) m' w' u y := by
    intro j u y a e
    have hlt : j < r.length := by rw [← h1]; exact (List.getElem?_eq_some_iff.1 a).1
    have e0 : r[j]? = some r[j] := List.getElem?_eq_getElem hlt
    generalize r[j] = u0 at e0
    have hr := hrep j u0 y e0 e
    rcases h2 j u0 e0 with ⟨v', h4, h5⟩ | ⟨e', rows, h4, h5, h6⟩ | ⟨e', rows, h4, h5, h6, h7⟩
    · rw [h5] at a
      simp only [Option.some.injEq] at a
      subst a
      subst h4
      cases hr with
      | lit h => exact .lit h
    · rw [h6] at a
      simp only [Option.some.injEq] at a
      subst a
      subst h4
      exact .ro (rep_ro (toRo (.inl h5) hr))
    · rw [h6] at a
      simp only [Option.some.injEq] at a
      subst a
      subst h4
      exact .ow (Nat.lt_succ_self _) (rep_one hr) (fun cv e' rs hm => (hhd2 j _ y e0 e rfl).symm)
  have hgood : Good z B w0 (mem ++ some (.box ep cs) :: bs.map some) (ep + 1) m' w' := by
    refine ⟨fun id bl hb => ?_, fun k hk => ?_, hg.below.trans (hbel.mono hg.hB), Nat.le_trans hg.hB hbel.size, ?_⟩
    · rcases hcase id _ hb with ⟨hi, h⟩ | ⟨hi, h⟩ | ⟨hi, h⟩
      · exact (hg.blk id bl h).keep hE (hhd id hi) (fun k hk hlt => ⟨(hG1 k hlt).trans hk, hbel.block k hlt⟩)
      · subst hi
        subst h
        exact ⟨Nat.lt_succ_self _, b, T, ys, hhdb, hbh, hG2 b 0 hbge hblt hcb, by rw [h1]; exact hyl, fun j u y a e => hval j u y a e⟩
      · obtain ⟨j, e, rows, e1, e2, rfl⟩ := h3 _ _ h
        obtain ⟨y, hy⟩ : ∃ y, ys[j]? = some y := by
          have hlt := (List.getElem?_eq_some_iff.1 e1).1
          exact ⟨_, Array.getElem?_eq_getElem (by omega)⟩
        have hid : id = mem.length + 1 + ownNo r j := by omega
        have hpure : ok = true ∨ pure0 (.sl true e rows) = true := by
          rcases h2 j _ e1 with ⟨v, h4, _⟩ | ⟨e', rows', h4, _⟩ | ⟨e', rows', h4, h5, _⟩
          · cases h4
          · cases h4
          · exact h5
        have hr := toRo hpure (hrep j _ y e1 hy)
        have hdy : m'.hd id = y := by rw [hid]; exact hhd2 j _ y e1 hy rfl
        cases hr with
        | own cells f ho hok hrow hr =>
          refine ⟨Nat.lt_succ_self _, Nat.lt_succ_self _, cells, f, by rw [hdy]; exact ho, fun k hk => ?_, hrow, fun i j' row u y' a b' c' => ?_⟩
          · rw [hdy] at hk
            obtain ⟨q1, q2, q3⟩ := hok k hk
            rw [hG2 k (ownNo r j + 1) q1 q2 q3, hid]; omega
          · refine (hr i j' row u y' a b' c').mono (fun _ h => h) (fun k hk => ?_)
            obtain ⟨⟨q1, q2, q3⟩, q4, q5⟩ := hk
            exact ⟨⟨by rw [hG2 k (ownNo r j + 1) q1 q2 q3, hid]; omega, by rw [hdy]; exact q4, q2⟩, q5⟩
    · rcases Nat.lt_or_ge k w.heap.size with hlt | hge
      · have h4 := hG1 k hlt
        obtain ⟨h5, h6⟩ := hg.lab k (by rw [← h4]; exact hk)
        exact ⟨Nat.lt_of_lt_of_le h5 hbel.size, h6.imp (fun e => e) (fun e => h4.trans e)⟩
      · refine ⟨?_, .inl (Nat.le_trans hg.hB hge)⟩
        rcases Nat.lt_or_ge k w'.heap.size with hlt' | hge'
        · exact hlt'
        · exfalso
          apply hk
          show (if k < w.heap.size then m.G k else if k < w'.heap.size ∧ c k ≠ 0 then mem.length + c k else 0) = 0
          rw [if_neg (by omega), if_neg (by omega)]
    · have := hg.fst
      rw [List.getElem?_append_left (List.getElem?_eq_some_iff.1 this).1]
      exact this
  exact ⟨m', .one (.bp (Nat.lt_succ_self _) rfl (fun cells hm => ⟨b, hhdb, rfl⟩)), hgood, hE⟩

theorem PFn.inst {g : Nat} {es : List (List (Option Nat))} {F : PCon} {J : World → Prop} (hst : Stab J) (hF : PFn P g F J) : IFn P g (pI es F) J := by
  refine ⟨hF.1, fun w0 hJ0 vs mem ep r h m w ys hg hl hr => ?_⟩
  have hJ : J w := hst w0 w hJ0 hg.below
  unfold pI at h
  simp only [Option.bind_eq_some_iff, Option.some.injEq] at h
  obtain ⟨us, hus, q, hq, ⟨cs, bs⟩, hp, rfl⟩ := h
  obtain ⟨g1, g2⟩ := seenTs_len _ _ hus
  have fix : ∀ {R : Nat → Prop}, (∀ (j : Nat) (v : TV) (y : Value), us[j]? = some v → ys[j]? = some y → ArgT P.cellsOf w R v y) → ∀ (j : Nat) (v : TV) (y : Value), (fixTs es us)[j]? = some v → ys[j]? = some y → ArgT P.cellsOf w R v y := by
    intro R ha j v y a b
    obtain ⟨ms, v0, h1, h2⟩ := (fixTs_get es us).2 j v a
    have h3 := ha j v0 y h1 b
    rcases h2 with rfl | rfl
    · exact fixT_ok h3
    · exact h3
  cases hok : vs.all bareT with
  | true =>
    rw [hok] at hp
    refine (hF.2 _ q hq (roG m w) w ys hJ (by rw [(fixTs_get es us).1, hl, g1]) (fix fun j u y a b => ?_)).mono fun e w' he => ?_
    · obtain ⟨v, hv, hs⟩ := g2 j u a
      exact (seenT_arg hg (hr j v y hv b) hs).2 (List.all_eq_true.1 hok v (List.mem_of_getElem? hv))
    · obtain ⟨v, rfl, hbel, ho⟩ := he
      obtain ⟨m', r1, r2, r3⟩ := land_box hg hbel ho (fun _ k hk _ => hk.1) hp
      exact ⟨v, rfl, m', r1, r2, r3⟩
  | false =>
    rw [hok] at hp
    refine (hF.2 _ q hq (fun _ => True) w ys hJ (by rw [(fixTs_get es us).1, hl, g1]) (fix fun j u y a b => ?_)).mono fun e w' he => ?_
    · obtain ⟨v, hv, hs⟩ := g2 j u a
      exact (seenT_arg hg (hr j v y hv b) hs).1
    · obtain ⟨v, rfl, hbel, ho⟩ := he
      obtain ⟨m', r1, r2, r3⟩ := land_box hg hbel ho (fun h => by cases h) hp
      exact ⟨v, rfl, m', r1, r2, r3⟩
end
/-- The end of a run that yields a pointer to a box. -/
def tellP (P : Program) (lm : Nat → List Nat × Nat) (rs : List ResultVar) (S : St) : Option (List V) := (resR P (finH (lm 5000000) S) rs).bind fun v => match v with
  | .one (.bp id bv 0) => (boxOf (finH (lm 5000000) S).mem id bv).bind fun cells => (foldL (finH (lm 5000000) S).mem cells).bind fun p => (boxOf p.2 id bv).bind fun _ => some p.1
  | _ => none
theorem tellP_mk (P : Program) (lm : Nat → List Nat × Nat) (rs : List ResultVar) (tm : List (Nat × TV)) (mem : Mem) (ep : Nat) : tellP P lm rs ⟨tm, mem, ep⟩ = (resR P (finH (lm 5000000) ⟨tm, mem, ep⟩) rs).bind fun v => match v with
  | .one (.bp id bv 0) => (boxOf (finH (lm 5000000) ⟨tm, mem, ep⟩).mem id bv).bind fun cells => (foldL (finH (lm 5000000) ⟨tm, mem, ep⟩).mem cells).bind fun p => (boxOf p.2 id bv).bind fun _ => some p.1
  | _ => none := rfl
noncomputable def toldP (P : Program) (cal : Cal) (k : Nat) (lm : Nat → List Nat × Nat) (fn : Func) (vs : List TV) : Option (List V) := fn.body.bind fun c => (exec P cal k 1 lm 0 c ⟨slots 0 vs, [none], 1⟩).bind (tellX (tellP P lm fn.results.toList))
theorem PAt.of_told {P : Program} {J : World → Prop} {cal : Cal} (hcal : ∀ w0, J w0 → CalOk P w0.heap.size w0 cal) (hm : P.follows .mixedOrders = true) {g : Nat} {fn : Func} {c : Code} (hf : P.funcs[g]? = some fn) (hn : (fn.name == "runtime.NumGoroutine") = false) (hb : fn.body = some c) (hd : dsts fn.ntmps c = true) {np : Nat} (hnp : np ≤ fn.ntmps) {lm : Nat → List Nat × Nat} {k : Nat} {vs : List TV} {r : List V} (hvl : vs.length = np) (h : toldP P cal k lm fn vs = some r) : PAt P g J vs r := by
  intro R w ys hJ hl ha
  unfold toldP at h
  simp only [Option.bind_eq_some_iff] at h
  obtain ⟨c', hc', ⟨x, S⟩, hx, h⟩ := h
  have h1 : tellP P lm fn.results.toList S = some r ∧ (x = .norm ∨ x = .ret) := by
    cases x with
    | exit id => cases h
    | norm => exact ⟨h, .inl rfl⟩
    | ret => exact ⟨h, .inr rfl⟩
  obtain ⟨h1, h2⟩ := h1
  unfold tellP at h1
  simp only [Option.bind_eq_some_iff] at h1
  obtain ⟨tv, h3, h1⟩ := h1
  split at h1
  · rename_i id bv
    simp only [Option.bind_eq_some_iff, Option.some.injEq] at h1
    obtain ⟨cells, hcells, p, hp, cells2, hcells2, rfl⟩ := h1
    have hbody : body P cal k lm fn vs [none] 1 = some (.one (.bp id bv 0), (finH (lm 5000000) S).mem, (finH (lm 5000000) S).ep) := by
      unfold body
      have h7 : resT P (finH (lm 5000000) S) fn = some (.one (.bp id bv 0)) := h3
      have hx' : exec P cal k ([none] : Mem).length lm 0 c' ⟨slots 0 vs, [none], 1⟩ = some (x, S) := hx
      simp only [hc', Option.bind_some, hx']
      rcases h2 with rfl | rfl
      · simp only [h7, Option.bind_some]
      · simp only [h7, Option.bind_some]
    classical
    let m0 : Mp := ⟨fun k => if k < w.heap.size ∧ ¬ R k then 1 else 0, fun _ => default⟩
    have hg : Good P.cellsOf w.heap.size w [none] 1 m0 w := by
      refine ⟨fun id b hb' => ?_, fun k hk => ?_, Below.refl _ _, Nat.le_refl _, rfl⟩
      · cases id with
        | zero => simp at hb'
        | succ id => simp at hb'
      · have hk' : (if k < w.heap.size ∧ ¬ R k then 1 else 0) ≠ 0 := hk
        split at hk'
        · rename_i h1
          refine ⟨h1.1, .inr ?_⟩
          show (if k < w.heap.size ∧ ¬ R k then 1 else 0) = 1
          rw [if_pos h1]
        · exact absurd rfl hk'
    have hR : ∀ k, R k → k < w.heap.size → m0.G k = 0 := by
      intro k hk hlt
      show (if k < w.heap.size ∧ ¬ R k then 1 else 0) = 0
      rw [if_neg (fun h => h.2 hk)]
    have hargs : ∀ (j : Nat) (v : TV) (y : Value), vs[j]? = some v → ys[j]? = some y → RTV P.cellsOf [none] 1 m0 w v y := by
      intro j v y a b
      have := ha j v y a b
      cases this with
      | one hb h => exact .one (bare_rv hb h hR)
      | agg hb hz h => exact .agg hz (fun i u x c d => bare_rv (List.all_eq_true.1 hb u (List.mem_of_getElem? c)) (h i u x c d) hR)
    refine (body_sound (hcal w hJ) hm hf hb hd (by omega) hl hbody hg hargs).mono fun e w' he => ?_
    obtain ⟨v, rfl, m', q1, q2, q3⟩ := he
    refine ⟨v, rfl, q2.below, ?_⟩
    have hbk := boxOf_some hcells
    have hbk2 := boxOf_some hcells2
    obtain ⟨_, gg, T, ca, d1, d2, d3, d4, d5⟩ := q2.blk id _ hbk
    have hv : v = .pointer (some ⟨gg, 0, none⟩) := by
      cases q1 with
      | one q =>
        cases q with
        | bp hid h1 hh =>
          obtain ⟨g', e1, e2⟩ := hh _ hbk
          rw [d1] at e1
          rw [e2, ← e1]
    have hid0 : id ≠ 0 := by
      rintro rfl
      have := q2.fst
      rw [hbk] at this
      cases this
    obtain ⟨hl', hG, L, hF, hinj, hdead⟩ := foldL_rep cells (finH (lm 5000000) S).mem p.2 p.1 ca.toList q2 (by simpa using d4) (fun j u y a c => d5 j u y a (by simpa using c)) hp
    have hLid : ∀ j, L j ≠ 0 → L j ≠ id + 1 := by
      intro j hj he
      have h4 := (hdead j hj).2
      rw [he, Nat.add_sub_cancel, hbk2] at h4
      cases h4
    have hlab : ∀ k, m'.G k = 0 → k < w.heap.size → R k := by
      intro k hk hlt
      by_cases h : R k
      · exact h
      · have : m0.G k = 1 := by
          show (if k < w.heap.size ∧ ¬ R k then 1 else 0) = 1
          rw [if_pos ⟨hlt, h⟩]
        have := (q3.fgn k this hlt).1
        omega
    let cc : Nat → Nat := fun k => if m'.G k = 0 then 0 else if h : ∃ j, L j ≠ 0 ∧ L j = m'.G k then ownNo p.1 h.choose + 2 else 1
    have hc : ∀ k j, L j ≠ 0 → m'.G k = L j → cc k = ownNo p.1 j + 2 := by
      intro k j h0 hk
      have hex : ∃ j, L j ≠ 0 ∧ L j = m'.G k := ⟨j, h0, hk.symm⟩
      show (if m'.G k = 0 then 0 else if h : ∃ j, L j ≠ 0 ∧ L j = m'.G k then ownNo p.1 h.choose + 2 else 1) = _
      rw [if_neg (by rw [hk]; exact h0), dif_pos hex]
      have h5 := hex.choose_spec
      rw [hinj _ _ h5.1 (h5.2.trans hk)]
    have hcg : cc gg = 1 := by
      show (if m'.G gg = 0 then 0 else if h : ∃ j, L j ≠ 0 ∧ L j = m'.G gg then ownNo p.1 h.choose + 2 else 1) = 1
      rw [if_neg (by omega), dif_neg (fun ⟨j, h4, h5⟩ => hLid j h4 (h5.trans d3))]
    refine ⟨gg, T, ca, hv, q2.ge hbk d3, d2, by rw [hl']; exact d4, cc, hcg, fun j u y a b => ?_⟩
    refine (hF j u y a (by simpa using b)).mono (fun k hk => ?_) (fun k hk => ?_)
    · rcases Nat.lt_or_ge k w.heap.size with hlt | hge
      · exact .inl ⟨hlab k hk.1 hlt, hlt⟩
      · refine .inr ⟨hge, hk.2, ?_⟩
        show (if m'.G k = 0 then 0 else _) = 0
        rw [if_pos hk.1]
    · obtain ⟨h5, h6, h7⟩ := hk
      have hge : w.heap.size ≤ k := by
        have h8 := (q2.lab k (by rw [h6]; exact h5)).2
        exact h8.resolve_right (by rw [h6]; exact q2.ne1 (hdead j h5).1)
      exact ⟨hge, h7, hc k j h5 h6⟩
  · cases h1
open Classical in
noncomputable def ppcon {α β : Type} (arg : α → List TV) (p : α → Option β) (res : β → List V) : PCon := fun vs => if h : ∃ a, arg a = vs ∧ (p a).isSome then (p h.choose).map res else none
theorem ppcon_at {α β : Type} {arg : α → List TV} {p : α → Option β} {res : β → List V} (inj : ∀ a b, arg a = arg b → a = b) {a : α} {b : β} (h : p a = some b) : ppcon arg p res (arg a) = some (res b) := by
  have hex : ∃ b, arg b = arg a ∧ (p b).isSome := ⟨a, rfl, by rw [h]; rfl⟩
  unfold ppcon
  rw [dif_pos hex, inj _ _ hex.choose_spec.1, h]
  rfl
theorem PFn.pure {P : Program} {α β : Type} {arg : α → List TV} {p : α → Option β} {res : β → List V} (cal : Nat → Cal) {J : World → Prop} (hcal : ∀ k w0, J w0 → CalOk P w0.heap.size w0 (cal k)) (hm : P.follows .mixedOrders = true) {g : Nat} {fn : Func} {c : Code} (hf : P.funcs[g]? = some fn) (hn : (fn.name == "runtime.NumGoroutine") = false) (hb : fn.body = some c) (hd : dsts fn.ntmps c = true) (np : Nat) (hnp : np ≤ fn.ntmps) (harg : ∀ a, (arg a).length = np) (lm : Nat → List Nat × Nat)
    (h : ∀ a b, p a = some b → ∃ k, toldP P (cal k) k lm fn (arg a) = some (res b)) : PFn P g (ppcon arg p res) J := by
  refine ⟨⟨fn, hf, hn, by rw [hb]; rfl⟩, fun vs r hr => ?_⟩
  unfold ppcon at hr
  split at hr
  · rename_i hex
    obtain ⟨b, h1, h2⟩ := Option.map_eq_some_iff.1 hr
    subst h2
    obtain ⟨k, hk⟩ := h _ _ h1
    have := PAt.of_told (hcal k) hm hf hn hb hd hnp (harg _) hk (J := J)
    rwa [hex.choose_spec.1] at this
  · cases hr
end Go.Proofs.Ytanglbgincgmaaa.Vm
