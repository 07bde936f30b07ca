/-
  The small machine: what is handed over, a box or a slice, and comes back turned.
-/
import Derived.Test.YtanglbgincgmaaaVmGen
namespace Go.Proofs.Ytanglbgincgmaaa.Vm
open Go Go.RowKit
set_option linter.unusedVariables false

/-- What is handed over first: a box with these cells, or the one slice itself. -/
def memB (b : Bool) (H : List V) : Option (V × Mem) := (landC true 1 2 H).bind fun p => if b then some (.bp 1 1 0, none :: some (.box 1 p.1) :: p.2.map some) else match p.1 with
  | [c] => some (c, none :: none :: p.2.map some)
  | _ => none
/-- What is handed over, the other arguments; results, and the box's cells then. -/
abbrev BCon := List V → List TV → Option (Sh × List V × List V)
def BAt (P : Program) (g : Nat) (b : Bool) (J : World → Prop) (H : List V) (rest : List TV) (r : Sh × List V × List V) : Prop := ∀ w0, J w0 → ∀ a0 mem0, memB b H = some (a0, mem0) → ∀ (m : Mp) (w : World) (ys : Array Value), Good P.cellsOf w0.heap.size w0 mem0 2 m w → ys.size = rest.length + 1 →
  (∀ (j : Nat) (v : TV) (y : Value), (TV.one a0 :: rest)[j]? = some v → ys[j]? = some y → RTV P.cellsOf mem0 2 m w v y) →
  Calls P g ys w fun ex w' => ∃ v, ex = .returned v ∧ ∃ mem' ep' m' tv cs fs p, RTV P.cellsOf mem' ep' m' w' tv v ∧ Good P.cellsOf w0.heap.size w0 mem' ep' m' w' ∧ Evo 2 ep' mem0 mem' m m' w w' ∧ flatT tv = some cs ∧ shT tv = some r.1 ∧ foldL mem' (cs ++ fs) = some p ∧ p.1 = r.2.1 ++ r.2.2 ∧ cs.length = r.2.1.length ∧
    (b = true → mem'[1]? = some (some (.box 1 fs)) ∧ p.2[1]? = some (some (.box 1 fs))) ∧ (b = false → fs = [])
def BFn (P : Program) (g : Nat) (b : Bool) (F : BCon) (J : World → Prop := fun _ => True) : Prop := Has P g ∧ ∀ H rest r, F H rest = some r → BAt P g b J H rest r

def isLS : V → Bool
  | .lit _ | .sl _ _ _ => true
  | _ => false
theorem landC_total : ∀ (H : List V) (ep n : Nat), H.all isLS = true → ∃ p, landC true ep n H = some p := by
  intro H
  induction H with
  | nil => intro ep n _; exact ⟨_, rfl⟩
  | cons x H ih =>
    intro ep n h
    simp only [List.all_cons, Bool.and_eq_true] at h
    cases x with
    | lit v =>
      obtain ⟨p, hp⟩ := ih ep n h.2
      exact ⟨(.lit v :: p.1, p.2), by simp [landC, hp]⟩
    | sl own e rows =>
      cases own with
      | true =>
        obtain ⟨p, hp⟩ := ih ep (n + 1) h.2
        exact ⟨(.ow n ep :: p.1, .rows ep ep e rows :: p.2), by simp [landC, hp]⟩
      | false =>
        obtain ⟨p, hp⟩ := ih ep n h.2
        exact ⟨(.sl false e rows :: p.1, p.2), by simp [landC, hp]⟩
    | _ => simp [isLS] at h
theorem foldL_ls : ∀ (cs : List V) (mem mem' : Mem) (H : List V), foldL mem cs = some (H, mem') → H.all isLS = true := by
  intro cs
  induction cs with
  | nil =>
    intro mem mem' H h
    simp only [foldL, Option.some.injEq, Prod.mk.injEq] at h
    rw [← h.1]; rfl
  | cons v cs ih =>
    intro mem mem' H h
    simp only [foldL, Option.bind_eq_some_iff, Option.some.injEq, Prod.mk.injEq] at h
    obtain ⟨⟨v', m1⟩, hf, ⟨vs', m2⟩, hfl, rfl, rfl⟩ := h
    simp only [List.all_cons, Bool.and_eq_true]
    refine ⟨?_, ih _ _ _ hfl⟩
    cases v with
    | lit x => simp only [fold, Option.some.injEq, Prod.mk.injEq] at hf; rw [← hf.1]; rfl
    | sl own e rows =>
      cases own with
      | false => simp only [fold, Option.some.injEq, Prod.mk.injEq] at hf; rw [← hf.1]; rfl
      | true => simp [fold] at hf
    | ow id hv =>
      simp only [fold, Option.bind_eq_some_iff, Option.some.injEq, Prod.mk.injEq] at hf
      obtain ⟨_, _, h1, _⟩ := hf
      rw [← h1]; rfl
    | _ => simp [fold] at hf

section
variable {P : Program} {z : Nat → Nat} {B : Nat} {w0 w w' : World} {mem mem' : Mem} {ep ep' : Nat} {m m' : Mp}

/-- What is handed over and comes back: the callee's small world. -/
theorem hand {g : Nat} {b : Bool} {J : World → Prop} {H : List V} {rest : List TV} {r : Sh × List V × List V} (hB : BAt P g b J H rest r) (hJ : J w0) (hg : Good P.cellsOf w0.heap.size w0 mem ep m w)
    {zs : List Value} (hzl : zs.length = H.length) {L : Nat → Nat} (hF : ∀ (j : Nat) (u : V) (y : Value), H[j]? = some u → zs[j]? = some y → Folded P.cellsOf m w (L j) u y) (hinj : ∀ i j, L i ≠ 0 → L i = L j → i = j)
    (hdead : ∀ j, L j ≠ 0 → L j ≠ 1 ∧ mem[L j - 1]? = some none ∧ ∀ k, m.G k = L j → w0.heap.size ≤ k) {id bv : Nat} {cells : List V} (hbox : b = true → mem[id]? = some (some (.box bv cells)) ∧ ∃ (g T : Nat) (cs : Array Value), m.hd id = .pointer (some ⟨g, 0, none⟩) ∧ w.heap[g]? = some (.cells cs T (0, 0)) ∧ m.G g = id + 1 ∧ zs = cs.toList)
    (hbare : rest.all bareT = true) {ys : Array Value} (hl : ys.size = rest.length + 1) {y0 : Value} (h0 : ys[0]? = some y0) (hy1 : b = true → y0 = m.hd id) (hy2 : b = false → zs = [y0])
    (ha : ∀ (j : Nat) (v : TV) (y : Value), rest[j]? = some v → ys[j + 1]? = some y → RTV P.cellsOf mem ep m w v y) (hls : H.all isLS = true)
    {cs' : List V} {bs : List Blk} (hland : landC true ep mem.length (r.2.1 ++ r.2.2) = some (cs', bs)) :
    Calls P g ys w fun ex w' => ∃ v, ex = .returned v ∧ ∃ m', RTV P.cellsOf ((if b then mem.set id (some (.box bv (cs'.drop r.2.1.length))) else mem) ++ bs.map some) (ep + 1) m' w' (unflat r.1 (cs'.take r.2.1.length)) v ∧
      Good P.cellsOf w0.heap.size w0 ((if b then mem.set id (some (.box bv (cs'.drop r.2.1.length))) else mem) ++ bs.map some) (ep + 1) m' w' ∧ Evo ep (ep + 1) mem ((if b then mem.set id (some (.box bv (cs'.drop r.2.1.length))) else mem) ++ bs.map some) m m' w w' := by
  classical
  obtain ⟨⟨cells0, blks⟩, hp0⟩ := landC_total H 1 2 hls
  obtain ⟨e1, e2, e3⟩ := landC_spec _ _ _ _ hp0
  have hid0 : b = true → id ≠ 0 := by
    intro hb hi
    have h1 := (hbox hb).1
    rw [hi, hg.fst] at h1
    cases h1
  have hLid : b = true → ∀ j, L j ≠ 0 → L j ≠ id + 1 := by
    intro hb j hj he
    have h1 := (hdead j hj).2.1
    rw [he, Nat.add_sub_cancel, (hbox hb).1] at h1
    cases h1
  -- the callee's labels
  let m1 : Mp := ⟨fun k => if k < w.heap.size then (if m.G k = 0 then 0 else if b = true ∧ m.G k = id + 1 then 2 else if h : ∃ j, L j ≠ 0 ∧ L j = m.G k then 3 + ownNo H h.choose else 1) else 0,
    fun i => if i = 1 then m.hd id else if h : ∃ j u, H[j]? = some u ∧ ownC u = true ∧ ownNo H j + 2 = i then zs.getD h.choose default else default⟩
  have hG0 : ∀ k, m.G k = 0 → m1.G k = 0 := by
    intro k hk
    show (if k < w.heap.size then (if m.G k = 0 then 0 else _) else 0) = 0
    rw [if_pos hk]; simp
  have hGb : ∀ k, b = true → k < w.heap.size → m.G k = id + 1 → m1.G k = 2 := by
    intro k hb hlt hk
    show (if k < w.heap.size then (if m.G k = 0 then 0 else if b = true ∧ m.G k = id + 1 then 2 else _) else 0) = 2
    rw [if_pos hlt, if_neg (by omega), if_pos ⟨hb, hk⟩]
  have hGL : ∀ k j, k < w.heap.size → L j ≠ 0 → m.G k = L j → m1.G k = 3 + ownNo H j := by
    intro k j hlt hj hk
    have hex : ∃ j, L j ≠ 0 ∧ L j = m.G k := ⟨j, hj, hk.symm⟩
    show (if k < w.heap.size then (if m.G k = 0 then 0 else if b = true ∧ m.G k = id + 1 then 2 else if h : ∃ j, L j ≠ 0 ∧ L j = m.G k then 3 + ownNo H h.choose else 1) else 0) = _
    rw [if_pos hlt, if_neg (by rw [hk]; exact hj), if_neg (fun h => hLid h.1 j hj (hk.symm.trans h.2)), dif_pos hex]
    have h5 := hex.choose_spec
    rw [hinj _ _ h5.1 (h5.2.trans hk)]
  have hG1 : ∀ k, k < w.heap.size → m.G k ≠ 0 → ¬ (b = true ∧ m.G k = id + 1) → (¬ ∃ j, L j ≠ 0 ∧ L j = m.G k) → m1.G k = 1 := by
    intro k hlt h1 h2 h3
    show (if k < w.heap.size then (if m.G k = 0 then 0 else if b = true ∧ m.G k = id + 1 then 2 else if h : ∃ j, L j ≠ 0 ∧ L j = m.G k then 3 + ownNo H h.choose else 1) else 0) = 1
    rw [if_pos hlt, if_neg h1, if_neg h2, dif_neg h3]
  have hGz : ∀ k, ¬ k < w.heap.size → m1.G k = 0 := fun k h => if_neg h
  have hhd1 : m1.hd 1 = m.hd id := rfl
  have hhd2 : ∀ (j : Nat) (u : V) (y : Value), H[j]? = some u → zs[j]? = some y → ownC u = true → m1.hd (2 + ownNo H j) = y := by
    intro j u y a c hu
    have hex : ∃ j' u', H[j']? = some u' ∧ ownC u' = true ∧ ownNo H j' + 2 = 2 + ownNo H j := ⟨j, u, a, hu, by omega⟩
    show (if 2 + ownNo H j = 1 then m.hd id else if h : ∃ j' u', H[j']? = some u' ∧ ownC u' = true ∧ ownNo H j' + 2 = 2 + ownNo H j then zs.getD h.choose default else default) = y
    rw [if_neg (by omega), dif_pos hex]
    obtain ⟨u', h4, h5, h6⟩ := hex.choose_spec
    have : hex.choose = j := ownNo_inj H _ _ u' u h4 a h5 hu (by omega)
    rw [this]
    simp [c]
  have hro1 : ∀ k, roG m w k → roG m1 w k := fun k hk => ⟨hG0 k hk.1, hk.2⟩
  have hzs : ∀ (j : Nat) (u : V), H[j]? = some u → ∃ y, zs[j]? = some y := fun j u a => ⟨_, List.getElem?_eq_getElem (by rw [hzl]; exact (List.getElem?_eq_some_iff.1 a).1)⟩
  have hblk1 : ∀ (mm : Mem) (q : Nat) (bl : Blk), blks[q]? = some bl → RBlk P.cellsOf mm 2 m1 w (2 + q) bl := by
    intro mm q bl hq
    obtain ⟨j, e, rows, a1, a2, rfl⟩ := e3 q bl hq
    obtain ⟨y, hy⟩ := hzs j _ a1
    have hd : m1.hd (2 + q) = y := by rw [← a2]; exact hhd2 j _ y a1 hy rfl
    have hr := hF j _ y a1 hy
    cases hr with
    | own cells f ho hok hrow hr =>
      refine ⟨by omega, by omega, cells, f, by rw [hd]; exact ho, fun k hk => ?_, hrow, fun i j' row u y' a c d => ?_⟩
      · rw [hd] at hk
        obtain ⟨q1, q2, q3⟩ := hok k hk
        rw [hGL k j q3 q1 q2, a2]; omega
      · refine (hr i j' row u y' a c d).mono hro1 (fun k hk => ?_)
        obtain ⟨⟨q1, q2, q3⟩, q4, q5⟩ := hk
        exact ⟨⟨by rw [hGL k j q3 q1 q2, a2]; omega, by rw [hd]; exact q4, q3⟩, q5⟩
  have hcell1 : ∀ (mm : Mem) (j : Nat) (c : V) (y : Value), cells0[j]? = some c → zs[j]? = some y → RV P.cellsOf mm 2 m1 w c y := by
    intro mm j c y a hy
    obtain ⟨u, hu⟩ : ∃ u, H[j]? = some u := ⟨_, List.getElem?_eq_getElem (by rw [← e1]; exact (List.getElem?_eq_some_iff.1 a).1)⟩
    have hr := hF j u y hu hy
    rcases e2 j u hu with ⟨v, h4, h5⟩ | ⟨e, rows, h4, _, h6⟩ | ⟨e, rows, h4, _, h6, _⟩
    · rw [h5] at a
      simp only [Option.some.injEq] at a
      subst a
      subst h4
      cases hr with
      | lit h => exact .lit h
    · rw [h6] at a
      simp only [Option.some.injEq] at a
      subst a
      subst h4
      exact .ro (rep_ro (hr.mono hro1 (fun _ h => h)))
    · rw [h6] at a
      simp only [Option.some.injEq] at a
      subst a
      subst h4
      exact .ow (by omega) (rep_one hr) (fun cv e' rs _ => (hhd2 j _ y hu hy rfl).symm)
  have hlab1 : ∀ k, m1.G k ≠ 0 → k < w.heap.size ∧ (w0.heap.size ≤ k ∨ m1.G k = 1) := by
    intro k hk
    have hlt : k < w.heap.size := by
      rcases Nat.lt_or_ge k w.heap.size with h | h
      · exact h
      · exact absurd (hGz k (by omega)) hk
    refine ⟨hlt, ?_⟩
    have hn : m.G k ≠ 0 := fun h => hk (hG0 k h)
    by_cases h1 : b = true ∧ m.G k = id + 1
    · exact .inl (hg.ge (hbox h1.1).1 h1.2)
    · by_cases h2 : ∃ j, L j ≠ 0 ∧ L j = m.G k
      · obtain ⟨j, h3, h4⟩ := h2
        exact .inl ((hdead j h3).2.2 k h4.symm)
      · exact .inr (hG1 k hlt hn h1 h2)
  have bare_up : ∀ (mm : Mem) (v : V) (y : Value), bare1 v = true → RV P.cellsOf mem ep m w v y → RV P.cellsOf mm 2 m1 w v y := by
    intro mm v y hb h
    cases h with
    | lit h => exact .lit h
    | ro h => exact .ro (h.mono hro1 (fun _ h => h))
    | rp ad f h1 hcell hr => exact .rp ad f (fun j u a => hro1 _ (h1 j u a)) hcell (fun j u a => (hr j u a).mono hro1 (fun _ h => h))
    | cl hn hh =>
      refine .cl hn (fun j u y a b => ?_)
      have h1 := List.all_eq_true.1 (show _ = true from hb) u (List.mem_of_getElem? a)
      have h2 := hh j u y a b
      cases h2 with
      | rp ad f h7 hcell hr => exact .rp ad f (fun j u a => hro1 _ (h7 j u a)) hcell (fun j u a => (hr j u a).mono hro1 (fun _ h => h))
      | _ => simp [isRp] at h1
    | _ => simp [bare1] at hb
  obtain ⟨a0, mem0, hm0, hgood1, harg0⟩ : ∃ a0 mem0, memB b H = some (a0, mem0) ∧ Good P.cellsOf w0.heap.size w0 mem0 2 m1 w ∧ RV P.cellsOf mem0 2 m1 w a0 y0 ∧ (b = true → ∃ c, mem0[1]? = some (some (.box 1 c))) := by
    cases hb : b with
    | true =>
      obtain ⟨h1, gg, T, cs, h2, h3, h4, h5⟩ := hbox hb
      refine ⟨.bp 1 1 0, none :: some (.box 1 cells0) :: blks.map some, by simp [memB, hp0], ⟨fun i bl hbl => ?_, hlab1, hg.below, hg.hB, rfl⟩, .bp (by omega) (by rw [hy1 hb, h2]; rfl) (fun c _ => ⟨gg, hhd1.trans h2, (hy1 hb).trans h2⟩), fun _ => ⟨_, rfl⟩⟩
      match i with
      | 0 => simp at hbl
      | 1 =>
        simp at hbl
        subst hbl
        have hlt := (Array.getElem?_eq_some_iff.1 h3).1
        refine ⟨by omega, gg, T, cs, hhd1.trans h2, h3, hGb gg hb hlt h4, by rw [e1, ← hzl, h5]; simp, fun j u y a c => hcell1 _ j u y a (by rw [h5]; simpa using c)⟩
      | q + 2 =>
        simp only [List.getElem?_cons_succ, List.getElem?_map] at hbl
        obtain ⟨bl', h6, h7⟩ := Option.map_eq_some_iff.1 hbl
        simp only [Option.some.injEq] at h7
        subst h7
        have := hblk1 (none :: some (.box 1 cells0) :: blks.map some) q bl' h6
        rwa [Nat.add_comm] at this
    | false =>
      have hz := hy2 hb
      have hc1 : cells0.length = 1 := by rw [e1, ← hzl, hz]; rfl
      obtain ⟨c, hc⟩ := List.length_eq_one_iff.1 hc1
      refine ⟨c, none :: none :: blks.map some, by simp [memB, hp0, hc], ⟨fun i bl hbl => ?_, hlab1, hg.below, hg.hB, rfl⟩, hcell1 _ 0 c y0 (by rw [hc]; rfl) (by rw [hz]; rfl), fun h => by cases h⟩
      match i with
      | 0 => simp at hbl
      | 1 => simp at hbl
      | q + 2 =>
        simp only [List.getElem?_cons_succ, List.getElem?_map] at hbl
        obtain ⟨bl', h6, h7⟩ := Option.map_eq_some_iff.1 hbl
        simp only [Option.some.injEq] at h7
        subst h7
        have := hblk1 (none :: none :: blks.map some) q bl' h6
        rwa [Nat.add_comm] at this
  obtain ⟨harg0, hbox0⟩ := harg0
  refine (hB w0 hJ a0 mem0 hm0 m1 w ys hgood1 hl (fun j v y a c => ?_)).mono fun ex w' he => ?_
  · cases j with
    | zero =>
      simp at a
      subst a
      rw [h0] at c
      simp only [Option.some.injEq] at c
      subst c
      exact .one harg0
    | succ j =>
      have a' : rest[j]? = some v := by simpa using a
      have h2 := ha j v y a' c
      have hb := List.all_eq_true.1 hbare v (List.mem_of_getElem? a')
      cases h2 with
      | one h => exact .one (bare_up _ _ _ hb h)
      | agg hs h => exact .agg hs (fun i u x c d => bare_up _ _ _ (List.all_eq_true.1 hb u (List.mem_of_getElem? c)) (h i u x c d))
      | tup => cases hb
  obtain ⟨v, rfl, mem2, ep2, m2, tv, cs, fs, p, q1, q2, q3, hcs, hs, hp, hp1, hcl, hb1, hb2⟩ := he
  refine ⟨v, rfl, ?_⟩
  obtain ⟨xs, g1, g2, g3⟩ := shapeT q1 hs hcs
  -- the box's values
  obtain ⟨fz, hfl, hfz, hfb⟩ : ∃ fz : List Value, fz.length = fs.length ∧ (∀ (j : Nat) (u : V) (y : Value), fs[j]? = some u → fz[j]? = some y → RV P.cellsOf mem2 ep2 m2 w' u y) ∧ (b = true → ∃ (gg T : Nat) (ca : Array Value), m.hd id = .pointer (some ⟨gg, 0, none⟩) ∧ w'.heap[gg]? = some (.cells ca T (0, 0)) ∧ m2.G gg = 2 ∧ fz = ca.toList) := by
    cases hb : b with
    | true =>
      obtain ⟨_, gg, T, ca, h1, h2, h3, h4, h5⟩ := q2.blk 1 _ (hb1 hb).1
      have hhd : m2.hd 1 = m1.hd 1 := by
        rcases q3.box 1 1 fs (hb1 hb).1 with h | ⟨_, _, h⟩
        · omega
        · exact h
      exact ⟨ca.toList, by simpa using h4, fun j u y a c => h5 j u y a (by simpa using c), fun _ => ⟨gg, T, ca, by rw [← hhd1, ← hhd]; exact h1, h2, h3, rfl⟩⟩
    | false =>
      rw [hb2 hb]
      exact ⟨[], rfl, by simp, fun h => by cases h⟩
  have hyl : (xs ++ fz).length = (cs ++ fs).length := by simp [g1, hfl]
  obtain ⟨hl', hG, L2, hF2, hinj2, hdead2⟩ := foldL_rep (cs ++ fs) mem2 p.2 p.1 (xs ++ fz) q2 hyl (fun j u y a c => by
    rcases Nat.lt_or_ge j cs.length with hj | hj
    · rw [List.getElem?_append_left hj] at a
      rw [List.getElem?_append_left (by omega)] at c
      exact g2 j u y a c
    · rw [List.getElem?_append_right hj] at a
      rw [List.getElem?_append_right (by omega), g1] at c
      exact hfz _ u y a c) hp
  rw [hp1] at hF2 hl'
  obtain ⟨h1, h2, h3⟩ := landC_spec _ _ _ _ hland
  generalize hR : r.2.1 ++ r.2.2 = R at hF2 hl' h1 h2 h3
  have hbase : mem2.length = mem2.length := rfl
  have hL2n1 : ∀ j, L2 j ≠ 0 → L2 j ≠ 1 := fun j hj => q2.ne1 (hdead2 j hj).1
  have hL2n2 : b = true → ∀ j, L2 j ≠ 0 → L2 j ≠ 2 := by
    intro hb j hj he
    have h4 := (hdead2 j hj).2
    rw [he] at h4
    rw [(hb1 hb).2] at h4
    cases h4
  -- handed over
  let HL : Nat → Prop := fun l => (∃ j, L j ≠ 0 ∧ L j = l) ∨ (b = true ∧ l = id + 1)
  have hHL0 : ¬ HL 0 := by
    rintro (⟨j, h4, h5⟩ | ⟨_, h4⟩)
    · exact h4 h5
    · omega
  have hHL1 : ¬ HL 1 := by
    rintro (⟨j, h4, h5⟩ | ⟨hb, h4⟩)
    · exact (hdead j h4).1 h5
    · exact hid0 hb (by omega)
  have hHLB : ∀ k, HL (m.G k) → w0.heap.size ≤ k := by
    rintro k (⟨j, h4, h5⟩ | ⟨hb, h4⟩)
    · exact (hdead j h4).2.2 k h5.symm
    · exact hg.ge (hbox hb).1 h4
  have hold : ∀ k, k < w.heap.size → ¬ HL (m.G k) → (m2.G k = 0 ∧ m.G k = 0 ∨ m2.G k = 1 ∧ m.G k ≠ 0) ∧ w'.heap[k]? = w.heap[k]? := by
    intro k hlt hn
    by_cases h : m.G k = 0
    · have := q3.ro k ⟨hG0 k h, hlt⟩
      exact ⟨.inl ⟨this.1, h⟩, this.2⟩
    · have := q3.fgn k (hG1 k hlt h (fun h4 => hn (.inr h4)) (fun h4 => hn (.inl h4))) hlt
      exact ⟨.inr ⟨this.1, h⟩, this.2⟩
  let G : Nat → Nat := fun k => if k < w.heap.size ∧ ¬ HL (m.G k) then m.G k else if k < w'.heap.size then (if m2.G k = 0 then 0 else if b = true ∧ m2.G k = 2 then id + 1 else if h : ∃ j, L2 j ≠ 0 ∧ L2 j = m2.G k then mem.length + ownNo R h.choose + 1 else 1) else 0
  let hd : Nat → Value := fun i => if i < mem.length then m.hd i else if h : ∃ j u, R[j]? = some u ∧ ownC u = true ∧ ownNo R j = i - mem.length then (xs ++ fz).getD h.choose default else default
  let m3 : Mp := ⟨G, hd⟩
  have k1 : ∀ k, k < w.heap.size → ¬ HL (m.G k) → m3.G k = m.G k := fun k h4 h5 => if_pos ⟨h4, h5⟩
  have k0 : ∀ k, k < w'.heap.size → m2.G k = 0 → m3.G k = 0 := by
    intro k hlt hk
    by_cases hc : k < w.heap.size ∧ ¬ HL (m.G k)
    · rcases (hold k hc.1 hc.2).1 with ⟨_, h5⟩ | ⟨h5, _⟩
      · exact (k1 k hc.1 hc.2).trans h5
      · omega
    · show (if k < w.heap.size ∧ ¬ HL (m.G k) then m.G k else if k < w'.heap.size then (if m2.G k = 0 then 0 else _) else 0) = 0
      rw [if_neg hc, if_pos hlt, if_pos hk]
  have kL : ∀ k j, k < w'.heap.size → L2 j ≠ 0 → m2.G k = L2 j → m3.G k = mem.length + ownNo R j + 1 := by
    intro k j hlt hj hk
    have hc : ¬ (k < w.heap.size ∧ ¬ HL (m.G k)) := by
      rintro ⟨h4, h5⟩
      rcases (hold k h4 h5).1 with ⟨h6, _⟩ | ⟨h6, _⟩
      · exact hj (hk.symm.trans h6)
      · exact hL2n1 j hj (hk.symm.trans h6)
    have hex : ∃ j, L2 j ≠ 0 ∧ L2 j = m2.G k := ⟨j, hj, hk.symm⟩
    show (if k < w.heap.size ∧ ¬ HL (m.G k) then m.G k else if k < w'.heap.size then (if m2.G k = 0 then 0 else if b = true ∧ m2.G k = 2 then id + 1 else if h : ∃ j, L2 j ≠ 0 ∧ L2 j = m2.G k then mem.length + ownNo R h.choose + 1 else 1) else 0) = _
    rw [if_neg hc, if_pos hlt, if_neg (by rw [hk]; exact hj), if_neg (fun h => hL2n2 h.1 j hj (hk.symm.trans h.2)), dif_pos hex]
    have h5 := hex.choose_spec
    rw [hinj2 _ _ h5.1 (h5.2.trans hk)]
  have kb : ∀ k, k < w'.heap.size → b = true → m2.G k = 2 → m3.G k = id + 1 := by
    intro k hlt hb hk
    have hc : ¬ (k < w.heap.size ∧ ¬ HL (m.G k)) := by
      rintro ⟨h4, h5⟩
      rcases (hold k h4 h5).1 with ⟨h6, _⟩ | ⟨h6, _⟩ <;> omega
    show (if k < w.heap.size ∧ ¬ HL (m.G k) then m.G k else if k < w'.heap.size then (if m2.G k = 0 then 0 else if b = true ∧ m2.G k = 2 then id + 1 else _) else 0) = _
    rw [if_neg hc, if_pos hlt, if_neg (by omega), if_pos ⟨hb, hk⟩]
  have hhd : ∀ i, i < mem.length → m3.hd i = m.hd i := fun i hi => if_pos hi
  have hhd3 : ∀ (j : Nat) (u : V) (y : Value), R[j]? = some u → (xs ++ fz)[j]? = some y → ownC u = true → m3.hd (mem.length + ownNo R j) = y := by
    intro j u y a c hu
    have hex : ∃ j' u', R[j']? = some u' ∧ ownC u' = true ∧ ownNo R j' = mem.length + ownNo R j - mem.length := ⟨j, u, a, hu, by omega⟩
    show (if mem.length + ownNo R j < mem.length then _ else if h : ∃ j' u', R[j']? = some u' ∧ ownC u' = true ∧ ownNo R j' = mem.length + ownNo R j - mem.length then (xs ++ fz).getD h.choose default else default) = y
    rw [if_neg (by omega), dif_pos hex]
    obtain ⟨u', h4, h5, h6⟩ := hex.choose_spec
    have : hex.choose = j := ownNo_inj R _ _ u' u h4 a h5 hu (by omega)
    rw [this]
    simp [c]
  have hro3 : ∀ k, roG m2 w' k → roG m3 w' k := fun k hk => ⟨k0 k hk.2 hk.1, hk.2⟩
  generalize hmm : (if b = true then mem.set id (some (.box bv (cs'.drop r.2.1.length))) else mem) = mm
  have hmml : mm.length = mem.length := by
    rw [← hmm]; split <;> simp
  have hmmo : ∀ i bl, mm[i]? = some (some bl) → (mem[i]? = some (some bl) ∧ ¬ (b = true ∧ i = id)) ∨ (b = true ∧ i = id ∧ bl = .box bv (cs'.drop r.2.1.length)) := by
    intro i bl h
    rw [← hmm] at h
    split at h
    · rename_i hb
      by_cases hi : i = id
      · subst hi
        have hlt : i < mem.length := (List.getElem?_eq_some_iff.1 (hbox hb).1).1
        rw [List.getElem?_set_self hlt] at h
        simp only [Option.some.injEq] at h
        exact .inr ⟨hb, rfl, h.symm⟩
      · rw [List.getElem?_set_ne (fun e => hi e.symm)] at h
        exact .inl ⟨h, fun h => hi h.2⟩
    · rename_i hb
      exact .inl ⟨h, fun h => hb h.1⟩
  have hcase : ∀ i bl, (mm ++ bs.map some)[i]? = some (some bl) → (i < mem.length ∧ mem[i]? = some (some bl) ∧ ¬ (b = true ∧ i = id)) ∨ (b = true ∧ i = id ∧ bl = .box bv (cs'.drop r.2.1.length) ∧ i < mem.length) ∨ (mem.length ≤ i ∧ bs[i - mem.length]? = some bl) := by
    intro i bl h
    rcases Nat.lt_or_ge i mem.length with hi | hi
    · rw [List.getElem?_append_left (by omega)] at h
      rcases hmmo i bl h with ⟨h4, h7⟩ | ⟨h4, h5, h6⟩
      · exact .inl ⟨hi, h4, h7⟩
      · exact .inr (.inl ⟨h4, h5, h6, hi⟩)
    · rw [List.getElem?_append_right (by omega), List.getElem?_map, hmml] at h
      obtain ⟨b', h4, h5⟩ := Option.map_eq_some_iff.1 h
      simp only [Option.some.injEq] at h5
      exact .inr (.inr ⟨hi, by rw [h4, h5]⟩)
  have hnew : ∀ i bl, mem.length ≤ i → bs[i - mem.length]? = some bl → ∃ e rows, bl = .rows ep ep e rows := by
    intro i bl _ h
    obtain ⟨j, e, rows, _, _, e3⟩ := h3 _ _ h
    exact ⟨e, rows, e3⟩
  have hrowsHL : ∀ (i hv cv e : Nat) (rs : List (List V)), mem[i]? = some (some (.rows hv cv e rs)) → ¬ HL (i + 1) := by
    rintro i hv cv e rs hm (⟨j, h4, h5⟩ | ⟨hb, h4⟩)
    · have := (hdead j h4).2.1
      rw [h5, Nat.add_sub_cancel, hm] at this
      cases this
    · have := (hbox hb).1
      rw [show id = i by omega, hm] at this
      cases this
  have hsize : w.heap.size ≤ w'.heap.size := q3.size
  have hkeep : ∀ i, ¬ HL (i + 1) → ∀ k, m.G k = i + 1 → k < w.heap.size → m3.G k = i + 1 ∧ w'.heap[k]? = w.heap[k]? := by
    intro i hn k hk hlt
    rw [← hk] at hn
    exact ⟨(k1 k hlt hn).trans hk, (hold k hlt hn).2⟩
  have hE : Evo ep (ep + 1) mem (mm ++ bs.map some) m m3 w w' := by
    refine ⟨by omega, hsize, fun k hk => ?_, fun k hk hlt => ?_, fun i bv1 c hc => ?_, fun i hv cv e rs hc => ?_, fun i hv cv e rs hc => ?_, fun i hv cv e rs rs' h7 hc l1 l2 => ?_⟩
    · have hn : ¬ HL (m.G k) := by rw [hk.1]; exact hHL0
      exact ⟨(k1 k hk.2 hn).trans hk.1, (hold k hk.2 hn).2⟩
    · have hn : ¬ HL (m.G k) := by rw [hk]; exact hHL1
      exact ⟨(k1 k hlt hn).trans hk, (hold k hlt hn).2⟩
    · rcases hcase i _ hc with ⟨h4, h5, _⟩ | ⟨hb, rfl, h5, h6⟩ | ⟨h4, h5⟩
      · exact .inr ⟨c, h5, hhd i h4⟩
      · cases h5
        exact .inr ⟨cells, (hbox hb).1, hhd i h6⟩
      · obtain ⟨_, _, h6⟩ := hnew i _ h4 h5
        cases h6
    · rcases hcase i _ hc with ⟨h4, h5, _⟩ | ⟨hb, rfl, h5, h6⟩ | ⟨h4, h5⟩
      · exact .inr ⟨cv, rs, h5, hhd i h4⟩
      · cases h5
      · obtain ⟨_, _, h6⟩ := hnew i _ h4 h5
        cases h6
        exact .inl (Nat.le_refl _)
    · rcases hcase i _ hc with ⟨h4, h5, _⟩ | ⟨hb, rfl, h5, h6⟩ | ⟨h4, h5⟩
      · refine .inr ⟨hv, e, rs, h5, fun k hk => ?_⟩
        obtain ⟨h6, h7⟩ := hkeep i (hrowsHL i _ _ _ _ h5) k hk.1 hk.2.2
        exact ⟨⟨h6, by rw [hhd i h4]; exact hk.2.1, Nat.lt_of_lt_of_le hk.2.2 hsize⟩, h7⟩
      · cases h5
      · obtain ⟨_, _, h6⟩ := hnew i _ h4 h5
        cases h6
        exact .inl (Nat.le_refl _)
    · rcases hcase i _ hc with ⟨h4, h5, _⟩ | ⟨hb, rfl, h5, h6⟩ | ⟨h4, h5⟩
      · obtain ⟨_, _, _, rfl⟩ := rows_inj4 h7 h5
        obtain ⟨_, _, csx, fx, ho, hGx, _, _⟩ := hg.blk i _ h7
        exact NestEq.same (fun g hgg hlt => (hkeep i (hrowsHL i _ _ _ _ h5) g (hGx g hgg) hlt).2)
      · cases h5
      · obtain ⟨_, _, h6⟩ := hnew i _ h4 h5
        cases h6
        omega
  have hval : ∀ (j : Nat) (c : V) (y : Value), cs'[j]? = some c → (xs ++ fz)[j]? = some y → RV P.cellsOf (mm ++ bs.map some) (ep + 1) m3 w' c y := by
    intro j c y a hy
    have hlt : j < R.length := by rw [← h1]; exact (List.getElem?_eq_some_iff.1 a).1
    have e0 : R[j]? = some R[j] := List.getElem?_eq_getElem hlt
    generalize R[j] = u0 at e0
    have hr := hF2 j u0 y e0 hy
    rcases h2 j u0 e0 with ⟨v', h4, h5⟩ | ⟨e, rows, h4, h5, h6⟩ | ⟨e, rows, h4, h5, h6, h7⟩
    · rw [h5] at a
      simp only [Option.some.injEq] at a
      subst a
      subst h4
      cases hr with
      | lit h => exact .lit h
    · rw [h6] at a
      simp only [Option.some.injEq] at a
      subst a
      subst h4
      exact .ro (rep_ro (hr.mono hro3 (fun _ h => h)))
    · rw [h6] at a
      simp only [Option.some.injEq] at a
      subst a
      subst h4
      exact .ow (by omega) (rep_one hr) (fun cv e' rs hm => (hhd3 j _ y e0 hy rfl).symm)
  have hgood : Good P.cellsOf w0.heap.size w0 (mm ++ bs.map some) (ep + 1) m3 w' := by
    refine ⟨fun i bl hbl => ?_, fun k hk => ?_, q2.below, Nat.le_trans hg.hB hsize, ?_⟩
    · rcases hcase i bl hbl with ⟨h4, h5, hnb⟩ | ⟨hb, rfl, h5, h6⟩ | ⟨h4, h5⟩
      · by_cases hn : HL (i + 1)
        · exfalso
          rcases hn with ⟨j, h6, h7⟩ | ⟨hb, h6⟩
          · have := (hdead j h6).2.1
            rw [h7, Nat.add_sub_cancel, h5] at this
            cases this
          · exact hnb ⟨hb, by omega⟩
        · exact (hg.blk i bl h5).keep hE (hhd i h4) (hkeep i hn)
      · subst h5
        obtain ⟨gg, T, ca, d1, d2, d3, d4⟩ := hfb hb
        have hlt := (Array.getElem?_eq_some_iff.1 d2).1
        obtain ⟨hbv, _⟩ := hg.blk i _ (hbox hb).1
        have hdl : cs'.length = cs.length + fs.length := by rw [h1, hl']; simp
        refine ⟨by omega, gg, T, ca, (hhd i h6).trans d1, d2, kb gg hlt hb d3, ?_, fun j u y a c => ?_⟩
        · rw [List.length_drop, hdl, ← hcl]
          have : fz.length = ca.size := by rw [d4]; simp
          omega
        · rw [List.getElem?_drop] at a
          refine hval _ u y a ?_
          rw [List.getElem?_append_right (by omega), d4]
          simpa [g1, hcl] using c
      · obtain ⟨j, e, rows, a1, a2, rfl⟩ := h3 _ _ h5
        obtain ⟨y, hy⟩ : ∃ y, (xs ++ fz)[j]? = some y := ⟨_, List.getElem?_eq_getElem (by rw [hyl, ← hl']; exact (List.getElem?_eq_some_iff.1 a1).1)⟩
        have hid : i = mem.length + ownNo R j := by omega
        have hdy : m3.hd i = y := by rw [hid]; exact hhd3 j _ y a1 hy rfl
        have hr := hF2 j _ y a1 hy
        cases hr with
        | own cells f ho hok hrow hr =>
          refine ⟨by omega, by omega, cells, f, by rw [hdy]; exact ho, fun k hk => ?_, hrow, fun i' j' row u y' a c d => ?_⟩
          · rw [hdy] at hk
            obtain ⟨t1, t2, t3⟩ := hok k hk
            rw [kL k j t3 t1 t2, hid]
          · refine (hr i' j' row u y' a c d).mono hro3 (fun k hk => ?_)
            obtain ⟨⟨t1, t2, t3⟩, t4, t5⟩ := hk
            exact ⟨⟨by rw [kL k j t3 t1 t2, hid], by rw [hdy]; exact t4, t3⟩, t5⟩
    · by_cases hc : k < w.heap.size ∧ ¬ HL (m.G k)
      · have h4 := k1 k hc.1 hc.2
        obtain ⟨h5, h6⟩ := hg.lab k (by rw [← h4]; exact hk)
        exact ⟨Nat.lt_of_lt_of_le h5 hsize, h6.imp (fun e => e) (fun e => h4.trans e)⟩
      · refine ⟨?_, .inl ?_⟩
        · rcases Nat.lt_or_ge k w'.heap.size with hlt | hge
          · exact hlt
          · exfalso
            apply hk
            show (if k < w.heap.size ∧ ¬ HL (m.G k) then m.G k else if k < w'.heap.size then _ else 0) = 0
            rw [if_neg hc, if_neg (by omega)]
        · rcases Nat.lt_or_ge k w.heap.size with hlt | hge
          · by_cases hn : HL (m.G k)
            · exact hHLB k hn
            · exact absurd ⟨hlt, hn⟩ hc
          · exact Nat.le_trans hg.hB hge
    · have h4 := hg.fst
      have hlt : 0 < mem.length := (List.getElem?_eq_some_iff.1 h4).1
      rw [List.getElem?_append_left (by omega), ← hmm]
      split
      · rename_i hb
        rw [List.getElem?_set_ne (fun e => hid0 hb e)]
        exact h4
      · exact h4
  refine ⟨m3, ?_, hgood, hE⟩
  refine g3 _ _ _ _ _ ?_ (fun j u y a c => ?_)
  · rw [List.length_take, h1, hl', List.length_append, hcl]
    omega
  · rw [List.getElem?_take] at a
    split at a
    · rename_i hj
      exact hval j u y a (by rw [List.getElem?_append_left (by omega)]; exact c)
    · cases a
/-- A nil slice that is handed over, as one without rows. -/
def fixO1 : Option (Bool × Nat) → V → V
  | some (b, e), .lit (.slice none 0 0) => .sl b e []
  | _, v => v
def fixO : List (Option (Bool × Nat)) → List V → List V
  | m :: ms, v :: vs => fixO1 m v :: fixO ms vs
  | _, vs => vs
theorem fixO_get : ∀ (ms : List (Option (Bool × Nat))) (vs : List V), (fixO ms vs).length = vs.length ∧ ∀ (j : Nat) (v : V), (fixO ms vs)[j]? = some v → ∃ m v0, vs[j]? = some v0 ∧ (v = fixO1 m v0 ∨ v = v0) := by
  intro ms
  induction ms with
  | nil => intro vs; exact ⟨by simp [fixO], fun j v h => ⟨none, v, by simpa [fixO] using h, .inr rfl⟩⟩
  | cons m ms ih =>
    intro vs
    cases vs with
    | nil => exact ⟨rfl, fun j v h => by simp [fixO] at h⟩
    | cons u vs =>
      refine ⟨by simp [fixO, (ih vs).1], fun j v h => ?_⟩
      cases j with
      | zero => simp [fixO] at h; exact ⟨m, u, rfl, .inl h.symm⟩
      | succ j => simp only [fixO, List.getElem?_cons_succ] at h ⊢; exact (ih vs).2 j v h
theorem fixO1_ok {mm : Option (Bool × Nat)} {L : Nat} {v : V} {y : Value} (h : Folded z m w L v y) : Folded z m w L (fixO1 mm v) y := by
  unfold fixO1
  split
  · rename_i b e
    cases h with
    | lit _ =>
      cases b with
      | true => exact .own [] (fun _ => (0, 0)) ⟨by simp, .inl ⟨rfl, rfl⟩⟩ (fun k hk => by simp [Value.ownBlock] at hk) (by simp) (by simp)
      | false => exact .roS ⟨0, 0, none⟩ (fun _ _ => .bool false) (Nat.zero_le _) (by simp [maxLen]) (by simp) (fun hn => absurd rfl hn) (by simp) (by simp) (by simp)
  · exact h
theorem fixO_ok {ms : List (Option (Bool × Nat))} {L : Nat → Nat} {H : List V} {zs : List Value} (hF : ∀ (j : Nat) (u : V) (y : Value), H[j]? = some u → zs[j]? = some y → Folded z m w (L j) u y) : ∀ (j : Nat) (u : V) (y : Value), (fixO ms H)[j]? = some u → zs[j]? = some y → Folded z m w (L j) u y := by
  intro j u y a b
  obtain ⟨mm, v0, h1, h2⟩ := (fixO_get ms H).2 j u a
  rcases h2 with rfl | rfl
  · exact fixO1_ok (hF j v0 y h1 b)
  · exact hF j u y h1 b
theorem fixO_ls : ∀ (ms : List (Option (Bool × Nat))) (H : List V), H.all isLS = true → (fixO ms H).all isLS = true := by
  intro ms
  induction ms with
  | nil => intro H h; simpa [fixO] using h
  | cons mm ms ih =>
    intro H h
    cases H with
    | nil => rfl
    | cons u H =>
      simp only [List.all_cons, Bool.and_eq_true] at h
      simp only [fixO, List.all_cons, Bool.and_eq_true]
      refine ⟨?_, ih H h.2⟩
      unfold fixO1
      split
      · rfl
      · exact h.1
/-- A function told by what it does with what is handed over, in its caller's memory. -/
def bI (b : Bool) (es : List (Option (Bool × Nat))) (F : BCon) : ICon := fun vs mem ep => match vs with
  | .one x :: rest => if rest.all bareT = true then (match x with
    | .bp id bv 0 => if b = true then (boxOf mem id bv).bind fun cells => (foldL mem cells).bind fun p => (boxOf p.2 id bv).bind fun _ => (F (fixO es p.1) rest).bind fun r => (landC true ep p.2.length (r.2.1 ++ r.2.2)).bind fun q => some (unflat r.1 (q.1.take r.2.1.length), p.2.set id (some (.box bv (q.1.drop r.2.1.length))) ++ q.2.map some, ep + 1) else none
    | x => if b = true then none else (foldL mem [x]).bind fun p => (F (fixO es p.1) rest).bind fun r => (landC true ep p.2.length (r.2.1 ++ r.2.2)).bind fun q => some (unflat r.1 (q.1.take r.2.1.length), p.2 ++ q.2.map some, ep + 1)) else none
  | _ => none
theorem BFn.inst {g : Nat} {b : Bool} {es : List (Option (Bool × Nat))} {F : BCon} {J : World → Prop} (hst : Stab J) (hF : BFn P g b F J) : IFn P g (bI b es F) J := by
  refine ⟨hF.1, fun w0 hJ vs mem ep r h m w ys hg hl ha => ?_⟩
  unfold bI at h
  split at h
  · rename_i x rest
    have hl' : ys.size = rest.length + 1 := by simpa using hl
    obtain ⟨y0, hy0⟩ : ∃ y, ys[0]? = some y := ⟨_, Array.getElem?_eq_getElem (by rw [hl']; omega)⟩
    have hx0 := ha 0 _ y0 rfl hy0
    have hx : RV P.cellsOf mem ep m w x y0 := by cases hx0 with | one h => exact h
    split at h
    · rename_i hbare
      split at h
      · rename_i id bv
        split at h
        · rename_i hb
          simp only [Option.bind_eq_some_iff, Option.some.injEq] at h
          obtain ⟨cells, hc, ⟨H, memp⟩, hp, cells2, hc2, q, hq, ⟨cs', bs⟩, hland, rfl⟩ := h
          have hm := boxOf_some hc
          have hm2 := boxOf_some hc2
          obtain ⟨_, gg, T, ca, d1, d2, d3, d4, d5⟩ := hg.blk id _ hm
          obtain ⟨hl2, hG, L, hfo, hinj, hdead⟩ := foldL_rep cells mem memp H ca.toList hg (by simpa using d4) (fun j u y a c => d5 j u y a (by simpa using c)) hp
          have hg2 := hG.good hg
          have hyb : y0 = m.hd id := by
            cases hx with
            | bp hid h1 hh =>
              obtain ⟨g', h2, h3⟩ := hh _ hm
              rw [h2]; exact h3
          have := hand (mem := memp) (hF.2 (fixO es H) rest q hq) hJ hg2 (zs := ca.toList) (by rw [(fixO_get es H).1, hl2]; simpa using d4) (fixO_ok hfo) hinj (fun j hj => ⟨hg.ne1 (hdead j hj).1, (hdead j hj).2, fun k hk => by
              obtain ⟨⟨bl, h1⟩, _⟩ := hdead j hj
              exact hg.ge h1 (by omega)⟩) (id := id) (bv := bv) (cells := cells2) (fun _ => ⟨hm2, gg, T, ca, d1, d2, d3, rfl⟩) hbare hl' hy0 (fun _ => hyb) (fun h => by rw [hb] at h; cases h) (fun j v y a c => (ha (j + 1) v y (by simpa using a) c).evo hG.evo) (fixO_ls _ _ (foldL_ls _ _ _ _ hp)) hland
          refine this.mono fun ex w' he => ?_
          obtain ⟨v, rfl, m', t1, t2, t3⟩ := he
          rw [if_pos hb] at t1 t2 t3
          exact ⟨v, rfl, m', t1, t2, hG.evo.trans t3⟩
        · cases h
      · split at h
        · cases h
        · rename_i hb
          have hb : b = false := by simpa using hb
          simp only [Option.bind_eq_some_iff, Option.some.injEq] at h
          obtain ⟨⟨H, memp⟩, hp, q, hq, ⟨cs', bs⟩, hland, rfl⟩ := h
          obtain ⟨hl2, hG, L, hfo, hinj, hdead⟩ := foldL_rep [x] mem memp H [y0] hg rfl (fun j u y a c => by
            cases j with
            | zero => simp at a c; subst a; subst c; exact hx
            | succ j => simp at a) hp
          have hg2 := hG.good hg
          have := hand (mem := memp) (hF.2 (fixO es H) rest q hq) hJ hg2 (zs := [y0]) (by rw [(fixO_get es H).1, hl2]; rfl) (fixO_ok hfo) hinj (fun j hj => ⟨hg.ne1 (hdead j hj).1, (hdead j hj).2, fun k hk => by
              obtain ⟨⟨bl, h1⟩, _⟩ := hdead j hj
              exact hg.ge h1 (by omega)⟩) (id := 0) (bv := 0) (cells := []) (fun h => by rw [hb] at h; cases h) hbare hl' hy0 (fun h => by rw [hb] at h; cases h) (fun _ => rfl) (fun j v y a c => (ha (j + 1) v y (by simpa using a) c).evo hG.evo) (fixO_ls _ _ (foldL_ls _ _ _ _ hp)) hland
          refine this.mono fun ex w' he => ?_
          obtain ⟨v, rfl, m', t1, t2, t3⟩ := he
          rw [if_neg (by simp [hb])] at t1 t2 t3
          exact ⟨v, rfl, m', t1, t2, hG.evo.trans t3⟩
    · cases h
  · cases h
end
/-- The end of a run that had something handed over. -/
def tellB (P : Program) (lm : Nat → List Nat × Nat) (rs : List ResultVar) (b : Bool) (S : St) : Option (Sh × List V × List V) := (resR P (finH (lm 5000000) S) rs).bind fun v => (flatT v).bind fun cs => (shT v).bind fun s => (if b = true then boxOf (finH (lm 5000000) S).mem 1 1 else some []).bind fun fs =>
  (foldL (finH (lm 5000000) S).mem (cs ++ fs)).bind fun p => (if b = true then boxOf p.2 1 1 else some []).bind fun _ => some (s, p.1.take cs.length, p.1.drop cs.length)
theorem tellB_mk (P : Program) (lm : Nat → List Nat × Nat) (rs : List ResultVar) (b : Bool) (tm : List (Nat × TV)) (mem : Mem) (ep : Nat) : tellB P lm rs b ⟨tm, mem, ep⟩ = (resR P (finH (lm 5000000) ⟨tm, mem, ep⟩) rs).bind fun v => (flatT v).bind fun cs => (shT v).bind fun s => (if b = true then boxOf (finH (lm 5000000) ⟨tm, mem, ep⟩).mem 1 1 else some []).bind fun fs =>
  (foldL (finH (lm 5000000) ⟨tm, mem, ep⟩).mem (cs ++ fs)).bind fun p => (if b = true then boxOf p.2 1 1 else some []).bind fun _ => some (s, p.1.take cs.length, p.1.drop cs.length) := rfl
noncomputable def toldB (P : Program) (cal : Cal) (k : Nat) (lm : Nat → List Nat × Nat) (fn : Func) (b : Bool) (a0 : V) (mem0 : Mem) (rest : List TV) : Option (Sh × List V × List V) := fn.body.bind fun c => (exec P cal k mem0.length lm 0 c ⟨slots 0 (.one a0 :: rest), mem0, 2⟩).bind (tellX (tellB P lm fn.results.toList b))
theorem BAt.of_told {P : Program} {J : World → Prop} {cal : Cal} (hcal : ∀ w0, J w0 → CalOk P w0.heap.size w0 cal) (hm : P.follows .mixedOrders = true) {g : Nat} {fn : Func} {c : Code} (hf : P.funcs[g]? = some fn) (hn : (fn.name == "runtime.NumGoroutine") = false) (hb : fn.body = some c) (hd : dsts fn.ntmps c = true) {np : Nat} (hnp : np ≤ fn.ntmps) {lm : Nat → List Nat × Nat} {k : Nat} {b : Bool} {H : List V} {rest : List TV} {r : Sh × List V × List V} (hl : rest.length + 1 = np)
    {a0 : V} {mem0 : Mem} (h0 : memB b H = some (a0, mem0)) (h : toldB P cal k lm fn b a0 mem0 rest = some r) : BAt P g b J H rest r := by
  intro w0 hJ a0' mem0' hmem m w ys hg hly ha
  rw [h0] at hmem
  simp only [Option.some.injEq, Prod.mk.injEq] at hmem
  obtain ⟨rfl, rfl⟩ := hmem
  unfold toldB at h
  simp only [Option.bind_eq_some_iff] at h
  obtain ⟨c', hc', ⟨x, S⟩, hx, h⟩ := h
  have h1 : tellB P lm fn.results.toList b S = some r ∧ (x = .norm ∨ x = .ret) := by
    cases x with
    | exit id => cases h
    | norm => exact ⟨h, .inl rfl⟩
    | ret => exact ⟨h, .inr rfl⟩
  obtain ⟨h1, h2⟩ := h1
  unfold tellB at h1
  simp only [Option.bind_eq_some_iff, Option.some.injEq] at h1
  obtain ⟨tv, h3, cs, hcs, s, hs, fs, hfs, p, hp, fs2, hfs2, rfl⟩ := h1
  have hbody : body P cal k lm fn (.one a0 :: rest) mem0 2 = some (tv, (finH (lm 5000000) S).mem, (finH (lm 5000000) S).ep) := by
    unfold body
    have h7 : resT P (finH (lm 5000000) S) fn = some tv := h3
    simp only [hc', Option.bind_some, hx]
    rcases h2 with rfl | rfl
    · simp only [h7, Option.bind_some]
    · simp only [h7, Option.bind_some]
  refine (body_sound (hcal w0 hJ) hm hf hb hd (by omega) (by simpa using hly) hbody hg ha).mono fun ex w' he => ?_
  obtain ⟨v', rfl, m', q1, q2, q3⟩ := he
  have hpl : p.1.length = cs.length + fs.length ∧ Gone (finH (lm 5000000) S).mem p.2 := by
    have key : ∀ (cs : List V) (mem mem' : Mem) (H : List V), foldL mem cs = some (H, mem') → H.length = cs.length ∧ Gone mem mem' := by
      intro cs
      induction cs with
      | nil =>
        intro mem mem' H h
        simp only [foldL, Option.some.injEq, Prod.mk.injEq] at h
        obtain ⟨rfl, rfl⟩ := h
        exact ⟨rfl, Gone.refl _⟩
      | cons v cs ih =>
        intro mem mem' H h
        simp only [foldL, Option.bind_eq_some_iff, Option.some.injEq, Prod.mk.injEq] at h
        obtain ⟨⟨v', m1⟩, hf, ⟨vs', m2⟩, hfl, rfl, rfl⟩ := h
        obtain ⟨i1, i2⟩ := ih _ _ _ hfl
        refine ⟨by simp [i1], Gone.trans ?_ i2⟩
        cases v with
        | lit x => simp only [fold, Option.some.injEq, Prod.mk.injEq] at hf; rw [← hf.2]; exact Gone.refl _
        | sl own e rows =>
          cases own with
          | false => simp only [fold, Option.some.injEq, Prod.mk.injEq] at hf; rw [← hf.2]; exact Gone.refl _
          | true => simp [fold] at hf
        | ow id hv =>
          simp only [fold, Option.bind_eq_some_iff, Option.some.injEq, Prod.mk.injEq] at hf
          obtain ⟨_, _, _, h2⟩ := hf
          rw [← h2]; exact Gone.set _ _
        | _ => simp [fold] at hf
    obtain ⟨i1, i2⟩ := key _ _ _ _ hp
    exact ⟨by rw [i1, List.length_append], i2⟩
  refine ⟨v', rfl, _, _, m', tv, cs, fs, p, q1, q2, q3, hcs, hs, hp, (List.take_append_drop _ _).symm, by rw [List.length_take, hpl.1]; omega, fun hb => ?_, fun hb => ?_⟩
  · rw [if_pos hb] at hfs hfs2
    have h8 := boxOf_some hfs
    have h9 := boxOf_some hfs2
    have h10 := hpl.2.2 _ _ h9
    rw [h8] at h10
    simp only [Option.some.injEq, Blk.box.injEq] at h10
    refine ⟨h8, ?_⟩
    rw [h9, h10.2]
  · rw [if_neg (by simp [hb])] at hfs
    simp only [Option.some.injEq] at hfs
    exact hfs.symm
open Classical in
noncomputable def pbcon {α β : Type} (H : α → List V) (arg : α → List TV) (p : α → Option β) (res : β → Sh × List V × List V) : BCon := fun hs vs => if h : ∃ a, H a = hs ∧ arg a = vs ∧ (p a).isSome then (p h.choose).map res else none
theorem pbcon_at {α β : Type} {H : α → List V} {arg : α → List TV} {p : α → Option β} {res : β → Sh × List V × List V} (inj : ∀ a b, H a = H b → arg a = arg b → a = b) {a : α} {b : β} (h : p a = some b) : pbcon H arg p res (H a) (arg a) = some (res b) := by
  have hex : ∃ c, H c = H a ∧ arg c = arg a ∧ (p c).isSome := ⟨a, rfl, rfl, by rw [h]; rfl⟩
  unfold pbcon
  rw [dif_pos hex, inj _ _ hex.choose_spec.1 hex.choose_spec.2.1, h]
  rfl
theorem BFn.of_at {P : Program} {g : Nat} {b : Bool} {J : World → Prop} {α β : Type} {H : α → List V} {arg : α → List TV} {p : α → Option β} {res : β → Sh × List V × List V} (hh : Has P g) (h : ∀ a r, p a = some r → BAt P g b J (H a) (arg a) (res r)) : BFn P g b (pbcon H arg p res) J := by
  refine ⟨hh, fun hs vs r hr => ?_⟩
  unfold pbcon at hr
  split at hr
  · rename_i hex
    obtain ⟨c, h1, h2⟩ := Option.map_eq_some_iff.1 hr
    subst h2
    have := h _ _ h1
    rwa [hex.choose_spec.1, hex.choose_spec.2.1] at this
  · cases hr
theorem BFn.pure {P : Program} {α β : Type} {b : Bool} {H : α → List V} {arg : α → List TV} {p : α → Option β} {res : β → Sh × List V × List V} (cal : Nat → Cal) {J : World → Prop} (hcal : ∀ k w0, J w0 → CalOk P w0.heap.size w0 (cal k)) (hm : P.follows .mixedOrders = true) {g : Nat} {fn : Func} {c : Code} (hf : P.funcs[g]? = some fn) (hn : (fn.name == "runtime.NumGoroutine") = false) (hb : fn.body = some c) (hd : dsts fn.ntmps c = true) (np : Nat) (hnp : np ≤ fn.ntmps) (harg : ∀ a, (arg a).length + 1 = np) (lm : Nat → List Nat × Nat) (a0 : α → V) (mem0 : α → Mem) (h0 : ∀ a, memB b (H a) = some (a0 a, mem0 a))
    (h : ∀ a r, p a = some r → ∃ k, toldB P (cal k) k lm fn b (a0 a) (mem0 a) (arg a) = some (res r)) : BFn P g b (pbcon H arg p res) J :=
  BFn.of_at ⟨fn, hf, hn, by rw [hb]; rfl⟩ (fun a r hp => by
    obtain ⟨k, hk⟩ := h a r hp
    exact BAt.of_told (hcal k) hm hf hn hb hd hnp (harg a) (h0 a) hk)
theorem bI_ow (es : List (Option (Bool × Nat))) (F : BCon) (id hv : Nat) (rest : List TV) (mem : Mem) (ep : Nat) : bI false es F (.one (.ow id hv) :: rest) mem ep = if rest.all bareT = true then (foldL mem [.ow id hv]).bind fun p => (F (fixO es p.1) rest).bind fun r => (landC true ep p.2.length (r.2.1 ++ r.2.2)).bind fun q => some (unflat r.1 (q.1.take r.2.1.length), p.2 ++ q.2.map some, ep + 1) else none := rfl
theorem bI_bp (es : List (Option (Bool × Nat))) (F : BCon) (id bv : Nat) (rest : List TV) (mem : Mem) (ep : Nat) : bI true es F (.one (.bp id bv 0) :: rest) mem ep = if rest.all bareT = true then (boxOf mem id bv).bind fun cells => (foldL mem cells).bind fun p => (boxOf p.2 id bv).bind fun _ => (F (fixO es p.1) rest).bind fun r => (landC true ep p.2.length (r.2.1 ++ r.2.2)).bind fun q => some (unflat r.1 (q.1.take r.2.1.length), p.2.set id (some (.box bv (q.1.drop r.2.1.length))) ++ q.2.map some, ep + 1) else none := rfl
theorem bI_nil (es : List (Option (Bool × Nat))) (F : BCon) (rest : List TV) (mem : Mem) (ep : Nat) : bI false es F (.one (.lit (.slice none 0 0)) :: rest) mem ep = if rest.all bareT = true then (foldL mem [.lit (.slice none 0 0)]).bind fun p => (F (fixO es p.1) rest).bind fun r => (landC true ep p.2.length (r.2.1 ++ r.2.2)).bind fun q => some (unflat r.1 (q.1.take r.2.1.length), p.2 ++ q.2.map some, ep + 1) else none := rfl
end Go.Proofs.Ytanglbgincgmaaa.Vm
