/-
  The small machine is true to the model: code, and a function's body.
-/
import Derived.Test.YtanglbgincgmaaaVmSoundO
namespace Go.Proofs.Ytanglbgincgmaaa.Vm
open Go Go.RowKit
set_option linter.unusedVariables false
section
variable {P : Program} {B nt : Nat} {w0 w : World} {cal : Cal} {z : Nat → Nat} {mem : Mem} {ep : Nat} {m : Mp}

def exitOf : X → Exit
  | .norm => .normal
  | .exit id => .exit id
  | .ret => .ret
/-- Blocks that are no longer told. -/
def Sub (mem mem' : Mem) : Prop := ∀ (id : Nat) (b : Blk), mem'[id]? = some (some b) → mem[id]? = some (some b)
theorem Sub.evo {mem mem' : Mem} {ep : Nat} {m : Mp} {w : World} (h : Sub mem mem') : Evo ep ep mem mem' m m w w :=
  ⟨Nat.le_refl _, Nat.le_refl _, fun k hk => ⟨hk.1, rfl⟩, fun k hk _ => ⟨hk, rfl⟩, fun id bv c hc => .inr ⟨c, h _ _ hc, rfl⟩, fun id hv cv e rs hc => .inr ⟨cv, rs, h _ _ hc, rfl⟩, fun id hv cv e rs hc => .inr ⟨hv, e, rs, h _ _ hc, fun k hk => ⟨hk, rfl⟩⟩, fun id hv cv e rs rs' h1 h2 _ _ => by
    obtain ⟨_, _, _, rfl⟩ := rows_inj4 h1 (h _ _ h2)
    exact NestEq.same (fun _ _ _ => rfl)⟩
theorem Sub.good {mem mem' : Mem} {ep : Nat} {m : Mp} {w : World} (h : Sub mem mem') (h0 : mem'[0]? = some none) (hg : Good z B w0 mem ep m w) : Good z B w0 mem' ep m w :=
  ⟨fun id b hb => (hg.blk id b (h _ _ hb)).keep h.evo rfl (fun k hk _ => ⟨hk, rfl⟩), hg.lab, hg.below, hg.hB, h0⟩
theorem Sub.take (mem : Mem) (n : Nat) : Sub mem (mem.take n) := by
  intro id b h
  rw [List.getElem?_take] at h
  split at h
  · exact h
  · cases h
theorem look_keep (tm : List (Nat × TV)) : ∀ (l : List Nat) (t : Nat) (v : TV), look (l.filterMap fun t => (look tm t).map fun v => (t, v)) t = some v → look tm t = some v := by
  intro l
  induction l with
  | nil => intro t v h; simp [look] at h
  | cons x l ih =>
    intro t v h
    simp only [List.filterMap_cons] at h
    cases hx : look tm x with
    | none =>
      simp only [hx, Option.map_none] at h
      exact ih t v h
    | some u =>
      simp only [hx, Option.map_some, look] at h
      split at h
      · rename_i he
        subst he
        rw [hx]
        exact h
      · exact ih t v h

theorem wp_loop_fuel {c : Code} {Q : Exit → Act → World → Prop} (I : Nat → Act → World → Prop) (h00 : ∀ a w, ¬ I 0 a w) (round : ∀ n a w, I (n + 1) a w → c.wp P (Exit.then (I n) Q) a w) {n : Nat} {a : Act} {w : World} (h : I n a w) : (Code.loop c).wp P Q a w := by
  classical
  have least : ∀ a w, (∃ n, I n a w) → ∃ n, I n a w ∧ ∀ k, I k a w → n ≤ k := by
    intro a w ⟨n, hn⟩
    induction n using Nat.strongRecOn with
    | _ n ih =>
      by_cases hk : ∃ k, k < n ∧ I k a w
      · obtain ⟨k, hk1, hk2⟩ := hk
        exact ih k hk1 hk2
      · exact ⟨n, hn, fun k hIk => Nat.le_of_not_lt fun hlt => hk ⟨k, hlt, hIk⟩⟩
  refine wp_loop (fun a w => ∃ n, I n a w) (fun a w => if h : ∃ n, I n a w then (least a w h).choose else 0) ⟨n, h⟩ (fun a w hI => ?_)
  obtain ⟨h1, h2⟩ := (least a w hI).choose_spec
  simp only [dif_pos hI]
  generalize (least a w hI).choose = q at h1 h2
  cases q with
  | zero => exact absurd h1 (h00 a w)
  | succ q =>
    refine wp_mono (round q a w h1) (fun e a' w' he => ?_)
    cases e with
    | normal =>
      have hex : ∃ n, I n a' w' := ⟨q, he⟩
      refine ⟨hex, ?_⟩
      simp only [dif_pos hex]
      have := (least a' w' hex).choose_spec.2 q he
      omega
    | _ => exact he

theorem nil_new (hg : Good z B w0 mem ep m w) (e : Nat) : ∃ m', Good z B w0 (mem ++ [some (.rows ep ep e [])]) (ep + 1) m' w ∧ Evo ep (ep + 1) mem (mem ++ [some (.rows ep ep e [])]) m m' w w ∧ m'.hd mem.length = .slice none 0 0 := by
  obtain ⟨h1, h2⟩ := new_good (x := .slice none 0 0) (G := m.G) (b := .rows ep ep e []) hg (Gone.refl mem) ⟨rfl, rfl⟩ (Below.refl _ _) (fun k hk => .inl rfl)
    (fun k hk => by
      refine .inl ?_
      rcases Nat.eq_zero_or_pos (m.G k) with h | h
      · exact h
      · have := (hg.lab k (by omega)).1; omega)
    (fun hE => ⟨by omega, by omega, [], fun _ => (0, 0), by rw [Mp.add_same]; exact ⟨by simp, .inl ⟨rfl, rfl⟩⟩, by rw [Mp.add_same]; simp [Value.ownBlock], by simp, by simp⟩)
  exact ⟨_, h1, h2, Mp.add_same _ _ _ _⟩
theorem nil1_ok {S : St} {tmps : Array Value} (hg : Good z B w0 S.mem S.ep m w) (hT : Tms z S m w tmps) (t j e : Nat) : ∃ m', Good z B w0 (nil1 t j e S).mem (nil1 t j e S).ep m' w ∧ Tms z (nil1 t j e S) m' w tmps ∧ Evo S.ep (nil1 t j e S).ep S.mem (nil1 t j e S).mem m m' w w := by
  unfold nil1
  split
  · rename_i hlk
    obtain ⟨m', h1, h2, h3⟩ := nil_new hg e
    refine ⟨m', h1, fun t' tv ht => ?_, h2⟩
    simp only [look] at ht
    split at ht
    · rename_i htt
      subst htt
      simp only [Option.some.injEq] at ht
      subst ht
      have hn : tmps.getD t undef = .slice none 0 0 := by
        have := hT t _ hlk
        generalize tmps.getD t undef = y at this
        cases this with
        | one h => cases h with | lit _ => rfl
      rw [hn]
      exact .one (.ow (Nat.lt_succ_self _) rfl (fun _ _ _ _ => h3.symm))
    · exact (hT t' tv ht).evo h2
  · rename_i id bv off hlk
    split
    · rename_i cells hb
      split
      · rename_i hc
        obtain ⟨m1, h1, h2, h3⟩ := nil_new hg e
        have hb' := boxOf_some hb
        have hlt : id < S.mem.length := (List.getElem?_eq_some_iff.1 hb').1
        have hb1 : (S.mem ++ [some (.rows S.ep S.ep e [])])[id]? = some (some (.box bv cells)) := by rw [List.getElem?_append_left hlt]; exact hb'
        obtain ⟨q1, q2⟩ := set_good (b := .box bv (cells.set (off + j) (.ow S.mem.length S.ep))) (x := m1.hd id) (G := m1.G) (ep' := S.ep + 1) h1 (Gone.refl _) hb1 (Nat.le_refl _) (Below.refl _ _) (fun _ _ _ => rfl) (fun _ _ => .inl rfl) (fun k hk => by
            refine .inl ?_
            rcases Nat.eq_zero_or_pos (m1.G k) with h | h
            · exact h
            · have := (h1.lab k (by omega)).1; omega)
          (fun bv' c hc' => by cases hc'; exact .inr ⟨_, rfl, rfl⟩) (fun _ _ _ _ h => by cases h) (fun _ _ _ _ h => by cases h) (fun _ _ _ _ _ h => by cases h)
          (fun hE => by
            obtain ⟨g0, g, T, cs, g1, g2, g3, g4, g5⟩ := h1.blk _ _ hb1
            refine ⟨g0, g, T, cs, by rw [Mp.add_same]; exact g1, g2, g3, by rw [g4, List.length_set], fun i u y a b => ?_⟩
            by_cases hi : i = off + j
            · subst hi
              have hl2 := (List.getElem?_eq_some_iff.1 hc).1
              rw [List.getElem?_set_self hl2] at a
              simp only [Option.some.injEq] at a
              subst a
              have hy : y = .slice none 0 0 := by
                have := g5 _ _ y hc b
                cases this with | lit _ => rfl
              subst hy
              refine .ow (by omega) rfl (fun _ _ _ _ => ?_)
              by_cases hid : S.mem.length = id
              · omega
              · rw [Mp.add_ne _ _ _ hid, h3]
            · rw [List.getElem?_set_ne (fun e => hi e.symm)] at a
              exact (g5 i u y a b).evo hE)
        exact ⟨_, q1, fun t' tv ht => ((hT t' tv ht).evo h2).evo q2, h2.trans q2⟩
      · exact ⟨m, hg, hT, Evo.refl⟩
    · exact ⟨m, hg, hT, Evo.refl⟩
  · exact ⟨m, hg, hT, Evo.refl⟩
theorem nilS_ok {tmps : Array Value} : ∀ (n : Nat) (l : List Nat) (S : St) (m : Mp), l.length ≤ n → Good z B w0 S.mem S.ep m w → Tms z S m w tmps → ∃ m', Good z B w0 (nilS l S).mem (nilS l S).ep m' w ∧ Tms z (nilS l S) m' w tmps ∧ Evo S.ep (nilS l S).ep S.mem (nilS l S).mem m m' w w := by
  intro n
  induction n with
  | zero =>
    intro l S m hl hg hT
    have : l = [] := List.length_eq_zero_iff.1 (by omega)
    subst this
    exact ⟨m, hg, hT, Evo.refl⟩
  | succ n ih =>
    intro l S m hl hg hT
    match l with
    | [] => exact ⟨m, hg, hT, Evo.refl⟩
    | [_] => exact ⟨m, hg, hT, Evo.refl⟩
    | [_, _] => exact ⟨m, hg, hT, Evo.refl⟩
    | t :: j :: e :: r =>
      obtain ⟨m1, h1, h2, h3⟩ := nil1_ok hg hT t j e
      obtain ⟨m2, h4, h5, h6⟩ := ih r _ m1 (by simp at hl; omega) h1 h2
      exact ⟨m2, h4, h5, h3.trans h6⟩
theorem put_good {mem1 : Mem} (hg : Good z B w0 mem ep m w) (hG : Gone mem mem1) {id : Nat} (h0 : mem1[id]? = some none) (hne : id ≠ 0) {b : Blk} (hb : b.fresh ep) {x : Value} {G : Nat → Nat}
    (h1 : ∀ k, G k = m.G k ∨ (G k = id + 1 ∧ m.G k ≠ 0 ∧ m.G k ≠ 1 ∧ mem1[m.G k - 1]? = some none))
    (hr : Evo ep (ep + 1) mem (mem1.set id (some b)) m (m.add id x G) w w → RBlk z (mem1.set id (some b)) (ep + 1) (m.add id x G) w id b) :
    Good z B w0 (mem1.set id (some b)) (ep + 1) (m.add id x G) w ∧ Evo ep (ep + 1) mem (mem1.set id (some b)) m (m.add id x G) w w := by
  have hid : id < mem1.length := (List.getElem?_eq_some_iff.1 h0).1
  have old : ∀ (i : Nat) (c : Blk), (mem1.set id (some b))[i]? = some (some c) → i ≠ id → mem[i]? = some (some c) ∧ mem1[i]? = some (some c) := by
    intro i c h hn
    rw [List.getElem?_set_ne (Ne.symm hn)] at h
    exact ⟨hG.2 _ _ h, h⟩
  have new : ∀ (c : Blk), (mem1.set id (some b))[id]? = some (some c) → c = b := by
    intro c h
    rw [List.getElem?_set_self hid] at h
    simpa using h.symm
  have lab : ∀ (i : Nat) (c : Blk), mem1[i]? = some (some c) → ∀ k, m.G k = i + 1 → G k = i + 1 := by
    intro i c hc k hk
    rcases h1 k with h | ⟨_, _, _, h⟩
    · rw [h, hk]
    · rw [hk] at h
      simp [hc] at h
  have hE : Evo ep (ep + 1) mem (mem1.set id (some b)) m (m.add id x G) w w := by
    refine ⟨by omega, Nat.le_refl _, fun k hk => ⟨?_, rfl⟩, fun k hk hlt => ⟨?_, rfl⟩, fun i bv c hc => ?_, fun i hv cv e rs hc => ?_, fun i hv cv e rs hc => ?_, fun i hv cv e rs rs' h3 hc l1 l2 => ?_⟩
    · rcases h1 k with h | ⟨_, h, _⟩
      · exact h.trans hk.1
      · exact absurd hk.1 h
    · rcases h1 k with h | ⟨_, _, h, _⟩
      · exact h.trans hk
      · exact absurd hk h
    · by_cases hi : i = id
      · subst hi
        have := new _ hc
        subst this
        exact .inl (Nat.le_of_eq hb.symm)
      · exact .inr ⟨c, (old _ _ hc hi).1, Mp.add_ne _ _ _ hi⟩
    · by_cases hi : i = id
      · subst hi
        have := new _ hc
        subst this
        exact .inl (Nat.le_of_eq hb.1.symm)
      · exact .inr ⟨cv, rs, (old _ _ hc hi).1, Mp.add_ne _ _ _ hi⟩
    · by_cases hi : i = id
      · subst hi
        have := new _ hc
        subst this
        exact .inl (Nat.le_of_eq hb.2.symm)
      · exact .inr ⟨hv, e, rs, (old _ _ hc hi).1, fun k hk => ⟨⟨lab _ _ (old _ _ hc hi).2 k hk.1, by rw [Mp.add_ne _ _ _ hi]; exact hk.2.1, hk.2.2⟩, rfl⟩⟩
    · by_cases hi : i = id
      · subst hi
        have := new _ hc
        subst this
        have := hb.1
        omega
      · obtain ⟨_, _, _, rfl⟩ := rows_inj4 h3 (old _ _ hc hi).1
        exact NestEq.same (fun _ _ _ => rfl)
  refine ⟨⟨fun i c hc => ?_, fun k hk => ?_, hg.below, hg.hB, ?_⟩, hE⟩
  · by_cases hi : i = id
    · subst hi
      have := new _ hc
      subst this
      exact hr hE
    · exact (hg.blk i c (old _ _ hc hi).1).keep hE (Mp.add_ne _ _ _ hi) (fun k hk hlt => ⟨lab _ _ (old _ _ hc hi).2 k hk, rfl⟩)
  · rcases h1 k with h | ⟨_, h, h5, _⟩
    · have := hg.lab k (by rw [← h]; exact hk)
      exact ⟨this.1, this.2.imp (fun e => e) (fun e => h.trans e)⟩
    · exact ⟨(hg.lab k h).1, .inl ((hg.lab k h).2.resolve_right h5)⟩
  · have h6 := dead_stays hG hg.fst
    rw [List.getElem?_set_ne (fun he => hne he)]
    exact h6
/-- An own slice becomes one that is read alone. -/
theorem free_good (hg : Good z B w0 mem ep m w) {id hv : Nat} {b : Nat × Nat × List (List V)} (hb : rowsH mem id hv = some b) : ∃ m1, Good z B w0 (mem.set id none) ep m1 w ∧ Evo ep ep mem (mem.set id none) m m1 w w ∧ RV z (mem.set id none) ep m1 w (.sl false b.2.1 (erRows b.2.2)) (m.hd id) := by
  have hb' := rowsH_some hb
  have hlt : id < mem.length := (List.getElem?_eq_some_iff.1 hb').1
  have hne : id ≠ 0 := by
    rintro rfl
    rw [hg.fst] at hb'
    cases hb'
  have hG : Gone mem (mem.set id none) := Gone.set _ _
  have old : ∀ (i : Nat) (c : Blk), (mem.set id none)[i]? = some (some c) → i ≠ id := by
    rintro i c h rfl
    rw [List.getElem?_set_self hlt] at h
    cases h
  let m1 : Mp := ⟨fun k => if m.G k = id + 1 then 0 else m.G k, m.hd⟩
  have q0 : ∀ k, m.G k = 0 → m1.G k = 0 := fun k hk => by show (if m.G k = id + 1 then 0 else m.G k) = 0; split <;> simp_all
  have q1 : ∀ i k, i ≠ id → m.G k = i + 1 → m1.G k = i + 1 := fun i k hi hk => by
    show (if m.G k = id + 1 then 0 else m.G k) = i + 1
    rw [if_neg (by omega)]
    exact hk
  have q2 : ∀ k, m1.G k ≠ 0 → m1.G k = m.G k ∧ m.G k ≠ 0 := fun k hk => by
    have h : (if m.G k = id + 1 then 0 else m.G k) ≠ 0 := hk
    split at h
    · exact absurd rfl h
    · rename_i h2
      exact ⟨if_neg h2, h⟩
  have hE : Evo ep ep mem (mem.set id none) m m1 w w := by
    refine ⟨Nat.le_refl _, Nat.le_refl _, fun k hk => ⟨q0 k hk.1, rfl⟩, fun k hk hl => ⟨by have := q1 0 k (Ne.symm hne) hk; simpa using this, rfl⟩, fun i bv c hc => .inr ⟨c, hG.2 _ _ hc, rfl⟩, fun i hv cv e rs hc => .inr ⟨cv, rs, hG.2 _ _ hc, rfl⟩, fun i hv cv e rs hc => .inr ⟨hv, e, rs, hG.2 _ _ hc, fun k hk => ⟨⟨q1 i k (old _ _ hc) hk.1, hk.2⟩, rfl⟩⟩, fun i hv cv e rs rs' h1 h2 _ _ => ?_⟩
    obtain ⟨_, _, _, rfl⟩ := rows_inj4 h1 (hG.2 _ _ h2)
    exact NestEq.same (fun _ _ _ => rfl)
  refine ⟨m1, ⟨fun i c hc => (hg.blk i c (hG.2 _ _ hc)).keep hE rfl (fun k hk _ => ⟨q1 i k (old _ _ hc) hk, rfl⟩), fun k hk => ?_, hg.below, hg.hB, dead_stays hG hg.fst⟩, hE, ?_⟩
  · obtain ⟨h1, h2⟩ := q2 k hk
    have := hg.lab k h2
    exact ⟨this.1, this.2.imp (fun e => e) (fun e => h1.trans e)⟩
  · obtain ⟨_, _, cs, f, ho, hG1, hlen, hrep⟩ := hg.blk _ _ hb'
    have hown : Rep z w (roG m w) (fun k => m.G k = id + 1 ∧ k < w.heap.size) (.sl true b.2.1 b.2.2) (m.hd id) := .own cs f ho (fun k hk => ⟨hG1 k hk, ownsRow_lt ho hk⟩) hlen (fun i j row u y a b c => (hrep i j row u y a b c).mono (fun _ h => h) (fun k hk => ⟨⟨hk.1.1, hk.1.2.2⟩, hk.1.2.1, hk.2⟩))
    have he := hown.erase (ok' := fun _ => False)
    refine .ro (he.mono (fun k hk => ?_) (fun _ h => h))
    rcases hk with hk | hk
    · exact ⟨q0 k hk.1, hk.2⟩
    · exact ⟨if_pos hk.1, hk.2⟩
theorem setAt_ok {S S1 : St} {m1 : Mp} {tmps : Array Value} (hg : Good z B w0 S.mem S.ep m w) (hT : Tms z S m w tmps) (htm : S1.tm = S.tm) (h1 : Good z B w0 S1.mem S1.ep m1 w) (hE : Evo S.ep S1.ep S.mem S1.mem m m1 w w)
    (hbx : ∀ (id bv : Nat) (c : List V), S1.mem[id]? = some (some (Blk.box bv c)) → S.mem[id]? = some (some (Blk.box bv c))) {t j : Nat} {u v : V} (hc : cellAt S t j = some u) (hv : ∀ y, RV z S.mem S.ep m w u y → RV z S1.mem S1.ep m1 w v y) :
    ∃ m2, Good z B w0 (setAt S1 t j v).mem (setAt S1 t j v).ep m2 w ∧ Tms z (setAt S1 t j v) m2 w tmps ∧ Evo S.ep (setAt S1 t j v).ep S.mem (setAt S1 t j v).mem m m2 w w := by
  have hT1 : Tms z S1 m1 w tmps := fun t' tv ht => (hT t' tv (by rw [← htm]; exact ht)).evo hE
  unfold cellAt at hc
  unfold setAt
  rw [htm]
  split at hc
  · rename_i id bv off hlk
    simp only [Option.bind_eq_some_iff] at hc
    obtain ⟨cells, hb, hc⟩ := hc
    have hb' := boxOf_some hb
    split
    · rename_i cells1 hb1
      have hb1' := boxOf_some hb1
      have h3 := hbx _ _ _ hb1'
      rw [hb'] at h3
      simp only [Option.some.injEq, Blk.box.injEq, true_and] at h3
      subst h3
      obtain ⟨_, g', T', cs', e1, e2, _, e4, e5⟩ := hg.blk _ _ hb'
      have hbv : bv < S.ep := by assumption
      have hhd : m1.hd id = m.hd id := by
        rcases hE.box _ _ _ hb1' with h | ⟨_, _, h⟩
        · omega
        · exact h
      obtain ⟨p1, p2⟩ := set_good (b := .box bv (cells.set (off + j) v)) (x := m1.hd id) (G := m1.G) (ep' := S1.ep) h1 (Gone.refl _) hb1' (Nat.le_refl _) (Below.refl _ _) (fun _ _ _ => rfl) (fun _ _ => .inl rfl) (fun k hk => by
            refine .inl ?_
            rcases Nat.eq_zero_or_pos (m1.G k) with h | h
            · exact h
            · have := (h1.lab k (by omega)).1; omega)
          (fun bv' c hc' => by cases hc'; exact .inr ⟨_, rfl, rfl⟩) (fun _ _ _ _ h => by cases h) (fun _ _ _ _ h => by cases h) (fun _ _ _ _ _ h => by cases h)
          (fun hE2 => by
            obtain ⟨g0, g, T, cs, g1, g2, g3, g4, g5⟩ := h1.blk _ _ hb1'
            refine ⟨g0, g, T, cs, by rw [Mp.add_same]; exact g1, g2, g3, by rw [g4, List.length_set], fun i x y a b => ?_⟩
            by_cases hi : i = off + j
            · subst hi
              have hl2 := (List.getElem?_eq_some_iff.1 hc).1
              rw [List.getElem?_set_self hl2] at a
              simp only [Option.some.injEq] at a
              subst a
              have hgg : g' = g := by
                rw [hhd, e1] at g1
                simpa using g1
              subst hgg
              have hcs : cs' = cs := by
                rw [e2] at g2
                simp only [Option.some.injEq, Obj.cells.injEq] at g2
                exact g2.1
              subst hcs
              exact (hv y (e5 _ u y hc b)).evo hE2
            · rw [List.getElem?_set_ne (fun e => hi e.symm)] at a
              exact (g5 i x y a b).evo hE2)
      exact ⟨_, p1, fun t' tv ht => (hT1 t' tv (by rw [htm]; exact ht)).evo p2, hE.trans p2⟩
    · exact ⟨m1, h1, hT1, hE⟩
  · rename_i cs hlk
    simp only [hlk]
    refine ⟨m1, h1, fun t' tv ht => ?_, hE⟩
    simp only [look] at ht
    split at ht
    · rename_i htt
      subst htt
      simp only [Option.some.injEq] at ht
      subst ht
      have h0 := hT t _ hlk
      generalize tmps.getD t undef = y at h0
      cases h0 with
      | agg hs h =>
        refine .agg (by simpa using hs) (fun i x y a b => ?_)
        by_cases hi : i = j
        · subst hi
          have hl2 := (List.getElem?_eq_some_iff.1 hc).1
          rw [List.getElem?_set_self hl2] at a
          simp only [Option.some.injEq] at a
          subst a
          exact hv y (h _ u y hc b)
        · rw [List.getElem?_set_ne (fun e => hi e.symm)] at a
          exact (h i x y a b).evo hE
    · exact hT1 t' tv (by rw [htm]; exact ht)
  · rename_i v0 hnb hlk
    simp only [Option.some.injEq] at hc
    subst hc
    simp only [hlk]
    refine ⟨m1, h1, fun t' tv ht => ?_, hE⟩
    simp only [look] at ht
    split at ht
    · rename_i htt
      subst htt
      simp only [Option.some.injEq] at ht
      subst ht
      have h0 := hT t _ hlk
      generalize tmps.getD t undef = y at h0
      cases h0 with
      | one h => exact .one (hv y h)
    · exact hT1 t' tv (by rw [htm]; exact ht)
  · cases hc
theorem hint1_ok {S : St} {tmps : Array Value} (hg : Good z B w0 S.mem S.ep m w) (hT : Tms z S m w tmps) (kind t j x : Nat) : ∃ m', Good z B w0 (hint1 kind t j x S).mem (hint1 kind t j x S).ep m' w ∧ Tms z (hint1 kind t j x S) m' w tmps ∧ Evo S.ep (hint1 kind t j x S).ep S.mem (hint1 kind t j x S).mem m m' w w := by
  have triv : ∃ m', Good z B w0 S.mem S.ep m' w ∧ Tms z S m' w tmps ∧ Evo S.ep S.ep S.mem S.mem m m' w w := ⟨m, hg, hT, Evo.refl⟩
  unfold hint1
  split
  · rename_i hc
    split
    · obtain ⟨m1, h1, h2, h3⟩ := nil_new hg x
      refine setAt_ok (S1 := ⟨S.tm, S.mem ++ [some (.rows S.ep S.ep x [])], S.ep + 1⟩) hg hT rfl h1 h2 (fun id bv c h => ?_) hc (fun y hy => ?_)
      · simp only at h
        rcases Nat.lt_or_ge id S.mem.length with hi | hi
        · rwa [List.getElem?_append_left hi] at h
        · rw [List.getElem?_append_right hi] at h
          cases hd : id - S.mem.length with
          | zero => rw [hd] at h; simp at h
          | succ n => rw [hd] at h; simp at h
      · have : y = .slice none 0 0 := by cases hy with | lit _ => rfl
        subst this
        exact .ow (Nat.lt_succ_self _) rfl (fun _ _ _ _ => h3.symm)
    · split
      · refine setAt_ok (S1 := S) hg hT rfl hg Evo.refl (fun _ _ _ h => h) hc (fun y hy => ?_)
        have : y = .slice none 0 0 := by cases hy with | lit _ => rfl
        subst this
        exact .ro (.roS ⟨0, 0, none⟩ (fun _ _ => .bool false) (Nat.zero_le _) (by simp [maxLen]) (by simp) (fun hn => absurd rfl hn) (by simp) (by simp) (by simp))
      · exact triv
  · rename_i id hv hc
    split
    · rename_i b hb
      have hb' := rowsH_some hb
      have hlt : id < S.mem.length := (List.getElem?_eq_some_iff.1 hb').1
      have hne : id ≠ 0 := by
        rintro rfl
        rw [hg.fst] at hb'
        cases hb'
      split
      · split
        · rename_i hx
          have hG : Gone S.mem ((S.mem.set id none).set x none) := (Gone.set _ _).trans (Gone.set _ _)
          have hxl : ((S.mem.set id none).set x none)[x]? = some none := List.getElem?_set_self (by simpa using hx.2)
          obtain ⟨_, _, cs, f, ho, hG1, hlen, hrep⟩ := hg.blk _ _ hb'
          have q1 : ∀ k, m.G k = id + 1 → (if m.G k = id + 1 then x + 1 else m.G k) = x + 1 := fun k hk => if_pos hk
          obtain ⟨p1, p2⟩ := put_good (b := .rows S.ep S.ep b.2.1 b.2.2) (x := m.hd id) (G := fun k => if m.G k = id + 1 then x + 1 else m.G k) hg hG hxl (by omega) ⟨rfl, rfl⟩ (fun k => by
              by_cases hk : m.G k = id + 1
              · refine .inr ⟨if_pos hk, by omega, by omega, ?_⟩
                rw [hk]
                show ((S.mem.set id none).set x none)[id]? = some none
                by_cases hxi : x = id
                · subst hxi; exact hxl
                · rw [List.getElem?_set_ne hxi, List.getElem?_set_self hlt]
              · exact .inl (if_neg hk))
            (fun hE => by
              refine ⟨by omega, by omega, cs, f, by rw [Mp.add_same]; exact ho, fun k hk => ?_, hlen, fun i j row u y a b c => ?_⟩
              · rw [Mp.add_same] at hk
                exact q1 k (hG1 k hk)
              · refine (hrep i j row u y a b c).mono (fun k hk => ⟨?_, hk.2⟩) (fun k hk => ⟨⟨q1 k hk.1.1, by rw [Mp.add_same]; exact hk.1.2.1, hk.1.2.2⟩, hk.2⟩)
                show (if m.G k = id + 1 then x + 1 else m.G k) = 0
                rw [if_neg (by have := hk.1; omega)]
                exact hk.1)
          refine setAt_ok (S1 := ⟨S.tm, ((S.mem.set id none).set x none).set x (some (.rows S.ep S.ep b.2.1 b.2.2)), S.ep + 1⟩) hg hT rfl p1 p2 (fun i bv c h => ?_) hc (fun y hy => ?_)
          · simp only at h
            by_cases hxi : i = x
            · subst hxi
              rw [List.getElem?_set_self (by simpa using hx.2)] at h
              simp at h
            · rw [List.getElem?_set_ne (Ne.symm hxi)] at h
              exact hG.2 _ _ h
          · cases hy with
            | ow h1 h2 h3 => exact .ow (Nat.lt_succ_self _) h2 (fun _ _ _ _ => by rw [Mp.add_same]; exact h3 _ _ _ hb')
        · exact triv
      · split
        · obtain ⟨m1, h1, h2, h3⟩ := free_good hg hb
          refine setAt_ok (S1 := ⟨S.tm, S.mem.set id none, S.ep⟩) hg hT rfl h1 h2 (fun i bv c h => (Gone.set _ _).2 _ _ h) hc (fun y hy => ?_)
          cases hy with
          | ow _ _ h5 =>
            rw [h5 _ _ _ hb']
            exact h3
        · exact triv
    · exact triv
  · exact triv
theorem nzRow_get {j x i : Nat} {row : List V} {u : V} (h : (nzRow j x row)[i]? = some u) : row[i]? = some u ∨ (row[i]? = some (.lit (.slice none 0 0)) ∧ u = .sl true x []) := by
  unfold nzRow at h
  split at h
  · rename_i hj
    by_cases hi : i = j
    · subst hi
      rw [List.getElem?_set_self (List.getElem?_eq_some_iff.1 hj).1] at h
      exact .inr ⟨hj, (Option.some.inj h).symm⟩
    · rw [List.getElem?_set_ne (Ne.symm hi)] at h
      exact .inl h
  · exact .inl h
theorem nzRow_len (j x : Nat) (row : List V) : (nzRow j x row).length = row.length := by
  unfold nzRow
  split <;> simp
theorem nzRow_own {j x i e2 : Nat} {row : List V} {r2 : List (List V)} (h : row[i]? = some (.sl true e2 r2)) : (nzRow j x row)[i]? = some (.sl true e2 r2) := by
  unfold nzRow
  split
  · rename_i hj
    by_cases hi : i = j
    · subst hi
      rw [h] at hj
      cases hj
    · rw [List.getElem?_set_ne (Ne.symm hi)]
      exact h
  · exact h
theorem hint4_ok {S : St} {tmps : Array Value} (hg : Good z B w0 S.mem S.ep m w) (hT : Tms z S m w tmps) (t j x : Nat) : ∃ m', Good z B w0 (hint4 t j x S).mem (hint4 t j x S).ep m' w ∧ Tms z (hint4 t j x S) m' w tmps ∧ Evo S.ep (hint4 t j x S).ep S.mem (hint4 t j x S).mem m m' w w := by
  have triv : ∃ m', Good z B w0 S.mem S.ep m' w ∧ Tms z S m' w tmps ∧ Evo S.ep S.ep S.mem S.mem m m' w w := ⟨m, hg, hT, Evo.refl⟩
  unfold hint4
  split
  · rename_i id hv hlk
    split
    · rename_i b hb
      have hb' := rowsH_some hb
      obtain ⟨q0, q00, cs, f, ho, hG1, hlen, hrep⟩ := hg.blk _ _ hb'
      have lenr : ∀ row ∈ b.2.2.map (nzRow j x), row.length = z b.2.1 := by
        intro row hr
        obtain ⟨r0, h1, rfl⟩ := List.mem_map.1 hr
        rw [nzRow_len]
        exact hlen r0 h1
      obtain ⟨p1, p2⟩ := set_good (b := .rows hv b.1 b.2.1 (b.2.2.map (nzRow j x))) (x := m.hd id) (G := m.G) (ep' := S.ep) hg (Gone.refl _) hb' (Nat.le_refl _) (Below.refl _ _) (fun _ _ _ => rfl) (fun _ _ => .inl rfl) (fun k hk => by
            refine .inl ?_
            rcases Nat.eq_zero_or_pos (m.G k) with h | h
            · exact h
            · have := (hg.lab k (by omega)).1; omega)
          (fun _ _ h => by cases h) (fun hv' cv' e' rs' h => by cases h; exact .inr ⟨_, _, rfl, rfl⟩)
          (fun hv' cv' e' rs' h => by
            cases h
            exact .inr ⟨_, _, _, rfl, fun k hk => ⟨⟨hk.1, by rw [Mp.add_same]; exact hk.2.1, hk.2.2⟩, rfl⟩⟩)
          (fun hv' cv' e' rs rs' h1 h2 _ _ => by
            cases h1
            cases h2
            intro i i2 row e2 r2 a1 a2
            refine ⟨⟨nzRow j x row, r2, by rw [List.getElem?_map, a1]; rfl, nzRow_len _ _ _, nzRow_own a2⟩, fun g y _ hy => hy⟩)
          (fun hE => by
            refine ⟨q0, q00, cs, f, by rw [Mp.add_same, List.length_map]; exact ho, fun k hk => hG1 k (by rw [Mp.add_same] at hk; exact hk), lenr, fun i i2 row u y a1 a2 a3 => ?_⟩
            rw [List.getElem?_map] at a1
            obtain ⟨r0, h1, rfl⟩ := Option.map_eq_some_iff.1 a1
            have mono : ∀ v, Rep z w (roG m w) (fun k => inG m w id k ∧ f k = (i, i2)) v y → Rep z w (roG (m.add id (m.hd id) m.G) w) (fun k => inG (m.add id (m.hd id) m.G) w id k ∧ f k = (i, i2)) v y := fun v h => h.mono (fun _ h => h) (fun k hk => ⟨⟨hk.1.1, by rw [Mp.add_same]; exact hk.1.2.1, hk.1.2.2⟩, hk.2⟩)
            rcases nzRow_get a2 with h2 | ⟨h2, rfl⟩
            · exact mono _ (hrep i i2 r0 u y h1 h2 a3)
            · have h3 := hrep i i2 r0 _ y h1 h2 a3
              have hy : y = .slice none 0 0 := by cases h3 with | lit _ => rfl
              subst hy
              exact .own [] (fun _ => (0, 0)) ⟨by simp, .inl ⟨rfl, rfl⟩⟩ (by simp [Value.ownBlock]) (by simp) (by simp))
      exact ⟨_, p1, fun t' tv ht => (hT t' tv ht).evo p2, p2⟩
    · exact triv
  · exact triv
theorem hintS_ok {tmps : Array Value} : ∀ (n : Nat) (l : List Nat) (S : St) (m : Mp), l.length ≤ n → Good z B w0 S.mem S.ep m w → Tms z S m w tmps → ∃ m', Good z B w0 (hintS l S).mem (hintS l S).ep m' w ∧ Tms z (hintS l S) m' w tmps ∧ Evo S.ep (hintS l S).ep S.mem (hintS l S).mem m m' w w := by
  intro n
  induction n with
  | zero =>
    intro l S m hl hg hT
    have : l = [] := List.length_eq_zero_iff.1 (by omega)
    subst this
    exact ⟨m, hg, hT, Evo.refl⟩
  | succ n ih =>
    intro l S m hl hg hT
    match l with
    | [] => exact ⟨m, hg, hT, Evo.refl⟩
    | [_] => exact ⟨m, hg, hT, Evo.refl⟩
    | [_, _] => exact ⟨m, hg, hT, Evo.refl⟩
    | [_, _, _] => exact ⟨m, hg, hT, Evo.refl⟩
    | k :: t :: j :: x :: r =>
      have key : ∃ m1, Good z B w0 (if k = 4 then hint4 t j x S else hint1 k t j x S).mem (if k = 4 then hint4 t j x S else hint1 k t j x S).ep m1 w ∧ Tms z (if k = 4 then hint4 t j x S else hint1 k t j x S) m1 w tmps ∧ Evo S.ep (if k = 4 then hint4 t j x S else hint1 k t j x S).ep S.mem (if k = 4 then hint4 t j x S else hint1 k t j x S).mem m m1 w w := by
        split
        · exact hint4_ok hg hT t j x
        · exact hint1_ok hg hT k t j x
      obtain ⟨m1, h1, h2, h3⟩ := key
      obtain ⟨m2, h4, h5, h6⟩ := ih r _ m1 (by simp at hl; omega) h1 h2
      exact ⟨m2, h4, h5, h3.trans h6⟩
theorem finH_ok {tmps : Array Value} (ann : List Nat × Nat) {S : St} {m : Mp} (hg : Good z B w0 S.mem S.ep m w) (hT : Tms z S m w tmps) : ∃ m', Good z B w0 (finH ann S).mem (finH ann S).ep m' w ∧ Tms z (finH ann S) m' w tmps ∧ Evo S.ep (finH ann S).ep S.mem (finH ann S).mem m m' w w := by
  unfold finH
  split
  · exact hintS_ok _ _ _ _ (Nat.le_refl _) hg hT
  · exact ⟨m, hg, hT, Evo.refl⟩
theorem finH_ends {S S' : St} {a' : Act} {w' : World} (ann : List Nat × Nat) (h : Ends P B w0 nt S S' m w a' w') : Ends P B w0 nt S (finH ann S') m w a' w' := by
  obtain ⟨h1, h2, m', h3, h4, h5⟩ := h
  obtain ⟨m2, h6, h7, h8⟩ := finH_ok ann h3 h4
  exact ⟨h1, h2, m2, h6, h7, h5.trans h8⟩
theorem keep_ends {S S' : St} {a' : Act} {w' : World} {n0 : Nat} (hn0 : 0 < n0) (ann : List Nat × Nat) (h : Ends P B w0 nt S S' m w a' w') : Ends P B w0 nt S (keep n0 ann S') m w a' w' := by
  obtain ⟨hs1, hde1, m1, q1, q2, q3⟩ := h
  have hsub : Sub S'.mem (keep n0 ann S').mem := Sub.take _ _
  exact ⟨hs1, hde1, m1, hsub.good (by have h6 := q1.fst; show (S'.mem.take (n0 + ann.2))[0]? = _; rw [List.getElem?_take, if_pos (by omega)]; exact h6) q1, fun t tv ht => (q2 t tv (look_keep _ _ _ _ ht)).evo hsub.evo, q3.trans (hsub.evo (ep := S'.ep))⟩
theorem fin_ends {S S' : St} {a' : Act} {w' : World} (ann : List Nat × Nat) (h : Ends P B w0 nt S S' m w a' w') : Ends P B w0 nt S (fin ann S') m w a' w' := by
  unfold fin
  split
  · obtain ⟨h1, h2, m', h3, h4, h5⟩ := h
    obtain ⟨m2, h6, h7, h8⟩ := nilS_ok _ _ _ _ (Nat.le_refl _) h3 h4
    exact ⟨h1, h2, m2, h6, h7, h5.trans h8⟩
  · exact finH_ends ann h

theorem exec_sound (hcal : CalOk P B w0 cal) (hm : P.follows .mixedOrders = true) {k n0 : Nat} (hn0 : 0 < n0) {lm : Nat → List Nat × Nat} : ∀ (c : Code) (b : Nat) {S : St} {x : X} {S' : St} {m : Mp} {w : World} {a : Act}, exec P cal k n0 lm b c S = some (x, S') →
    Good P.cellsOf B w0 S.mem S.ep m w → Tms P.cellsOf S m w a.tmps → a.tmps.size = nt → a.defers = [] → dsts nt c = true → c.wp P (fun e a' w' => e = exitOf x ∧ Ends P B w0 nt S S' m w a' w') a w := by
  intro c
  induction c with
  | skip =>
    intro b S x S' m w a h hg hT hs hde hd
    simp only [exec, Option.some.injEq, Prod.mk.injEq] at h
    obtain ⟨rfl, rfl⟩ := h
    exact wp_skip ⟨rfl, hs, hde, m, hg, hT, Evo.refl⟩
  | region id ops draw =>
    intro b S x S' m w a h hg hT hs hde hd
    simp only [exec, Option.bind_eq_some_iff, Option.some.injEq, Prod.mk.injEq] at h
    obtain ⟨⟨x1, S1⟩, h, e1, rfl⟩ := h
    simp only at e1
    subst e1
    have hx : x1 = .norm := by
      cases draw
      · simp only [Bool.false_eq_true, if_false, Option.bind_eq_some_iff, Option.some.injEq, Prod.mk.injEq] at h
        obtain ⟨_, _, h, _⟩ := h
        exact h.symm
      · simp only [if_true, Option.bind_eq_some_iff, Option.some.injEq, Prod.mk.injEq] at h
        obtain ⟨_, _, _, _, _, _, h, _⟩ := h
        exact h.symm
    subst hx
    exact region_sound hcal hm h hg hT hs hde hd (fun c a w hq => by cases hq.1) (fun a' w' he => ⟨rfl, fin_ends _ he⟩)
  | seq c1 c2 ih1 ih2 =>
    intro b S x S' m w a h hg hT hs hde hd
    simp only [exec, Option.bind_eq_some_iff] at h
    obtain ⟨⟨x1, S1⟩, h1, h2⟩ := h
    simp only [dsts, Bool.and_eq_true] at hd
    refine wp_seq (wp_mono (ih1 b h1 hg hT hs hde hd.1) (fun e a1 w1 he => ?_))
    obtain ⟨rfl, hs1, hde1, m1, g1, g2, g3⟩ := he
    cases x1 with
    | norm =>
      simp only at h2
      exact wp_mono (ih2 b h2 g1 g2 hs1 hde1 hd.2) (fun e a2 w2 ⟨he, hen⟩ => ⟨he, hen.trans g3⟩)
    | exit id =>
      simp only [Option.some.injEq, Prod.mk.injEq] at h2
      obtain ⟨rfl, rfl⟩ := h2
      exact ⟨rfl, hs1, hde1, m1, g1, g2, g3⟩
    | ret =>
      simp only [Option.some.injEq, Prod.mk.injEq] at h2
      obtain ⟨rfl, rfl⟩ := h2
      exact ⟨rfl, hs1, hde1, m1, g1, g2, g3⟩
  | cond c c1 c2 ih1 ih2 =>
    intro b S x S' m w a h hg hT hs hde hd
    simp only [exec, Option.bind_eq_some_iff] at h
    obtain ⟨v, hv, h⟩ := h
    simp only [dsts, Bool.and_eq_true] at hd
    split at h
    · rename_i t
      have hc := (evL_eq hT hv).1
      cases t with
      | true => exact wp_cond_true hc (ih1 b (by simpa using h) hg hT hs hde hd.1)
      | false => exact wp_cond_false hc (ih2 b (by simpa using h) hg hT hs hde hd.2)
    · cases h
  | block id c ih =>
    intro b S x S' m w a h hg hT hs hde hd
    simp only [exec, Option.bind_eq_some_iff] at h
    obtain ⟨⟨x1, S1⟩, h1, h2⟩ := h
    refine wp_block (wp_mono (ih id h1 hg hT hs hde hd) (fun e a1 w1 he => ?_))
    obtain ⟨rfl, hen⟩ := he
    cases x1 with
    | norm =>
      simp only [Option.some.injEq, Prod.mk.injEq] at h2
      obtain ⟨rfl, rfl⟩ := h2
      exact ⟨rfl, hen⟩
    | exit id' =>
      simp only at h2
      simp only [exitOf, Exit.inBlock]
      split at h2
      · rename_i he
        simp only [Option.some.injEq, Prod.mk.injEq] at h2
        obtain ⟨rfl, rfl⟩ := h2
        rw [if_pos he]
        exact ⟨rfl, hen⟩
      · rename_i he
        simp only [Option.some.injEq, Prod.mk.injEq] at h2
        obtain ⟨rfl, rfl⟩ := h2
        rw [if_neg he]
        exact ⟨rfl, hen⟩
    | ret =>
      simp only [Option.some.injEq, Prod.mk.injEq] at h2
      obtain ⟨rfl, rfl⟩ := h2
      exact ⟨rfl, hen⟩
  | loop c ih =>
    intro b S x S' m w a h hg hT hs hde hd
    simp only [exec] at h
    split at h
    · simp only [Option.bind_eq_some_iff, Option.some.injEq] at h
      obtain ⟨⟨x0, S0⟩, h, hxx⟩ := h
      suffices hW : (Code.loop c).wp P (fun e a' w' => e = exitOf x0 ∧ Ends P B w0 nt S S0 m w a' w') a w by
        refine wp_mono hW (fun e a1 w1 he => ?_)
        obtain ⟨rfl, hen⟩ := he
        unfold endF at hxx
        cases x0 with
        | ret =>
          simp only [Prod.mk.injEq] at hxx
          obtain ⟨rfl, rfl⟩ := hxx
          exact ⟨rfl, hen⟩
        | norm =>
          simp only [Prod.mk.injEq] at hxx
          obtain ⟨rfl, rfl⟩ := hxx
          exact ⟨rfl, keep_ends hn0 _ (finH_ends _ hen)⟩
        | exit id =>
          simp only [Prod.mk.injEq] at hxx
          obtain ⟨rfl, rfl⟩ := hxx
          exact ⟨rfl, keep_ends hn0 _ (finH_ends _ hen)⟩
      refine wp_loop_fuel (fun n a1 w1 => ∃ S1, iterF (fun S => exec P cal k n0 lm b c S) (keepF n0 lm b) n S1 = some (x0, S0) ∧ Ends P B w0 nt S S1 m w a1 w1)
        (fun a1 w1 ⟨S1, hi, _⟩ => by simp [iterF] at hi) (fun n a1 w1 hI => ?_) (n := k) ⟨S, h, hs, hde, m, hg, hT, Evo.refl⟩
      obtain ⟨S1, hi, hen⟩ := hI
      simp only [iterF, Option.bind_eq_some_iff] at hi
      obtain ⟨⟨x2, S2⟩, h1, h2⟩ := hi
      obtain ⟨g3, g4, m1, g1, g2, g5⟩ : Ends P B w0 nt S (keepF n0 lm b S1) m w a1 w1 := keep_ends hn0 _ (finH_ends _ hen)
      refine wp_mono (ih b h1 g1 g2 g3 g4 hd) (fun e a2 w2 he => ?_)
      obtain ⟨rfl, hs2, hde2, m2, q1, q2, q3⟩ := he
      have hev := g5.trans q3
      cases x2 with
      | norm => exact ⟨S2, h2, hs2, hde2, m2, q1, q2, hev⟩
      | exit id =>
        simp only [Option.some.injEq, Prod.mk.injEq] at h2
        obtain ⟨rfl, rfl⟩ := h2
        exact ⟨rfl, hs2, hde2, m2, q1, q2, hev⟩
      | ret =>
        simp only [Option.some.injEq, Prod.mk.injEq] at h2
        obtain ⟨rfl, rfl⟩ := h2
        exact ⟨rfl, hs2, hde2, m2, q1, q2, hev⟩
    simp only [Option.bind_eq_some_iff, Option.some.injEq, Prod.mk.injEq] at h
    obtain ⟨⟨x0, S0⟩, h, hxx, rfl⟩ := h
    simp only at hxx
    subst hxx
    suffices hW : (Code.loop c).wp P (fun e a' w' => e = exitOf x0 ∧ Ends P B w0 nt S S0 m w a' w') a w by
      refine wp_mono hW (fun e a1 w1 he => ?_)
      obtain ⟨rfl, hs1, hde1, m1, q1, q2, q3⟩ := he
      have hsub : Sub S0.mem (keep n0 (lm b) S0).mem := Sub.take _ _
      refine ⟨rfl, hs1, hde1, m1, hsub.good (by have h6 := q1.fst; show (S0.mem.take (n0 + (lm b).2))[0]? = _; rw [List.getElem?_take, if_pos (by omega)]; exact h6) q1, fun t tv ht => (q2 t tv (look_keep _ _ _ _ ht)).evo hsub.evo, q3.trans (hsub.evo (ep := S0.ep))⟩
    refine wp_loop_fuel (fun n a1 w1 => ∃ S1 m1, iter (fun S => exec P cal k n0 lm b c (keep n0 (lm b) S)) n S1 = some (x0, S0) ∧ Good P.cellsOf B w0 S1.mem S1.ep m1 w1 ∧ Tms P.cellsOf S1 m1 w1 a1.tmps ∧ a1.tmps.size = nt ∧ a1.defers = [] ∧ Evo S.ep S1.ep S.mem S1.mem m m1 w w1)
      (fun a1 w1 ⟨S1, m1, hi, _⟩ => by simp [iter] at hi) (fun n a1 w1 hI => ?_) (n := k) ⟨S, m, h, hg, hT, hs, hde, Evo.refl⟩
    obtain ⟨S1, m1, hi, g1, g2, g3, g4, g5⟩ := hI
    simp only [iter, Option.bind_eq_some_iff] at hi
    obtain ⟨⟨x2, S2⟩, h1, h2⟩ := hi
    have hsub : Sub S1.mem (keep n0 (lm b) S1).mem := Sub.take _ _
    have hTk : Tms P.cellsOf (keep n0 (lm b) S1) m1 w1 a1.tmps := fun t tv ht => (g2 t tv (look_keep _ _ _ _ ht)).evo hsub.evo
    refine wp_mono (ih b h1 (hsub.good (by have h6 := g1.fst; show (S1.mem.take (n0 + (lm b).2))[0]? = _; rw [List.getElem?_take, if_pos (by omega)]; exact h6) g1) hTk g3 g4 hd) (fun e a2 w2 he => ?_)
    obtain ⟨rfl, hs2, hde2, m2, q1, q2, q3⟩ := he
    have hev : Evo S.ep S2.ep S.mem S2.mem m m2 w w2 := (g5.trans (hsub.evo (ep := S1.ep))).trans q3
    cases x2 with
    | norm => exact ⟨S2, m2, h2, q1, q2, hs2, hde2, hev⟩
    | exit id =>
      simp only [Option.some.injEq, Prod.mk.injEq] at h2
      obtain ⟨rfl, rfl⟩ := h2
      exact ⟨rfl, hs2, hde2, m2, q1, q2, hev⟩
    | ret =>
      simp only [Option.some.injEq, Prod.mk.injEq] at h2
      obtain ⟨rfl, rfl⟩ := h2
      exact ⟨rfl, hs2, hde2, m2, q1, q2, hev⟩
  | exit id =>
    intro b S x S' m w a h hg hT hs hde hd
    simp only [exec, Option.some.injEq, Prod.mk.injEq] at h
    obtain ⟨rfl, rfl⟩ := h
    exact wp_exit ⟨rfl, hs, hde, m, hg, hT, Evo.refl⟩
  | ret =>
    intro b S x S' m w a h hg hT hs hde hd
    simp only [exec, Option.some.injEq, Prod.mk.injEq] at h
    obtain ⟨rfl, rfl⟩ := h
    exact wp_ret ⟨rfl, hs, hde, m, hg, hT, Evo.refl⟩
  | _ =>
    intro b S x S' m w a h
    simp [exec] at h

/-- What a result stands for. -/
def resF (tmps : Array Value) : ResultVar → Sem Value
  | .tmp t => pure (tmps.getD t undef)
  | .cell a t => do loadVar t (← asAddr (tmps.getD a undef))
theorem resL_run {S : St} {m : Mp} {w : World} {tmps : Array Value} (hg : Good P.cellsOf B w0 S.mem S.ep m w) (hT : Tms P.cellsOf S m w tmps) : ∀ (l : List ResultVar) (tvs : List TV), resL P S l = some tvs →
    ∃ vs : List Value, (l.mapM (resF tmps)).run P w = .ok vs w ∧ vs.length = tvs.length ∧
      ∀ (j : Nat) (u : TV) (y : Value), tvs[j]? = some u → vs[j]? = some y → RTV P.cellsOf S.mem S.ep m w u y := by
  intro l
  induction l with
  | nil => intro tvs h; simp only [resL, Option.some.injEq] at h; subst h; exact ⟨[], by simp, rfl, by simp⟩
  | cons x l ih =>
    intro tvs h
    simp only [resL, Option.bind_eq_some_iff, Option.some.injEq] at h
    obtain ⟨tv, htv, tvs', htvs, rfl⟩ := h
    obtain ⟨vs, h1, h2, h3⟩ := ih tvs' htvs
    have fin : ∀ (v : Value), (resF tmps x).run P w = .ok v w → RTV P.cellsOf S.mem S.ep m w tv v →
        ∃ vs : List Value, ((x :: l).mapM (resF tmps)).run P w = .ok vs w ∧ vs.length = (tv :: tvs').length ∧
          ∀ (j : Nat) (u : TV) (y : Value), (tv :: tvs')[j]? = some u → vs[j]? = some y → RTV P.cellsOf S.mem S.ep m w u y := by
      intro v hv hr
      refine ⟨v :: vs, ?_, by simp [h2], fun j u y a b => ?_⟩
      · rw [List.mapM_cons]
        simp only [Sem.run_bind, hv, Result.andThen_ok, h1, Sem.run_pure]
      · cases j with
        | zero => simp at a b; subst a; subst b; exact hr
        | succ j => simp at a b; exact h3 j u y a b
    cases x with
    | tmp t => exact fin _ rfl (hT t tv htv)
    | cell a T =>
      simp only [resV] at htv
      split at htv
      · cases htv
      · rename_i h0
        simp only [Option.bind_eq_some_iff] at htv
        obtain ⟨p, hp, hl⟩ := htv
        have hrp : RV P.cellsOf S.mem S.ep m w p (tmps.getD a undef) := by
          unfold ev1 at hp
          split at hp
          · rename_i v' he
            simp only [Option.some.injEq] at hp
            subst hp
            have := hT a _ he
            cases this with
            | one h => exact h
          · cases hp
        obtain ⟨v, hv, hr⟩ := loadV_run hg hrp hl h0
        refine fin v ?_ hr
        have := hv w (Ext.refl w)
        unfold Instr.loadAt at this
        show (do loadVar T (← asAddr (tmps.getD a undef)) : Sem Value).run P w = .ok v w
        generalize tmps.getD a undef = y at this hrp ⊢
        cases y with
        | pointer o =>
          cases o with
          | none => simp [Instr.sureAddr, stuck, Sem.run] at this
          | some ad => simpa [Instr.sureAddr, asAddr] using this
        | _ => simp [Instr.sureAddr, stuck, Sem.run] at this

theorem slots_look : ∀ (args : List TV) (k t : Nat) (v : TV), look (slots k args) t = some v → k ≤ t ∧ args[t - k]? = some v := by
  intro args
  induction args with
  | nil => intro k t v h; simp [slots, look] at h
  | cons x args ih =>
    intro k t v h
    simp only [slots, look] at h
    split at h
    · rename_i he
      subst he
      simpa using h
    · rename_i he
      obtain ⟨h1, h2⟩ := ih (k + 1) t v h
      refine ⟨by omega, ?_⟩
      obtain ⟨d, rfl⟩ : ∃ d, t = k + 1 + d := ⟨t - (k + 1), by omega⟩
      rw [show k + 1 + d - k = d + 1 from by omega]
      rw [show k + 1 + d - (k + 1) = d from by omega] at h2
      simpa using h2

/-- What a function's body does. -/
theorem body_sound (hcal : CalOk P B w0 cal) (hm : P.follows .mixedOrders = true) {f : Nat} {fn : Func} {c : Code} (hf : P.funcs[f]? = some fn) (hb : fn.body = some c) (hd : dsts fn.ntmps c = true) {args : List TV} {ys : Array Value} (hsz : ys.size ≤ fn.ntmps) (hl : ys.size = args.length)
    {k : Nat} {lm : Nat → List Nat × Nat} {mem : Mem} {ep : Nat} {r : TV × Mem × Nat} (h : body P cal k lm fn args mem ep = some r) {m : Mp} {w : World} (hg : Good P.cellsOf B w0 mem ep m w)
    (ha : ∀ (j : Nat) (v : TV) (y : Value), args[j]? = some v → ys[j]? = some y → RTV P.cellsOf mem ep m w v y) :
    Calls P f ys w fun e w' => ∃ v, e = .returned v ∧ ∃ m', RTV P.cellsOf r.2.1 r.2.2 m' w' r.1 v ∧ Good P.cellsOf B w0 r.2.1 r.2.2 m' w' ∧ Evo ep r.2.2 mem r.2.1 m m' w w' := by
  unfold body at h
  simp only [hb, Option.bind_some, Option.bind_eq_some_iff] at h
  obtain ⟨⟨x, S'⟩, hex, h⟩ := h
  obtain ⟨tv, htv, hr⟩ : ∃ tv, resT P (finH (lm 5000000) S') fn = some tv ∧ r = (tv, (finH (lm 5000000) S').mem, (finH (lm 5000000) S').ep) ∧ (x = .norm ∨ x = .ret) := by
    cases x with
    | exit id => cases h
    | norm =>
      simp only [Option.bind_eq_some_iff, Option.some.injEq] at h
      obtain ⟨v, hv, rfl⟩ := h
      exact ⟨v, hv, rfl, .inl rfl⟩
    | ret =>
      simp only [Option.bind_eq_some_iff, Option.some.injEq] at h
      obtain ⟨v, hv, rfl⟩ := h
      exact ⟨v, hv, rfl, .inr rfl⟩
  obtain ⟨rfl, hx⟩ := hr
  have hT : Tms P.cellsOf ⟨slots 0 args, mem, ep⟩ m w (ys ++ Array.replicate (fn.ntmps - ys.size) undef) := by
    intro t v ht
    obtain ⟨_, h2⟩ := slots_look _ _ _ _ ht
    simp only [Nat.sub_zero] at h2
    have hlt : t < ys.size := by rw [hl]; exact (List.getElem?_eq_some_iff.1 h2).1
    have e1 : (ys ++ Array.replicate (fn.ntmps - ys.size) undef).getD t undef = ys[t] := by
      simp [Array.getElem?_append_left hlt, hlt]
    rw [e1]
    exact ha t v _ h2 (Array.getElem?_eq_getElem hlt)
  refine calls_of_wp hf hb (wp_mono (exec_sound (nt := fn.ntmps) hcal hm (List.getElem?_eq_some_iff.1 hg.fst).1 c 0 hex hg hT (by simp; omega) rfl hd) (fun e a' w' he => ?_))
  obtain ⟨rfl, hen⟩ := he
  obtain ⟨hs', hde', m', g1, g2, g3⟩ := finH_ends (lm 5000000) hen
  generalize finH (lm 5000000) S' = S' at g1 g2 g3 htv ⊢
  have key : ∃ v, (results fn a'.tmps).run P w' = .ok v w' ∧ RTV P.cellsOf S'.mem S'.ep m' w' tv v := by
    unfold resT at htv
    simp only [Option.bind_eq_some_iff] at htv
    obtain ⟨tvs, htvs, htv⟩ := htv
    obtain ⟨vs, h1, h2, h3⟩ := resL_run g1 g2 _ _ htvs
    have hres : results fn a'.tmps = (do let vs ← fn.results.mapM (resF a'.tmps); pure (if h : vs.size = 1 then vs[0] else .tuple vs)) := rfl
    rw [hres, Array.mapM_eq_mapM_toList]
    refine ⟨if h : vs.toArray.size = 1 then vs.toArray[0] else .tuple vs.toArray, ?_, ?_⟩
    · simp only [Sem.run_bind, Sem.run_map, h1]
      rfl
    · split at htv
      · rename_i v
        simp only [Option.some.injEq] at htv
        subst htv
        obtain ⟨y, rfl⟩ : ∃ y, vs = [y] := List.length_eq_one_iff.1 (by simpa using h2)
        exact h3 0 v y rfl rfl
      · rename_i hne
        simp only [Option.some.injEq] at htv
        subst htv
        have : ¬ vs.toArray.size = 1 := by
          intro h1
          rw [List.size_toArray, h2] at h1
          obtain ⟨v, rfl⟩ := List.length_eq_one_iff.1 h1
          exact hne v rfl
        rw [dif_neg this]
        exact .tup (by simpa using h2) (fun j u y a b => h3 j u y a (by simpa using b))
  obtain ⟨v, hv, hr⟩ := key
  rcases hx with rfl | rfl
  · exact ⟨hde', v, hv, v, rfl, m', hr, g1, g3⟩
  · exact ⟨hde', v, hv, v, rfl, m', hr, g1, g3⟩
end
end Go.Proofs.Ytanglbgincgmaaa.Vm
