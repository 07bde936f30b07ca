/-
  The small machine is true to the model: what makes memory.
-/
import Derived.Test.YtanglbgincgmaaaVmSoundE
namespace Go.Proofs.Ytanglbgincgmaaa.Vm
open Go Go.RowKit
set_option linter.unusedVariables false
def Blk.fresh (ep : Nat) : Blk → Prop
  | .box bv _ => bv = ep
  | .rows hv cv _ _ => hv = ep ∧ cv = ep
section
variable {P : Program} {S : St} {m : Mp} {w w' w0 : World} {a : Act} {B : Nat} {z : Nat → Nat} {mem mem1 : Mem} {ep : Nat}

/-- One block more; labels of what is gone may turn into its own. -/
theorem new_good (hg : Good z B w0 mem ep m w) (hG : Gone mem mem1) {b : Blk} (hb : b.fresh ep) {x : Value} {G : Nat → Nat} (hbel : Below w.heap.size w w')
    (h1 : ∀ k, k < w.heap.size → G k = m.G k ∨ (G k = mem1.length + 1 ∧ m.G k ≠ 0 ∧ m.G k ≠ 1 ∧ mem1[m.G k - 1]? = some none)) (h2 : ∀ k, w.heap.size ≤ k → G k = 0 ∨ (G k = mem1.length + 1 ∧ k < w'.heap.size))
    (hr : Evo ep (ep + 1) mem (mem1 ++ [some b]) m (m.add mem1.length x G) w w' → RBlk z (mem1 ++ [some b]) (ep + 1) (m.add mem1.length x G) w' mem1.length b) :
    Good z B w0 (mem1 ++ [some b]) (ep + 1) (m.add mem1.length x G) w' ∧ Evo ep (ep + 1) mem (mem1 ++ [some b]) m (m.add mem1.length x G) w w' := by
  have old : ∀ (id : Nat) (c : Blk), (mem1 ++ [some b])[id]? = some (some c) → id ≠ mem1.length → mem[id]? = some (some c) ∧ mem1[id]? = some (some c) := by
    intro id c h hne
    rcases Nat.lt_or_ge id mem1.length with hi | hi
    · rw [List.getElem?_append_left hi] at h
      exact ⟨hG.2 _ _ h, h⟩
    · rw [List.getElem?_append_right hi] at h
      have : id - mem1.length ≠ 0 := by omega
      rw [List.getElem?_eq_none (by simp; omega)] at h
      cases h
  have new : ∀ (c : Blk), (mem1 ++ [some b])[mem1.length]? = some (some c) → c = b := by
    intro c h
    simp at h
    exact h.symm
  have lab : ∀ (id : Nat) (c : Blk), mem1[id]? = some (some c) → ∀ k, m.G k = id + 1 → k < w.heap.size → G k = id + 1 := by
    intro id c hc k hk hlt
    rcases h1 k hlt with h | ⟨_, _, _, h⟩
    · rw [h, hk]
    · rw [hk] at h
      simp [hc] at h
  have hE : Evo ep (ep + 1) mem (mem1 ++ [some b]) m (m.add mem1.length x G) w w' := by
    refine ⟨by omega, hbel.size, fun k hk => ?_, fun k hk hlt => ⟨by
      rcases h1 k hlt with h | ⟨_, _, h, _⟩
      · exact h.trans hk
      · exact absurd hk h, hbel.block k hlt⟩, fun id bv c hc => ?_, fun id hv cv e rs hc => ?_, fun id hv cv e rs hc => ?_, fun id hv cv e rs rs' h3 hc l1 l2 => ?_⟩
    · refine ⟨?_, hbel.block k hk.2⟩
      rcases h1 k hk.2 with h | ⟨_, h, _⟩
      · exact h.trans hk.1
      · exact absurd hk.1 h
    · by_cases hid : id = mem1.length
      · subst hid
        have := new _ hc
        subst this
        exact .inl (Nat.le_of_eq hb.symm)
      · exact .inr ⟨c, (old _ _ hc hid).1, Mp.add_ne _ _ _ hid⟩
    · by_cases hid : id = mem1.length
      · subst hid
        have := new _ hc
        subst this
        exact .inl (Nat.le_of_eq hb.1.symm)
      · exact .inr ⟨cv, rs, (old _ _ hc hid).1, Mp.add_ne _ _ _ hid⟩
    · by_cases hid : id = mem1.length
      · subst hid
        have := new _ hc
        subst this
        exact .inl (Nat.le_of_eq hb.2.symm)
      · refine .inr ⟨hv, e, rs, (old _ _ hc hid).1, fun k hk => ⟨⟨lab _ _ (old _ _ hc hid).2 k hk.1 hk.2.2, by rw [Mp.add_ne _ _ _ hid]; exact hk.2.1, Nat.lt_of_lt_of_le hk.2.2 hbel.size⟩, hbel.block k hk.2.2⟩⟩
    · by_cases hid : id = mem1.length
      · subst hid
        have := new _ hc
        subst this
        have := hb.1
        omega
      · obtain ⟨_, _, _, rfl⟩ := rows_inj4 h3 (old _ _ hc hid).1
        exact NestEq.same (fun g _ hlt => hbel.block g hlt)
  refine ⟨⟨fun id c hc => ?_, fun k hk => ?_, hg.below.trans (hbel.mono hg.hB), Nat.le_trans hg.hB hbel.size, ?_⟩, hE⟩
  · by_cases hid : id = mem1.length
    · subst hid
      have := new _ hc
      subst this
      exact hr hE
    · exact (hg.blk id c (old _ _ hc hid).1).keep hE (Mp.add_ne _ _ _ hid) (fun k hk hlt => ⟨lab _ _ (old _ _ hc hid).2 k hk hlt, hbel.block k hlt⟩)
  · rcases Nat.lt_or_ge k w.heap.size with hlt | hge
    · rcases h1 k hlt with h | ⟨_, h, h5, _⟩
      · have := hg.lab k (by rw [← h]; exact hk)
        exact ⟨Nat.lt_of_lt_of_le hlt hbel.size, this.2.imp (fun e => e) (fun e => h.trans e)⟩
      · exact ⟨Nat.lt_of_lt_of_le hlt hbel.size, .inl ((hg.lab k h).2.resolve_right h5)⟩
    · rcases h2 k hge with h | ⟨_, h⟩
      · exact absurd h hk
      · exact ⟨h, .inl (Nat.le_trans hg.hB hge)⟩
  · have h6 := dead_stays hG hg.fst
    rw [List.getElem?_append_left (List.getElem?_eq_some_iff.1 h6).1]
    exact h6

theorem push_below (w : World) (o : Obj) : Below w.heap.size w (w.alloc o) := (Below.refl _ _).alloc (Nat.le_refl _) o
theorem push_at (w : World) (o : Obj) : (w.alloc o).heap[w.heap.size]? = some o := by unfold World.alloc; simp
theorem push_size (w : World) (o : Obj) : (w.alloc o).heap.size = w.heap.size + 1 := by unfold World.alloc; simp

/-- A box is made. -/
theorem box_res (hg : Good z B w0 mem ep m w) {cs : List V} {ys : Array Value} (T : Nat) (hs : ys.size = cs.length) (h : ∀ (j : Nat) (u : V) (y : Value), cs[j]? = some u → ys[j]? = some y → RV z mem ep m w u y) :
    ∃ m', RTV z (mem ++ [some (.box ep cs)]) (ep + 1) m' (w.alloc (.cells ys T)) (.one (.bp mem.length ep 0)) (.pointer (some ⟨w.heap.size, 0, none⟩)) ∧
      Good z B w0 (mem ++ [some (.box ep cs)]) (ep + 1) m' (w.alloc (.cells ys T)) ∧ Evo ep (ep + 1) mem (mem ++ [some (.box ep cs)]) m m' w (w.alloc (.cells ys T)) := by
  let G : Nat → Nat := fun k => if k = w.heap.size then mem.length + 1 else m.G k
  have hG0 : ∀ k, w.heap.size ≤ k → m.G k = 0 := by
    intro k hk
    rcases Nat.eq_zero_or_pos (m.G k) with h | h
    · exact h
    · have := (hg.lab k (by omega)).1; omega
  obtain ⟨h1, h2⟩ := new_good (x := .pointer (some ⟨w.heap.size, 0, none⟩)) (G := G) (b := .box ep cs) hg (Gone.refl mem) rfl (push_below w (.cells ys T))
    (fun k hk => .inl (by simp [G, Nat.ne_of_lt hk]))
    (fun k hk => by
      by_cases he : k = w.heap.size
      · exact .inr ⟨by simp [G, he], by rw [push_size]; omega⟩
      · exact .inl (by simp [G, he, hG0 k hk]))
    (fun hE => ⟨by omega, w.heap.size, T, ys, Mp.add_same _ _ _ _, push_at _ _, by simp [Mp.add, G], hs, fun j u y a b => (h j u y a b).evo hE⟩)
  exact ⟨_, .one (.bp (by omega) rfl (fun c hc => ⟨_, Mp.add_same _ _ _ _, rfl⟩)), h1, h2⟩

theorem step_box (hg : Good P.cellsOf B w0 S.mem S.ep m w) (hT : Tms P.cellsOf S m w a.tmps) {o : Oper} {T : Nat} {x : Operand} {r : TV × Mem × Nat} (ho : o.op = .box T x) (h : stepOp P S o = some r) : StepOk P B w0 S m w a o r := by
  unfold stepOp at h
  simp only [ho, Option.bind_eq_some_iff, Option.some.injEq] at h
  obtain ⟨tv, htv, cs, hcs, rfl⟩ := h
  obtain ⟨hs, hh⟩ := cells_rtv (ev_rtv hT htv) hcs
  obtain ⟨m', h1, h2, h3⟩ := box_res hg T hs hh
  refine ⟨fun hq => by simp [quietKind, ho] at hq, _, _, ?_, fun _ => Ext.of_below (push_below _ _), m', h1, h2, h3⟩
  unfold execOp
  simp only [ho]
  exact run_value (by simp [Instr.box, newVar, newRow, newObj, Sem.run])
theorem zeroV_run {T : Nat} {cs : List V} (h : zeroV P T = some cs) (w : World) : ∃ v, (zeroValue T).run P w = .ok v w ∧ cs = v.cells.toList.map .lit ∧ ∀ u ∈ v.cells.toList, u.oneCell' = true := by
  unfold zeroV at h
  simp only [Option.bind_eq_some_iff] at h
  obtain ⟨v, hv, h⟩ := h
  split at h
  · rename_i hc
    simp only [Option.some.injEq] at h
    exact ⟨v, quiet_run hv w, h.symm, List.all_eq_true.1 hc⟩
  · cases h
theorem zeroV_rv {T : Nat} {cs : List V} {v : Value} (hc : cs = v.cells.toList.map .lit) (h1 : ∀ u ∈ v.cells.toList, u.oneCell' = true) : v.cells.size = cs.length ∧ ∀ (j : Nat) (u : V) (y : Value), cs[j]? = some u → v.cells[j]? = some y → RV z mem ep m w u y := by
  subst hc
  refine ⟨by simp, fun j u y a b => ?_⟩
  rw [List.getElem?_map] at a
  obtain ⟨y', h2, rfl⟩ := Option.map_eq_some_iff.1 a
  have : y' = y := by
    have h3 : v.cells.toList[j]? = v.cells[j]? := by simp
    rw [h3, b] at h2
    exact (Option.some.inj h2).symm
  subst this
  exact .lit (h1 _ (List.mem_of_getElem? h2))
theorem step_alloc (hg : Good P.cellsOf B w0 S.mem S.ep m w) (hT : Tms P.cellsOf S m w a.tmps) {o : Oper} {T : Nat} {r : TV × Mem × Nat} (ho : o.op = .alloc T) (h : stepOp P S o = some r) : StepOk P B w0 S m w a o r := by
  unfold stepOp at h
  simp only [ho, Option.bind_eq_some_iff, Option.some.injEq] at h
  obtain ⟨cs, hcs, rfl⟩ := h
  obtain ⟨v, hv, hc, h1⟩ := zeroV_run hcs w
  obtain ⟨hs, hh⟩ := zeroV_rv (z := P.cellsOf) (mem := S.mem) (ep := S.ep) (m := m) (w := w) (T := T) hc h1
  obtain ⟨m', h1, h2, h3⟩ := box_res hg T hs hh
  refine ⟨fun hq => by simp [quietKind, ho] at hq, _, _, ?_, fun _ => Ext.of_below (push_below _ _), m', h1, h2, h3⟩
  unfold execOp
  simp only [ho]
  exact run_value (by simp [Instr.alloc, hv, newVar, newRow, newObj, Sem.run])
end
end Go.Proofs.Ytanglbgincgmaaa.Vm
