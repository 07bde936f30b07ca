/-
  The small machine is true to the model: new blocks, and what goes along into a row.
-/
import Derived.Test.YtanglbgincgmaaaVmSoundD
namespace Go.Proofs.Ytanglbgincgmaaa.Vm
open Go Go.RowKit
set_option linter.unusedVariables false
section
variable {P : Program} {S : St} {m m' : Mp} {w w' w0 : World} {a : Act} {B : Nat} {z : Nat → Nat} {mem mem' : Mem} {ep ep' : Nat}

/-- A block that nothing has touched. -/
theorem RBlk.keep {id : Nat} {b : Blk} (h : RBlk z mem ep m w id b) (e : Evo ep ep' mem mem' m m' w w') (hd : m'.hd id = m.hd id) (hk : ∀ k, m.G k = id + 1 → k < w.heap.size → m'.G k = id + 1 ∧ w'.heap[k]? = w.heap[k]?) : RBlk z mem' ep' m' w' id b := by
  have hep := e.le
  cases b with
  | box bv cells =>
    obtain ⟨h0, g, T, cs, h1, h2, h3, h4, h5⟩ := h
    have hlt := (Array.getElem?_eq_some_iff.1 h2).1
    exact ⟨by omega, g, T, cs, hd.trans h1, (hk g h3 hlt).2.trans h2, (hk g h3 hlt).1, h4, fun j u y a b => (h5 j u y a b).evo e⟩
  | rows hv cv e' rs =>
    obtain ⟨h0, h0', cs, f, h1, h2, h3, h4⟩ := h
    refine ⟨by omega, by omega, cs, f, ?_, fun k hk' => ?_, h3, fun i j row u y a b c => ?_⟩
    · rw [hd]
      refine ⟨h1.1, ?_⟩
      rcases h1.2 with h5 | ⟨g, cap, cur, h5, hg, hh, r⟩
      · exact .inl h5
      · have hb : (m.hd id).ownBlock = some g := by rw [h5]; rfl
        exact .inr ⟨g, cap, cur, h5, hg, (hk g (h2 g hb) (Array.getElem?_eq_some_iff.1 hh).1).2.trans hh, r⟩
    · rw [hd] at hk'
      exact (hk k (h2 k hk') (ownsRow_lt h1 hk')).1
    · refine (e.ro_move (h4 i j row u y a b c) (fun k h5 h6 => (hk k h5.1.1 h6).2)).mono (fun _ h => h) (fun k h5 => ?_)
      exact ⟨⟨(hk k h5.1.1 h5.1.2.2).1, by rw [hd]; exact h5.1.2.1, Nat.lt_of_lt_of_le h5.1.2.2 e.size⟩, h5.2⟩

/-- A mapping with one block more, and labels turned. -/
def Mp.add (m : Mp) (id : Nat) (x : Value) (G : Nat → Nat) : Mp := ⟨G, fun i => if i = id then x else m.hd i⟩
theorem Mp.add_same (m : Mp) (id : Nat) (x : Value) (G : Nat → Nat) : (m.add id x G).hd id = x := by simp [Mp.add]
theorem Mp.add_ne (m : Mp) {id i : Nat} (x : Value) (G : Nat → Nat) (h : i ≠ id) : (m.add id x G).hd i = m.hd i := by simp [Mp.add, h]

/-- Blocks that are gone. -/
def Gone (mem mem' : Mem) : Prop := mem'.length = mem.length ∧ ∀ (id : Nat) (b : Blk), mem'[id]? = some (some b) → mem[id]? = some (some b)
theorem Gone.refl (mem : Mem) : Gone mem mem := ⟨rfl, fun _ _ h => h⟩
theorem Gone.trans {a b c : Mem} (h : Gone a b) (k : Gone b c) : Gone a c := ⟨k.1.trans h.1, fun id x hx => h.2 id x (k.2 id x hx)⟩
theorem Gone.set (mem : Mem) (id : Nat) : Gone mem (mem.set id none) := by
  refine ⟨by simp, fun i b h => ?_⟩
  rw [List.getElem?_set] at h
  split at h
  · split at h <;> simp at h
  · exact h
theorem dead_stays {mem mem1 : Mem} (h : Gone mem mem1) {i : Nat} (hd : mem[i]? = some none) : mem1[i]? = some none := by
  have hlt : i < mem.length := (List.getElem?_eq_some_iff.1 hd).1
  cases hm : mem1[i]? with
  | none => rw [List.getElem?_eq_none_iff, h.1] at hm; omega
  | some b =>
    cases b with
    | none => rfl
    | some b =>
      have := h.2 _ _ hm
      rw [hd] at this
      simp at this


theorem Gone.evo (h : Gone mem mem') : Evo ep ep mem mem' m m w w :=
  ⟨Nat.le_refl _, Nat.le_refl _, fun k hk => ⟨hk.1, rfl⟩, fun k hk _ => ⟨hk, rfl⟩, fun id bv c hc => .inr ⟨c, h.2 _ _ hc, rfl⟩, fun id hv cv e rs hc => .inr ⟨cv, rs, h.2 _ _ hc, rfl⟩, fun id hv cv e rs hc => .inr ⟨hv, e, rs, h.2 _ _ hc, fun k hk => ⟨hk, rfl⟩⟩, fun id hv cv e rs rs' h1 h2 _ _ => by
    obtain ⟨_, _, _, rfl⟩ := rows_inj4 h1 (h.2 _ _ h2)
    exact NestEq.same (fun _ _ _ => rfl)⟩
theorem Gone.good (h : Gone mem mem') (hg : Good z B w0 mem ep m w) : Good z B w0 mem' ep m w :=
  ⟨fun id b hb => (hg.blk id b (h.2 _ _ hb)).keep h.evo rfl (fun k hk _ => ⟨hk, rfl⟩), hg.lab, hg.below, hg.hB, dead_stays h hg.fst⟩

/-- What is folded: which label it bears (0: none). -/
def Folded (z : Nat → Nat) (m : Mp) (w : World) (L : Nat) (v : V) (y : Value) : Prop := Rep z w (roG m w) (fun k => L ≠ 0 ∧ m.G k = L ∧ k < w.heap.size) v y
theorem fold_rep (hg : Good z B w0 mem ep m w) {v v' : V} {y : Value} (hv : RV z mem ep m w v y) (h : fold mem v = some (v', mem')) :
    ∃ L, Folded z m w L v' y ∧ Gone mem mem' ∧ (L ≠ 0 → (∃ b, mem[L - 1]? = some (some b)) ∧ mem'[L - 1]? = some none) := by
  cases hv with
  | lit hc =>
    simp only [fold, Option.some.injEq, Prod.mk.injEq] at h
    obtain ⟨rfl, rfl⟩ := h
    exact ⟨0, .lit hc, Gone.refl _, fun h => absurd rfl h⟩
  | ro hr =>
    simp only [fold, Option.some.injEq, Prod.mk.injEq] at h
    obtain ⟨rfl, rfl⟩ := h
    exact ⟨0, rep_ro hr, Gone.refl _, fun h => absurd rfl h⟩
  | ow hid h1 hh =>
    rename_i id hv
    simp only [fold, Option.bind_eq_some_iff, Option.some.injEq, Prod.mk.injEq] at h
    obtain ⟨b, hb, rfl, rfl⟩ := h
    have hb' := rowsH_some hb
    have hy := hh _ _ _ hb'
    subst hy
    obtain ⟨_, _, cs, f, ho, hG, hlen, hrep⟩ := hg.blk _ _ hb'
    refine ⟨id + 1, ?_, Gone.set _ _, fun _ => ⟨⟨_, hb'⟩, ?_⟩⟩
    · exact .own cs f ho (fun k hk => ⟨by omega, hG k hk, ownsRow_lt ho hk⟩) hlen (fun i j row u y a b c => (hrep i j row u y a b c).mono (fun _ h => h) (fun k hk => ⟨⟨by omega, hk.1.1, hk.1.2.2⟩, hk.1.2.1, hk.2⟩))
    · have hlt : id < mem.length := (List.getElem?_eq_some_iff.1 hb').1
      simp [hlt]
  | _ => simp [fold] at h

theorem foldL_rep : ∀ (cs : List V) (mem mem' : Mem) (cs' : List V) (ys : List Value), Good z B w0 mem ep m w → ys.length = cs.length → (∀ (j : Nat) (u : V) (y : Value), cs[j]? = some u → ys[j]? = some y → RV z mem ep m w u y) →
    foldL mem cs = some (cs', mem') → cs'.length = cs.length ∧ Gone mem mem' ∧ ∃ L : Nat → Nat, (∀ (j : Nat) (u : V) (y : Value), cs'[j]? = some u → ys[j]? = some y → Folded z m w (L j) u y) ∧
      (∀ i j, L i ≠ 0 → L i = L j → i = j) ∧ ∀ j, L j ≠ 0 → (∃ b, mem[L j - 1]? = some (some b)) ∧ mem'[L j - 1]? = some none := by
  intro cs
  induction cs with
  | nil =>
    intro mem mem' cs' ys hg hl hr h
    simp only [foldL, Option.some.injEq, Prod.mk.injEq] at h
    obtain ⟨rfl, rfl⟩ := h
    exact ⟨rfl, Gone.refl _, fun _ => 0, by simp, fun _ _ h => absurd rfl h, fun _ h => absurd rfl h⟩
  | cons v vs ih =>
    intro mem mem' cs' ys hg hl hr h
    simp only [foldL, Option.bind_eq_some_iff, Option.some.injEq, Prod.mk.injEq] at h
    obtain ⟨⟨v', m1⟩, hf, ⟨vs', m2⟩, hfl, rfl, rfl⟩ := h
    obtain ⟨y, ys, rfl⟩ : ∃ y t, ys = y :: t := by cases ys with | nil => simp at hl | cons y t => exact ⟨y, t, rfl⟩
    obtain ⟨L0, hF, hG1, hL0⟩ := fold_rep hg (hr 0 v y rfl rfl) hf
    have hg1 := hG1.good hg
    obtain ⟨hl', hG2, L, hF', hinj, hL⟩ := ih m1 m2 vs' ys hg1 (by simpa using hl) (fun j u x a b => (hr (j + 1) u x (by simpa using a) (by simpa using b)).evo hG1.evo) hfl
    refine ⟨by simp [hl'], hG1.trans hG2, fun j => match j with | 0 => L0 | j + 1 => L j, fun j u x a b => ?_, fun i j hi hij => ?_, fun j hj => ?_⟩
    · cases j with
      | zero => simp at a b; subst a; subst b; exact hF
      | succ j => simp at a b; exact hF' j u x a b
    · cases i with
      | zero =>
        cases j with
        | zero => rfl
        | succ j =>
          exfalso
          try dsimp only at hi hij
          have h1 := (hL0 hi).2
          obtain ⟨⟨b, h2⟩, _⟩ := hL j (by rw [← hij]; exact hi)
          rw [← hij] at h2
          try dsimp only at h1
          rw [h1] at h2
          simp at h2
      | succ i =>
        cases j with
        | zero =>
          exfalso
          try dsimp only at hi hij
          have h1 := (hL0 (by rw [← hij]; exact hi)).2
          obtain ⟨⟨b, h2⟩, _⟩ := hL i hi
          rw [hij] at h2
          try dsimp only at h1
          rw [h1] at h2
          simp at h2
        | succ j => try dsimp only at hi hij
                    rw [hinj i j hi hij]
    · cases j with
      | zero =>
        try dsimp only at hj ⊢
        obtain ⟨h1, h2⟩ := hL0 hj
        refine ⟨h1, ?_⟩
        try dsimp only at h2
        have hlt : L0 - 1 < m1.length := (List.getElem?_eq_some_iff.1 h2).1
        have hlt2 : L0 - 1 < m2.length := by rw [hG2.1]; exact hlt
        cases hm : m2[L0 - 1]? with
        | none => rw [List.getElem?_eq_none_iff] at hm; omega
        | some b =>
          cases b with
          | none => rfl
          | some b =>
            have := hG2.2 _ _ hm
            rw [h2] at this
            simp at this
      | succ j =>
        try dsimp only at hj ⊢
        obtain ⟨⟨b, h1⟩, h2⟩ := hL j hj
        exact ⟨⟨b, hG1.2 _ _ h1⟩, h2⟩
end
end Go.Proofs.Ytanglbgincgmaaa.Vm
