/-
  The small machine is true to the model: rows that are made, and blocks that turn.
-/
import Derived.Test.YtanglbgincgmaaaVmSoundF
namespace Go.Proofs.Ytanglbgincgmaaa.Vm
open Go Go.RowKit
set_option linter.unusedVariables false
section
variable {P : Program} {S : St} {m : Mp} {w w' w0 : World} {a : Act} {B : Nat} {z : Nat → Nat} {mem mem1 : Mem} {ep : Nat}

theorem flatten_get {α : Type} {n : Nat} : ∀ (l : List (List α)), (∀ r ∈ l, r.length = n) → ∀ (i j : Nat) (r : List α), l[i]? = some r → j < n → l.flatten[i * n + j]? = r[j]? := by
  intro l
  induction l with
  | nil => intro _ i j r h; simp at h
  | cons x l ih =>
    intro hl i j r h hj
    have hx := hl x List.mem_cons_self
    cases i with
    | zero =>
      simp at h
      subst h
      simp only [List.flatten_cons, Nat.zero_mul, Nat.zero_add]
      rw [List.getElem?_append_left (by omega)]
    | succ i =>
      simp only [List.getElem?_cons_succ] at h
      simp only [List.flatten_cons]
      rw [List.getElem?_append_right (by rw [hx, Nat.succ_mul]; omega), hx, show (i + 1) * n + j - n = i * n + j from by rw [Nat.succ_mul]; omega]
      exact ih (fun r hr => hl r (List.mem_cons_of_mem _ hr)) i j r h hj
theorem flatten_len {α : Type} {n : Nat} : ∀ (l : List (List α)), (∀ r ∈ l, r.length = n) → l.flatten.length = l.length * n := by
  intro l
  induction l with
  | nil => intro _; simp
  | cons x l ih =>
    intro hl
    simp only [List.flatten_cons, List.length_append, List.length_cons, ih (fun r hr => hl r (List.mem_cons_of_mem _ hr)), hl x List.mem_cons_self, Nat.succ_mul]
    omega

/-- Rows that are folded: their labels. -/
structure FoldedL (z : Nat → Nat) (m : Mp) (w : World) (mem mem1 : Mem) (rs : List (List V)) (L : Nat → Nat → Nat) (x : Nat → Nat → Option Value) : Prop where
  gone : Gone mem mem1
  rep : ∀ (i j : Nat) (row : List V) (u : V) (y : Value), rs[i]? = some row → row[j]? = some u → x i j = some y → Folded z m w (L i j) u y
  inj : ∀ i j i' j', L i j ≠ 0 → L i j = L i' j' → i = i' ∧ j = j'
  dead : ∀ i j, L i j ≠ 0 → (∃ b, mem[L i j - 1]? = some (some b)) ∧ mem1[L i j - 1]? = some none

theorem foldR_rep : ∀ (rs : List (List V)) (yss : List (List Value)) (mem mem1 : Mem) (rs' : List (List V)), Good z B w0 mem ep m w → yss.length = rs.length →
    (∀ (i : Nat) (row : List V) (ys : List Value), rs[i]? = some row → yss[i]? = some ys → ys.length = row.length ∧ ∀ (j : Nat) (u : V) (y : Value), row[j]? = some u → ys[j]? = some y → RV z mem ep m w u y) →
    foldR mem rs = some (rs', mem1) → rs'.length = rs.length ∧ (∀ (i : Nat) (row' row : List V), rs'[i]? = some row' → rs[i]? = some row → row'.length = row.length) ∧
      ∃ L, FoldedL z m w mem mem1 rs' L (fun i j => (yss[i]?).bind (·[j]?)) := by
  intro rs
  induction rs with
  | nil =>
    intro yss mem mem1 rs' hg hl hr h
    simp only [foldR, Option.some.injEq, Prod.mk.injEq] at h
    obtain ⟨rfl, rfl⟩ := h
    exact ⟨rfl, by simp, fun _ _ => 0, ⟨Gone.refl _, by simp, fun _ _ _ _ h => absurd rfl h, fun _ _ h => absurd rfl h⟩⟩
  | cons r rs ih =>
    intro yss mem mem1 rs' hg hl hr h
    simp only [foldR, Option.bind_eq_some_iff, Option.some.injEq, Prod.mk.injEq] at h
    obtain ⟨⟨r', m1⟩, hf, ⟨rs2, m2⟩, hfr, rfl, rfl⟩ := h
    obtain ⟨ys, yss, rfl⟩ : ∃ y t, yss = y :: t := by cases yss with | nil => simp at hl | cons y t => exact ⟨y, t, rfl⟩
    obtain ⟨hyl, hrv⟩ := hr 0 r ys rfl rfl
    obtain ⟨hl0, hG1, L0, hF0, hi0, hd0⟩ := foldL_rep r mem m1 r' ys hg hyl hrv hf
    have hg1 := hG1.good hg
    obtain ⟨hl1, hlen, L, hF⟩ := ih yss m1 m2 rs2 hg1 (by simpa using hl) (fun i row ys' a b => by
      obtain ⟨c, d⟩ := hr (i + 1) row ys' (by simpa using a) (by simpa using b)
      exact ⟨c, fun j u y e f => (d j u y e f).evo hG1.evo⟩) hfr
    refine ⟨by simp [hl1], fun i row' row a b => ?_, fun i j => match i with | 0 => L0 j | i + 1 => L i j, ⟨hG1.trans hF.gone, fun i j row u y a b c => ?_, fun i j i' j' hn he => ?_, fun i j hn => ?_⟩⟩
    · cases i with
      | zero => simp at a b; subst a; subst b; exact hl0
      | succ i => simp at a b; exact hlen i row' row a b
    · cases i with
      | zero => simp at a c; subst a; exact hF0 j u y b c
      | succ i => simp at a c; exact hF.rep i j row u y a b (by simpa using c)
    · cases i with
      | zero =>
        cases i' with
        | zero => exact ⟨rfl, hi0 j j' hn he⟩
        | succ i' =>
          exfalso
          have h1 := (hd0 j hn).2
          obtain ⟨⟨b, h2⟩, _⟩ := hF.dead i' j' (by intro h0; exact hn (he.trans h0))
          have he' : L0 j = L i' j' := he
          rw [← he', h1] at h2
          simp at h2
      | succ i =>
        cases i' with
        | zero =>
          exfalso
          have he' : L i j = L0 j' := he
          have h1 := (hd0 j' (by rw [← he']; exact hn)).2
          obtain ⟨⟨b, h2⟩, _⟩ := hF.dead i j hn
          rw [he', h1] at h2
          simp at h2
        | succ i' =>
          obtain ⟨h1, h2⟩ := hF.inj i j i' j' hn he
          exact ⟨by rw [h1], h2⟩
    · cases i with
      | zero =>
        obtain ⟨h1, h2⟩ := hd0 j hn
        exact ⟨h1, dead_stays hF.gone h2⟩
      | succ i =>
        obtain ⟨⟨b, h1⟩, h2⟩ := hF.dead i j hn
        exact ⟨⟨b, hG1.2 _ _ h1⟩, h2⟩

open Classical in
/-- The place that a label stands for. -/
noncomputable def placeL (L : Nat → Nat → Nat) (l : Nat) : Nat × Nat := if h : ∃ p : Nat × Nat, L p.1 p.2 ≠ 0 ∧ L p.1 p.2 = l then h.choose else (0, 0)
theorem placeL_at {L : Nat → Nat → Nat} (inj : ∀ i j i' j', L i j ≠ 0 → L i j = L i' j' → i = i' ∧ j = j') {i j l : Nat} (h0 : L i j ≠ 0) (h : l = L i j) : placeL L l = (i, j) := by
  subst h
  have hex : ∃ p : Nat × Nat, L p.1 p.2 ≠ 0 ∧ L p.1 p.2 = L i j := ⟨(i, j), h0, rfl⟩
  unfold placeL
  rw [dif_pos hex]
  have := hex.choose_spec
  obtain ⟨a, b⟩ := inj _ _ _ _ this.1 this.2
  exact Prod.ext a b
/-- Rows that are folded: which labels are theirs (D), and which block is which place's (f). -/
structure FoldedR (z : Nat → Nat) (m : Mp) (w : World) (mem mem1 : Mem) (rs : List (List V)) (D : Nat → Prop) (f : Nat → Nat × Nat) (x : Nat → Nat → Option Value) : Prop where
  gone : Gone mem mem1
  rep : ∀ (i j : Nat) (row : List V) (u : V) (y : Value), rs[i]? = some row → row[j]? = some u → x i j = some y → Rep z w (roG m w) (fun k => D (m.G k) ∧ m.G k ≠ 0 ∧ k < w.heap.size ∧ f k = (i, j)) u y
  dead : ∀ l, D l → l ≠ 0 → (∃ b, mem[l - 1]? = some (some b)) ∧ mem1[l - 1]? = some none
theorem FoldedL.to {rs : List (List V)} {L : Nat → Nat → Nat} {x : Nat → Nat → Option Value} (h : FoldedL z m w mem mem1 rs L x) : FoldedR z m w mem mem1 rs (fun l => ∃ p : Nat × Nat, L p.1 p.2 ≠ 0 ∧ L p.1 p.2 = l) (fun k => placeL L (m.G k)) x :=
  ⟨h.gone, fun i j row u y a b c => (h.rep i j row u y a b c).mono (fun _ h => h) (fun k hk => ⟨⟨(i, j), hk.1, hk.2.1.symm⟩, by rw [hk.2.1]; exact hk.1, hk.2.2, placeL_at h.inj hk.1 hk.2.1⟩), fun l hl h0 => by
    obtain ⟨p, h1, h2⟩ := hl
    rw [← h2]
    exact h.dead _ _ h1⟩
open Classical in
noncomputable def relabel (m : Mp) (size : Nat) (new : Nat → Prop) (D : Nat → Prop) (id : Nat) : Nat → Nat :=
  fun k => if size ≤ k then (if new k then id + 1 else 0) else if D (m.G k) ∧ m.G k ≠ 0 then id + 1 else m.G k
theorem relabel_lt {size : Nat} {new D : Nat → Prop} {id k : Nat} (hD : ∀ l, D l → l ≠ 0 → l ≠ 1 ∧ mem1[l - 1]? = some none) (hk : k < size) :
    relabel m size new D id k = m.G k ∨ (relabel m size new D id k = id + 1 ∧ m.G k ≠ 0 ∧ m.G k ≠ 1 ∧ mem1[m.G k - 1]? = some none) := by
  unfold relabel
  rw [if_neg (by omega)]
  by_cases h : D (m.G k) ∧ m.G k ≠ 0
  · right
    rw [if_pos h]
    exact ⟨rfl, h.2, hD _ h.1 h.2⟩
  · left; rw [if_neg h]
theorem relabel_in {size : Nat} {new D : Nat → Prop} {id k : Nat} (hk : k < size) (h : D (m.G k)) (h0 : m.G k ≠ 0) : relabel m size new D id k = id + 1 := by
  unfold relabel
  rw [if_neg (by omega), if_pos ⟨h, h0⟩]
theorem relabel_ge {size : Nat} {new D : Nat → Prop} {id k : Nat} (hk : size ≤ k) : (new k → relabel m size new D id k = id + 1) ∧ (¬ new k → relabel m size new D id k = 0) := by
  unfold relabel
  rw [if_pos hk]
  exact ⟨fun h => if_pos h, fun h => if_neg h⟩

/-- A new row of rows. -/
theorem rows_res (hg : Good z B w0 mem ep m w) {rs : List (List V)} {D : Nat → Prop} {f : Nat → Nat × Nat} {e : Nat} {cs : List Value} {x : Value}
    (hF : FoldedR z m w mem mem1 rs D f (fun i j => cs[i * z e + j]?)) (hlen : ∀ row ∈ rs, row.length = z e) (hbel : Below w.heap.size w w')
    (ho : w'.ownsRow 0 e (z e) x rs.length cs) (hx : ∀ k, x.ownBlock = some k → w.heap.size ≤ k) :
    ∃ m', RTV z (mem1 ++ [some (.rows ep ep e rs)]) (ep + 1) m' w' (.one (.ow mem1.length ep)) x ∧ Good z B w0 (mem1 ++ [some (.rows ep ep e rs)]) (ep + 1) m' w' ∧ Evo ep (ep + 1) mem (mem1 ++ [some (.rows ep ep e rs)]) m m' w w' := by
  have hx1 : x.oneCell' = true := by
    rcases ho.2 with ⟨rfl, _⟩ | ⟨g, cap, cur, rfl, _⟩ <;> rfl
  obtain ⟨h1, h2⟩ := new_good (x := x) (G := relabel m w.heap.size (fun k => x.ownBlock = some k) D mem1.length) (b := .rows ep ep e rs) hg hF.gone ⟨rfl, rfl⟩ hbel (fun k hk => relabel_lt (fun l h h0 => ⟨hg.ne1 (hF.dead l h h0).1, (hF.dead l h h0).2⟩) hk)
    (fun k hk => by
      by_cases h : x.ownBlock = some k
      · exact .inr ⟨(relabel_ge hk).1 h, ownsRow_lt ho h⟩
      · exact .inl ((relabel_ge hk).2 h)) (fun hE => by
    refine ⟨by omega, by omega, cs, f, ?_, fun k hk => ?_, hlen, fun i j row u y a b c => ?_⟩
    · rw [Mp.add_same]; exact ho
    · rw [Mp.add_same] at hk
      exact (relabel_ge (m := m) (new := fun k => x.ownBlock = some k) (D := D) (id := mem1.length) (hx k hk)).1 hk
    · refine (hE.ro_move (hF.rep i j row u y a b c) (fun k h4 h5 => hbel.block k h5)).mono (fun _ h => h) (fun k h4 => ?_)
      obtain ⟨h5, h6, h7, h8⟩ := h4
      refine ⟨⟨relabel_in (m := m) (new := fun k => x.ownBlock = some k) (D := D) (id := mem1.length) h7 h5 h6, ?_, Nat.lt_of_lt_of_le h7 hbel.size⟩, h8⟩
      rw [Mp.add_same]
      intro he
      have := hx k he.symm
      omega)
  exact ⟨_, .one (.ow (by omega) hx1 (fun cv e' rs' hm => (Mp.add_same _ _ _ _).symm)), h1, h2⟩
end
end Go.Proofs.Ytanglbgincgmaaa.Vm
