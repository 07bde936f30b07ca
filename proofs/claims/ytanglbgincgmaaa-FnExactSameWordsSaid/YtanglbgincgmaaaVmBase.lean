/-
  A small machine over plain values: what a function of the program does, told without memory. This text: values, and how they stand for the model's.
-/
import Derived.Below
import Derived.Calls
import Derived.OwnWalk
import Derived.Laws.AppendOwn
import Derived.Maps.AppendAt
import Derived.Laws.Sem
import Derived.Deep.OwnRows
import Derived.Deep.Slices
namespace Go.Proofs.Ytanglbgincgmaaa.Vm
open Go Go.RowKit
set_option linter.unusedVariables false

/-- What a cell holds, told plainly. lit: itself. sl: a slice by its rows, one that nothing else leads to (own) or one that nobody writes. ow: the slice that block id is. bp, ip: pointers into blocks. rp: one into a row that nobody writes. vw, vp: what lies within block id, as long as it is there. np: the same, and where it stands: (head's stamp, row, cell; the nested slice's type; its row). ap: cell off of element i, of n cells each, of the array that q points to. cl: a function with what it has caught. -/
inductive V where
  | lit (v : Value)
  | sl (own : Bool) (e : Nat) (rows : List (List V))
  | ow (id hv : Nat)
  | bp (id bv off : Nat)
  | ip (id hv i off : Nat)
  | rp (row : List V) (off : Nat)
  | vw (id cv : Nat) (p : Option (Nat × Nat × Nat)) (e : Nat) (rows : List (List V))
  | vp (id cv : Nat) (row : List V) (off : Nat)
  | np (id cv : Nat) (pl : Nat × Nat × Nat × Nat × Nat) (row : List V) (off : Nat)
  | ap (q : V) (n i off : Nat)
  | cl (g : Nat) (caps : List V)

/-- A value that reads no memory but that of its own rows (ok) and of rows that nobody writes (ro). z: how many cells an element takes. -/
inductive Rep (z : Nat → Nat) (w : World) : (ro ok : Nat → Prop) → V → Value → Prop
  | lit {ro ok : Nat → Prop} {v : Value} (h : v.oneCell' = true) : Rep z w ro ok (.lit v) v
  | roS {ro ok : Nat → Prop} {e : Nat} {rows : List (List V)} {A : Option Addr} {c : Nat} (ad : Addr) (y : Nat → Nat → Value)
      (hc : rows.length ≤ c) (hm : c ≤ maxLen) (hrow : ∀ row ∈ rows, row.length = z e) (hA : rows ≠ [] → A = some ad)
      (hro : ∀ (i j : Nat) (row : List V) (u : V), rows[i]? = some row → row[j]? = some u → ro ad.block)
      (hcell : ∀ (i j : Nat) (row : List V) (u : V), rows[i]? = some row → row[j]? = some u → w.cell? (ad.add (i * z e + j)) = some (y i j))
      (hr : ∀ (i j : Nat) (row : List V) (u : V), rows[i]? = some row → row[j]? = some u → Rep z w ro (fun _ => False) u (y i j)) : Rep z w ro ok (.sl false e rows) (.slice A rows.length c)
  | own {ro ok : Nat → Prop} {e : Nat} {rows : List (List V)} {x : Value} (cells : List Value) (f : Nat → Nat × Nat)
      (ho : w.ownsRow 0 e (z e) x rows.length cells) (hok : ∀ k, x.ownBlock = some k → ok k) (hrow : ∀ row ∈ rows, row.length = z e)
      (hr : ∀ (i j : Nat) (row : List V) (u : V) (y : Value), rows[i]? = some row → row[j]? = some u → cells[i * z e + j]? = some y → Rep z w ro (fun k => ok k ∧ some k ≠ x.ownBlock ∧ f k = (i, j)) u y) : Rep z w ro ok (.sl true e rows) x
  | rp {ro ok : Nat → Prop} {row : List V} {off : Nat} (ad : Addr) (y : Nat → Value) (hro : ∀ (j : Nat) (u : V), row[j]? = some u → ro ad.block) (hcell : ∀ (j : Nat) (u : V), row[j]? = some u → w.cell? (ad.add j) = some (y j))
      (hr : ∀ (j : Nat) (u : V), row[j]? = some u → Rep z w ro (fun _ => False) u (y j)) : Rep z w ro ok (.rp row off) (.pointer (some (ad.add off)))
  | cl {ro ok : Nat → Prop} {g : Nat} {caps : List V} {ps : Array Value} (hn : ps.size = caps.length) (hr : ∀ (j : Nat) (u : V) (y : Value), caps[j]? = some u → ps[j]? = some y → Rep z w ro (fun _ => False) u y) : Rep z w ro ok (.cl g caps) (.func (.func g) #[] ps)

section
variable {z : Nat → Nat}
theorem Rep.mono {w : World} {ro ro' ok ok' : Nat → Prop} {v : V} {x : Value} (h : Rep z w ro ok v x) (hro : ∀ k, ro k → ro' k) (hok : ∀ k, ok k → ok' k) : Rep z w ro' ok' v x := by
  induction h generalizing ro' ok' with
  | lit h => exact .lit h
  | roS ad y hc hm hrow hA h1 hcell hr ih => exact .roS ad y hc hm hrow hA (fun i j row u a b => hro _ (h1 i j row u a b)) hcell (fun i j row u a b => ih i j row u a b hro (fun _ h => h))
  | own cells f ho h1 hrow hr ih => exact .own cells f ho (fun k hk => hok _ (h1 k hk)) hrow (fun i j row u y a b c => ih i j row u y a b c hro (fun k hk => ⟨hok _ hk.1, hk.2⟩))
  | rp ad y h1 hcell hr ih => exact .rp ad y (fun j u a => hro _ (h1 j u a)) hcell (fun j u a => ih j u a hro (fun _ h => h))
  | cl hn hr ih => exact .cl hn (fun j u y a b => ih j u y a b hro (fun _ h => h))

theorem add_block (a : Addr) (n : Nat) : (a.add n).block = a.block := by unfold Addr.add; split <;> rfl

/-- Nothing that it reads has turned. -/
theorem Rep.move {w w' : World} {ro ok : Nat → Prop} {v : V} {x : Value} (h : Rep z w ro ok v x) (hw : ∀ k, ro k ∨ ok k → w'.heap[k]? = w.heap[k]?) : Rep z w' ro ok v x := by
  induction h with
  | lit h => exact .lit h
  | roS ad y hc hm hrow hA h1 hcell hr ih =>
    refine .roS ad y hc hm hrow hA h1 (fun i j row u a b => ?_) (fun i j row u a b => ih i j row u a b (fun k hk => ?_))
    · rw [← hcell i j row u a b]
      refine World.cell?_of_block ?_
      rw [add_block]
      exact hw _ (.inl (h1 i j row u a b))
    · rcases hk with hk | hk
      · exact hw _ (.inl hk)
      · exact hk.elim
  | own cells f ho h1 hrow hr ih =>
    refine .own cells f ?_ h1 hrow (fun i j row u y a b c => ih i j row u y a b c (fun k hk => ?_))
    · refine ⟨ho.1, ?_⟩
      rcases ho.2 with h2 | ⟨g, cap, cur, rfl, hg, hh, r⟩
      · exact .inl h2
      · exact .inr ⟨g, cap, cur, rfl, hg, (hw g (.inr (h1 g (by simp [Value.ownBlock])))).trans hh, r⟩
    · rcases hk with hk | hk
      · exact hw _ (.inl hk)
      · exact hw _ (.inr hk.1)
  | rp ad y h1 hcell hr ih =>
    refine .rp ad y h1 (fun j u a => ?_) (fun j u a => ih j u a (fun k hk => hk.elim (fun hk => hw _ (.inl hk)) False.elim))
    rw [← hcell j u a]
    refine World.cell?_of_block ?_
    rw [add_block]
    exact hw _ (.inl (h1 j u a))
  | cl hn hr ih => exact .cl hn (fun j u y a b => ih j u y a b (fun k hk => hk.elim (fun hk => hw _ (.inl hk)) False.elim))

theorem add0 (g m : Nat) : (⟨g, 0, none⟩ : Addr).add m = ⟨g, m, none⟩ := by
  unfold Addr.add
  split
  · rename_i h; subst h; rfl
  · simp
theorem cell_lt {w : World} {a : Addr} {v : Value} (h : w.cell? a = some v) : a.block < w.heap.size := World.block_lt_of_cell? w _ h
theorem ownsRow_lt {w : World} {b e s n k : Nat} {x : Value} {cs : List Value} (h : w.ownsRow b e s x n cs) (hk : x.ownBlock = some k) : k < w.heap.size := by
  rcases h.2 with ⟨rfl, _⟩ | ⟨g, cap, cur, rfl, hg, hh, r⟩
  · simp [Value.ownBlock] at hk
  · simp [Value.ownBlock] at hk
    subst hk
    exact (Array.getElem?_eq_some_iff.1 hh).1

/-- Only blocks that are there count. -/
theorem Rep.bound {w : World} {ro ok : Nat → Prop} {v : V} {x : Value} (h : Rep z w ro ok v x) : Rep z w (fun k => ro k ∧ k < w.heap.size) (fun k => ok k ∧ k < w.heap.size) v x := by
  induction h with
  | lit h => exact .lit h
  | roS ad y hc hm hrow hA h1 hcell hr ih =>
    refine .roS ad y hc hm hrow hA (fun i j row u a b => ⟨h1 i j row u a b, ?_⟩) hcell (fun i j row u a b => (ih i j row u a b).mono (fun _ h => h) (fun _ h => h.1))
    have := cell_lt (hcell i j row u a b)
    rwa [add_block] at this
  | own cells f ho h1 hrow hr ih =>
    exact .own cells f ho (fun k hk => ⟨h1 k hk, ownsRow_lt ho hk⟩) hrow (fun i j row u y a b c => (ih i j row u y a b c).mono (fun _ h => h) (fun k hk => ⟨⟨hk.1.1, hk.2⟩, hk.1.2⟩))
  | rp ad y h1 hcell hr ih =>
    refine .rp ad y (fun j u a => ⟨h1 j u a, ?_⟩) hcell (fun j u a => (ih j u a).mono (fun _ h => h) (fun _ h => h.1))
    have := cell_lt (hcell j u a)
    rwa [add_block] at this
  | cl hn hr ih => exact .cl hn (fun j u y a b => (ih j u y a b).mono (fun _ h => h) (fun _ h => h.1))

mutual
/-- As it is read alone. -/
def V.er : V → V
  | .sl _ e rows => .sl false e (erRows rows)
  | .vw _ _ _ e rows => .sl false e (erRows rows)
  | v => v
def erRows : List (List V) → List (List V)
  | [] => []
  | r :: rs => erRow r :: erRows rs
def erRow : List V → List V
  | [] => []
  | v :: vs => v.er :: erRow vs
end
theorem erRow_map (l : List V) : erRow l = l.map V.er := by
  induction l with
  | nil => simp [erRow]
  | cons v vs ih => simp [erRow, ih]
theorem erRows_map (l : List (List V)) : erRows l = l.map (·.map V.er) := by
  induction l with
  | nil => simp [erRows]
  | cons v vs ih => simp [erRows, ih, erRow_map]

theorem ownsRow_slice {w : World} {b e s n : Nat} {x : Value} {cs : List Value} (h : w.ownsRow b e s x n cs) :
    ∃ A c, x = .slice A n c ∧ n ≤ c ∧ c ≤ maxLen ∧ (n ≠ 0 → ∃ g, A = some ⟨g, 0, none⟩ ∧ x.ownBlock = some g ∧ ∀ m u, cs[m]? = some u → w.cell? ((⟨g, 0, none⟩ : Addr).add m) = some u) := by
  rcases h.2 with ⟨rfl, rfl⟩ | ⟨g, cap, cur, rfl, hg, hh, hn, hm, hs, rfl⟩
  · exact ⟨none, 0, rfl, by omega, by simp [maxLen], fun h => absurd rfl h⟩
  · refine ⟨_, cap, rfl, hn, hm, fun _ => ⟨g, rfl, rfl, fun m u hu => ?_⟩⟩
    have hlt : m < n * s := by
      have := (List.getElem?_eq_some_iff.1 hu).1
      rw [List.length_take] at this
      omega
    have h1 : cur[m]? = some u := by
      rw [List.getElem?_take, if_pos hlt] at hu
      simpa using hu
    rw [add0]
    simp [World.cell?, hh, h1]

theorem Rep.erase {w : World} {ro ok ok' : Nat → Prop} {v : V} {x : Value} (h : Rep z w ro ok v x) : Rep z w (fun k => ro k ∨ ok k) ok' v.er x := by
  induction h generalizing ok' with
  | lit h => simp only [V.er]; exact .lit h
  | roS ad y hc hm hrow hA h1 hcell hr ih =>
    rename_i rows A c
    simp only [V.er]
    rw [erRows_map]
    have hl : rows.length = (rows.map (·.map V.er)).length := by simp
    rw [hl]
    have key : ∀ (i j : Nat) (row : List V) (u : V), (rows.map (·.map V.er))[i]? = some row → row[j]? = some u → ∃ (row' : List V) (u' : V), rows[i]? = some row' ∧ row'[j]? = some u' ∧ u = u'.er := by
      intro i j row u a b
      rw [List.getElem?_map] at a
      obtain ⟨row', h1, rfl⟩ := Option.map_eq_some_iff.1 a
      rw [List.getElem?_map] at b
      obtain ⟨u', h2, rfl⟩ := Option.map_eq_some_iff.1 b
      exact ⟨row', u', h1, h2, rfl⟩
    refine .roS ad y (by simpa using hc) hm (fun row hr => ?_) (fun hn => hA (fun e => hn (by simp [e]))) (fun i j row u a b => ?_) (fun i j row u a b => ?_) (fun i j row u a b => ?_)
    · obtain ⟨r', h1, rfl⟩ := List.mem_map.1 hr
      simpa using hrow r' h1
    · obtain ⟨r', u', a', b', _⟩ := key i j row u a b
      exact .inl (h1 i j r' u' a' b')
    · obtain ⟨r', u', a', b', _⟩ := key i j row u a b
      exact hcell i j r' u' a' b'
    · obtain ⟨r', u', a', b', rfl⟩ := key i j row u a b
      exact (ih i j r' u' a' b').mono (fun k hk => hk.elim .inl False.elim) (fun _ h => h)
  | own cells f ho h1 hrow hr ih =>
    rename_i ok0 e rows x
    simp only [V.er]
    rw [erRows_map]
    obtain ⟨A, c, hx, hc, hm, hcs⟩ := ownsRow_slice ho
    have hl : rows.length = (rows.map (·.map V.er)).length := by simp
    have key : ∀ (i j : Nat) (row : List V) (u : V), (rows.map (·.map V.er))[i]? = some row → row[j]? = some u → ∃ (row' : List V) (u' : V), rows[i]? = some row' ∧ row'[j]? = some u' ∧ u = u'.er := by
      intro i j row u a b
      rw [List.getElem?_map] at a
      obtain ⟨row', h1, rfl⟩ := Option.map_eq_some_iff.1 a
      rw [List.getElem?_map] at b
      obtain ⟨u', h2, rfl⟩ := Option.map_eq_some_iff.1 b
      exact ⟨row', u', h1, h2, rfl⟩
    have hlen : ∀ (i j : Nat) (row : List V) (u : V), rows[i]? = some row → row[j]? = some u → i * z e + j < cells.length := by
      intro i j row u a b
      have hi := (List.getElem?_eq_some_iff.1 a).1
      have hj := (List.getElem?_eq_some_iff.1 b).1
      rw [hrow row (List.mem_of_getElem? a)] at hj
      rw [ho.1]
      have : (i + 1) * z e ≤ rows.length * z e := Nat.mul_le_mul_right _ hi
      rw [Nat.succ_mul] at this
      omega
    have hne : ∀ (i : Nat) (row : List V), rows[i]? = some row → rows.length ≠ 0 := fun i row a => by have := (List.getElem?_eq_some_iff.1 a).1; omega
    rw [hx]
    rw [hl] at hc ⊢
    by_cases h0 : rows.length = 0
    · have he : rows = [] := List.length_eq_zero_iff.1 h0
      subst he
      exact .roS ⟨0, 0, none⟩ (fun _ _ => .bool false) hc hm (by simp) (fun hn => absurd rfl hn) (by simp) (by simp) (by simp)
    · obtain ⟨g, hA, hg, hcell⟩ := hcs h0
      refine .roS ⟨g, 0, none⟩ (fun i j => (cells[i * z e + j]?).getD (.bool false)) hc hm (fun row hr => ?_) (fun _ => hA) (fun i j row u a b => ?_) (fun i j row u a b => ?_) (fun i j row u a b => ?_)
      · obtain ⟨r', h1, rfl⟩ := List.mem_map.1 hr
        simpa using hrow r' h1
      · exact .inr (h1 g hg)
      · obtain ⟨r', u', a', b', _⟩ := key i j row u a b
        have hlt := hlen i j r' u' a' b'
        refine hcell _ _ ?_
        simp [List.getElem?_eq_getElem hlt]
      · obtain ⟨r', u', a', b', rfl⟩ := key i j row u a b
        have hlt := hlen i j r' u' a' b'
        have he : cells[i * z e + j]? = some cells[i * z e + j] := List.getElem?_eq_getElem hlt
        simp only [he, Option.getD_some]
        exact (ih i j r' u' _ a' b' he).mono (fun k hk => hk.elim .inl (fun h => .inr h.1)) (fun _ h => h)
  | rp ad y h1 hcell hr ih =>
    simp only [V.er]
    exact .rp ad y (fun j u a => .inl (h1 j u a)) hcell (fun j u a => (hr j u a).mono (fun _ h => .inl h) (fun _ h => h))
  | cl hn hr ih =>
    simp only [V.er]
    exact .cl hn (fun j u y a b => (hr j u y a b).mono (fun _ h => .inl h) (fun _ h => h))
end
end Go.Proofs.Ytanglbgincgmaaa.Vm
