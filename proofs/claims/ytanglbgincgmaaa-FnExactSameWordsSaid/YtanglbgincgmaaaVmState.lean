/-
  The small machine's states: blocks by number, how they stand for the model's memory, and what may turn in them.
-/
import Derived.Test.YtanglbgincgmaaaVmBase
namespace Go.Proofs.Ytanglbgincgmaaa.Vm
open Go Go.RowKit
set_option linter.unusedVariables false

inductive TV where
  | one (v : V)
  | agg (cs : List V)
  | tup (l : List TV)

inductive Blk where
  | box (bv : Nat) (cells : List V)
  | rows (hv cv e : Nat) (rs : List (List V))

abbrev Mem := List (Option Blk)
/-- Where a block lies: whose each block of the model's is (0: nobody's), and what stands for it. -/
structure Mp where
  G : Nat → Nat
  hd : Nat → Value
def roG (m : Mp) (w : World) : Nat → Prop := fun k => m.G k = 0 ∧ k < w.heap.size
def inG (m : Mp) (w : World) (id : Nat) : Nat → Prop := fun k => m.G k = id + 1 ∧ some k ≠ (m.hd id).ownBlock ∧ k < w.heap.size
def seG (m : Mp) (w : World) (id : Nat) : Nat → Prop := fun k => roG m w k ∨ inG m w id k

/-- Where a nested slice stands: cell j of row i of block id, as long as the block bears these two stamps. -/
def PosOk (mem : Mem) (ep : Nat) (m : Mp) (w : World) (id cv : Nat) (p : Option (Nat × Nat × Nat)) (y : Value) : Prop := ∀ hv i j, p = some (hv, i, j) → hv < ep ∧ ∀ e rs, mem[id]? = some (some (.rows hv cv e rs)) →
  ∃ (row : List V) (e2 : Nat) (r2 : List (List V)) (g : Nat), rs[i]? = some row ∧ row[j]? = some (.sl true e2 r2) ∧ (m.hd id).ownBlock = some g ∧ w.cell? ⟨g, i * row.length + j, none⟩ = some y
theorem PosOk.none {mem : Mem} {ep : Nat} {m : Mp} {w : World} {id cv : Nat} {y : Value} : PosOk mem ep m w id cv none y := fun _ _ _ h => by cases h
/-- ep: the next stamp; what bears one has got it before. -/
inductive RV (z : Nat → Nat) (mem : Mem) (ep : Nat) (m : Mp) (w : World) : V → Value → Prop
  | lit {v : Value} (h : v.oneCell' = true) : RV z mem ep m w (.lit v) v
  | ro {e : Nat} {rows : List (List V)} {y : Value} (h : Rep z w (roG m w) (fun _ => False) (.sl false e rows) y) : RV z mem ep m w (.sl false e rows) y
  | ow {id hv : Nat} {y : Value} (hid : hv < ep) (h1 : y.oneCell' = true) (h : ∀ cv e rs, mem[id]? = some (some (.rows hv cv e rs)) → y = m.hd id) : RV z mem ep m w (.ow id hv) y
  | bp {id bv off : Nat} {y : Value} (hid : bv < ep) (h1 : y.oneCell' = true)
      (h : ∀ cells, mem[id]? = some (some (.box bv cells)) → ∃ g, m.hd id = .pointer (some ⟨g, 0, none⟩) ∧ y = .pointer (some ⟨g, off, none⟩)) : RV z mem ep m w (.bp id bv off) y
  | ip {id hv i off : Nat} {y : Value} (hid : hv < ep) (h1 : y.oneCell' = true)
      (h : ∀ cv e rs, mem[id]? = some (some (.rows hv cv e rs)) → ∃ g, (m.hd id).ownBlock = some g ∧ y = .pointer (some ⟨g, i * z e + off, none⟩)) : RV z mem ep m w (.ip id hv i off) y
  | rp {row : List V} {off : Nat} (ad : Addr) (f : Nat → Value) (hro : ∀ (j : Nat) (u : V), row[j]? = some u → roG m w ad.block)
      (hcell : ∀ (j : Nat) (u : V), row[j]? = some u → w.cell? (ad.add j) = some (f j)) (hr : ∀ (j : Nat) (u : V), row[j]? = some u → Rep z w (roG m w) (fun _ => False) u (f j)) :
      RV z mem ep m w (.rp row off) (.pointer (some (ad.add off)))
  | vw {id cv e : Nat} {p : Option (Nat × Nat × Nat)} {rows : List (List V)} {y : Value} (hid : cv < ep) (h1 : y.oneCell' = true)
      (h : ∀ hv e' rs, mem[id]? = some (some (.rows hv cv e' rs)) → Rep z w (seG m w id) (fun _ => False) (.sl false e rows) y) (hp : PosOk mem ep m w id cv p y) : RV z mem ep m w (.vw id cv p e rows) y
  | vp {id cv : Nat} {row : List V} {off : Nat} {y : Value} (hid : cv < ep) (h1 : y.oneCell' = true)
      (h : ∀ hv e' rs, mem[id]? = some (some (.rows hv cv e' rs)) → ∃ (ad : Addr) (f : Nat → Value), y = .pointer (some (ad.add off)) ∧ (∀ (j : Nat) (u : V), row[j]? = some u → seG m w id ad.block) ∧
        (∀ (j : Nat) (u : V), row[j]? = some u → w.cell? (ad.add j) = some (f j)) ∧ (∀ (j : Nat) (u : V), row[j]? = some u → Rep z w (seG m w id) (fun _ => False) u (f j))) : RV z mem ep m w (.vp id cv row off) y
  | np {id cv : Nat} {pl : Nat × Nat × Nat × Nat × Nat} {row : List V} {off : Nat} {y : Value} (h : RV z mem ep m w (.vp id cv row off) y) (x : Value) (hp : PosOk mem ep m w id cv (some (pl.1, pl.2.1, pl.2.2.1)) x)
      (hx : ∀ e rs, mem[id]? = some (some (.rows pl.1 cv e rs)) → ∃ g2, x.ownBlock = some g2 ∧ y = .pointer (some ⟨g2, pl.2.2.2.2 * z pl.2.2.2.1 + off, none⟩)) : RV z mem ep m w (.np id cv pl row off) y
  | ap {q : V} {n i off : Nat} {ad : Addr} (h : RV z mem ep m w q (.pointer (some ad))) : RV z mem ep m w (.ap q n i off) (.pointer (some (ad.add (i * n + off))))
  | cl {g : Nat} {caps : List V} {ps : Array Value} (hn : ps.size = caps.length) (h : ∀ (j : Nat) (u : V) (y : Value), caps[j]? = some u → ps[j]? = some y → RV z mem ep m w u y) : RV z mem ep m w (.cl g caps) (.func (.func g) #[] ps)

inductive RTV (z : Nat → Nat) (mem : Mem) (ep : Nat) (m : Mp) (w : World) : TV → Value → Prop
  | one {v : V} {y : Value} (h : RV z mem ep m w v y) : RTV z mem ep m w (.one v) y
  | agg {cs : List V} {ys : Array Value} (hs : ys.size = cs.length) (h : ∀ (j : Nat) (u : V) (y : Value), cs[j]? = some u → ys[j]? = some y → RV z mem ep m w u y) : RTV z mem ep m w (.agg cs) (.agg ys)
  | tup {l : List TV} {ys : Array Value} (hs : ys.size = l.length) (h : ∀ (j : Nat) (u : TV) (y : Value), l[j]? = some u → ys[j]? = some y → RTV z mem ep m w u y) : RTV z mem ep m w (.tup l) (.tuple ys)

def RBlk (z : Nat → Nat) (mem : Mem) (ep : Nat) (m : Mp) (w : World) (id : Nat) : Blk → Prop
  | .box bv cells => bv < ep ∧ ∃ (g T : Nat) (cs : Array Value), m.hd id = .pointer (some ⟨g, 0, none⟩) ∧ w.heap[g]? = some (.cells cs T (0, 0)) ∧ m.G g = id + 1 ∧ cs.size = cells.length ∧
      ∀ (j : Nat) (u : V) (y : Value), cells[j]? = some u → cs[j]? = some y → RV z mem ep m w u y
  | .rows hv cv e rs => hv < ep ∧ cv < ep ∧ ∃ (cs : List Value) (f : Nat → Nat × Nat), w.ownsRow 0 e (z e) (m.hd id) rs.length cs ∧ (∀ k, (m.hd id).ownBlock = some k → m.G k = id + 1) ∧ (∀ row ∈ rs, row.length = z e) ∧
      ∀ (i j : Nat) (row : List V) (u : V) (y : Value), rs[i]? = some row → row[j]? = some u → cs[i * z e + j]? = some y → Rep z w (roG m w) (fun k => inG m w id k ∧ f k = (i, j)) u y

structure Good (z : Nat → Nat) (B : Nat) (w0 : World) (mem : Mem) (ep : Nat) (m : Mp) (w : World) : Prop where
  blk : ∀ (id : Nat) (b : Blk), mem[id]? = some (some b) → RBlk z mem ep m w id b
  lab : ∀ k, m.G k ≠ 0 → k < w.heap.size ∧ (B ≤ k ∨ m.G k = 1)
  below : Below B w0 w
  hB : B ≤ w.heap.size
  fst : mem[0]? = some none
theorem Good.ne1 {z : Nat → Nat} {B : Nat} {w0 : World} {mem : Mem} {ep : Nat} {m : Mp} {w : World} (hg : Good z B w0 mem ep m w) {l : Nat} (h : ∃ b, mem[l - 1]? = some (some b)) : l ≠ 1 := by
  rintro rfl
  obtain ⟨b, h⟩ := h
  have := hg.fst
  simp only [Nat.sub_self] at h
  rw [h] at this
  cases this
theorem Good.ge {z : Nat → Nat} {B : Nat} {w0 : World} {mem : Mem} {ep : Nat} {m : Mp} {w : World} (hg : Good z B w0 mem ep m w) {id k : Nat} {b : Blk} (h : mem[id]? = some (some b)) (hk : m.G k = id + 1) : B ≤ k := by
  have h1 := (hg.lab k (by omega)).2
  exact h1.resolve_right (hg.ne1 ⟨b, by rw [hk]; exact h⟩)

/-- Where an own slice stands in rs, it stands in rs', its head being what it was. -/
def NestEq (m : Mp) (w w' : World) (id : Nat) (rs rs' : List (List V)) : Prop := ∀ (i j : Nat) (row : List V) (e2 : Nat) (r2 : List (List V)), rs[i]? = some row → row[j]? = some (.sl true e2 r2) →
  (∃ (row' : List V) (r2' : List (List V)), rs'[i]? = some row' ∧ row'.length = row.length ∧ row'[j]? = some (.sl true e2 r2')) ∧ ∀ (g : Nat) (x : Value), (m.hd id).ownBlock = some g → w.cell? ⟨g, i * row.length + j, none⟩ = some x → w'.cell? ⟨g, i * row.length + j, none⟩ = some x
theorem NestEq.same {m : Mp} {w w' : World} {id : Nat} {rs : List (List V)} (h : ∀ g, (m.hd id).ownBlock = some g → g < w.heap.size → w'.heap[g]? = w.heap[g]?) : NestEq m w w' id rs rs := fun i j row e2 r2 h1 h2 =>
  ⟨⟨row, r2, h1, rfl, h2⟩, fun g x hg hx => by
    rw [← hx]
    exact World.cell?_of_block (h g hg (World.block_lt_of_cell? _ _ hx))⟩
/-- What may turn: a block that bears a stamp from before stands where it stood. -/
structure Evo (ep ep' : Nat) (mem mem' : Mem) (m m' : Mp) (w w' : World) : Prop where
  le : ep ≤ ep'
  size : w.heap.size ≤ w'.heap.size
  ro : ∀ k, roG m w k → m'.G k = 0 ∧ w'.heap[k]? = w.heap[k]?
  fgn : ∀ k, m.G k = 1 → k < w.heap.size → m'.G k = 1 ∧ w'.heap[k]? = w.heap[k]?
  box : ∀ id bv cells, mem'[id]? = some (some (.box bv cells)) → ep ≤ bv ∨ ∃ cells', mem[id]? = some (some (.box bv cells')) ∧ m'.hd id = m.hd id
  rows : ∀ id hv cv e rs, mem'[id]? = some (some (.rows hv cv e rs)) → (ep ≤ hv ∨ ∃ cv' rs', mem[id]? = some (some (.rows hv cv' e rs')) ∧ m'.hd id = m.hd id)
  view : ∀ id hv cv e rs, mem'[id]? = some (some (.rows hv cv e rs)) → (ep ≤ cv ∨ ∃ hv' e' rs', mem[id]? = some (some (.rows hv' cv e' rs')) ∧ ∀ k, inG m w id k → inG m' w' id k ∧ w'.heap[k]? = w.heap[k]?)
  nest : ∀ id hv cv e rs rs', mem[id]? = some (some (.rows hv cv e rs)) → mem'[id]? = some (some (.rows hv cv e rs')) → hv < ep → cv < ep → NestEq m w w' id rs rs'

theorem rows_inj4 {id hv cv e hv' cv' e' : Nat} {mem : Mem} {rs rs' : List (List V)} (h : mem[id]? = some (some (.rows hv cv e rs))) (h' : mem[id]? = some (some (.rows hv' cv' e' rs'))) : hv = hv' ∧ cv = cv' ∧ e = e' ∧ rs = rs' := by
  rw [h] at h'
  simpa using h'
theorem Evo.refl {ep : Nat} {mem : Mem} {m : Mp} {w : World} : Evo ep ep mem mem m m w w :=
  ⟨Nat.le_refl _, Nat.le_refl _, fun k hk => ⟨hk.1, rfl⟩, fun k hk _ => ⟨hk, rfl⟩, fun id bv c h => .inr ⟨c, h, rfl⟩, fun id hv cv e rs h => .inr ⟨cv, rs, h, rfl⟩, fun id hv cv e rs h => .inr ⟨hv, e, rs, h, fun k hk => ⟨hk, rfl⟩⟩, fun id hv cv e rs rs' h h' _ _ => by
    obtain ⟨_, _, _, rfl⟩ := rows_inj4 h h'
    exact NestEq.same (fun _ _ _ => rfl)⟩
theorem Evo.trans {ep ep' ep'' : Nat} {a b c : Mem} {m m' m'' : Mp} {w w' w'' : World} (h : Evo ep ep' a b m m' w w') (k : Evo ep' ep'' b c m' m'' w' w'') : Evo ep ep'' a c m m'' w w'' := by
  refine ⟨Nat.le_trans h.le k.le, Nat.le_trans h.size k.size, fun x hx => ?_, fun x hx hl => ⟨(k.fgn x (h.fgn x hx hl).1 (Nat.lt_of_lt_of_le hl h.size)).1, (k.fgn x (h.fgn x hx hl).1 (Nat.lt_of_lt_of_le hl h.size)).2.trans (h.fgn x hx hl).2⟩, fun id bv cells hc => ?_, fun id hv cv e rs hc => ?_, fun id hv cv e rs hc => ?_, fun id hv cv e rs rs'' ha hc l1 l2 => ?_⟩
  · obtain ⟨h1, h2⟩ := h.ro x hx
    obtain ⟨h3, h4⟩ := k.ro x ⟨h1, Nat.lt_of_lt_of_le hx.2 h.size⟩
    exact ⟨h3, h4.trans h2⟩
  · rcases k.box id bv cells hc with h1 | ⟨c1, h1, e1⟩
    · exact .inl (Nat.le_trans h.le h1)
    · rcases h.box id bv c1 h1 with h2 | ⟨c2, h2, e2⟩
      · exact .inl h2
      · exact .inr ⟨c2, h2, e1.trans e2⟩
  · rcases k.rows id hv cv e rs hc with h1 | ⟨cv1, rs1, h1, p1⟩
    · exact .inl (Nat.le_trans h.le h1)
    · rcases h.rows id hv cv1 e rs1 h1 with h2 | ⟨cv2, rs2, h2, p2⟩
      · exact .inl h2
      · exact .inr ⟨cv2, rs2, h2, p1.trans p2⟩
  · rcases k.view id hv cv e rs hc with h1 | ⟨hv1, e1, rs1, h1, p1⟩
    · exact .inl (Nat.le_trans h.le h1)
    · rcases h.view id hv1 cv e1 rs1 h1 with h2 | ⟨hv2, e2, rs2, h2, p2⟩
      · exact .inl h2
      · exact .inr ⟨hv2, e2, rs2, h2, fun x hx => ⟨(p1 x (p2 x hx).1).1, (p1 x (p2 x hx).1).2.trans (p2 x hx).2⟩⟩
  · rcases k.rows id hv cv e rs'' hc with h1 | ⟨cv1, rs1, h1, p1⟩
    · have := h.le; omega
    rcases k.view id hv cv e rs'' hc with h2 | ⟨hv2, e2, rs2, h2, p2⟩
    · have := h.le; omega
    obtain ⟨_, rfl, _, _⟩ := rows_inj4 h1 h2
    have hd : m'.hd id = m.hd id := by
      rcases h.rows id hv cv1 e rs1 h1 with h3 | ⟨_, _, _, h3⟩
      · omega
      · exact h3
    have n1 := h.nest id hv cv1 e rs rs1 ha h1 l1 l2
    have n2 := k.nest id hv cv1 e rs1 rs'' h1 hc (Nat.lt_of_lt_of_le l1 h.le) (Nat.lt_of_lt_of_le l2 h.le)
    intro i j row f2 r2 q1 q2
    obtain ⟨⟨row1, r1, q3, q4, q5⟩, q6⟩ := n1 i j row f2 r2 q1 q2
    obtain ⟨⟨row3, r3, q7, q8, q9⟩, q10⟩ := n2 i j row1 f2 r1 q3 q5
    refine ⟨⟨row3, r3, q7, q8.trans q4, q9⟩, fun g x hg hx => ?_⟩
    have := q10 g x (by rw [hd]; exact hg) (by rw [q4]; exact q6 g x hg hx)
    rwa [q4] at this

section
variable {z : Nat → Nat} {ep ep' : Nat} {mem mem' : Mem} {m m' : Mp} {w w' : World}
theorem Evo.ro_move (h : Evo ep ep' mem mem' m m' w w') {ok : Nat → Prop} {v : V} {y : Value} (hr : Rep z w (roG m w) ok v y) (hok : ∀ k, ok k → k < w.heap.size → w'.heap[k]? = w.heap[k]?) : Rep z w' (roG m' w') ok v y := by
  refine ((hr.bound.move (fun k hk => ?_)).mono (fun k hk => ?_) (fun k hk => hk.1))
  · rcases hk with hk | hk
    · exact (h.ro k hk.1).2
    · exact hok k hk.1 hk.2
  · exact ⟨(h.ro k hk.1).1, Nat.lt_of_lt_of_le hk.2 h.size⟩
theorem Evo.se (h : Evo ep ep' mem mem' m m' w w') {id : Nat} (q : ∀ k, inG m w id k → inG m' w' id k ∧ w'.heap[k]? = w.heap[k]?) : ∀ k, seG m w id k → seG m' w' id k ∧ w'.heap[k]? = w.heap[k]? := by
  intro k hk
  rcases hk with hk | hk
  · exact ⟨.inl ⟨(h.ro k hk).1, Nat.lt_of_lt_of_le hk.2 h.size⟩, (h.ro k hk).2⟩
  · exact ⟨.inr (q k hk).1, (q k hk).2⟩
theorem view_move {id : Nat} {v : V} {y : Value} (h : Rep z w (seG m w id) (fun _ => False) v y) (q : ∀ k, seG m w id k → seG m' w' id k ∧ w'.heap[k]? = w.heap[k]?) : Rep z w' (seG m' w' id) (fun _ => False) v y :=
  (h.move (fun k hk => hk.elim (fun hk => (q k hk).2) False.elim)).mono (fun k hk => (q k hk).1) (fun _ h => h)
theorem PosOk.evo (e : Evo ep ep' mem mem' m m' w w') {id cv : Nat} {p : Option (Nat × Nat × Nat)} {y : Value} (hid : cv < ep) (hp : PosOk mem ep m w id cv p y) : PosOk mem' ep' m' w' id cv p y := by
  have hep := e.le
  intro hv i j hpe
  obtain ⟨l1, hp⟩ := hp hv i j hpe
  refine ⟨by omega, fun ee rs hm => ?_⟩
  rcases e.rows _ _ _ _ _ hm with h2 | ⟨cv1, rs1, h2, hd⟩
  · omega
  rcases e.view _ _ _ _ _ hm with h3 | ⟨hv2, e2, rs2, h3, _⟩
  · omega
  obtain ⟨_, rfl, _, _⟩ := rows_inj4 h2 h3
  obtain ⟨row, f2, r2, g, q1, q2, q3, q4⟩ := hp _ _ h2
  obtain ⟨⟨row1, r1, q5, q6, q7⟩, q8⟩ := e.nest _ _ _ _ _ _ h2 hm l1 hid i j row f2 r2 q1 q2
  exact ⟨row1, f2, r1, g, q5, q7, by rw [hd]; exact q3, by rw [q6]; exact q8 g _ q3 q4⟩
theorem RV.evo {v : V} {y : Value} (h : RV z mem ep m w v y) (e : Evo ep ep' mem mem' m m' w w') : RV z mem' ep' m' w' v y := by
  have hep := e.le
  induction h with
  | lit h => exact .lit h
  | ro h => exact .ro (e.ro_move h (fun k hk => hk.elim))
  | ow hid h1 h =>
    refine .ow (by omega) h1 (fun cv ee rs hm => ?_)
    rcases e.rows _ _ _ _ _ hm with h2 | ⟨cv', rs', h2, h5⟩
    · omega
    · exact (h _ _ _ h2).trans h5.symm
  | bp hid h1 h =>
    refine .bp (by omega) h1 (fun cells hm => ?_)
    rcases e.box _ _ _ hm with h2 | ⟨c', h2, h3⟩
    · omega
    · obtain ⟨g, h4, h5⟩ := h c' h2
      exact ⟨g, h3.trans h4, h5⟩
  | ip hid h1 h =>
    refine .ip (by omega) h1 (fun cv ee rs hm => ?_)
    rcases e.rows _ _ _ _ _ hm with h2 | ⟨cv', rs', h2, h5⟩
    · omega
    · rw [h5]
      exact h _ _ _ h2
  | rp ad f hro hcell hr =>
    refine .rp ad f (fun j u a => ?_) (fun j u a => ?_) (fun j u a => e.ro_move (hr j u a) (fun k hk => hk.elim))
    · obtain ⟨h1, h2⟩ := hro j u a
      exact ⟨(e.ro _ ⟨h1, h2⟩).1, Nat.lt_of_lt_of_le h2 e.size⟩
    · rw [← hcell j u a]
      refine World.cell?_of_block ?_
      rw [add_block]
      exact (e.ro _ (hro j u a)).2
  | vw hid h1 h hp =>
    refine .vw (by omega) h1 (fun hv ee rs hm => ?_) (PosOk.evo e hid hp)
    rcases e.view _ _ _ _ _ hm with h2 | ⟨hv', e', rs', h2, h6⟩
    · omega
    · exact view_move (h _ _ _ h2) (e.se h6)
  | vp hid h1 h =>
    refine .vp (by omega) h1 (fun hv ee rs hm => ?_)
    rcases e.view _ _ _ _ _ hm with h2 | ⟨hv', e', rs', h2, q0⟩
    · omega
    · have q := e.se q0
      obtain ⟨ad, f, ha, hb, hc, hd⟩ := h _ _ _ h2
      refine ⟨ad, f, ha, fun j u a => (q _ (hb j u a)).1, fun j u a => ?_, fun j u a => view_move (hd j u a) q⟩
      rw [← hc j u a]
      refine World.cell?_of_block ?_
      rw [add_block]
      exact (q _ (hb j u a)).2
  | np h x hp hx ih =>
    cases h with
    | vp hid _ _ =>
      refine .np ih x (PosOk.evo e hid hp) (fun ee rs hm => ?_)
      have l1 := (hp _ _ _ rfl).1
      rcases e.rows _ _ _ _ _ hm with h2 | ⟨cv1, rs1, h2, hd⟩
      · omega
      rcases e.view _ _ _ _ _ hm with h3 | ⟨hv2, e2, rs2, h3, _⟩
      · omega
      obtain ⟨_, rfl, _, _⟩ := rows_inj4 h2 h3
      exact hx _ _ h2
  | ap h ih => exact .ap ih
  | cl hn h ih => exact .cl hn (fun j u y a b => ih j u y a b)
theorem RTV.evo {v : TV} {y : Value} (h : RTV z mem ep m w v y) (e : Evo ep ep' mem mem' m m' w w') : RTV z mem' ep' m' w' v y := by
  induction h with
  | one h => exact .one (h.evo e)
  | agg hs h => exact .agg hs (fun j u y a b => (h j u y a b).evo e)
  | tup hs h ih => exact .tup hs (fun j u y a b => ih j u y a b)
theorem RV.one_cell {v : V} {y : Value} (h : RV z mem ep m w v y) : y.oneCell' = true := by
  cases h with
  | lit h => exact h
  | ro h => cases h; rfl
  | ow _ h _ => exact h
  | bp _ h _ => exact h
  | ip _ h _ => exact h
  | rp _ _ _ _ _ => rfl
  | vw _ h _ _ => exact h
  | vp _ h _ => exact h
  | np h _ _ _ =>
    cases h with
    | vp _ h _ => exact h
  | ap _ => rfl
  | cl _ _ => rfl
end
end Go.Proofs.Ytanglbgincgmaaa.Vm
