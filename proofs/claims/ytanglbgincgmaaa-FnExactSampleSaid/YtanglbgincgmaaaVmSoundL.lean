/-
  The small machine is true to the model: stores.
-/
import Derived.Test.YtanglbgincgmaaaVmSoundK
import Derived.Laws.CopyRow
import Derived.Laws.CopyOwn
namespace Go.Proofs.Ytanglbgincgmaaa.Vm
open Go Go.RowKit
set_option linter.unusedVariables false
section
variable {P : Program} {S : St} {m : Mp} {w w' w0 : World} {a : Act} {B : Nat} {z : Nat → Nat} {mem mem1 mem' : Mem} {ep ep' : Nat}

theorem putL_seg {α : Type} : ∀ (cs l : List α) (k : Nat), k + cs.length ≤ l.length → putL l k cs = l.take k ++ cs ++ l.drop (k + cs.length) := by
  intro cs
  induction cs with
  | nil => intro l k h; simp [putL]
  | cons c cs ih =>
    intro l k h
    simp only [List.length_cons] at h
    simp only [putL]
    rw [ih (l.set k c) (k + 1) (by simp; omega)]
    apply List.ext_getElem?
    intro j
    have hk : (l.take k).length = k := by simp; omega
    have hk1 : ((l.set k c).take (k + 1)).length = k + 1 := by simp; omega
    simp only [List.append_assoc]
    rcases Nat.lt_or_ge j k with h1 | h1
    · rw [List.getElem?_append_left (by omega), List.getElem?_append_left (by omega), List.getElem?_take, List.getElem?_take, if_pos (by omega), if_pos h1, List.getElem?_set_ne (by omega)]
    · rcases Nat.eq_or_lt_of_le h1 with h2 | h2
      · subst h2
        rw [List.getElem?_append_left (by omega), List.getElem?_append_right (by omega), List.getElem?_take, if_pos (by omega), hk, List.getElem?_set_self (by omega)]
        simp
      · rw [List.getElem?_append_right (l₁ := (l.set k c).take (k + 1)) (by omega), List.getElem?_append_right (l₁ := l.take k) (by omega), hk1, hk]
        obtain ⟨d, rfl⟩ : ∃ d, j = k + 1 + d := ⟨j - (k + 1), by omega⟩
        rw [show k + 1 + d - (k + 1) = d from by omega, show k + 1 + d - k = d + 1 from by omega]
        simp only [List.cons_append, List.getElem?_cons_succ, List.length_cons]
        rw [show k + (cs.length + 1) = k + 1 + cs.length from by omega]
        rcases Nat.lt_or_ge d cs.length with h3 | h3
        · rw [List.getElem?_append_left h3, List.getElem?_append_left h3]
        · rw [List.getElem?_append_right h3, List.getElem?_append_right h3, List.getElem?_drop, List.getElem?_drop, List.getElem?_set_ne (by omega)]
/-- What stands in a list that was written to. -/
theorem seg_get {α : Type} {l cs : List α} {k : Nat} (h : k + cs.length ≤ l.length) {j : Nat} {x : α} (hj : (l.take k ++ cs ++ l.drop (k + cs.length))[j]? = some x) :
    ((j < k ∨ k + cs.length ≤ j) ∧ l[j]? = some x) ∨ ∃ d, j = k + d ∧ cs[d]? = some x := by
  have hk : (l.take k).length = k := by simp; omega
  rw [List.append_assoc] at hj
  rcases Nat.lt_or_ge j k with h1 | h1
  · rw [List.getElem?_append_left (by omega), List.getElem?_take, if_pos h1] at hj
    exact .inl ⟨.inl h1, hj⟩
  · rw [List.getElem?_append_right (by omega), hk] at hj
    rcases Nat.lt_or_ge (j - k) cs.length with h2 | h2
    · rw [List.getElem?_append_left h2] at hj
      exact .inr ⟨j - k, by omega, hj⟩
    · rw [List.getElem?_append_right h2, List.getElem?_drop, show k + cs.length + (j - k - cs.length) = j from by omega] at hj
      exact .inl ⟨.inr (by omega), hj⟩
theorem seg_len {α : Type} {l cs : List α} {k : Nat} (h : k + cs.length ≤ l.length) : (l.take k ++ cs ++ l.drop (k + cs.length)).length = l.length := by simp; omega

def SetOk (z : Nat → Nat) (B : Nat) (w0 : World) (mem : Mem) (ep : Nat) (m : Mp) (w : World) (mem' : Mem) (ep' : Nat) (w' : World) : Prop := ∃ m', Good z B w0 mem' ep' m' w' ∧ Evo ep ep' mem mem' m m' w w'

/-- A box that is written to. -/
theorem box_set (hg : Good z B w0 mem ep m w) {id bv : Nat} {cells : List V} (h0 : mem[id]? = some (some (.box bv cells))) {cs : List V} {ys : List Value} {off : Nat} (hl : ys.length = cs.length)
    (hr : ∀ (j : Nat) (u : V) (y : Value), cs[j]? = some u → ys[j]? = some y → RV z mem ep m w u y) (hle : off + cs.length ≤ cells.length) :
    ∃ g cur T, m.hd id = .pointer (some ⟨g, 0, none⟩) ∧ w.heap[g]? = some (.cells cur T (0, 0)) ∧ off + ys.length ≤ cur.size ∧
      SetOk z B w0 mem ep m w (mem.set id (some (.box bv (putL cells off cs)))) ep (w.setRow g (cur.toList.take off ++ ys ++ cur.toList.drop (off + ys.length)).toArray) := by
  obtain ⟨hbv, g, T, cur, hd, hheap, hG, hsz, hrv⟩ := hg.blk _ _ h0
  have hcl : cur.toList.length = cur.size := Array.length_toList
  have hfit : off + ys.length ≤ cur.toList.length := by omega
  have hB := hg.ge h0 hG
  have heap : (w.setRow g (cur.toList.take off ++ ys ++ cur.toList.drop (off + ys.length)).toArray).heap[g]? = some (.cells (cur.toList.take off ++ ys ++ cur.toList.drop (off + ys.length)).toArray T (0, 0)) := setRow_heap w g cur _ T _ hheap
  have hoth : ∀ k, k ≠ g → (w.setRow g (cur.toList.take off ++ ys ++ cur.toList.drop (off + ys.length)).toArray).heap[k]? = w.heap[k]? := fun k hk => setRow_other w g k _ hk
  have hsize : (w.setRow g (cur.toList.take off ++ ys ++ cur.toList.drop (off + ys.length)).toArray).heap.size = w.heap.size := size_setRow w g _
  have hbel : Below B w (w.setRow g (cur.toList.take off ++ ys ++ cur.toList.drop (off + ys.length)).toArray) := below_setRow (Below.refl _ _) hB _
  refine ⟨g, cur, T, hd, hheap, by omega, ?_⟩
  generalize w.setRow g (cur.toList.take off ++ ys ++ cur.toList.drop (off + ys.length)).toArray = w' at heap hoth hsize hbel ⊢
  refine ⟨m.add id (m.hd id) m.G, ?_⟩
  refine set_good (ep' := ep) (x := m.hd id) (G := m.G) (b := .box bv (putL cells off cs)) hg (Gone.refl mem) h0 (Nat.le_refl _) hbel (fun k hk hn => hoth k (fun he => hn (by rw [he]; exact hG)))
    (fun k hk => .inl rfl) (fun k hk => .inl (by
      rcases Nat.eq_zero_or_pos (m.G k) with h | h
      · exact h
      · have := (hg.lab k (by omega)).1; omega)) (fun bv' c hb => by cases hb; exact .inr ⟨_, rfl, rfl⟩) (fun _ _ _ _ hb => by cases hb) (fun _ _ _ _ hb => by cases hb) (fun _ _ _ _ _ hb => by cases hb) (fun hE => ?_)
  refine ⟨hbv, g, T, _, by rw [Mp.add_same]; exact hd, heap, hG, ?_, fun j u y hu hy => ?_⟩
  · rw [putL_seg _ _ _ hle, seg_len hle, List.size_toArray, seg_len hfit, Array.length_toList, hsz]
  · rw [putL_seg _ _ _ hle] at hu
    rw [List.getElem?_toArray] at hy
    rcases seg_get hle hu with ⟨h1, h2⟩ | ⟨d, rfl, h2⟩
    · rcases seg_get hfit hy with ⟨h3, h4⟩ | ⟨d, h3, h4⟩
      · exact (hrv j u y h2 (by simpa using h4)).evo hE
      · have := (List.getElem?_eq_some_iff.1 h4).1
        omega
    · have hlt := (List.getElem?_eq_some_iff.1 h2).1
      rcases seg_get hfit hy with ⟨h3, h4⟩ | ⟨d', h3, h4⟩
      · omega
      · have : d' = d := by omega
        subst this
        exact (hr _ u y h2 h4).evo hE

/-- A row of an own slice that is written to. -/
theorem row_set (ov : Bool) (hg : Good z B w0 mem ep m w) {id hv cv e i off : Nat} {rs : List (List V)} {row : List V} {cs cs' : List V} {ys : List Value} (hl : ys.length = cs.length)
    (hr : ∀ (j : Nat) (u : V) (y : Value), cs[j]? = some u → ys[j]? = some y → RV z mem ep m w u y) (hf : foldL mem cs = some (cs', mem1)) (h0 : mem1[id]? = some (some (.rows hv cv e rs))) (hrow : rs[i]? = some row) (hle : off + cs.length ≤ row.length) (hov : ov = overB row off cs.length) :
    ∃ g cur T, (m.hd id).ownBlock = some g ∧ w.heap[g]? = some (.cells cur T (0, 0)) ∧ i * z e + off + ys.length ≤ cur.size ∧
      SetOk z B w0 mem ep m w (mem1.set id (some (.rows hv (if ov then ep else cv) e (rs.set i (putL row off cs'))))) (if ov then ep + 1 else ep) (w.setRow g (cur.toList.take (i * z e + off) ++ ys ++ cur.toList.drop (i * z e + off + ys.length)).toArray) := by
  classical
  obtain ⟨hl', hG1, L, hF, hinj, hdead⟩ := foldL_rep cs mem mem1 cs' ys hg hl hr hf
  have hm0 := hG1.2 _ _ h0
  obtain ⟨hhv, hcv, xs, f, hown, hG, hlen, hrep⟩ := hg.blk _ _ hm0
  have hi := (List.getElem?_eq_some_iff.1 hrow).1
  have hrl := hlen row (List.mem_of_getElem? hrow)
  have hown2 := hown
  obtain ⟨hxl, h2⟩ := hown
  rcases h2 with ⟨h3, h4⟩ | ⟨g, cap, cur, h3, h4, h5, h6, h7, h8, h9⟩
  · omega
  have hgb : (m.hd id).ownBlock = some g := by rw [h3]; rfl
  have hGg := hG g hgb
  have hmul : (i + 1) * z e ≤ rs.length * z e := Nat.mul_le_mul_right _ hi
  have hmul2 : rs.length * z e ≤ cap * z e := Nat.mul_le_mul_right _ h6
  rw [Nat.succ_mul] at hmul
  have hcl : cur.toList.length = cur.size := Array.length_toList
  have hfit : i * z e + off + ys.length ≤ cur.toList.length := by omega
  have hfit2 : i * z e + off + ys.length ≤ xs.length := by rw [hxl]; omega
  have hB := hg.ge hm0 hGg
  have heap : (w.setRow g (cur.toList.take (i * z e + off) ++ ys ++ cur.toList.drop (i * z e + off + ys.length)).toArray).heap[g]? = some (.cells (cur.toList.take (i * z e + off) ++ ys ++ cur.toList.drop (i * z e + off + ys.length)).toArray e (0, 0)) := setRow_heap w g cur _ e _ h5
  have hoth : ∀ k, k ≠ g → (w.setRow g (cur.toList.take (i * z e + off) ++ ys ++ cur.toList.drop (i * z e + off + ys.length)).toArray).heap[k]? = w.heap[k]? := fun k hk => setRow_other w g k _ hk
  have hsize : (w.setRow g (cur.toList.take (i * z e + off) ++ ys ++ cur.toList.drop (i * z e + off + ys.length)).toArray).heap.size = w.heap.size := size_setRow w g _
  have hbel : Below B w (w.setRow g (cur.toList.take (i * z e + off) ++ ys ++ cur.toList.drop (i * z e + off + ys.length)).toArray) := below_setRow (Below.refl _ _) hB _
  refine ⟨g, cur, e, hgb, h5, by simpa using hfit, ?_⟩
  generalize w.setRow g (cur.toList.take (i * z e + off) ++ ys ++ cur.toList.drop (i * z e + off + ys.length)).toArray = w' at heap hoth hsize hbel ⊢
  let D : Nat → Prop := fun l => ∃ j, L j ≠ 0 ∧ L j = l
  have hD : ∀ l, D l → l ≠ 0 → l ≠ 1 ∧ mem1[l - 1]? = some none := by
    intro l hl h0'
    obtain ⟨j, h1, h2⟩ := hl
    rw [← h2]
    exact ⟨hg.ne1 (hdead j h1).1, (hdead j h1).2⟩
  have hnD : ¬ D (id + 1) := by
    intro hd
    have := (hD _ hd (by omega)).2
    simp [h0] at this
  let pl : Nat → Nat := fun l => if h : ∃ j, L j ≠ 0 ∧ L j = l then h.choose else 0
  have hpl : ∀ j, L j ≠ 0 → pl (L j) = j := by
    intro j hj
    have hex : ∃ j', L j' ≠ 0 ∧ L j' = L j := ⟨j, hj, rfl⟩
    show (if h : ∃ j', L j' ≠ 0 ∧ L j' = L j then h.choose else 0) = j
    rw [dif_pos hex]
    exact hinj _ _ hex.choose_spec.1 hex.choose_spec.2
  have hin : ∀ k, inG m w id k → inG (m.add id (m.hd id) (relabel m w.heap.size (fun _ => False) D id)) w' id k ∧ w'.heap[k]? = w.heap[k]? := by
    intro k hk
    obtain ⟨q1, q2, q3⟩ := hk
    refine ⟨⟨?_, by rw [Mp.add_same]; exact q2, by omega⟩, hoth k (fun he => q2 (by rw [he]; exact hgb.symm))⟩
    show relabel m w.heap.size (fun _ => False) D id k = id + 1
    unfold relabel
    rw [if_neg (by omega)]
    split
    · rfl
    · exact q1
  refine ⟨m.add id (m.hd id) (relabel m w.heap.size (fun _ => False) D id), ?_⟩
  refine set_good (ep' := if ov then ep + 1 else ep) (x := m.hd id) (G := relabel m w.heap.size (fun _ => False) D id) (b := .rows hv (if ov then ep else cv) e (rs.set i (putL row off cs'))) hg hG1 h0 (by split <;> omega) hbel (fun k hk hn => hoth k (fun he => hn (by rw [he]; exact hGg)))
    (fun k hk => relabel_lt hD hk) (fun k hk => .inl ((relabel_ge hk).2 (fun h => h))) (fun _ _ hb => by cases hb) (fun _ _ _ _ hb => by cases hb; exact .inr ⟨_, _, rfl, rfl⟩) (fun _ _ _ _ hb => by
      cases hb
      cases ov with
      | true => exact .inl (Nat.le_refl _)
      | false => exact .inr ⟨_, _, _, rfl, hin⟩) (fun hv2 cv2 e2 rs1 rs2 hb1 hb2 l1 l2 => ?_) (fun hE => ?_)
  · cases hb1
    cases ov with
    | true =>
      simp only [if_true, Blk.rows.injEq] at hb2
      omega
    | false =>
      simp only [Bool.false_eq_true, if_false, Blk.rows.injEq, true_and] at hb2
      subst hb2
      intro i2 j2 row2 f2 r2 q1 q2
      have hr2 := hlen row2 (List.mem_of_getElem? q1)
      have hj2 : j2 < row2.length := (List.getElem?_eq_some_iff.1 q2).1
      have hi2 := (List.getElem?_eq_some_iff.1 q1).1
      have hnot : i2 = i → j2 < off ∨ off + cs.length ≤ j2 := by
        intro he
        subst he
        rw [hrow] at q1
        simp only [Option.some.injEq] at q1
        subst q1
        rcases Nat.lt_or_ge j2 off with h | h
        · exact .inl h
        rcases Nat.lt_or_ge j2 (off + cs.length) with h5 | h5
        · exfalso
          have hm : V.sl true f2 r2 ∈ (row.drop off).take cs.length := by
            refine List.mem_of_getElem? (i := j2 - off) ?_
            rw [List.getElem?_take, if_pos (by omega), List.getElem?_drop, show off + (j2 - off) = j2 from by omega]
            exact q2
          have : overB row off cs.length = true := List.any_eq_true.2 ⟨_, hm, rfl⟩
          rw [this] at hov
          cases hov
        · exact .inr h5
      refine ⟨?_, fun g2 x2 hg2 hx2 => ?_⟩
      · by_cases he : i2 = i
        · subst he
          rw [hrow] at q1
          simp only [Option.some.injEq] at q1
          subst q1
          refine ⟨putL row off cs', r2, by rw [List.getElem?_set_self hi], by rw [putL_seg _ _ _ (by omega), seg_len (by omega)], ?_⟩
          rw [putL_seg _ _ _ (by omega)]
          have hk : (row.take off).length = off := by rw [List.length_take]; omega
          rcases hnot rfl with h | h
          · rw [List.append_assoc, List.getElem?_append_left (by omega), List.getElem?_take, if_pos h]
            exact q2
          · rw [List.getElem?_append_right (by rw [List.length_append]; omega), List.length_append, hk, List.getElem?_drop, show off + cs'.length + (j2 - (off + cs'.length)) = j2 from by omega]
            exact q2
        · exact ⟨row2, r2, by rw [List.getElem?_set_ne (Ne.symm he)]; exact q1, rfl, q2⟩
      · rw [hgb] at hg2
        simp only [Option.some.injEq] at hg2
        subst hg2
        have hidx : i2 * row2.length + j2 < i * z e + off ∨ i * z e + off + ys.length ≤ i2 * row2.length + j2 := by
          rw [hr2]
          rcases Nat.lt_trichotomy i2 i with h | h | h
          · have : (i2 + 1) * z e ≤ i * z e := Nat.mul_le_mul_right _ h
            rw [Nat.succ_mul] at this
            omega
          · subst h
            rcases hnot rfl with h | h <;> omega
          · have : (i + 1) * z e ≤ i2 * z e := Nat.mul_le_mul_right _ h
            rw [Nat.succ_mul] at this
            omega
        simp only [World.cell?, h5, heap, Option.isSome_none, Bool.false_eq_true, if_false] at hx2 ⊢
        rw [List.getElem?_toArray]
        have hx3 : cur.toList[i2 * row2.length + j2]? = some x2 := by simpa using hx2
        have hk : (cur.toList.take (i * z e + off)).length = i * z e + off := by rw [List.length_take]; omega
        rcases hidx with h | h
        · rw [List.append_assoc, List.getElem?_append_left (by omega), List.getElem?_take, if_pos h]
          exact hx3
        · rw [List.getElem?_append_right (by rw [List.length_append]; omega), List.length_append, hk, List.getElem?_drop, show i * z e + off + ys.length + (i2 * row2.length + j2 - (i * z e + off + ys.length)) = i2 * row2.length + j2 from by omega]
          exact hx3
  have hle' : off + cs'.length ≤ row.length := by omega
  refine ⟨by split <;> omega, by split <;> omega, xs.take (i * z e + off) ++ ys ++ xs.drop (i * z e + off + ys.length), fun k => if D (m.G k) ∧ m.G k ≠ 0 then (i, off + pl (m.G k)) else f k, ?_, fun k hk => ?_, fun r hr' => ?_, fun i' j r u y hr' hu hy => ?_⟩
  · rw [Mp.add_same, List.length_set]
    refine ⟨by rw [seg_len hfit2, hxl], .inr ⟨g, cap, _, h3, h4, heap, h6, h7, by rw [List.size_toArray, seg_len hfit, Array.length_toList, h8], ?_⟩⟩
    rw [List.toList_toArray, ← h9]
    apply List.ext_getElem?
    intro j
    have e1 : (cur.toList.take (i * z e + off)).length = i * z e + off := by rw [List.length_take]; omega
    have hc : (cur.toList.take (rs.length * z e)).length = rs.length * z e := by rw [List.length_take]; omega
    have e2 : ((cur.toList.take (rs.length * z e)).take (i * z e + off)).length = i * z e + off := by rw [List.length_take]; omega
    simp only [List.append_assoc]
    rw [List.getElem?_take]
    rcases Nat.lt_or_ge j (rs.length * z e) with q | q
    · rw [if_pos q]
      rcases Nat.lt_or_ge j (i * z e + off) with q1 | q1
      · rw [List.getElem?_append_left (by omega), List.getElem?_append_left (by omega), List.getElem?_take, List.getElem?_take, List.getElem?_take, if_pos q1, if_pos q1, if_pos q]
      · rw [List.getElem?_append_right (l₁ := cur.toList.take (i * z e + off)) (by omega), List.getElem?_append_right (l₁ := (cur.toList.take (rs.length * z e)).take (i * z e + off)) (by omega), e1, e2]
        rcases Nat.lt_or_ge (j - (i * z e + off)) ys.length with q2 | q2
        · rw [List.getElem?_append_left q2, List.getElem?_append_left q2]
        · rw [List.getElem?_append_right q2, List.getElem?_append_right q2, List.getElem?_drop, List.getElem?_drop, List.getElem?_take, if_pos (by omega)]
    · rw [if_neg (by omega)]
      symm
      rw [List.getElem?_eq_none_iff, ← List.append_assoc, seg_len (by rw [hc]; omega), hc]
      exact q
  · rw [Mp.add_same] at hk
    have hkg : k = g := by rw [hgb] at hk; exact (Option.some.inj hk).symm
    subst hkg
    show relabel m w.heap.size (fun _ => False) D id k = id + 1
    unfold relabel
    rw [if_neg (by have := ownsRow_lt hown2 hgb; omega)]
    split
    · rfl
    · exact hGg
  · rcases List.mem_or_eq_of_mem_set hr' with h | h
    · exact hlen r h
    · rw [h, putL_seg _ _ _ hle', seg_len hle', hrl]
  · -- what stands at each place
    have old : ∀ (u : V) (y : Value) (r0 : List V), rs[i']? = some r0 → r0[j]? = some u → xs[i' * z e + j]? = some y → Rep z w' (roG (m.add id (m.hd id) (relabel m w.heap.size (fun _ => False) D id)) w') (fun k => inG (m.add id (m.hd id) (relabel m w.heap.size (fun _ => False) D id)) w' id k ∧ (if D (m.G k) ∧ m.G k ≠ 0 then (i, off + pl (m.G k)) else f k) = (i', j)) u y := by
      intro u y r0 a b c
      refine (hE.ro_move (hrep i' j r0 u y a b c) (fun k h4 h5 => (hin k h4.1).2)).mono (fun _ h => h) (fun k h4 => ⟨(hin k h4.1).1, ?_⟩)
      have h5 : m.G k = id + 1 := h4.1.1
      rw [if_neg (by rw [h5]; exact fun h => hnD h.1)]
      exact h4.2
    by_cases hii : i' = i
    · subst hii
      rw [List.getElem?_set_self hi] at hr'
      simp only [Option.some.injEq] at hr'
      subst hr'
      rw [putL_seg _ _ _ hle'] at hu
      have hj : j < row.length := by
        have := (List.getElem?_eq_some_iff.1 hu).1
        rwa [seg_len hle'] at this
      rcases seg_get hle' hu with ⟨q1, q2⟩ | ⟨d, rfl, q2⟩
      · rcases seg_get hfit2 hy with ⟨q3, q4⟩ | ⟨d, q3, q4⟩
        · exact old u y row hrow q2 q4
        · have := (List.getElem?_eq_some_iff.1 q4).1
          omega
      · have hlt := (List.getElem?_eq_some_iff.1 q2).1
        rcases seg_get hfit2 hy with ⟨q3, q4⟩ | ⟨d', q3, q4⟩
        · omega
        · have : d' = d := by omega
          subst this
          refine (hE.ro_move (hF _ u y q2 q4) (fun k h4 h5 => hoth k (fun he => ?_))).mono (fun _ h => h) (fun k h4 => ?_)
          · obtain ⟨q5, q6, q7⟩ := h4
            exact hnD ⟨_, q5, by rw [← q6, he, hGg]⟩
          · obtain ⟨q5, q6, q7⟩ := h4
            have hDk : D (m.G k) := ⟨_, q5, q6.symm⟩
            have h0k : m.G k ≠ 0 := by rw [q6]; exact q5
            refine ⟨⟨relabel_in (m := m) (new := fun _ => False) (D := D) (id := id) q7 hDk h0k, ?_, by omega⟩, ?_⟩
            · rw [Mp.add_same, hgb]
              intro he
              simp only [Option.some.injEq] at he
              subst he
              exact hnD (by rw [← hGg]; exact hDk)
            · show (if D (m.G k) ∧ m.G k ≠ 0 then (i', off + pl (m.G k)) else f k) = _
              rw [if_pos ⟨hDk, h0k⟩, q6, hpl _ q5]
    · rw [List.getElem?_set_ne (Ne.symm hii)] at hr'
      have hj : j < z e := by
        have := (List.getElem?_eq_some_iff.1 hu).1
        rwa [hlen r (List.mem_of_getElem? hr')] at this
      rcases seg_get hfit2 hy with ⟨q3, q4⟩ | ⟨d, q3, q4⟩
      · exact old u y r hr' hu q4
      · exfalso
        have hd := (List.getElem?_eq_some_iff.1 q4).1
        rcases Nat.lt_or_gt_of_ne hii with q5 | q5
        · have : (i' + 1) * z e ≤ i * z e := Nat.mul_le_mul_right _ q5
          rw [Nat.succ_mul] at this
          omega
        · have : (i + 1) * z e ≤ i' * z e := Nat.mul_le_mul_right _ q5
          rw [Nat.succ_mul] at this
          omega

theorem step_store {S' : Mem × Nat} (hg : Good P.cellsOf B w0 S.mem S.ep m w) (hT : Tms P.cellsOf S m w a.tmps) {o : Oper} {T : Nat} {x v : Operand} {p : V} {tv : TV} {cs : List V} (ho : o.op = .store T x v) (hp : ev1 S x = some p) (hv : ev S v = some tv) (hcs : tv.cells = some cs)
    (hl : cs.length = P.cellsOf T) (h0 : P.cellsOf T ≠ 0) (h : stV S.mem S.ep p cs = some S') : ∃ w', (execOp a.eval o).run P w = .ok .skip w' ∧ SetOk P.cellsOf B w0 S.mem S.ep m w S'.1 S'.2 w' := by
  have hrp := ev1_rv hT hp
  obtain ⟨hs, hh⟩ := cells_rtv (ev_rtv hT hv) hcs
  have hex : execOp a.eval o = (do Instr.storeAt T (a.eval x) (a.eval v); pure Next.skip) := by
    unfold execOp
    simp only [ho]
  have h1c : ∀ u ∈ (a.eval v).cells.toList, u.oneCell' = true := by
    intro u hu
    obtain ⟨j, hj⟩ := List.mem_iff_getElem?.1 hu
    have hlt : j < cs.length := by rw [← hs]; simpa using (List.getElem?_eq_some_iff.1 hj).1
    exact (hh j _ u (List.getElem?_eq_getElem hlt) (by simpa using hj)).one_cell
  have fin : ∀ (g o' : Nat) (cur : Array Value) (T' : Nat), a.eval x = .pointer (some ⟨g, o', none⟩) → w.heap[g]? = some (.cells cur T' (0, 0)) → o' + (a.eval v).cells.toList.length ≤ cur.size →
      (execOp a.eval o).run P w = .ok .skip (w.setRow g (cur.toList.take o' ++ (a.eval v).cells.toList ++ cur.toList.drop (o' + (a.eval v).cells.toList.length)).toArray) := by
    intro g o' cur T' hx hheap hfit
    rw [hex, hx]
    have hst := run_storeCells_at P g o' T' (a.eval v).cells.toList 0 cur w hheap (by simpa using hfit) h1c
    unfold Instr.storeAt Instr.sureAddr storeVar
    have hsz : (a.eval v).cells.size = P.cellsOf T := by rw [hs, hl]
    simp only [Sem.run_bind, Sem.run_pure, Result.andThen_ok, run_size h0, hsz, ne_eq, not_true, if_false, hst]
    simp
  have hyl : (a.eval v).cells.toList.length = cs.length := by rw [Array.length_toList]; exact hs
  have hr : ∀ (j : Nat) (u : V) (y : Value), cs[j]? = some u → (a.eval v).cells.toList[j]? = some y → RV P.cellsOf S.mem S.ep m w u y := fun j u y a' b' => hh j u y a' (by simpa using b')
  unfold stV at h
  split at h
  · rename_i id bv off
    simp only [Option.bind_eq_some_iff] at h
    obtain ⟨cells, hb, h⟩ := h
    split at h
    · rename_i hle
      simp only [Option.some.injEq] at h
      subst h
      have hb' := boxOf_some hb
      obtain ⟨g, cur, T', h3, h4, h5, h6⟩ := box_set hg hb' hyl hr hle
      generalize hy : a.eval x = y at hrp
      cases hrp with
      | bp hid hone hh' =>
        obtain ⟨g', h7, rfl⟩ := hh' _ hb'
        rw [h3] at h7
        simp only [Value.pointer.injEq, Option.some.injEq, Addr.mk.injEq, and_true] at h7
        subst h7
        exact ⟨_, fin g off cur T' hy h4 h5, h6⟩
    · cases h
  · rename_i id hv i off
    simp only [Option.bind_eq_some_iff] at h
    obtain ⟨⟨cs', mem1⟩, hf, b, hb, row, hrow, h⟩ := h
    split at h
    · rename_i hle
      have hb' := rowsH_some hb
      obtain ⟨hl', hG1, _⟩ := foldL_rep cs S.mem mem1 cs' _ hg hyl hr hf
      obtain ⟨g, cur, T', h3, h4, h5, h6⟩ := row_set (overB row off cs.length) hg hyl hr hf hb' hrow (by omega) rfl
      have hS : S' = (mem1.set id (some (.rows hv (if overB row off cs.length then S.ep else b.1) b.2.1 (b.2.2.set i (putL row off cs')))), if overB row off cs.length then S.ep + 1 else S.ep) := by
        split at h
        · rename_i ho2
          simp only [Option.some.injEq] at h
          rw [← h, ho2]
          rfl
        · rename_i ho2
          have ho2 : overB row off cs.length = false := by simpa using ho2
          simp only [Option.some.injEq] at h
          rw [← h, ho2]
          rfl
      subst hS
      generalize hy : a.eval x = y at hrp
      cases hrp with
      | ip hid hone hh' =>
        obtain ⟨g', h7, rfl⟩ := hh' _ _ _ (hG1.2 _ _ hb')
        rw [h3] at h7
        simp only [Option.some.injEq] at h7
        subst h7
        exact ⟨_, fin g _ cur T' hy h4 h5, h6⟩
    · cases h
  · cases h
end
end Go.Proofs.Ytanglbgincgmaaa.Vm
