/-
  slices.Insert of one number, at a slice of one's own: it becomes another one.
-/
import Derived.Test.YtanglbgincgmaaaVmBox
import Derived.Test.YtanglbgincgmaaaVmInsS
namespace Go.Proofs.Ytanglbgincgmaaa.Vm
open Go Go.RowKit Go.Proofs
set_option linter.unusedVariables false

theorem heap_setCells_at (b : Nat) : ∀ (vs : List Value) (o : Nat) (w : World) (cur : Array Value) (e : TypeId) (fz : Nat × Nat), w.heap[b]? = some (.cells cur e fz) → ∃ cur', (w.setCells b o vs).heap[b]? = some (.cells cur' e fz) ∧ cur'.toList = putL cur.toList o vs := by
  intro vs
  induction vs with
  | nil => intro o w cur e fz h; exact ⟨cur, h, rfl⟩
  | cons v vs ih =>
    intro o w cur e fz h
    have h1 : (w.setCell ⟨b, o, none⟩ v).heap[b]? = some (.cells (cur.setIfInBounds o v) e fz) := by
      simp [World.setCell, Array.getElem?_modify, h]
    obtain ⟨cur', h2, h3⟩ := ih (o + 1) _ _ e fz h1
    exact ⟨cur', h2, by rw [h3]; simp [putL]⟩
theorem putL_len {α : Type} : ∀ (vs l : List α) (o : Nat), (putL l o vs).length = l.length := by
  intro vs
  induction vs with
  | nil => intro l o; rfl
  | cons v vs ih => intro l o; simp [putL, ih]
theorem putL_get {α : Type} : ∀ (vs l : List α) (o k : Nat), o + vs.length ≤ l.length → (putL l o vs)[k]? = if o ≤ k ∧ k < o + vs.length then vs[k - o]? else l[k]? := by
  intro vs
  induction vs with
  | nil => intro l o k h; simp only [putL, List.length_nil, Nat.add_zero]; rw [if_neg (by omega)]
  | cons v vs ih =>
    intro l o k h
    simp only [List.length_cons] at h ⊢
    rw [putL, ih _ _ _ (by simp; omega)]
    by_cases hk : k = o
    · subst hk
      rw [if_neg (by omega), if_pos (by omega), List.getElem?_set_self (by omega)]
      simp
    · rw [List.getElem?_set_ne (by omega)]
      by_cases h2 : o + 1 ≤ k ∧ k < o + 1 + vs.length
      · rw [if_pos h2, if_pos (by omega)]
        obtain ⟨q, rfl⟩ : ∃ q, k = o + 1 + q := ⟨k - (o + 1), by omega⟩
        rw [show o + 1 + q - (o + 1) = q by omega, show o + 1 + q - o = q + 1 by omega]
        rfl
      · rw [if_neg h2, if_neg (by omega)]

/-- What is left of a world, but for one block. -/
structure Mild (w w' : World) (x : Option Nat) : Prop where
  os : w'.os = w.os
  tape : w'.tape = w.tape
  output : w'.output = w.output
  size : w.heap.size ≤ w'.heap.size
  block : ∀ k, k < w.heap.size → some k ≠ x → w'.heap[k]? = w.heap[k]?
theorem mild_setCells {w : World} (b : Nat) : ∀ (vs : List Value) (o : Nat) (w' : World), Mild w w' (some b) → Mild w (w'.setCells b o vs) (some b) := by
  intro vs
  induction vs with
  | nil => intro o w' h; exact h
  | cons v vs ih =>
    intro o w' h
    refine ih (o + 1) _ ⟨h.os, h.tape, h.output, by simpa using h.size, fun k hk hne => ?_⟩
    rw [Below.heap_setCell _ _ _ _ (fun e => hne (by rw [e]))]
    exact h.block k hk hne
theorem mild_new {w : World} : ∀ (vs : List Value) (o : Nat) (w' : World), Mild w w' none → Mild w (w'.setCells w.heap.size o vs) none := by
  intro vs
  induction vs with
  | nil => intro o w' h; exact h
  | cons v vs ih =>
    intro o w' h
    refine ih (o + 1) _ ⟨h.os, h.tape, h.output, by simpa using h.size, fun k hk hne => ?_⟩
    rw [Below.heap_setCell _ _ _ _ (fun e => by simp only at e; omega)]
    exact h.block k hk hne
theorem mild_drew {w w' : World} {x : Option Nat} (h : Mild w w' x) : Mild w w'.drew x := ⟨h.os, h.tape, h.output, h.size, h.block⟩
theorem Mild.weak {w w' : World} {x : Option Nat} (h : Mild w w' none) : Mild w w' x := ⟨h.os, h.tape, h.output, h.size, fun k hk _ => h.block k hk (by simp)⟩
theorem Mild.refl (w : World) (x : Option Nat) : Mild w w x := ⟨rfl, rfl, rfl, Nat.le_refl _, fun _ _ _ => rfl⟩
theorem Mild.alloc {w w' : World} (h : Mild w w' none) (o : Obj) : Mild w (w'.alloc o) none := ⟨h.os, h.tape, h.output, by have := h.size; simp; omega, fun k hk hn => (Below.heap_alloc _ _ _ (Nat.lt_of_lt_of_le hk h.size)).trans (h.block k hk hn)⟩
theorem mild_alloc (w : World) (o : Obj) : Mild w (w.alloc o) none := (Mild.refl w none).alloc o
theorem mild_dalloc (w : World) (o : Obj) : Mild w (w.drew.alloc o) none := (mild_drew (Mild.refl w none)).alloc o

theorem ins_list {α : Type} {cur cs : List α} {n i : Nat} {v : α} (hc : cs = cur.take n) (hn : n + 1 ≤ cur.length) (hi : i ≤ n) : (putL (putL cur (i + 1) (cs.drop i)) i [v]).take (n + 1) = cs.take i ++ v :: cs.drop i := by
  have hl : cs.length = n := by rw [hc, List.length_take]; omega
  refine List.ext_getElem? (fun k => ?_)
  rw [List.getElem?_take]
  have h1 : i + 1 + (cs.drop i).length ≤ cur.length := by rw [List.length_drop]; omega
  rw [putL_get [v] _ _ _ (by rw [putL_len]; simp; omega), putL_get _ _ _ _ h1]
  simp only [List.length_drop, List.length_cons, List.length_nil, hl]
  have ht : (cs.take i).length = i := by rw [List.length_take]; omega
  rcases Nat.lt_trichotomy k i with h | h | h
  · rw [List.getElem?_append_left (by omega), if_pos (by omega), if_neg (by omega), if_neg (by omega), List.getElem?_take, if_pos h, hc, List.getElem?_take, if_pos (by omega)]
  · subst h
    rw [List.getElem?_append_right (by omega), ht, if_pos (by omega), if_pos (by omega)]
    simp
  · obtain ⟨q, rfl⟩ : ∃ q, k = i + 1 + q := ⟨k - (i + 1), by omega⟩
    rw [List.getElem?_append_right (by omega), ht, show i + 1 + q - i = q + 1 by omega]
    simp only [List.getElem?_cons_succ]
    by_cases h2 : i + 1 + q < n + 1
    · rw [if_pos h2, if_neg (by omega), if_pos (by omega), show i + 1 + q - (i + 1) = q by omega]
    · rw [if_neg h2, List.getElem?_drop, List.getElem?_eq_none_iff.2 (by omega)]
theorem ins_list2 {α : Type} {cur cs : List α} {n i : Nat} {v : α} (hl : cs.length = n) (hc : ∀ k, k < i → cur[k]? = cs[k]?) (hn : n + 1 ≤ cur.length) (hi : i ≤ n) : (putL (putL cur i [v]) (i + 1) (cs.drop i)).take (n + 1) = cs.take i ++ v :: cs.drop i := by
  refine List.ext_getElem? (fun k => ?_)
  rw [List.getElem?_take]
  rw [putL_get _ _ _ _ (by rw [putL_len, List.length_drop]; omega), putL_get [v] _ _ _ (by simp; omega)]
  simp only [List.length_drop, List.length_cons, List.length_nil, hl]
  have ht : (cs.take i).length = i := by rw [List.length_take]; omega
  rcases Nat.lt_trichotomy k i with h | h | h
  · rw [List.getElem?_append_left (by omega), if_pos (by omega), if_neg (by omega), if_neg (by omega), List.getElem?_take, if_pos h, hc k h]
  · subst h
    rw [List.getElem?_append_right (by omega), ht, if_pos (by omega), if_neg (by omega), if_pos (by omega)]
    simp
  · obtain ⟨q, rfl⟩ : ∃ q, k = i + 1 + q := ⟨k - (i + 1), by omega⟩
    rw [List.getElem?_append_right (by omega), ht, show i + 1 + q - i = q + 1 by omega]
    simp only [List.getElem?_cons_succ]
    by_cases h2 : i + 1 + q < n + 1
    · rw [if_pos h2, if_pos (by omega), show i + 1 + q - (i + 1) = q by omega]
    · rw [if_neg h2, List.getElem?_drop, List.getElem?_eq_none_iff.2 (by omega)]
theorem zc_size (k : Nat) : (Builtin.zeroCells (Value.int .i64 0).cells k).size = k := by
  unfold Builtin.zeroCells
  simp [Value.cells]

/-- Insert, at a slice of one's own. -/
theorem ins_own {w : World} {x y v : Value} {n i : Nat} {cs : List Value} (hx : w.ownsRow 0 3 1 x n cs) (hi : i ≤ n) (hbig : (n + 1) * 8 ≤ 140737488355328) (h1 : ∀ u ∈ cs, u.oneCell' = true) (hv : v.oneCell' = true) (hy : w.ownsRow 0 3 1 y 1 [v]) (hne : x.ownBlock ≠ y.ownBlock) :
    Calls Try.prog 77 #[x, .int .i64 i, y] w fun e w' => ∃ x', e = .returned x' ∧ w'.ownsRow 0 3 1 x' (n + 1) (cs.take i ++ v :: cs.drop i) ∧ Mild w w' x.ownBlock ∧ ∃ g, x'.ownBlock = some g ∧ (x.ownBlock = some g ∨ w.heap.size ≤ g) := by
  have hyl := hy.2
  rcases hyl with ⟨_, h⟩ | ⟨vb, vc, ycur, rfl, _, hyh, hyc, hym, hys, hyt⟩
  · cases h
  have hcl : cs.length = n := by have := hx.1; omega
  have hvs : ∀ j u, [v][j]? = some u → w.cell? ⟨vb, 0 + j, none⟩ = some u := by
    intro j u hj
    have : j = 0 := by
      have := (List.getElem?_eq_some_iff.1 hj).1
      simpa using this
    subst this
    simp at hj
    subst hj
    have : ycur[0]? = some v := by
      have h := congrArg (fun l => l[0]?) hyt
      simpa using h
    simp [World.cell?, hyh, this]
  have h1v : ∀ u ∈ [v], u.oneCell' = true := by simpa using hv
  have hnew : ∀ (cap : Nat) (z : Array Value) (w' : World), w'.heap[w.heap.size]? = some (.cells z 3 (0, 0)) → n + 1 ≤ cap → cap ≤ maxLen → z.size = cap → z.toList.take (n + 1) = cs.take i ++ v :: cs.drop i → w'.ownsRow 0 3 1 (.slice (some ⟨w.heap.size, 0, none⟩) (n + 1) cap) (n + 1) (cs.take i ++ v :: cs.drop i) := by
    intro cap z w' a1 a2 a3 a4 a5
    refine ⟨by simp [hcl]; omega, .inr ⟨w.heap.size, cap, z, rfl, Nat.zero_le _, a1, a2, a3, by omega, by rw [Nat.mul_one]; exact a5⟩⟩
  have hml : maxLen = 9223372036854775807 := by first | rfl | decide
  rcases hx.2 with ⟨rfl, h0⟩ | ⟨g, cap, cur, rfl, _, hxh, hxc, hxm, hxs, hxt⟩
  · subst h0
    have hi0 : i = 0 := by omega
    subst hi0
    have hcs0 : cs = [] := List.length_eq_zero_iff.1 hcl
    subst hcs0
    refine (Any2.slices_Insert_int_end_grow Try.laysIns none 0 0 vb 0 1 vc [] [v] w (by omega) (Nat.le_refl _) (by omega) (by omega) rfl rfl (fun _ => rfl) (fun a h => by cases h) hvs h1v).mono fun e w' he => ?_
    rw [show Try.laysIns_ren.t 3 = 3 from rfl] at he
    obtain ⟨rfl, rfl⟩ := he
    have hc := grownCap_ge w (0 + 1) 0 3
    refine ⟨_, rfl, hnew _ (([] ++ [v]).toArray ++ Builtin.zeroCells (Value.int .i64 0).cells (grownCap w (0 + 1) 0 3 - (0 + 1))) _ ?_ hc (grownCap_le_maxLen w (0 + 1) 0 3 (by omega)) ?_ ?_, mild_dalloc _ _ |>.weak, w.heap.size, rfl, .inr (Nat.le_refl _)⟩
    · show (w.heap.push _)[w.heap.size]? = _
      rw [Array.getElem?_push, if_pos rfl]
    · have : grownCap w (0 + 1) 0 3 = grownCap w 1 0 3 := rfl
      have hc : 1 ≤ grownCap w 1 0 3 := hc
      simp [zc_size]
      show 1 + (grownCap w 1 0 3 - 1) = grownCap w 1 0 3
      omega
    · simp
  · have hcurl : cur.toList.length = cap := by rw [Array.length_toList]; omega
    have hxt : cs = cur.toList.take n := by rw [← hxt, Nat.mul_one]
    have hcell : ∀ j u, cs[j]? = some u → w.cell? ⟨g, 0 + j, none⟩ = some u := by
      intro j u hj
      rw [hxt, List.getElem?_take] at hj
      split at hj
      · have : cur[j]? = some u := by simpa using hj
        simp [World.cell?, hxh, this]
      · cases hj
    have hsome : ∀ j, j < cap → (w.cell? ⟨g, 0 + j, none⟩).isSome = true := by
      intro j hj
      have : j < cur.size := by omega
      simp [World.cell?, hxh, this]
    have hfz : ∀ o, w.frozen? ⟨g, o, none⟩ = false := by intro o; simp [World.frozen?, hxh]
    have hfy : ∀ o, w.frozen? ⟨vb, o, none⟩ = false := by intro o; simp [World.frozen?, hyh]
    have hvb : vb ≠ g := by
      rintro rfl
      exact hne rfl
    have hglt : g < w.heap.size := (Array.getElem?_eq_some_iff.1 hxh).1
    have mild0 : Mild w w (some g) := ⟨rfl, rfl, rfl, Nat.le_refl _, fun _ _ _ => rfl⟩
    by_cases hroom : n + 1 ≤ cap
    · have hold : ∀ (z : Array Value) (w' : World), w'.heap[g]? = some (.cells z 3 (0, 0)) → z.size = cap → z.toList.take (n + 1) = cs.take i ++ v :: cs.drop i → w'.ownsRow 0 3 1 (.slice (some ⟨g, 0, none⟩) (n + 1) cap) (n + 1) (cs.take i ++ v :: cs.drop i) := by
        intro z w' a1 a4 a5
        exact ⟨by simp [hcl]; omega, .inr ⟨g, cap, z, rfl, Nat.zero_le _, a1, hroom, hxm, by omega, by rw [Nat.mul_one]; exact a5⟩⟩
      by_cases hin : i < n
      · refine (Any2.slices_Insert_int_shift Try.laysIns g 0 n cap i vb 0 1 vc cs [v] w hin (by omega) hroom (by omega) hvb hcl rfl hcell (fun j hj => hsome j (by omega)) (fun j _ => hfz _) hvs h1 h1v 3 3 ycur.size cap (by simp [World.shape?, hyh]) (by simp [World.shape?, hxh]; omega) (by omega) (hfy _) (hfy _)).mono fun e w' he => ?_
        obtain ⟨rfl, rfl⟩ := he
        obtain ⟨z1, a1, a2⟩ := heap_setCells_at g (cs.drop i) (0 + (i + 1)) w.drew cur 3 (0, 0) hxh
        obtain ⟨z2, a3, a4⟩ := heap_setCells_at g [v] (0 + i) _ _ 3 (0, 0) a1
        rw [a2, Nat.zero_add, Nat.zero_add] at a4
        refine ⟨_, rfl, hold z2 _ a3 ?_ ?_, mild_setCells g _ _ _ (mild_setCells g _ _ _ (mild_drew mild0)), g, rfl, .inl rfl⟩
        · rw [← Array.length_toList, a4, putL_len, putL_len, hcurl]
        · rw [a4]
          exact ins_list hxt (by omega) hi
      · have hin : i = n := by omega
        subst hin
        refine (Any2.slices_Insert_int_end_room Try.laysIns g 0 i cap vb 0 1 vc [v] w (by omega) hroom (by omega) rfl (fun j hj => by rw [Nat.zero_add]; have := hsome (i + j) (by omega); rwa [Nat.zero_add] at this) (fun j _ => hfz _) hvs h1v).mono fun e w' he => ?_
        obtain ⟨rfl, rfl⟩ := he
        obtain ⟨z2, a3, a4⟩ := heap_setCells_at g [v] (0 + i) w cur 3 (0, 0) hxh
        rw [Nat.zero_add] at a4
        refine ⟨_, rfl, hold z2 _ a3 ?_ ?_, mild_setCells g _ _ _ mild0, g, rfl, .inl rfl⟩
        · rw [← Array.length_toList, a4, putL_len, hcurl]
        · rw [a4]
          have := ins_list (v := v) hxt (by omega) hi
          rw [List.drop_eq_nil_of_le (by omega)] at this ⊢
          exact this
    · have hcap : cap = n := by omega
      by_cases hin : i < n
      · refine (Any2.slices_Insert_int_grow Try.laysIns g 0 n cap i vb 0 1 vc cs [v] w hin (by omega) hxc (by omega) hbig hcl rfl hcell hvs h1 h1v).mono fun e w' he => ?_
        rw [show Try.laysIns_ren.t 3 = 3 from rfl] at he
        generalize hz : ((List.take i cs).toArray ++ Builtin.zeroCells (Value.int .i64 0).cells (n + 1 - i) ++ Builtin.zeroCells (Value.int .i64 0).cells (grownCap w (n + 1) cap 3 - (n + 1))) = z0 at he
        obtain ⟨rfl, rfl⟩ := he
        have hc := grownCap_ge w (n + 1) cap 3
        have hc2 := grownCap_le_maxLen w (n + 1) cap 3 (by omega)
        have hz0 : z0.size = grownCap w (n + 1) cap 3 := by
          rw [← hz]
          simp only [Array.size_append, zc_size, List.size_toArray, List.length_take]
          omega
        have a0 : ((w.alloc (.cells z0 3)).drew).heap[w.heap.size]? = some (.cells z0 3 (0, 0)) := by
          show (w.heap.push _)[w.heap.size]? = _
          rw [Array.getElem?_push, if_pos rfl]
        obtain ⟨z1, a1, a2⟩ := heap_setCells_at w.heap.size [v] i _ z0 3 (0, 0) a0
        obtain ⟨z2, a3, a4⟩ := heap_setCells_at w.heap.size (cs.drop i) (i + 1) (((w.alloc (.cells z0 3)).drew).setCells w.heap.size i [v]).drew z1 3 (0, 0) a1
        rw [a2] at a4
        have hl0 : z0.toList.length = grownCap w (n + 1) cap 3 := by rw [Array.length_toList, hz0]
        refine ⟨_, rfl, hnew _ z2 _ a3 hc hc2 ?_ ?_, mild_new _ _ _ (mild_drew (mild_new _ _ _ (mild_drew (mild_alloc _ _)))) |>.weak, w.heap.size, rfl, .inr (Nat.le_refl _)⟩
        · rw [← Array.length_toList, a4, putL_len, putL_len, hl0]
        · rw [a4]
          refine ins_list2 hcl (fun k hk => ?_) (by omega) hi
          rw [← hz]
          simp only [Array.toList_append, List.append_assoc]
          rw [List.getElem?_append_left (by simp; omega), List.getElem?_take, if_pos hk]
      · have hin : i = n := by omega
        subst hin
        refine (Any2.slices_Insert_int_end_grow Try.laysIns (some ⟨g, 0, none⟩) i cap vb 0 1 vc cs [v] w (by omega) hxc (by omega) (by omega) hcl rfl (fun h => by cases h) (fun a h j u hj => ?_) hvs h1v).mono fun e w' he => ?_
        · cases h
          rw [add0]
          have := hcell j u hj
          rwa [Nat.zero_add] at this
        rw [show Try.laysIns_ren.t 3 = 3 from rfl] at he
        obtain ⟨rfl, rfl⟩ := he
        have hc := grownCap_ge w (i + 1) cap 3
        refine ⟨_, rfl, hnew _ ((cs ++ [v]).toArray ++ Builtin.zeroCells (Value.int .i64 0).cells (grownCap w (i + 1) cap 3 - (i + 1))) _ ?_ hc (grownCap_le_maxLen w (i + 1) cap 3 (by omega)) ?_ ?_, (mild_dalloc _ _).weak, w.heap.size, rfl, .inr (Nat.le_refl _)⟩
        · show (w.heap.push _)[w.heap.size]? = _
          rw [Array.getElem?_push, if_pos rfl]
        · simp only [Array.size_append, zc_size, List.size_toArray, List.length_append, List.length_cons, List.length_nil, hcl]
          show _ = grownCap w (i + 1) cap 3
          show i + (0 + 1) + (grownCap w (i + 1) cap 3 - (i + 1)) = _
          omega
        · simp only [Array.toList_append]
          rw [List.take_append_of_le_length (by simp [hcl]), List.take_of_length_le (by simp [hcl]), List.drop_eq_nil_of_le (by omega), List.take_of_length_le (by omega)]
def litRow : List V → Bool
  | [.lit _] => true
  | _ => false
@[simp] theorem litRow_lit (v : Value) : litRow [.lit v] = true := rfl
@[simp] theorem litRows_map {α : Type} {f : α → List V} {l : List α} (h : ∀ a, litRow (f a) = true) : (List.map f l).all litRow = true := by
  rw [List.all_map, List.all_eq_true]
  exact fun a _ => h a
/-- slices.Insert of one number, in its caller's memory. -/
def insI : ICon := fun vs mem ep => match vs with
  | [.one (.ow id hv), .one (.lit (.int .i64 i)), .one (.ow id2 hv2)] => (rowsH mem id hv).bind fun b => (rowsH mem id2 hv2).bind fun b2 => match b2.2.2 with
    | [[.lit v]] => if id ≠ id2 ∧ b.2.1 = 3 ∧ b2.2.1 = 3 ∧ b.2.2.all litRow = true ∧ 0 ≤ i ∧ i.toNat ≤ b.2.2.length ∧ (b.2.2.length + 1) * 8 ≤ 140737488355328 then some (.one (.ow mem.length ep), mem.set id none ++ [some (.rows ep ep 3 (b.2.2.take i.toNat ++ [.lit v] :: b.2.2.drop i.toNat))], ep + 1) else none
    | _ => none
  | _ => none
attribute [simp] insI
theorem insI_mk (id hv id2 hv2 : Nat) (i : Int) (mem : Mem) (ep : Nat) : insI [.one (.ow id hv), .one (.lit (.int .i64 i)), .one (.ow id2 hv2)] mem ep = (rowsH mem id hv).bind fun b => (rowsH mem id2 hv2).bind fun b2 => match b2.2.2 with
    | [[.lit v]] => if id ≠ id2 ∧ b.2.1 = 3 ∧ b2.2.1 = 3 ∧ b.2.2.all litRow = true ∧ 0 ≤ i ∧ i.toNat ≤ b.2.2.length ∧ (b.2.2.length + 1) * 8 ≤ 140737488355328 then some (.one (.ow mem.length ep), mem.set id none ++ [some (.rows ep ep 3 (b.2.2.take i.toNat ++ [.lit v] :: b.2.2.drop i.toNat))], ep + 1) else none
    | _ => none := rfl
theorem insI_ok : IFn Try.prog 77 insI := by
  refine ⟨⟨Try.f77, Try.func77, rfl, rfl⟩, fun w0 _ vs mem ep r h m w ys hg hl ha => ?_⟩
  unfold insI at h
  split at h
  · rename_i id hv i id2 hv2
    simp only [Option.bind_eq_some_iff] at h
    obtain ⟨b, hb, b2, hb2, h⟩ := h
    split at h
    · rename_i v hrows2
      split at h
      · rename_i hc
        obtain ⟨hid, he1, he2, hlit, hi0, hin, hbig⟩ := hc
        simp only [Option.some.injEq] at h
        subst h
        have hm := rowsH_some hb
        have hm2 := rowsH_some hb2
        have z3 : Try.prog.cellsOf 3 = 1 := by kernel_rfl
        obtain ⟨y0, y1, y2, rfl⟩ : ∃ y0 y1 y2, ys = #[y0, y1, y2] := by
          obtain ⟨l⟩ := ys
          match l, hl with
          | [a, b, c], _ => exact ⟨a, b, c, rfl⟩
        have a0 : y0 = m.hd id := by
          have := ha 0 _ y0 rfl rfl
          cases this with | one h => cases h with | ow _ _ hh => exact hh _ _ _ hm
        have a1 : y1 = .int .i64 i := by
          have := ha 1 _ y1 rfl rfl
          cases this with | one h => cases h with | lit _ => rfl
        have a2 : y2 = m.hd id2 := by
          have := ha 2 _ y2 rfl rfl
          cases this with | one h => cases h with | ow _ _ hh => exact hh _ _ _ hm2
        subst a0 a1 a2
        obtain ⟨_, _, cs, f, ho, hG, hlen, hrep⟩ := hg.blk id _ hm
        obtain ⟨_, _, cs2, f2, ho2, hG2, hlen2, hrep2⟩ := hg.blk id2 _ hm2
        rw [he1, z3] at ho
        rw [he2, z3, hrows2] at ho2
        have hid0 : id ≠ 0 := by
          rintro rfl
          have := hg.fst
          rw [hm] at this
          cases this
        -- the rows are their cells
        have hrow : ∀ (j : Nat) (row : List V), b.2.2[j]? = some row → ∃ u, row = [V.lit u] := by
          intro j row hj
          have := List.all_eq_true.1 hlit row (List.mem_of_getElem? hj)
          unfold litRow at this
          split at this
          · exact ⟨_, rfl⟩
          · cases this
        have hcl : cs.length = b.2.2.length := by have := ho.1; omega
        have hcell : ∀ (j : Nat) (y : Value), cs[j]? = some y → b.2.2[j]? = some [V.lit y] ∧ y.oneCell' = true := by
          intro j y hj
          have hlt : j < b.2.2.length := by rw [← hcl]; exact (List.getElem?_eq_some_iff.1 hj).1
          have e0 : b.2.2[j]? = some b.2.2[j] := List.getElem?_eq_getElem hlt
          generalize b.2.2[j] = row at e0
          obtain ⟨u, rfl⟩ := hrow j row e0
          have := hrep j 0 _ (.lit u) y e0 rfl (by rw [he1, z3]; simpa using hj)
          cases this with
          | lit h => exact ⟨e0, h⟩
        obtain ⟨yv, rfl⟩ : ∃ y, cs2 = [y] := List.length_eq_one_iff.1 (by have := ho2.1; simpa using this)
        have hyv : yv = v ∧ v.oneCell' = true := by
          have := hrep2 0 0 [.lit v] (.lit v) yv (by rw [hrows2]; rfl) rfl (by rw [he2, z3]; rfl)
          cases this with
          | lit h => exact ⟨rfl, h⟩
        obtain ⟨rfl, hv1⟩ := hyv
        have hi' : ((i.toNat : Nat) : Int) = i := Int.toNat_of_nonneg hi0
        have hne : (m.hd id).ownBlock ≠ (m.hd id2).ownBlock := by
          intro e
          obtain ⟨g, hgg⟩ : ∃ g, (m.hd id2).ownBlock = some g := by
            rcases ho2.2 with ⟨_, h⟩ | ⟨g, _, _, hh, _⟩
            · simp at h
            · exact ⟨g, by rw [hh]; rfl⟩
          have q1 := hG g (by rw [e]; exact hgg)
          have q2 := hG2 g hgg
          omega
        have main := ins_own (i := i.toNat) ho hin hbig (fun u hu => by
          obtain ⟨j, hj⟩ := List.mem_iff_getElem?.1 hu
          exact (hcell j u hj).2) hv1 ho2 hne
        rw [hi'] at main
        refine main.mono fun e w' hx => ?_
        obtain ⟨x', rfl, hox, hmild, g, hgx, hgo⟩ := hx
        refine ⟨x', rfl, ?_⟩
        have hglt : g < w'.heap.size := ownsRow_lt hox hgx
        have hgB : w0.heap.size ≤ g := by
          rcases hgo with h | h
          · exact hg.ge hm (hG g h)
          · exact Nat.le_trans hg.hB h
        let m' : Mp := ⟨fun k => if k = g then mem.length + 1 else if m.G k = id + 1 then 0 else m.G k, fun j => if j = mem.length then x' else m.hd j⟩
        have hother : ∀ k, k < w.heap.size → m.G k ≠ id + 1 → m'.G k = m.G k ∧ w'.heap[k]? = w.heap[k]? := by
          intro k hk hn
          have hkg : k ≠ g := by
            rintro rfl
            rcases hgo with h | h
            · exact hn (hG _ h)
            · omega
          refine ⟨?_, hmild.block k hk (fun h => hn (hG k h.symm))⟩
          show (if k = g then _ else if m.G k = id + 1 then 0 else m.G k) = m.G k
          rw [if_neg hkg, if_neg hn]
        have hlen' : (mem.set id none).length = mem.length := by simp
        have hcase : ∀ (j : Nat) (bl : Blk), (mem.set id none ++ [some (Blk.rows ep ep 3 (b.2.2.take i.toNat ++ [.lit yv] :: b.2.2.drop i.toNat))])[j]? = some (some bl) → (j < mem.length ∧ j ≠ id ∧ mem[j]? = some (some bl)) ∨ (j = mem.length ∧ bl = .rows ep ep 3 (b.2.2.take i.toNat ++ [.lit yv] :: b.2.2.drop i.toNat)) := by
          intro j bl h
          rcases Nat.lt_or_ge j mem.length with hj | hj
          · rw [List.getElem?_append_left (by omega)] at h
            by_cases he : j = id
            · subst he
              rw [List.getElem?_set_self hj] at h
              cases h
            · rw [List.getElem?_set_ne (fun e => he e.symm)] at h
              exact .inl ⟨hj, he, h⟩
          · rw [List.getElem?_append_right (by omega), hlen'] at h
            have : j - mem.length = 0 := by
              have := (List.getElem?_eq_some_iff.1 h).1
              simpa using this
            rw [this] at h
            simp only [List.getElem?_cons_zero, Option.some.injEq] at h
            exact .inr ⟨by omega, h.symm⟩
        have hhd : ∀ j, j < mem.length → m'.hd j = m.hd j := fun j hj => if_neg (by omega)
        have hhdx : m'.hd mem.length = x' := if_pos rfl
        have hE : Evo ep (ep + 1) mem (mem.set id none ++ [some (Blk.rows ep ep 3 (b.2.2.take i.toNat ++ [.lit yv] :: b.2.2.drop i.toNat))]) m m' w w' := by
          refine ⟨by omega, hmild.size, fun k hk => ?_, fun k hk hlt => ?_, fun j bv c hc => ?_, fun j hv1 cv e rs hc => ?_, fun j hv1 cv e rs hc => ?_, fun j hv1 cv e rs rs' h7 hc l1 l2 => ?_⟩
          · have := hother k hk.2 (by rw [hk.1]; omega)
            exact ⟨this.1.trans hk.1, this.2⟩
          · have := hother k hlt (by rw [hk]; omega)
            exact ⟨this.1.trans hk, this.2⟩
          · rcases hcase j _ hc with ⟨h4, h5, h6⟩ | ⟨h4, h5⟩
            · exact .inr ⟨c, h6, hhd j h4⟩
            · cases h5
          · rcases hcase j _ hc with ⟨h4, h5, h6⟩ | ⟨h4, h5⟩
            · exact .inr ⟨cv, rs, h6, hhd j h4⟩
            · cases h5; exact .inl (Nat.le_refl _)
          · rcases hcase j _ hc with ⟨h4, h5, h6⟩ | ⟨h4, h5⟩
            · refine .inr ⟨hv1, e, rs, h6, fun k hk => ?_⟩
              have h8 : m.G k ≠ id + 1 := fun h9 => h5 (by have := hk.1; omega)
              have h7 := hother k hk.2.2 h8
              exact ⟨⟨h7.1.trans hk.1, by rw [hhd j h4]; exact hk.2.1, Nat.lt_of_lt_of_le hk.2.2 hmild.size⟩, h7.2⟩
            · cases h5; exact .inl (Nat.le_refl _)
          · rcases hcase j _ hc with ⟨h4, h5, h6⟩ | ⟨h4, h5⟩
            · obtain ⟨_, _, _, rfl⟩ := rows_inj4 h7 h6
              obtain ⟨_, _, csx, fx, hox, hGx, _, _⟩ := hg.blk j _ h7
              exact NestEq.same (fun g hgg hlt => (hother g hlt (by rw [hGx g hgg]; omega)).2)
            · cases h5; omega
        have hbel : Below w0.heap.size w0 w' := hg.below.trans ⟨hmild.os, hmild.tape, hmild.output, hmild.size, fun k hk => by
          by_cases hk2 : k < w.heap.size
          · refine hmild.block k hk2 (fun h => ?_)
            have := hg.ge hm (hG k h.symm)
            omega
          · have := hg.hB; omega⟩
        have hsl : x'.oneCell' = true := by
          obtain ⟨A, c, hx, _⟩ := ownsRow_slice hox
          rw [hx]; rfl
        refine ⟨m', .one (.ow (Nat.lt_succ_self _) hsl (fun cv e rs hmm => hhdx.symm)), ⟨fun j bl hbl => ?_, fun k hk => ?_, hbel, Nat.le_trans hg.hB hmild.size, ?_⟩, hE⟩
        · rcases hcase j bl hbl with ⟨h4, h5, h6⟩ | ⟨rfl, rfl⟩
          · exact (hg.blk j bl h6).keep hE (hhd j h4) (fun k hk hlt => by
              have := hother k hlt (by rw [hk]; omega)
              exact ⟨this.1.trans hk, this.2⟩)
          · refine ⟨Nat.lt_succ_self _, Nat.lt_succ_self _, _, fun _ => (0, 0), by rw [hhdx, z3, show (b.2.2.take i.toNat ++ [V.lit yv] :: b.2.2.drop i.toNat).length = b.2.2.length + 1 by simp; omega]; exact hox, fun k hk => ?_, fun row hr => ?_, fun i' j' row u y q1 q2 q3 => ?_⟩
            · rw [hhdx, hgx] at hk
              cases hk
              exact if_pos rfl
            · rw [z3]
              have : ∃ u, row = [V.lit u] := by
                rcases List.mem_append.1 hr with h | h
                · obtain ⟨j, hj⟩ := List.mem_iff_getElem?.1 (List.mem_of_mem_take h)
                  exact hrow j row hj
                · rcases List.mem_cons.1 h with h | h
                  · exact ⟨_, h⟩
                  · obtain ⟨j, hj⟩ := List.mem_iff_getElem?.1 (List.mem_of_mem_drop h)
                    exact hrow j row hj
              obtain ⟨u, rfl⟩ := this
              rfl
            · have hbc : b.2.2 = cs.map (fun y => [V.lit y]) := by
                refine List.ext_getElem? (fun j => ?_)
                rw [List.getElem?_map]
                cases hc : cs[j]? with
                | none =>
                  rw [List.getElem?_eq_none_iff] at hc
                  rw [Option.map_none, List.getElem?_eq_none_iff]; omega
                | some y => exact (hcell j y hc).1
              have hrows : b.2.2.take i.toNat ++ [V.lit yv] :: b.2.2.drop i.toNat = (cs.take i.toNat ++ yv :: cs.drop i.toNat).map (fun y => [V.lit y]) := by
                rw [hbc]; simp
              rw [hrows, List.getElem?_map] at q1
              obtain ⟨y', q4, rfl⟩ := Option.map_eq_some_iff.1 q1
              have : j' = 0 := by
                have := (List.getElem?_eq_some_iff.1 q2).1
                simpa using this
              subst this
              simp at q2
              subst q2
              rw [z3, Nat.mul_one, Nat.add_zero, q4] at q3
              cases q3
              refine .lit ?_
              rcases List.mem_append.1 (List.mem_of_getElem? q4) with h | h
              · obtain ⟨j, hj⟩ := List.mem_iff_getElem?.1 (List.mem_of_mem_take h)
                exact (hcell j _ hj).2
              · rcases List.mem_cons.1 h with h | h
                · rw [h]; exact hv1
                · obtain ⟨j, hj⟩ := List.mem_iff_getElem?.1 (List.mem_of_mem_drop h)
                  exact (hcell j _ hj).2
        · by_cases hkg : k = g
          · subst hkg
            exact ⟨hglt, .inl hgB⟩
          · have hk' : (if k = g then mem.length + 1 else if m.G k = id + 1 then 0 else m.G k) ≠ 0 := hk
            rw [if_neg hkg] at hk'
            split at hk'
            · exact absurd rfl hk'
            · rename_i hn
              obtain ⟨h5, h6⟩ := hg.lab k hk'
              exact ⟨Nat.lt_of_lt_of_le h5 hmild.size, h6.imp (fun e => e) (fun e => (hother k h5 hn).1.trans e)⟩
        · have := hg.fst
          rw [List.getElem?_append_left (by have := (List.getElem?_eq_some_iff.1 this).1; omega), List.getElem?_set_ne hid0]
          exact this
      · cases h
    · cases h
  · cases h
end Go.Proofs.Ytanglbgincgmaaa.Vm
