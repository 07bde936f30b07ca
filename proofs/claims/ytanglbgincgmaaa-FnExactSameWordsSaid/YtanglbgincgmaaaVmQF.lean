/-
  Plain laws: Check, sixth part: the reference's rounds; Check itself.
-/
import Derived.Test.YtanglbgincgmaaaVmQE
namespace Go.Proofs.Ytanglbgincgmaaa.Vm
open Go Go.RowKit Go.Proofs
set_option linter.unusedVariables false
theorem mem_setAdd {l : List Int} {y x : Int} : x ∈ setAdd l y ↔ x ∈ l ∨ x = y := by
  unfold setAdd
  split
  · rename_i hin
    constructor
    · exact .inl
    · rintro (h1 | rfl)
      · exact h1
      · exact hin
  · rw [List.mem_append, List.mem_cons]
    constructor
    · rintro (h1 | h1 | h1)
      · exact .inl (List.mem_of_mem_take h1)
      · exact .inr h1
      · exact .inl (List.mem_of_mem_drop h1)
    · rintro (h1 | h1)
      · rw [← List.take_append_drop (l.findIdx fun z => decide (y < z)) l, List.mem_append] at h1
        rcases h1 with h1 | h1
        · exact .inl h1
        · exact .inr (.inr h1)
      · exact .inr (.inl h1)
theorem setAdd_nodup {l : List Int} {y : Int} (h : l.Nodup) : (setAdd l y).Nodup := by
  unfold setAdd
  split
  · exact h
  · rename_i hin
    rw [← List.take_append_drop (l.findIdx fun z => decide (y < z)) l] at h hin
    generalize l.take (l.findIdx fun z => decide (y < z)) = p at *
    generalize l.drop (l.findIdx fun z => decide (y < z)) = q at *
    exact (List.perm_middle.nodup_iff).2 (List.nodup_cons.2 ⟨hin, h⟩)
def setJoin (l m : List Int) : List Int := m.foldl setAdd l
theorem mem_setJoin {m : List Int} : ∀ {l : List Int} {x : Int}, x ∈ setJoin l m ↔ x ∈ l ∨ x ∈ m := by
  unfold setJoin
  induction m with
  | nil => intro l x; simp
  | cons y m ih =>
    intro l x
    rw [List.foldl_cons, ih, mem_setAdd, List.mem_cons, or_assoc]
theorem setJoin_nodup {m : List Int} : ∀ {l : List Int}, l.Nodup → (setJoin l m).Nodup := by
  unfold setJoin
  induction m with
  | nil => intro l h; exact h
  | cons y m ih => intro l h; exact ih (setAdd_nodup h)
theorem Bits.join {a b : Nat} {l m : List Int} (h : Bits a l) (k : Bits b m) : Bits (a ||| b) (setJoin l m) := by
  refine ⟨Nat.or_lt_two_pow (n := 20) h.lt k.lt, fun x => ?_, setJoin_nodup h.nodup⟩
  rw [mem_setJoin, h.mem, k.mem, Nat.testBit_or, Bool.or_eq_true]
  constructor
  · rintro (⟨h1, h2⟩ | ⟨h1, h2⟩)
    · exact ⟨h1, .inl h2⟩
    · exact ⟨h1, .inr h2⟩
  · rintro ⟨h1, h2 | h2⟩
    · exact .inl ⟨h1, h2⟩
    · exact .inr ⟨h1, h2⟩
theorem setJoin_ok {l m : List Int} (h : l.length ≤ 1000) (k : m.length ≤ 1000) : p_spec_SetJoin l m = some (setJoin l m) := by
  have h0 := foldLoop (a := m) (fun i s => p_spec_SetJoin_L0 m i s) setAdd (fun s => s) (fun i s => s.length ≤ 1000 + i) (fun i hi s hs => by
    refine ⟨?_, ?_⟩
    · show p_spec_SetJoin_L0 m i s = _
      rw [p_spec_SetJoin_L0]
      simp only [lt_int hi, if_true, nonneg_int, Int.toNat_natCast, List.getElem?_eq_getElem hi, Option.bind_eq_bind, Option.bind_some, setAdd_ok (show s.length ≤ 1048576 by omega), wsucc hi (by omega)]
    · have := setAdd_len s m[i]; omega) (fun s hs => by
    show p_spec_SetJoin_L0 m m.length s = _
    rw [p_spec_SetJoin_L0]; simp) l (by simpa using h)
  unfold p_spec_SetJoin
  rw [if_pos (by omega)]
  have h1 : p_spec_SetJoin_L0 m 0 l = some (setJoin l m) := h0
  rw [h1]
  rfl
/-- A set as a list of the reference. -/
def BitsN (n a : Nat) (l : List Int) : Prop := Bits a l ∧ a < 2 ^ n
theorem bits0 (n : Nat) : BitsN n 0 [] := ⟨⟨by omega, fun x => by simp, List.nodup_nil⟩, two_pos n⟩
theorem BitsN.put {n a k : Nat} {l : List Int} (h : BitsN n a l) (hk : k < n) (hn : n ≤ 20) : BitsN n (Vm.put a k) (setAdd l (k : Int)) := ⟨h.1.put (by omega), put_lt h.2 hk⟩
theorem BitsN.len {n a : Nat} {l : List Int} (h : BitsN n a l) : l.length ≤ 1048576 := by have := h.1.len; omega
theorem wtwice {i n : Nat} (h : i ≤ n) (hn : n ≤ 1048576) : IntKind.wrap .i64 ((i : Int) + 1) = ((i + 1 : Nat) : Int) := by
  rw [wrap_id (by omega) (by omega)]; simp
theorem l5Empties_round {g : List (List (List Int))} (hg : GR g) (turn : Int) {a : Nat} {l : List Int} (h : BitsN g.length a l) : ∃ l', p_spec_l5Empties_L2 turn g 0 l = some l' ∧ BitsN g.length (sround inSet g a) l' := by
  have hn := hg.n20
  have := relLoop (n := g.length) (fun i s => p_spec_l5Empties_L2 turn g i s) (fun k a => (g.getD k []).foldl (fun t row => sstep inSet t (k, row)) a) (BitsN g.length) (BitsN g.length) (fun i hi t s hR => by
    have hal := hg.alts _ (List.getElem_mem hi)
    obtain ⟨r, h3, h4⟩ := relLoopL (a := g[i]) (fun j s => p_spec_l5Empties_L4 turn i g j s) (fun t row => sstep inSet t (i, row)) (BitsN g.length) (BitsN g.length) (fun j hj t s hR => by
      have hs := hg.small hi hj
      show ∃ s', _ ∧ p_spec_l5Empties_L4 turn i g j s = p_spec_l5Empties_L4 turn i g ((j + 1 : Nat) : Int) s'
      rw [p_spec_l5Empties_L4]
      simp only [lt_int hj, if_true, nonneg_int, Int.toNat_natCast, List.getElem?_eq_getElem hi, List.getElem?_eq_getElem hj, Option.bind_eq_bind, Option.bind_some, l5All_ok hR.1 hs.1 (fun y hy => (hs.2 y hy).2), wsucc hj (by omega)]
      unfold sstep
      cases (g[i][j].all (inSet t)) with
      | false => exact ⟨s, hR, rfl⟩
      | true =>
        simp only [if_true, setAdd_ok hR.len, Option.bind_some]
        exact ⟨_, hR.put hi hn, rfl⟩) (fun t s hR => ⟨s, by
      show p_spec_l5Empties_L4 turn i g g[i].length s = _
      rw [p_spec_l5Empties_L4]; simp [List.getElem?_eq_getElem hi], hR⟩) t s hR
    refine ⟨r, ?_, ?_⟩
    · rw [getD_get hi]; exact h4
    · show p_spec_l5Empties_L2 turn g i s = _
      rw [p_spec_l5Empties_L2]
      simp only [lt_int hi, if_true, Option.bind_eq_bind, Option.bind_some, h3, wsucc hi (by omega)]) (fun t s hR => ⟨s, by
    show p_spec_l5Empties_L2 turn g g.length s = _
    rw [p_spec_l5Empties_L2]; simp, hR⟩) a l h
  rw [← rows_foldl] at this
  exact this
theorem turn_le {i n : Nat} (h : i < n + 1) : (i : Int) ≤ (n : Int) := by omega
theorem l5Empties_ok {g : List (List (List Int))} (hg : GR g) : ∃ l, p_spec_l5Empties g = some l ∧ Bits (emp g) l := by
  have hn := hg.n20
  obtain ⟨r, h1, h2⟩ := relLoop (n := g.length + 1) (fun i s => p_spec_l5Empties_L0 g i s) (fun _ a => sround inSet g a) (BitsN g.length) (BitsN g.length) (fun i hi t s hR => by
    obtain ⟨l', h3, h4⟩ := l5Empties_round hg (i : Int) hR
    refine ⟨l', h4, ?_⟩
    show p_spec_l5Empties_L0 g i s = _
    rw [p_spec_l5Empties_L0]
    simp only [turn_le hi, if_true, Option.bind_eq_bind, Option.bind_some, h3, wtwice (show i ≤ 20 by omega) (by omega)]) (fun t s hR => ⟨s, by
    show p_spec_l5Empties_L0 g ((g.length + 1 : Nat) : Int) s = _
    rw [p_spec_l5Empties_L0, if_neg (by omega)], hR⟩) 0 [] (bits0 _)
  unfold p_spec_l5Empties
  rw [show p_spec_l5Empties_L0 g 0 [] = _ from h1]
  refine ⟨r, rfl, ?_⟩
  rw [foldl_const, iterN_succ] at h2
  have h3 := h2.1
  rw [show sround inSet g (iterN (sround inSet g) g.length 0) = emp g from sfix_fix inSet g] at h3
  exact h3
theorem productive_round_spec {g : List (List (List Int))} (hg : GR g) (turn : Int) {a : Nat} {l : List Int} (h : BitsN g.length a l) : ∃ l', p_spec_Productive_L2 turn g 0 l = some l' ∧ BitsN g.length (sround okSet g a) l' := by
  have hn := hg.n20
  have := relLoop (n := g.length) (fun i s => p_spec_Productive_L2 turn g i s) (fun k a => (g.getD k []).foldl (fun t row => sstep okSet t (k, row)) a) (BitsN g.length) (BitsN g.length) (fun i hi t s hR => by
    have hal := hg.alts _ (List.getElem_mem hi)
    obtain ⟨r, h3, h4⟩ := relLoopL (a := g[i]) (fun j s => p_spec_Productive_L4 turn i g j s) (fun t row => sstep okSet t (i, row)) (BitsN g.length) (BitsN g.length) (fun j hj t s hR => by
      have hs := hg.small hi hj
      show ∃ s', _ ∧ p_spec_Productive_L4 turn i g j s = p_spec_Productive_L4 turn i g ((j + 1 : Nat) : Int) s'
      rw [p_spec_Productive_L4]
      simp only [lt_int hj, if_true, nonneg_int, Int.toNat_natCast, List.getElem?_eq_getElem hi, List.getElem?_eq_getElem hj, Option.bind_eq_bind, Option.bind_some, l6Alive_ok hR.1 hs.1 (fun y hy => (hs.2 y hy).2), wsucc hj (by omega)]
      unfold sstep
      cases (g[i][j].all (okSet t)) with
      | false => exact ⟨s, hR, rfl⟩
      | true =>
        simp only [if_true, setAdd_ok hR.len, Option.bind_some]
        exact ⟨_, hR.put hi hn, rfl⟩) (fun t s hR => ⟨s, by
      show p_spec_Productive_L4 turn i g g[i].length s = _
      rw [p_spec_Productive_L4]; simp [List.getElem?_eq_getElem hi], hR⟩) t s hR
    refine ⟨r, ?_, ?_⟩
    · rw [getD_get hi]; exact h4
    · show p_spec_Productive_L2 turn g i s = _
      rw [p_spec_Productive_L2]
      simp only [lt_int hi, if_true, Option.bind_eq_bind, Option.bind_some, h3, wsucc hi (by omega)]) (fun t s hR => ⟨s, by
    show p_spec_Productive_L2 turn g g.length s = _
    rw [p_spec_Productive_L2]; simp, hR⟩) a l h
  rw [← rows_foldl] at this
  exact this
theorem productive_spec {g : List (List (List Int))} (h0 : gOk g) (hk : gramOk g = true) : ∃ l, p_spec_Productive g = some l ∧ BitsN g.length (sfix okSet g) l := by
  have hg := GR.of hk
  have hn := hg.n20
  obtain ⟨r, h1, h2⟩ := relLoop (n := g.length + 1) (fun i s => p_spec_Productive_L0 g i s) (fun _ a => sround okSet g a) (BitsN g.length) (BitsN g.length) (fun i hi t s hR => by
    obtain ⟨l', h3, h4⟩ := productive_round_spec hg (i : Int) hR
    refine ⟨l', h4, ?_⟩
    show p_spec_Productive_L0 g i s = _
    rw [p_spec_Productive_L0]
    simp only [turn_le hi, if_true, Option.bind_eq_bind, Option.bind_some, h3, wtwice (show i ≤ 20 by omega) (by omega)]) (fun t s hR => ⟨s, by
    show p_spec_Productive_L0 g ((g.length + 1 : Nat) : Int) s = _
    rw [p_spec_Productive_L0, if_neg (by omega)], hR⟩) 0 [] (bits0 _)
  unfold p_spec_Productive
  simp only [gramOk_spec h0, hk, Option.bind_eq_bind, Option.bind_some, if_true, show p_spec_Productive_L0 g 0 [] = _ from h1]
  refine ⟨r, rfl, ?_⟩
  rw [foldl_const, iterN_succ] at h2
  rw [show sround okSet g (iterN (sround okSet g) g.length 0) = sfix okSet g from sfix_fix okSet g] at h2
  exact h2
theorem reachable_round_spec {g : List (List (List Int))} (hg : GR g) (turn : Int) {a : Nat} {l : List Int} (h : BitsN g.length a l) : ∃ l', p_spec_Reachable_L2 turn g 0 l = some l' ∧ BitsN g.length (rround g a) l' := by
  have hn := hg.n20
  exact relLoop (n := g.length) (fun i s => p_spec_Reachable_L2 turn g i s) (fun k a => rstep g a k) (BitsN g.length) (BitsN g.length) (fun i hi t s hR => by
    have hal := hg.alts _ (List.getElem_mem hi)
    obtain ⟨r, h3, h4⟩ := relLoopL (a := g[i]) (fun j s => p_spec_Reachable_L4 turn i g j s) (fun a row => row.foldl (fun a x => if (100 : Int) ≤ x then put a (x - 100).toNat else a) a) (BitsN g.length) (BitsN g.length) (fun j hj t s hR => by
      have hs := hg.small hi hj
      obtain ⟨r, h5, h6⟩ := relLoopL (a := g[i][j]) (fun q s => p_spec_Reachable_L6 turn i j g q s) (fun a x => if (100 : Int) ≤ x then put a (x - 100).toNat else a) (BitsN g.length) (BitsN g.length) (fun q hq t s hR => by
        have hsym := hg.sym _ (List.getElem_mem hi) _ (List.getElem_mem hj) _ (List.getElem_mem hq)
        show ∃ s', _ ∧ p_spec_Reachable_L6 turn i j g q s = p_spec_Reachable_L6 turn i j g ((q + 1 : Nat) : Int) s'
        rw [p_spec_Reachable_L6]
        simp only [lt_int hq, if_true, nonneg_int, Int.toNat_natCast, List.getElem?_eq_getElem hi, List.getElem?_eq_getElem hj, List.getElem?_eq_getElem hq, Option.bind_eq_bind, Option.bind_some, wsucc hq (by omega)]
        by_cases h100 : (100 : Int) ≤ g[i][j][q]
        · have hlt : (g[i][j][q] - 100).toNat < g.length := by omega
          rw [if_pos h100, if_pos h100, wrapSub h100 hlt hn]
          simp only [setAdd_ok hR.len, Option.bind_some]
          exact ⟨_, hR.put hlt hn, rfl⟩
        · rw [if_neg h100, if_neg h100]
          exact ⟨s, hR, rfl⟩) (fun t s hR => ⟨s, by
        show p_spec_Reachable_L6 turn i j g g[i][j].length s = _
        rw [p_spec_Reachable_L6]; simp [List.getElem?_eq_getElem hi, List.getElem?_eq_getElem hj], hR⟩) t s hR
      refine ⟨r, h6, ?_⟩
      show p_spec_Reachable_L4 turn i g j s = _
      rw [p_spec_Reachable_L4]
      simp only [lt_int hj, if_true, nonneg_int, Int.toNat_natCast, List.getElem?_eq_getElem hi, Option.bind_eq_bind, Option.bind_some, h5, wsucc hj (by omega)]) (fun t s hR => ⟨s, by
      show p_spec_Reachable_L4 turn i g g[i].length s = _
      rw [p_spec_Reachable_L4]; simp [List.getElem?_eq_getElem hi], hR⟩) t s hR
    show ∃ s', _ ∧ p_spec_Reachable_L2 turn g i s = p_spec_Reachable_L2 turn g ((i + 1 : Nat) : Int) s'
    rw [p_spec_Reachable_L2]
    unfold rstep
    simp only [lt_int hi, if_true, Option.bind_eq_bind, Option.bind_some, setHas_ok hR.len, wsucc hi (by omega)]
    by_cases hb : t.testBit i = true
    · have hm : (i : Int) ∈ s := (hR.1.nat i).2 hb
      simp only [hm, decide_true, if_true, h3, Option.bind_some, hb]
      exact ⟨r, by rw [getD_get hi]; exact h4, rfl⟩
    · have hm : ¬ (i : Int) ∈ s := fun hh => hb ((hR.1.nat i).1 hh)
      simp only [hm, decide_false, Bool.false_eq_true, if_false, hb]
      exact ⟨s, hR, rfl⟩) (fun t s hR => ⟨s, by
    show p_spec_Reachable_L2 turn g g.length s = _
    rw [p_spec_Reachable_L2]; simp, hR⟩) a l h
theorem reachable_spec {g : List (List (List Int))} (h0 : gOk g) (hk : gramOk g = true) : ∃ l, p_spec_Reachable g = some l ∧ BitsN g.length (rfix g) l := by
  have hg := GR.of hk
  have hn := hg.n20
  have hb1 : BitsN g.length 1 [0] := by
    have := (bits0 g.length).put (k := 0) hg.n1 hn
    exact this
  obtain ⟨r, h1, h2⟩ := relLoop (n := g.length + 1) (fun i s => p_spec_Reachable_L0 g i s) (fun _ a => rround g a) (BitsN g.length) (BitsN g.length) (fun i hi t s hR => by
    obtain ⟨l', h3, h4⟩ := reachable_round_spec hg (i : Int) hR
    refine ⟨l', h4, ?_⟩
    show p_spec_Reachable_L0 g i s = _
    rw [p_spec_Reachable_L0]
    simp only [turn_le hi, if_true, Option.bind_eq_bind, Option.bind_some, h3, wtwice (show i ≤ 20 by omega) (by omega)]) (fun t s hR => ⟨s, by
    show p_spec_Reachable_L0 g ((g.length + 1 : Nat) : Int) s = _
    rw [p_spec_Reachable_L0, if_neg (by omega)], hR⟩) 1 [0] hb1
  unfold p_spec_Reachable
  simp only [gramOk_spec h0, hk, Option.bind_eq_bind, Option.bind_some, if_true, show p_spec_Reachable_L0 g 0 [0] = _ from h1]
  refine ⟨r, rfl, ?_⟩
  rw [foldl_const, iterN_succ] at h2
  rw [show rround g (iterN (rround g) g.length 1) = rfix g from rfix_fix hg] at h2
  exact h2
/-- A row of sets as lists. -/
def BitsV (g : List (List (List Int))) (T : List Nat) (ls : List (List Int)) : Prop := SetsOk g T ∧ ls.length = g.length ∧ ∀ k, Bits (T.getD k 0) (ls.getD k [])
theorem BitsV.set {g : List (List (List Int))} (hg : GR g) {T : List Nat} {ls : List (List Int)} (h : BitsV g T ls) {k : Nat} (hk : k < g.length) {a : Nat} {l : List Int} (ha : BitsN g.length a l) : BitsV g (T.set k a) (ls.set k l) := by
  refine ⟨⟨by rw [List.length_set, h.1.1], fun x hx => ?_⟩, by rw [List.length_set, h.2.1], fun p => ?_⟩
  · rcases List.mem_or_eq_of_mem_set hx with hx | rfl
    · exact h.1.2 x hx
    · exact ha.2
  · rw [List.getD_eq_getElem?_getD, List.getD_eq_getElem?_getD, List.getElem?_set, List.getElem?_set]
    by_cases hp : k = p
    · subst hp
      have h1 := h.1.1
      have h2 := h.2.1
      simp only [if_true, show k < T.length by omega, show k < ls.length by omega, Option.getD_some]
      exact ha.1
    · simp only [if_neg hp]
      rw [← List.getD_eq_getElem?_getD, ← List.getD_eq_getElem?_getD]
      exact h.2.2 p
theorem l5Starts_row {g : List (List (List Int))} (hg : GR g) {le : List Int} (hle : Bits (emp g) le) (turn x7 : Int) {k j : Nat} (hk : k < g.length) (hj : j < g[k].length) {T : List Nat} {ls : List (List Int)} (h : BitsV g T ls) :
    ∃ ls', p_spec_l5Starts_L6 turn k x7 g[k][j] g le 0 ls = some ls' ∧ BitsV g (((rowEdges (emp g) g[k][j]).map fun t => (k, t)).foldl tstep T) ls' := by
  have hn := hg.n20
  have hrow8 := hg.row _ (List.getElem_mem hk) _ (List.getElem_mem hj)
  have hsym := hg.sym _ (List.getElem_mem hk) _ (List.getElem_mem hj)
  generalize g[k][j] = row at *
  have key : ∀ d i T ls, i + d = row.length → BitsV g T ls → ∃ ls', p_spec_l5Starts_L6 turn k x7 row g le i ls = some ls' ∧ BitsV g (((rowEdges (emp g) (row.drop i)).map fun t => (k, t)).foldl tstep T) ls' := by
    intro d
    induction d with
    | zero =>
      intro i T ls hi h
      obtain rfl : i = row.length := by omega
      rw [p_spec_l5Starts_L6]
      simp only [Int.lt_irrefl, if_false, List.drop_length, rowEdges, List.map_nil, List.foldl_nil]
      exact ⟨ls, rfl, h⟩
    | succ d ih =>
      intro i T ls hi h
      have hlt : i < row.length := by omega
      have hx := hsym _ (List.getElem_mem hlt)
      have hT1 := h.1.1
      have hl1 := h.2.1
      rw [p_spec_l5Starts_L6]
      simp only [lt_int hlt, if_true, nonneg_int, Int.toNat_natCast, List.getElem?_eq_getElem hlt, Option.bind_eq_bind, Option.bind_some, wsucc hlt (by omega)]
      rw [List.drop_eq_getElem_cons hlt]
      by_cases h100 : (100 : Int) ≤ row[i]
      · have ht : (row[i] - 100).toNat < g.length := by omega
        generalize hq : (row[i] - 100).toNat = t at ht
        have hb1 := h.2.2 k
        have hb2 := h.2.2 t
        rw [getD_get (show k < ls.length by omega)] at hb1
        rw [getD_get (show t < ls.length by omega)] at hb2
        have hw : IntKind.wrap .i64 (row[i] - 100) = (t : Int) := by rw [wrapSub h100 (by omega) hn, hq]
        have hput : BitsN g.length (Vm.put (T.getD k 0) t) (setAdd ls[k] (t : Int)) := BitsN.put ⟨hb1, getD_lt h.1.2 k⟩ ht hn
        have hjoin : BitsN g.length (Vm.put (T.getD k 0) t ||| T.getD t 0) (setJoin (setAdd ls[k] (t : Int)) ls[t]) := ⟨hput.1.join hb2, Nat.or_lt_two_pow hput.2 (getD_lt h.1.2 t)⟩
        have hset := h.set hg hk hjoin
        have l1 := hput.1.len
        have l2 := hb2.len
        have l3 := hb1.len
        simp only [if_pos h100, hw, nonneg_int, if_true, Int.toNat_natCast, List.getElem?_eq_getElem (show k < ls.length by omega), List.getElem?_eq_getElem (show t < ls.length by omega), Option.bind_some, setAdd_ok (show ls[k].length ≤ 1048576 by omega), setJoin_ok (show (setAdd ls[k] (t : Int)).length ≤ 1000 by omega) (show ls[t].length ≤ 1000 by omega), setHas_ok (show le.length ≤ 1048576 by have := hle.len; omega)]
        have hm : decide ((t : Int) ∈ le) = (emp g).testBit t := by
          rw [Bool.eq_iff_iff, decide_eq_true_eq]; exact hle.nat t
        rw [hm]
        simp only [rowEdges, if_pos h100, hq]
        have hstep : T.set k (Vm.put (T.getD k 0) t ||| T.getD t 0) = tstep T (k, t) := rfl
        rw [hstep] at hset
        cases (emp g).testBit t with
        | true =>
          simp only [if_true, List.map_cons, List.foldl_cons]
          exact ih (i + 1) _ _ (by omega) hset
        | false =>
          simp only [Bool.false_eq_true, if_false, List.map_cons, List.map_nil, List.foldl_cons, List.foldl_nil]
          exact ⟨_, rfl, hset⟩
      · simp only [if_neg h100, rowEdges, List.map_nil, List.foldl_nil]
        exact ⟨ls, rfl, h⟩
  have := key row.length 0 T ls (by omega) h
  simpa using this
theorem l5Starts_round {g : List (List (List Int))} (hg : GR g) {le : List Int} (hle : Bits (emp g) le) (turn : Int) {T : List Nat} {ls : List (List Int)} (h : BitsV g T ls) : ∃ ls', p_spec_l5Starts_L2 turn g le 0 ls = some ls' ∧ BitsV g (tround (emp g) g T) ls' := by
  have hn := hg.n20
  have := relLoop (n := g.length) (fun i s => p_spec_l5Starts_L2 turn g le i s) (fun k T => (partEdges (emp g) g k).foldl tstep T) (BitsV g) (BitsV g) (fun k hk T s hR => by
    have hal := hg.alts _ (List.getElem_mem hk)
    obtain ⟨r, h3, h4⟩ := relLoopL (a := g[k]) (fun j s => p_spec_l5Starts_L4 turn k g le j s) (fun T row => ((rowEdges (emp g) row).map fun t => (k, t)).foldl tstep T) (BitsV g) (BitsV g) (fun j hj T s hR => by
      obtain ⟨ls', h5, h6⟩ := l5Starts_row hg hle turn j hk hj hR
      refine ⟨ls', h6, ?_⟩
      show p_spec_l5Starts_L4 turn k g le j s = _
      rw [p_spec_l5Starts_L4]
      simp only [lt_int hj, if_true, nonneg_int, Int.toNat_natCast, List.getElem?_eq_getElem hk, List.getElem?_eq_getElem hj, Option.bind_eq_bind, Option.bind_some, h5, wsucc hj (by omega)]) (fun t s hR => ⟨s, by
      show p_spec_l5Starts_L4 turn k g le g[k].length s = _
      rw [p_spec_l5Starts_L4]; simp [List.getElem?_eq_getElem hk], hR⟩) T s hR
    refine ⟨r, ?_, ?_⟩
    · unfold partEdges
      rw [getD_get hk, List.foldl_map, foldl_flat]
      simp only [List.foldl_map] at h4
      exact h4
    · show p_spec_l5Starts_L2 turn g le k s = _
      rw [p_spec_l5Starts_L2]
      simp only [lt_int hk, if_true, Option.bind_eq_bind, Option.bind_some, h3, wsucc hk (by omega)]) (fun t s hR => ⟨s, by
    show p_spec_l5Starts_L2 turn g le g.length s = _
    rw [p_spec_l5Starts_L2]; simp, hR⟩) T ls h
  rw [← edges_parts] at this
  exact this
theorem l5Starts_ok {g : List (List (List Int))} (hg : GR g) : ∃ ls, p_spec_l5Starts g = some ls ∧ BitsV g (starts g) ls := by
  have hn := hg.n20
  obtain ⟨le, e1, e2⟩ := l5Empties_ok hg
  have hb0 : BitsV g (List.replicate g.length 0) (List.replicate g.length []) := ⟨sets0 g, by simp, fun k => by
    have h1 : (List.replicate g.length 0).getD k 0 = 0 := by rw [List.getD_eq_getElem?_getD, List.getElem?_replicate]; split <;> rfl
    have h2 : (List.replicate g.length ([] : List Int)).getD k [] = [] := by rw [List.getD_eq_getElem?_getD, List.getElem?_replicate]; split <;> rfl
    rw [h1, h2]
    exact (bits0 g.length).1⟩
  obtain ⟨r, h1, h2⟩ := relLoop (n := g.length + 1) (fun i s => p_spec_l5Starts_L0 g le i s) (fun _ T => tround (emp g) g T) (BitsV g) (BitsV g) (fun i hi t s hR => by
    obtain ⟨l', h3, h4⟩ := l5Starts_round hg e2 (i : Int) hR
    refine ⟨l', h4, ?_⟩
    show p_spec_l5Starts_L0 g le i s = _
    rw [p_spec_l5Starts_L0]
    simp only [turn_le hi, if_true, Option.bind_eq_bind, Option.bind_some, h3, wtwice (show i ≤ 20 by omega) (by omega)]) (fun t s hR => ⟨s, by
    show p_spec_l5Starts_L0 g le ((g.length + 1 : Nat) : Int) s = _
    rw [p_spec_l5Starts_L0, if_neg (by omega)], hR⟩) _ _ hb0
  unfold p_spec_l5Starts
  rw [e1]
  simp only [Option.bind_eq_bind, Option.bind_some, if_pos (show g.length * 24 ≤ 140737488355328 by omega), show p_spec_l5Starts_L0 g le 0 (List.replicate g.length []) = _ from h1]
  refine ⟨r, rfl, ?_⟩
  rw [foldl_const, iterN_succ] at h2
  rw [show tround (emp g) g (iterN (tround (emp g) g) g.length (List.replicate g.length 0)) = starts g from tfix_fix (emp g) g] at h2
  exact h2
theorem range_any (n : Nat) (p : Nat → Bool) : ((List.range n).all fun k => !p k) = !((List.range n).any p) := by
  rw [← Bool.not_not ((List.range n).all _), List.not_all_eq_any_not]
  simp
theorem allLoopN {R : Type} {n : Nat} (L : Int → Option (R ⊕ Unit)) (no : R) (p : Nat → Bool) (hs : ∀ i, i < n → L (i : Int) = if p i = true then L ((i + 1 : Nat) : Int) else some (.inl no)) (he : L (n : Int) = some (.inr ())) : L 0 = some (if (List.range n).all p = true then .inr () else .inl no) := by
  have := allLoop (a := List.range n) L no p (fun i hi => by
    rw [List.length_range] at hi
    rw [hs i hi, List.getElem_range]) (by rw [List.length_range]; exact he)
  exact this
theorem check_spec {g : List (List (List Int))} (h0 : gOk g) : p_spec_Check g = some (check g) := by
  unfold p_spec_Check check
  rw [gramOk_spec h0]
  simp only [Option.bind_eq_bind, Option.bind_some]
  cases hk : gramOk g with
  | false => simp
  | true =>
    have hg := GR.of hk
    have hn := hg.n20
    obtain ⟨ls, e1, e2⟩ := l5Starts_ok hg
    obtain ⟨lp, p1, p2⟩ := productive_spec h0 hk
    obtain ⟨lr, r1, r2⟩ := reachable_spec h0 hk
    have hl := allLoopN (n := g.length) (fun i => p_spec_Check_L0 g ls i) (2 : Int) (fun k => !((starts g).getD k 0).testBit k) (fun i hi => by
      have hb := e2.2.2 i
      have hll := e2.2.1
      rw [getD_get (show i < ls.length by omega)] at hb
      rw [p_spec_Check_L0]
      have hm : decide ((i : Int) ∈ ls[i]) = ((starts g).getD i 0).testBit i := by rw [Bool.eq_iff_iff, decide_eq_true_eq]; exact hb.nat i
      simp only [lt_int (show i < ls.length by omega), if_true, nonneg_int, Int.toNat_natCast, List.getElem?_eq_getElem (show i < ls.length by omega), Option.bind_eq_bind, Option.bind_some, setHas_ok (show ls[i].length ≤ 1048576 by have := hb.len; omega), hm, wsucc (show i < ls.length by omega) (by omega)]
      cases ((starts g).getD i 0).testBit i <;> simp) (by
      rw [p_spec_Check_L0, ← e2.2.1]; simp)
    simp only [if_true, e1, Option.bind_some, show p_spec_Check_L0 g ls 0 = _ from hl, range_any, Bool.not_eq_true', Bool.true_eq_false, if_false]
    cases hany : (List.range g.length).any (fun k => ((starts g).getD k 0).testBit k) with
    | true => simp
    | false =>
      have f1 := p2.1.full p2.2
      have f2 := r2.1.full r2.2
      simp only [Bool.not_false, if_true, p1, r1, Option.bind_some, Bool.false_eq_true, if_false]
      by_cases c1 : sfix okSet g = 2 ^ g.length - 1
      · have q1 : ¬ (lp.length : Int) < (g.length : Int) := fun h => (f1.1 (by omega)) c1
        by_cases c2 : rfix g = 2 ^ g.length - 1
        · have q2 : ¬ (lr.length : Int) < (g.length : Int) := fun h => (f2.1 (by omega)) c2
          simp only [q1, q2, if_false, c1, c2, ne_eq, not_true_eq_false]
        · have q2 : (lr.length : Int) < (g.length : Int) := by have := f2.2 c2; omega
          simp only [q1, q2, if_false, if_true, c1, c2, ne_eq, not_true_eq_false, not_false_eq_true]
      · have q1 : (lp.length : Int) < (g.length : Int) := by have := f1.2 c1; omega
        simp only [q1, if_true, c1, ne_eq, not_false_eq_true]
theorem all_bits {n : Nat} (h : n ≤ 20) : IntKind.wrap .u32 ((shlI .u32 1 (IntKind.wrap .u64 (n : Int))) - 1) = ((2 ^ n - 1 : Nat) : Int) := by
  have hp := pow20 h
  have h2 := two_pos n
  rw [wrap64u (by omega), shl32 (by omega)]
  have : ((2 ^ n : Nat) : Int) - 1 = ((2 ^ n - 1 : Nat) : Int) := by omega
  rw [this, wrap32 (by omega)]
theorem check_impl {g : List (List (List Int))} (h0 : gOk g) (hw : gWf g) : p_impl_Check g = some (check g) := by
  unfold p_impl_Check check
  rw [gramOk_impl h0 hw]
  simp only [Option.bind_eq_bind, Option.bind_some]
  cases hk : gramOk g with
  | false => simp
  | true =>
    have hg := GR.of hk
    have hn := hg.n20
    have hp := pow20 hn
    obtain ⟨s1, s2⟩ := startsOf_ok hg
    have hl20 := arr_len (S := starts g) (by rw [s2.1]; exact hn)
    have hl := allLoopN (n := g.length) (fun i => p_impl_Check_L0 g (arr (starts g)) i) (2 : Int) (fun k => !((starts g).getD k 0).testBit k) (fun i hi => by
      have hb := getD_lt s2.2 i
      rw [p_impl_Check_L0]
      simp only [lt_int hi, if_true, nonneg_int, Int.toNat_natCast, show i < 20 by omega, arr_get (show (starts g).length ≤ 20 by have := s2.1; omega) (show i < 20 by omega), Option.bind_eq_bind, Option.bind_some, has_ok (show (starts g).getD i 0 < 4294967296 by omega) (show i < 32 by omega), wsucc hi (by omega)]
      cases ((starts g).getD i 0).testBit i <;> simp) (by
      rw [p_impl_Check_L0]; simp)
    have hw64 : ¬ IntKind.wrap .u64 (g.length : Int) < 0 := by rw [wrap64u (by omega)]; omega
    simp only [if_true, s1, Option.bind_some, hl20, List.length_replicate, show p_impl_Check_L0 g (arr (starts g)) 0 = _ from hl, range_any, Bool.not_eq_true', if_neg hw64, productive_ok hg, reachable_ok hg, all_bits hn, Bool.true_eq_false, if_false]
    cases hany : (List.range g.length).any (fun k => ((starts g).getD k 0).testBit k) with
    | true => simp
    | false =>
      simp only [Bool.not_false, if_true, Bool.false_eq_true, if_false]
      have i1 : ((sfix okSet g : Nat) : Int) = ((2 ^ g.length - 1 : Nat) : Int) ↔ sfix okSet g = 2 ^ g.length - 1 := Int.ofNat_inj
      have i2 : ((rfix g : Nat) : Int) = ((2 ^ g.length - 1 : Nat) : Int) ↔ rfix g = 2 ^ g.length - 1 := Int.ofNat_inj
      simp only [i1, i2]
      by_cases c1 : sfix okSet g = 2 ^ g.length - 1
      · by_cases c2 : rfix g = 2 ^ g.length - 1
        · simp only [c1, c2, ne_eq, not_true_eq_false, if_true, if_false]
        · simp only [c1, c2, ne_eq, not_true_eq_false, not_false_eq_true, if_true, if_false]
      · simp only [c1, ne_eq, not_false_eq_true, if_true, if_false]
theorem isGood_ok {g : List (List (List Int))} (h0 : gOk g) (hw : gWf g) : p_impl_isGood g = some (decide (check g = 0)) := by
  unfold p_impl_isGood
  rw [check_impl h0 hw]
  rfl
theorem check_gram {g : List (List (List Int))} (h : check g = 0) : gramOk g = true := by
  unfold check at h
  cases hk : gramOk g with
  | true => rfl
  | false => rw [if_pos hk] at h; cases h
end Go.Proofs.Ytanglbgincgmaaa.Vm
