/-
  Plain laws: Check, fifth part: what parts start with, by the program.
-/
import Derived.Test.YtanglbgincgmaaaVmQD
namespace Go.Proofs.Ytanglbgincgmaaa.Vm
open Go Go.RowKit Go.Proofs
set_option linter.unusedVariables false
/-- The program's row of sets. -/
def arr (S : List Nat) : List Int := (S ++ List.replicate (20 - S.length) 0).map fun (a : Nat) => (a : Int)
theorem arr_len {S : List Nat} (h : S.length ≤ 20) : (arr S).length = 20 := by unfold arr; simp; omega
theorem arr_get {S : List Nat} (h : S.length ≤ 20) {k : Nat} (hk : k < 20) : (arr S)[k]? = some ((S.getD k 0 : Nat) : Int) := by
  unfold arr
  rw [List.getElem?_map]
  rcases Nat.lt_or_ge k S.length with h1 | h1
  · rw [List.getElem?_append_left h1, List.getElem?_eq_getElem h1, getD_get h1]; rfl
  · rw [List.getElem?_append_right h1, List.getElem?_replicate, if_pos (by omega), List.getD_eq_getElem?_getD, List.getElem?_eq_none h1]; rfl
theorem arr_set {S : List Nat} {k : Nat} (hk : k < S.length) (v : Nat) : (arr S).set k (v : Int) = arr (S.set k v) := by
  unfold arr
  rw [List.length_set, ← List.set_append_left _ _ hk, List.map_set]
theorem tfold_other {k p : Nat} (hp : p ≠ k) : ∀ (l : List Nat) (S : List Nat), ((l.map fun t => (k, t)).foldl tstep S).getD p 0 = S.getD p 0 := by
  intro l
  induction l with
  | nil => intro S; rfl
  | cons t l ih =>
    intro S
    rw [List.map_cons, List.foldl_cons, ih]
    unfold tstep
    rw [List.getD_eq_getElem?_getD, List.getElem?_set_ne (fun e => hp e.symm), ← List.getD_eq_getElem?_getD]
theorem tfold_grows (E : List (Nat × Nat)) (S : List Nat) (p i : Nat) (h : (S.getD p 0).testBit i = true) : ((E.foldl tstep S).getD p 0).testBit i = true := by
  rw [← col_getD] at h ⊢
  rw [col_fold]
  exact bfold_grows i E _ p h
theorem tfold_lt {n : Nat} : ∀ {E : List (Nat × Nat)} {S : List Nat}, (∀ p ∈ E, p.2 < n) → AllLt n S → AllLt n (E.foldl tstep S) := by
  intro E
  induction E with
  | nil => intro S _ h; exact h
  | cons p E ih => intro S hE h; exact ih (fun q hq => hE q (List.mem_cons_of_mem _ hq)) (tstep_lt h (hE p List.mem_cons_self))
/-- A row of sets over a grammar. -/
def SetsOk (g : List (List (List Int))) (S : List Nat) : Prop := S.length = g.length ∧ AllLt g.length S
theorem starts_row {g : List (List (List Int))} (hg : GR g) {e : Nat} (he : e < 2 ^ g.length) {k j : Nat} (hk : k < g.length) (hj : j < g[k].length) (x5 : Bool) (y683 : Int) (l1 : List Int) {S : List Nat} (hS : SetsOk g S) :
    p_impl_startsOf_L6 (e : Int) x5 k y683 g[k][j] g g[k] j l1 0 (arr S) = some (arr (((rowEdges e g[k][j]).map fun t => (k, t)).foldl tstep S)) := by
  have hp := pow20 hg.n20
  have hn := hg.n20
  have hsm := hg.small hk hj
  have hrow8 := hg.row _ (List.getElem_mem hk) _ (List.getElem_mem hj)
  have hsym := hg.sym _ (List.getElem_mem hk) _ (List.getElem_mem hj)
  generalize hrow : g[k][j] = row at *
  have key : ∀ d i S, i + d = row.length → SetsOk g S → p_impl_startsOf_L6 (e : Int) x5 k y683 row g g[k] j l1 i (arr S) = some (arr (if (row.take i).all (inSet e) = true then ((rowEdges e (row.drop i)).map fun t => (k, t)).foldl tstep S else S)) := by
    intro d
    induction d with
    | zero =>
      intro i S hi hS
      obtain rfl : i = row.length := by omega
      rw [p_impl_startsOf_L6]
      simp [rowEdges]
    | succ d ih =>
      intro i S hi hS
      have hlt : i < row.length := by omega
      have hx := hsym _ (List.getElem_mem hlt)
      have hS1 := hS.1
      have hle : i ≤ row.length := by omega
      rw [p_impl_startsOf_L6]
      simp only [lt_int hlt, if_true, nonneg_int, Int.toNat_natCast, List.getElem?_eq_getElem hlt, Option.bind_eq_bind, Option.bind_some, wsucc hlt (by omega), hle, emptyIn_ok (show e < 4294967296 by omega) (show (row.take i).length ≤ 1048576 by rw [List.length_take]; omega)]
      rw [List.drop_eq_getElem_cons hlt]
      have htk : (row.take (i + 1)).all (inSet e) = ((row.take i).all (inSet e) && inSet e row[i]) := by
        rw [List.take_succ_eq_append_getElem hlt, List.all_append]; simp
      by_cases h100 : (100 : Int) ≤ row[i]
      · rw [if_pos h100]
        cases hall : (row.take i).all (inSet e) with
        | false =>
          simp only [Bool.false_eq_true, if_false]
          rw [ih (i + 1) S (by omega) hS, htk, hall]
          simp
        | true =>
          have ht20 : (row[i] - 100).toNat < 20 := by omega
          have hlt20 : (row[i] - 100).toNat < g.length := by omega
          have g1 := getD_lt hS.2 k
          have g2 := getD_lt hS.2 (row[i] - 100).toNat
          simp only [if_true, wrapSub h100 ht20 (Nat.le_refl _), nonneg_int, Int.toNat_natCast, show k < 20 by omega, ht20, arr_get (show S.length ≤ 20 by omega) (show k < 20 by omega), arr_get (show S.length ≤ 20 by omega) ht20, Option.bind_some, if_neg (wrapu_nn ht20), wrap64u (show (row[i] - 100).toNat < 18446744073709551616 by omega), shl32 (show (row[i] - 100).toNat < 32 by omega)]
          rw [or32 (show 2 ^ (row[i] - 100).toNat < 4294967296 from Nat.pow_lt_pow_right (m := (row[i] - 100).toNat) (n := 32) (by omega) (by omega)) (by omega)]
          have h2 : 2 ^ (row[i] - 100).toNat ||| S.getD (row[i] - 100).toNat 0 < 2 ^ g.length := Nat.or_lt_two_pow (Nat.pow_lt_pow_right (by omega) hlt20) g2
          rw [or32 (by omega) (by omega), arr_set (by omega)]
          have hstep : S.set k (S.getD k 0 ||| (2 ^ (row[i] - 100).toNat ||| S.getD (row[i] - 100).toNat 0)) = tstep S (k, (row[i] - 100).toNat) := by
            unfold tstep put
            simp only [Nat.or_assoc]
          rw [hstep, ih (i + 1) _ (by omega) ⟨by rw [tstep_len, hS1], tstep_lt hS.2 hlt20⟩, htk, hall]
          have hin : inSet e row[i] = e.testBit (row[i] - 100).toNat := by
            unfold inSet
            have : row[i] < 120 := by omega
            simp [h100, this]
          rw [hin]
          simp only [rowEdges, if_pos h100, Bool.true_and]
          cases e.testBit (row[i] - 100).toNat <;> simp <;> exact Int.le_max_right _ _
      · rw [if_neg h100, ih (i + 1) S (by omega) hS, htk]
        have hin : inSet e row[i] = false := by unfold inSet; simp [h100]
        rw [hin]
        simp only [rowEdges, if_neg h100, Bool.and_false]
        cases (row.take i).all (inSet e) <;> simp
  have := key row.length 0 S (by omega) hS
  simpa using this
/-- The edges of one part. -/
def partEdges (e : Nat) (g : List (List (List Int))) (k : Nat) : List (Nat × Nat) := ((g.getD k []).flatMap fun row => rowEdges e row).map fun t => (k, t)
theorem edges_parts (e : Nat) (g : List (List (List Int))) (S : List Nat) : tround e g S = (List.range g.length).foldl (fun S k => (partEdges e g k).foldl tstep S) S := by
  unfold tround edgesOf rowsOf partEdges
  rw [foldl_flat, foldl_flat]
  simp only [List.foldl_map, foldl_flat]
theorem part_lt {g : List (List (List Int))} (hg : GR g) {e k : Nat} (hk : k < g.length) : ∀ p ∈ partEdges e g k, p.2 < g.length := by
  intro p hp
  unfold partEdges at hp
  obtain ⟨t, ht, rfl⟩ := List.mem_map.1 hp
  obtain ⟨row, hr, ht⟩ := List.mem_flatMap.1 ht
  rw [getD_get hk] at hr
  exact rowEdges_lt (fun x hx => by have := hg.sym _ (List.getElem_mem hk) row hr x hx; omega) t ht
theorem starts_part {g : List (List (List Int))} (hg : GR g) {e : Nat} (he : e < 2 ^ g.length) {k : Nat} (hk : k < g.length) (x5 : Bool) (y683 : Int) (l1 : List Int) {S : List Nat} (hS : SetsOk g S) :
    p_impl_startsOf_L4 (e : Int) x5 k y683 g g[k] l1 0 (arr S) = some (arr ((partEdges e g k).foldl tstep S)) := by
  have hal := hg.alts _ (List.getElem_mem hk)
  obtain ⟨r, h1, h2⟩ := relLoopL (a := g[k]) (fun j s => p_impl_startsOf_L4 (e : Int) x5 k y683 g g[k] l1 j s) (fun S row => ((rowEdges e row).map fun t => (k, t)).foldl tstep S) (fun S s => s = arr S ∧ SetsOk g S) (fun S s => s = arr S) (fun j hj t s hR => by
    obtain ⟨rfl, ht⟩ := hR
    refine ⟨_, ⟨rfl, ?_⟩, ?_⟩
    · refine ⟨by rw [tfold_len, ht.1], tfold_lt (fun p hp => ?_) ht.2⟩
      obtain ⟨q, hq, rfl⟩ := List.mem_map.1 hp
      exact rowEdges_lt (fun x hx => by have := hg.sym _ (List.getElem_mem hk) _ (List.getElem_mem hj) x hx; omega) q hq
    · show p_impl_startsOf_L4 (e : Int) x5 k y683 g g[k] l1 j (arr t) = _
      rw [p_impl_startsOf_L4]
      simp only [lt_int hj, if_true, nonneg_int, Int.toNat_natCast, List.getElem?_eq_getElem hj, Option.bind_eq_bind, Option.bind_some, starts_row hg he hk hj x5 y683 l1 ht, wsucc hj (by omega)]) (fun t s hR => ⟨s, by
    show p_impl_startsOf_L4 (e : Int) x5 k y683 g g[k] l1 g[k].length s = _
    rw [p_impl_startsOf_L4]; simp, hR.1⟩) S _ ⟨rfl, hS⟩
  rw [show p_impl_startsOf_L4 (e : Int) x5 k y683 g g[k] l1 0 (arr S) = _ from h1, h2]
  unfold partEdges
  rw [getD_get hk, List.foldl_map, foldl_flat]
  simp only [List.foldl_map]
theorem starts_round {g : List (List (List Int))} (hg : GR g) {e : Nat} (he : e < 2 ^ g.length) (l1 : List Int) {S : List Nat} (hS : SetsOk g S) :
    p_impl_startsOf_L2 (e : Int) g l1 false 0 (arr S) = some (decide (tround e g S ≠ S), arr (tround e g S)) ∧ SetsOk g (tround e g S) := by
  have hp := pow20 hg.n20
  have hn := hg.n20
  have hs0 := hS.1
  obtain ⟨r, h1, h2⟩ := relLoop (n := g.length) (fun i (s : Bool × List Int) => p_impl_startsOf_L2 (e : Int) g l1 s.1 i s.2) (fun k S => (partEdges e g k).foldl tstep S)
    (fun T s => s = (decide (T ≠ S), arr T) ∧ SetsOk g T ∧ ∀ p i, (S.getD p 0).testBit i = true → (T.getD p 0).testBit i = true) (fun T s => s = (decide (T ≠ S), arr T) ∧ SetsOk g T) (fun k hk T s hR => by
    obtain ⟨rfl, hT, hge⟩ := hR
    have hT1 := hT.1
    have hT' : SetsOk g ((partEdges e g k).foldl tstep T) := ⟨by rw [tfold_len, hT1], tfold_lt (part_lt hg hk) hT.2⟩
    have hge' : ∀ p i, (S.getD p 0).testBit i = true → (((partEdges e g k).foldl tstep T).getD p 0).testBit i = true := fun p i h => tfold_grows _ _ _ _ (hge p i h)
    refine ⟨_, ⟨rfl, hT', hge'⟩, ?_⟩
    show p_impl_startsOf_L2 (e : Int) g l1 (decide (T ≠ S)) k (arr T) = p_impl_startsOf_L2 (e : Int) g l1 _ ((k + 1 : Nat) : Int) (arr ((partEdges e g k).foldl tstep T))
    rw [p_impl_startsOf_L2]
    simp only [lt_int hk, if_true, nonneg_int, Int.toNat_natCast, List.getElem?_eq_getElem hk, show k < 20 by omega, arr_get (show T.length ≤ 20 by omega) (show k < 20 by omega), Option.bind_eq_bind, Option.bind_some, starts_part hg he hk _ _ l1 hT, wsucc hk (by omega), arr_get (show ((partEdges e g k).foldl tstep T).length ≤ 20 by have := hT'.1; omega) (show k < 20 by omega)]
    have hoth : ∀ p, p ≠ k → ((partEdges e g k).foldl tstep T).getD p 0 = T.getD p 0 := fun p hpk => tfold_other hpk _ T
    have hlen : ((partEdges e g k).foldl tstep T).length = T.length := by rw [hT'.1, hT1]
    have hgrow := tfold_grows (partEdges e g k) T
    generalize (partEdges e g k).foldl tstep T = T' at *
    have ext : (∀ p, T'.getD p 0 = T.getD p 0) → T' = T := fun h => by
      refine List.ext_getElem hlen (fun i h1 h2 => ?_)
      have := h i
      rwa [getD_get h1, getD_get h2] at this
    by_cases hTS : T = S
    · subst hTS
      simp only [ne_eq, not_true_eq_false, decide_false, Bool.false_eq_true, if_false]
      by_cases heq : T'.getD k 0 = T.getD k 0
      · have : T' = T := ext (fun p => by
          by_cases hpk : p = k
          · rw [hpk]; exact heq
          · exact hoth p hpk)
        rw [if_pos (by rw [heq]), this]
        simp
      · have : T' ≠ T := fun e => heq (by rw [e])
        rw [if_neg (fun e => heq (by exact_mod_cast e))]
        simp [this]
    · have : T' ≠ S := fun hh => by
        refine hTS (List.ext_getElem (by omega) (fun i h1 h2 => Nat.eq_of_testBit_eq (fun m => ?_)))
        have q1 := hge i m
        have q2 := hgrow i m
        rw [hh] at q2
        rw [getD_get h1, getD_get h2] at q1 q2
        cases hb : T[i].testBit m with
        | true => exact (q2 hb).symm
        | false =>
          cases hb2 : S[i].testBit m with
          | false => rfl
          | true => rw [q1 hb2] at hb; cases hb
      simp [hTS, this]) (fun T s hR => ⟨s, by
    obtain ⟨rfl, hT, _⟩ := hR
    show p_impl_startsOf_L2 (e : Int) g l1 (decide (T ≠ S)) g.length (arr T) = _
    rw [p_impl_startsOf_L2]; simp, hR.1, hR.2.1⟩) S (false, arr S) ⟨by simp, hS, fun p i h => h⟩
  rw [← edges_parts] at h2
  rw [show p_impl_startsOf_L2 (e : Int) g l1 false 0 (arr S) = _ from h1, h2.1]
  exact ⟨rfl, h2.2⟩
theorem sets0 (g : List (List (List Int))) : SetsOk g (List.replicate g.length 0) := ⟨by simp, fun a ha => by rw [(List.mem_replicate.1 ha).2]; exact two_pos _⟩
theorem arr0 {n : Nat} (h : n ≤ 20) : arr (List.replicate n 0) = List.replicate 20 (0 : Int) := by
  unfold arr
  rw [List.length_replicate, List.replicate_append_replicate, List.map_replicate]
  congr 1
  omega
theorem startsOf_ok {g : List (List (List Int))} (hg : GR g) : p_impl_startsOf g = some (arr (starts g)) ∧ SetsOk g (starts g) := by
  have hn := hg.n20
  have he := sfix_lt inSet g
  have hinv : ∀ S, SetsOk g S → SetsOk g (tround (emp g) g S) := fun S hS => (starts_round hg he [] hS).2
  have hok : SetsOk g (starts g) := iterN_inv (f := tround (emp g) g) (Inv := SetsOk g) hinv _ _ (sets0 g)
  have h0 : ∀ l1 : List Int, p_impl_startsOf_L0 (emp g : Int) g l1 true (arr (List.replicate g.length 0)) = some (arr (starts g)) := fun l1 => untilLoop (f := tround (emp g) g) (Inv := SetsOk g) hinv (fun S => p_impl_startsOf_L0 (emp g : Int) g l1 true (arr S)) (fun S => arr S) (fun S hS hf => by
    have r1 := (starts_round hg he l1 hS).1
    show p_impl_startsOf_L0 (emp g : Int) g l1 true (arr S) = _
    have hf' : tround (sfix inSet g) g S = S := hf
    rw [hf', show decide (S ≠ S) = false by simp] at r1
    rw [p_impl_startsOf_L0.eq_1 _ _ _ true, show emp g = sfix inSet g from rfl, r1]
    simp only [if_true, Option.bind_eq_bind, Option.bind_some]
    rw [p_impl_startsOf_L0.eq_1 _ _ _ false]
    rfl) (fun S hS hf => by
    have r1 := (starts_round hg he l1 hS).1
    show p_impl_startsOf_L0 (emp g : Int) g l1 true (arr S) = p_impl_startsOf_L0 (emp g : Int) g l1 true (arr (tround (emp g) g S))
    have hf' : tround (sfix inSet g) g S ≠ S := hf
    rw [show decide (tround (sfix inSet g) g S ≠ S) = true by simpa using hf'] at r1
    rw [p_impl_startsOf_L0.eq_1 _ _ _ true (arr S), show emp g = sfix inSet g from rfl, r1]
    rfl) g.length (List.replicate g.length 0) (sets0 g) (tfix_fix (emp g) g)
  refine ⟨?_, hok⟩
  have h1 := h0 (List.replicate 20 0)
  rw [arr0 hn] at h1
  unfold p_impl_startsOf
  have hl := arr_len (S := starts g) (by rw [hok.1]; exact hn)
  simp only [empties_ok hg, Option.bind_eq_bind, Option.bind_some, h1, hl, List.length_replicate, if_true]
end Go.Proofs.Ytanglbgincgmaaa.Vm
