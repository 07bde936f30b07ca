/-
  Plain laws: Check, third part: rounds over a grammar, without the program.
-/
import Derived.Test.YtanglbgincgmaaaVmFix
import Derived.Test.YtanglbgincgmaaaVmQB
namespace Go.Proofs.Ytanglbgincgmaaa.Vm
open Go Go.RowKit Go.Proofs
set_option linter.unusedVariables false
/-! Loops that keep what stands for something. -/
theorem relLoop {σ τ ρ : Type} {n : Nat} (L : Int → σ → Option ρ) (G : Nat → τ → τ) (R : τ → σ → Prop) (Fin : τ → ρ → Prop)
    (hs : ∀ i, i < n → ∀ t s, R t s → ∃ s', R (G i t) s' ∧ L (i : Int) s = L ((i + 1 : Nat) : Int) s') (he : ∀ t s, R t s → ∃ r, L (n : Int) s = some r ∧ Fin t r) (t : τ) (s : σ) (h : R t s) : ∃ r, L 0 s = some r ∧ Fin ((List.range n).foldl (fun t i => G i t) t) r := by
  have key : ∀ d i t s, i + d = n → R t s → ∃ r, L (i : Int) s = some r ∧ Fin ((List.range' i d).foldl (fun t i => G i t) t) r := by
    intro d
    induction d with
    | zero =>
      intro i t s hi h
      obtain rfl : i = n := by omega
      exact he t s h
    | succ d ih =>
      intro i t s hi h
      obtain ⟨s', h1, h2⟩ := hs i (by omega) t s h
      rw [h2]
      simp only [List.range'_succ, List.foldl_cons]
      exact ih (i + 1) _ _ (by omega) h1
  have := key n 0 t s (by omega) h
  rw [List.range_eq_range']
  simpa using this
theorem relLoopL {α σ τ ρ : Type} {a : List α} (L : Int → σ → Option ρ) (g : τ → α → τ) (R : τ → σ → Prop) (Fin : τ → ρ → Prop)
    (hs : ∀ i (h : i < a.length) t s, R t s → ∃ s', R (g t a[i]) s' ∧ L (i : Int) s = L ((i + 1 : Nat) : Int) s') (he : ∀ t s, R t s → ∃ r, L (a.length : Int) s = some r ∧ Fin t r) (t : τ) (s : σ) (h : R t s) : ∃ r, L 0 s = some r ∧ Fin (a.foldl g t) r := by
  have key : ∀ d i t s, i + d = a.length → R t s → ∃ r, L (i : Int) s = some r ∧ Fin ((a.drop i).foldl g t) r := by
    intro d
    induction d with
    | zero =>
      intro i t s hi h
      obtain rfl : i = a.length := by omega
      simpa using he t s h
    | succ d ih =>
      intro i t s hi h
      have hlt : i < a.length := by omega
      obtain ⟨s', h1, h2⟩ := hs i hlt t s h
      rw [h2, List.drop_eq_getElem_cons hlt]
      simp only [List.foldl_cons]
      exact ih (i + 1) _ _ (by omega) h1
  have := key a.length 0 t s (by omega) h
  simpa using this
theorem foldl_flat {α β τ : Type} (f : τ → β → τ) (h : α → List β) (l : List α) (t : τ) : (l.flatMap h).foldl f t = l.foldl (fun t a => (h a).foldl f t) t := by
  induction l generalizing t with
  | nil => rfl
  | cons x l ih => rw [List.flatMap_cons, List.foldl_append, List.foldl_cons, ih]
theorem foldl_const {σ : Type} (f : σ → σ) (n : Nat) (s : σ) : (List.range n).foldl (fun t _ => f t) s = iterN f n s := by
  induction n generalizing s with
  | zero => rfl
  | succ n ih => rw [List.range_succ, List.foldl_append, ih, iterN_succ]; rfl
/-- A loop that goes on till nothing turns, where so many rounds are enough. -/
theorem untilLoop {σ ρ : Type} {f : σ → σ} {Inv : σ → Prop} (hI : ∀ s, Inv s → Inv (f s)) (L : σ → Option ρ) (fin : σ → ρ) (hy : ∀ s, Inv s → f s = s → L s = some (fin s)) (hn : ∀ s, Inv s → f s ≠ s → L s = L (f s)) : ∀ (d : Nat) (s : σ), Inv s → f (iterN f d s) = iterN f d s → L s = some (fin (iterN f d s)) := by
  intro d
  induction d with
  | zero => intro s hs h; exact hy s hs h
  | succ d ih =>
    intro s hs h
    by_cases he : f s = s
    · rw [iterN_fix f _ s he]; exact hy s hs he
    · rw [hn s hs he]
      exact ih _ (hI s hs) h
theorem iter_rel {σ τ : Type} {f : σ → σ} {R : σ → τ → Prop} {g : τ → Option τ} (h : ∀ s t, R s t → ∃ t', g t = some t' ∧ R (f s) t') (n : Nat) (s : σ) (t : τ) (h0 : R s t) (L : Nat → τ → Option τ) (hL : ∀ i t, i < n → L i t = (g t).bind fun t' => L (i + 1) t') (he : ∀ t, L n t = some t) : ∃ t', L 0 t = some t' ∧ R (iterN f n s) t' := by
  have key : ∀ d i s t, i + d = n → R s t → ∃ t', L i t = some t' ∧ R (iterN f d s) t' := by
    intro d
    induction d with
    | zero =>
      intro i s t hi h
      obtain rfl : i = n := by omega
      exact ⟨t, he t, h⟩
    | succ d ih =>
      intro i s t hi h1
      obtain ⟨t', g1, g2⟩ := h s t h1
      rw [hL i t (by omega), g1]
      exact ih (i + 1) (f s) t' (by omega) g2
  exact key n 0 s t (by omega) h0

/-! A right grammar. -/
structure GR (g : List (List (List Int))) : Prop where
  n1 : 1 ≤ g.length
  n20 : g.length ≤ 20
  alts : ∀ r ∈ g, 1 ≤ r.length ∧ r.length ≤ 8
  row : ∀ r ∈ g, ∀ row ∈ r, row.length ≤ 8
  sym : ∀ r ∈ g, ∀ row ∈ r, ∀ x ∈ row, (0 ≤ x ∧ x ≤ 25) ∨ (100 ≤ x ∧ x < 100 + (g.length : Int))
theorem GR.of {g : List (List (List Int))} (h : gramOk g = true) : GR g := by
  simp only [gramOk, within, Bool.and_eq_true, decide_eq_true_eq, List.all_eq_true, isSym, Bool.or_eq_true] at h
  obtain ⟨⟨h1, h2⟩, h3⟩ := h
  refine ⟨by omega, by omega, fun r hr => ?_, fun r hr row hrow => ?_, fun r hr row hrow x hx => ?_⟩
  · have := (h3 r hr).1; omega
  · have := ((h3 r hr).2 row hrow).1; omega
  · have := ((h3 r hr).2 row hrow).2 x hx; omega
/-- The rows of a grammar, each with its part's number. -/
def rowsOf (g : List (List (List Int))) : List (Nat × List Int) := (List.range g.length).flatMap fun k => (g.getD k []).map fun row => (k, row)
theorem mem_rowsOf {g : List (List (List Int))} {e : Nat × List Int} : e ∈ rowsOf g ↔ ∃ (h : e.1 < g.length), e.2 ∈ g[e.1] := by
  unfold rowsOf
  rw [List.mem_flatMap]
  constructor
  · rintro ⟨k, hk, h⟩
    rw [List.mem_range] at hk
    obtain ⟨row, hr, rfl⟩ := List.mem_map.1 h
    refine ⟨hk, ?_⟩
    rw [List.getD_eq_getElem?_getD, List.getElem?_eq_getElem hk] at hr
    exact hr
  · rintro ⟨h1, h2⟩
    refine ⟨e.1, List.mem_range.2 h1, List.mem_map.2 ⟨e.2, ?_, rfl⟩⟩
    rw [List.getD_eq_getElem?_getD, List.getElem?_eq_getElem h1]
    exact h2
theorem GR.rsym {g : List (List (List Int))} (hg : GR g) {e : Nat × List Int} (he : e ∈ rowsOf g) {x : Int} (hx : x ∈ e.2) : (0 ≤ x ∧ x ≤ 25) ∨ (100 ≤ x ∧ (x - 100).toNat < g.length) := by
  obtain ⟨h1, h2⟩ := mem_rowsOf.1 he
  have := hg.sym _ (List.getElem_mem h1) _ h2 x hx
  omega
theorem rows_foldl {τ : Type} (g : List (List (List Int))) (f : τ → Nat × List Int → τ) (t : τ) : (rowsOf g).foldl f t = (List.range g.length).foldl (fun t k => (g.getD k []).foldl (fun t row => f t (k, row)) t) t := by
  unfold rowsOf
  rw [foldl_flat]
  simp only [List.foldl_map]
theorem getD_get {α : Type} {l : List α} {k : Nat} (h : k < l.length) (d : α) : l.getD k d = l[k] := by
  rw [List.getD_eq_getElem?_getD, List.getElem?_eq_getElem h]; rfl

/-! Sets that grow. -/
def grows (f : Nat → Nat) : Prop := ∀ a i, a.testBit i = true → (f a).testBit i = true
theorem grows_foldl {α : Type} {f : Nat → α → Nat} (h : ∀ x, grows (fun a => f a x)) (l : List α) : grows (fun a => l.foldl f a) := by
  induction l with
  | nil => intro a i h; exact h
  | cons x l ih => intro a i hi; exact ih _ i (h x a i hi)
theorem lt_foldl {α : Type} {f : Nat → α → Nat} {n : Nat} (l : List α) (h : ∀ x ∈ l, ∀ a, a < 2 ^ n → f a x < 2 ^ n) (a : Nat) (ha : a < 2 ^ n) : l.foldl f a < 2 ^ n := by
  induction l generalizing a with
  | nil => exact ha
  | cons x l ih => exact ih (fun y hy => h y (List.mem_cons_of_mem _ hy)) _ (h x List.mem_cons_self a ha)
def miss (n a : Nat) : Nat := (List.range n).countP fun i => !a.testBit i
theorem miss_le (n a : Nat) : miss n a ≤ n := by
  have := List.countP_le_length (p := fun i => !a.testBit i) (l := List.range n)
  simpa [miss] using this
theorem testBit_ge {n a i : Nat} (ha : a < 2 ^ n) (h : n ≤ i) : a.testBit i = false :=
  Nat.testBit_lt_two_pow (Nat.lt_of_lt_of_le ha (Nat.pow_le_pow_right (by omega) h))
theorem miss_lt {n a b : Nat} (ha : a < 2 ^ n) (hb : b < 2 ^ n) (h : ∀ i, a.testBit i = true → b.testBit i = true) (hne : b ≠ a) : miss n b < miss n a := by
  refine countP_lt (fun i _ hi => ?_) ?_
  · cases hai : a.testBit i with
    | false => rfl
    | true => rw [h i hai] at hi; cases hi
  · by_cases hall : ∀ i, i < n → a.testBit i = b.testBit i
    · refine absurd (Nat.eq_of_testBit_eq (fun i => ?_)) hne
      rcases Nat.lt_or_ge i n with hi | hi
      · exact (hall i hi).symm
      · rw [testBit_ge ha hi, testBit_ge hb hi]
    · simp only [Classical.not_forall] at hall
      obtain ⟨i, hi, h1⟩ := hall
      refine ⟨i, List.mem_range.2 hi, ?_, ?_⟩
      · cases hai : a.testBit i with
        | false => rfl
        | true => exact absurd (hai.trans (h i hai).symm) h1
      · cases hbi : b.testBit i with
        | true => rfl
        | false =>
          exfalso
          cases hai : a.testBit i with
          | false => exact h1 (hai.trans hbi.symm)
          | true => rw [h i hai] at hbi; cases hbi
/-- Rounds over a set of so many settle in so many. -/
theorem set_settle {n : Nat} {f : Nat → Nat} (hg : grows f) (hl : ∀ a, a < 2 ^ n → f a < 2 ^ n) (a : Nat) (ha : a < 2 ^ n) : f (iterN f n a) = iterN f n a :=
  settle (f := f) (Inv := fun a => a < 2 ^ n) (μ := miss n) hl (fun s hs hne => miss_lt hs (hl s hs) (hg s) hne) n a ha (miss_le n a)
/-- A round that takes each part that has a row as wanted. -/
def sstep (c : Nat → Int → Bool) (a : Nat) (e : Nat × List Int) : Nat := if e.2.all (c a) then put a e.1 else a
def sround (c : Nat → Int → Bool) (g : List (List (List Int))) (a : Nat) : Nat := (rowsOf g).foldl (sstep c) a
theorem sround_grows (c : Nat → Int → Bool) (g : List (List (List Int))) : grows (sround c g) :=
  grows_foldl (fun e a i h => by
    show (sstep c a e).testBit i = true
    unfold sstep
    split
    · rw [put_bit, h]; rfl
    · exact h) _
theorem sround_lt (c : Nat → Int → Bool) {g : List (List (List Int))} (a : Nat) (ha : a < 2 ^ g.length) : sround c g a < 2 ^ g.length :=
  lt_foldl _ (fun e he a ha => by
    unfold sstep
    split
    · exact put_lt ha (mem_rowsOf.1 he).1
    · exact ha) a ha
def sfix (c : Nat → Int → Bool) (g : List (List (List Int))) : Nat := iterN (sround c g) g.length 0
theorem two_pos (n : Nat) : 0 < 2 ^ n := Nat.two_pow_pos n
theorem sfix_fix (c : Nat → Int → Bool) (g : List (List (List Int))) : sround c g (sfix c g) = sfix c g := set_settle (sround_grows c g) (fun a ha => sround_lt c a ha) 0 (two_pos _)
theorem sfix_lt (c : Nat → Int → Bool) (g : List (List (List Int))) : sfix c g < 2 ^ g.length := iterN_inv (f := sround c g) (Inv := fun a => a < 2 ^ g.length) (fun a ha => sround_lt c a ha) _ _ (two_pos _)
/-- What can be reached: a round. -/
def rstep (g : List (List (List Int))) (a k : Nat) : Nat := if a.testBit k then (g.getD k []).foldl (fun a row => row.foldl (fun a x => if 100 ≤ x then put a (x - 100).toNat else a) a) a else a
def rround (g : List (List (List Int))) (a : Nat) : Nat := (List.range g.length).foldl (rstep g) a
theorem rround_grows (g : List (List (List Int))) : grows (rround g) :=
  grows_foldl (fun k a i h => by
    show (rstep g a k).testBit i = true
    unfold rstep
    split
    · exact grows_foldl (fun row => grows_foldl (fun x a i h => by
        show (if (100 : Int) ≤ x then put a (x - 100).toNat else a).testBit i = true
        split
        · rw [put_bit, h]; rfl
        · exact h) row) _ a i h
    · exact h) _
theorem rround_lt {g : List (List (List Int))} (hg : GR g) (a : Nat) (ha : a < 2 ^ g.length) : rround g a < 2 ^ g.length := by
  refine lt_foldl _ (fun k hk a ha => ?_) a ha
  unfold rstep
  split
  · rw [List.mem_range] at hk
    rw [getD_get hk]
    refine lt_foldl _ (fun row hrow a ha => lt_foldl _ (fun x hx a ha => ?_) a ha) a ha
    show (if (100 : Int) ≤ x then put a (x - 100).toNat else a) < 2 ^ g.length
    split
    · have := hg.sym _ (List.getElem_mem hk) row hrow x hx
      exact put_lt ha (by omega)
    · exact ha
  · exact ha
def rfix (g : List (List (List Int))) : Nat := iterN (rround g) g.length 1
theorem one_lt {n : Nat} (h : 1 ≤ n) : 1 < 2 ^ n := Nat.one_lt_two_pow (by omega)
theorem rfix_fix {g : List (List (List Int))} (hg : GR g) : rround g (rfix g) = rfix g := set_settle (rround_grows g) (fun a ha => rround_lt hg a ha) 1 (one_lt hg.n1)
theorem rfix_lt {g : List (List (List Int))} (hg : GR g) : rfix g < 2 ^ g.length := iterN_inv (f := rround g) (Inv := fun a => a < 2 ^ g.length) (fun a ha => rround_lt hg a ha) _ _ (one_lt hg.n1)

/-! What a part can start with. -/
def rowEdges (e : Nat) : List Int → List Nat
  | [] => []
  | x :: xs => if 100 ≤ x then (x - 100).toNat :: (if e.testBit (x - 100).toNat then rowEdges e xs else []) else []
def tstep (S : List Nat) (p : Nat × Nat) : List Nat := S.set p.1 (put (S.getD p.1 0) p.2 ||| S.getD p.2 0)
def edgesOf (e : Nat) (g : List (List (List Int))) : List (Nat × Nat) := (rowsOf g).flatMap fun r => (rowEdges e r.2).map fun t => (r.1, t)
def tround (e : Nat) (g : List (List (List Int))) (S : List Nat) : List Nat := (edgesOf e g).foldl tstep S
theorem tstep_len (S : List Nat) (p : Nat × Nat) : (tstep S p).length = S.length := by simp [tstep]
theorem tfold_len (E : List (Nat × Nat)) (S : List Nat) : (E.foldl tstep S).length = S.length := by
  induction E generalizing S with
  | nil => rfl
  | cons p E ih => rw [List.foldl_cons, ih, tstep_len]
/-- One column: who has m. -/
def col (m : Nat) (S : List Nat) : List Bool := S.map (·.testBit m)
def bstep (m : Nat) (B : List Bool) (p : Nat × Nat) : List Bool := B.set p.1 (B.getD p.1 false || decide (m = p.2) || B.getD p.2 false)
theorem col_getD (m : Nat) (S : List Nat) (k : Nat) : (col m S).getD k false = (S.getD k 0).testBit m := by
  unfold col
  rw [List.getD_eq_getElem?_getD, List.getD_eq_getElem?_getD, List.getElem?_map]
  cases S[k]? <;> simp
theorem col_step (m : Nat) (S : List Nat) (p : Nat × Nat) : col m (tstep S p) = bstep m (col m S) p := by
  unfold tstep bstep
  rw [col_getD, col_getD]
  unfold col
  rw [List.map_set]
  congr 1
  rw [Nat.testBit_or, put_bit]
theorem col_fold (m : Nat) (E : List (Nat × Nat)) (S : List Nat) : col m (E.foldl tstep S) = E.foldl (bstep m) (col m S) := by
  induction E generalizing S with
  | nil => rfl
  | cons p E ih => rw [List.foldl_cons, ih, List.foldl_cons, col_step]
def bmiss (B : List Bool) : Nat := B.countP fun b => !b
theorem bstep_len (m : Nat) (B : List Bool) (p : Nat × Nat) : (bstep m B p).length = B.length := by simp [bstep]
theorem bstep_grows (m : Nat) (B : List Bool) (p : Nat × Nat) (i : Nat) (h : B.getD i false = true) : (bstep m B p).getD i false = true := by
  unfold bstep
  rw [List.getD_eq_getElem?_getD, List.getElem?_set]
  rw [List.getD_eq_getElem?_getD] at h
  by_cases hi : p.1 = i
  · subst hi
    by_cases hlt : p.1 < B.length
    · simp only [if_true, hlt, Option.getD_some]
      rw [List.getD_eq_getElem?_getD, h]
      rfl
    · rw [List.getElem?_eq_none (by omega)] at h
      cases h
  · simp only [hi, if_false]
    exact h
theorem bfold_len (m : Nat) (E : List (Nat × Nat)) (B : List Bool) : (E.foldl (bstep m) B).length = B.length := by
  induction E generalizing B with
  | nil => rfl
  | cons p E ih => rw [List.foldl_cons, ih, bstep_len]
theorem bfold_grows (m : Nat) (E : List (Nat × Nat)) (B : List Bool) (i : Nat) (h : B.getD i false = true) : (E.foldl (bstep m) B).getD i false = true := by
  induction E generalizing B with
  | nil => exact h
  | cons p E ih => exact ih _ (bstep_grows m B p i h)
theorem bmiss_lt : ∀ {A B : List Bool}, A.length = B.length → (∀ i, B.getD i false = true → A.getD i false = true) → A ≠ B → bmiss A < bmiss B := by
  intro A
  induction A with
  | nil =>
    intro B hl _ hne
    cases B with
    | nil => exact absurd rfl hne
    | cons => simp at hl
  | cons x A ih =>
    intro B hl h hne
    cases B with
    | nil => simp at hl
    | cons y B =>
      have h0 : y = true → x = true := by simpa using h 0
      have h' : ∀ i, B.getD i false = true → A.getD i false = true := fun i => by simpa using h (i + 1)
      have hl' : A.length = B.length := by simpa using hl
      have hle : bmiss A ≤ bmiss B := by
        by_cases he : A = B
        · rw [he]; exact Nat.le_refl _
        · exact Nat.le_of_lt (ih hl' h' he)
      unfold bmiss at hle ⊢
      rw [List.countP_cons, List.countP_cons]
      by_cases he : A = B
      · subst he
        have hxy : x ≠ y := fun e => hne (by rw [e])
        cases x <;> cases y <;> simp at hxy h0 ⊢
      · have := ih hl' h' he
        unfold bmiss at this
        cases x <;> cases y <;> simp at h0 ⊢ <;> omega
theorem tround_settle (E : List (Nat × Nat)) (S : List Nat) : (fun S => E.foldl tstep S) (iterN (fun S => E.foldl tstep S) S.length S) = iterN (fun S => E.foldl tstep S) S.length S := by
  have hit : ∀ m d S, col m (iterN (fun S => E.foldl tstep S) d S) = iterN (fun B => E.foldl (bstep m) B) d (col m S) := by
    intro m d
    induction d with
    | zero => intro S; rfl
    | succ d ih => intro S; rw [iterN, ih, col_fold]; rfl
  have hc : ∀ m, col m ((fun S => E.foldl tstep S) (iterN (fun S => E.foldl tstep S) S.length S)) = col m (iterN (fun S => E.foldl tstep S) S.length S) := by
    intro m
    show col m (E.foldl tstep _) = _
    rw [col_fold, hit]
    refine settle (f := fun B => E.foldl (bstep m) B) (Inv := fun _ => True) (μ := bmiss) (fun _ _ => trivial) (fun B _ hne => bmiss_lt (bfold_len m E B) (bfold_grows m E B) hne) S.length (col m S) trivial ?_
    have := List.countP_le_length (p := fun b => !b) (l := col m S)
    simpa [bmiss, col] using this
  refine List.ext_getElem (by simp only [tfold_len]) (fun i h1 h2 => Nat.eq_of_testBit_eq (fun m => ?_))
  have := congrArg (fun B => B.getD i false) (hc m)
  simp only [col_getD] at this
  rw [getD_get h1, getD_get h2] at this
  exact this
def tfix (e : Nat) (g : List (List (List Int))) : List Nat := iterN (tround e g) g.length (List.replicate g.length 0)
theorem tfix_fix (e : Nat) (g : List (List (List Int))) : tround e g (tfix e g) = tfix e g := by
  have := tround_settle (edgesOf e g) (List.replicate g.length 0)
  rw [List.length_replicate] at this
  exact this
theorem rowEdges_lt {n e : Nat} : ∀ {row : List Int}, (∀ x ∈ row, (0 ≤ x ∧ x ≤ 25) ∨ (100 ≤ x ∧ (x - 100).toNat < n)) → ∀ t ∈ rowEdges e row, t < n := by
  intro row
  induction row with
  | nil => intro _ t h; cases h
  | cons x row ih =>
    intro h t ht
    unfold rowEdges at ht
    have hx := h x List.mem_cons_self
    split at ht
    · rcases List.mem_cons.1 ht with rfl | ht
      · omega
      · split at ht
        · exact ih (fun y hy => h y (List.mem_cons_of_mem _ hy)) t ht
        · cases ht
    · cases ht
theorem edgesOf_lt {g : List (List (List Int))} (hg : GR g) {e : Nat} {p : Nat × Nat} (h : p ∈ edgesOf e g) : p.1 < g.length ∧ p.2 < g.length := by
  unfold edgesOf at h
  obtain ⟨r, hr, h⟩ := List.mem_flatMap.1 h
  obtain ⟨t, ht, rfl⟩ := List.mem_map.1 h
  exact ⟨(mem_rowsOf.1 hr).1, rowEdges_lt (fun x hx => hg.rsym hr hx) t ht⟩
/-- All sets of so many. -/
def AllLt (n : Nat) (S : List Nat) : Prop := ∀ a ∈ S, a < 2 ^ n
theorem getD_lt {n : Nat} {S : List Nat} (h : AllLt n S) (k : Nat) : S.getD k 0 < 2 ^ n := by
  rw [List.getD_eq_getElem?_getD]
  cases he : S[k]? with
  | none => exact two_pos n
  | some a => exact h a (List.mem_of_getElem? he)
theorem tstep_lt {n : Nat} {S : List Nat} (h : AllLt n S) {p : Nat × Nat} (hp : p.2 < n) : AllLt n (tstep S p) := by
  intro a ha
  unfold tstep at ha
  rcases List.mem_or_eq_of_mem_set ha with ha | rfl
  · exact h a ha
  · exact Nat.or_lt_two_pow (put_lt (getD_lt h _) hp) (getD_lt h _)

/-! What the list of a set tells by its length. -/
theorem all_len : ∀ (n : Nat) (l : List Int), (∀ i : Nat, i < n → (i : Int) ∈ l) → n ≤ l.length := by
  intro n
  induction n with
  | zero => intro l _; omega
  | succ n ih =>
    intro l h
    have h1 := ih (l.erase (n : Int)) (fun i hi => (List.mem_erase_of_ne (by omega)).2 (h i (by omega)))
    have h2 := h n (by omega)
    have h3 := List.length_pos_of_mem h2
    rw [List.length_erase_of_mem h2] at h1
    omega
theorem Bits.full {n a : Nat} {l : List Int} (h : Bits a l) (ha : a < 2 ^ n) : l.length < n ↔ a ≠ 2 ^ n - 1 := by
  constructor
  · rintro hl rfl
    have := all_len n l (fun i hi => by
      rw [h.nat, Nat.testBit_two_pow_sub_one]
      simpa using hi)
    omega
  · intro hne
    have hex : ∃ i, i < n ∧ a.testBit i = false := by
      by_cases hall : ∀ i, i < n → a.testBit i = true
      · refine absurd (Nat.eq_of_testBit_eq (fun i => ?_)) hne
        rw [Nat.testBit_two_pow_sub_one]
        rcases Nat.lt_or_ge i n with hi | hi
        · rw [hall i hi]; simpa using hi
        · rw [testBit_ge ha hi]; simpa using hi
      · simp only [Classical.not_forall] at hall
        obtain ⟨i, hi, h1⟩ := hall
        exact ⟨i, hi, by simpa using h1⟩
    obtain ⟨i, hi, hb⟩ := hex
    have := nodup_len n ((i : Int) :: l) (List.nodup_cons.2 ⟨(fun hm => by
      rw [h.nat, hb] at hm
      cases hm), h.nodup⟩) (fun x hx => by
      rcases List.mem_cons.1 hx with rfl | hx
      · omega
      · obtain ⟨h1, h2⟩ := (h.mem x).1 hx
        rcases Nat.lt_or_ge x.toNat n with h3 | h3
        · omega
        · rw [testBit_ge ha h3] at h2; cases h2)
    simp only [List.length_cons] at this
    omega
/-- What Check tells. -/
def emp (g : List (List (List Int))) : Nat := sfix inSet g
def starts (g : List (List (List Int))) : List Nat := tfix (emp g) g
def check (g : List (List (List Int))) : Int := if gramOk g = false then 1 else if (List.range g.length).any (fun k => ((starts g).getD k 0).testBit k) = true then 2 else if sfix okSet g ≠ 2 ^ g.length - 1 then 3 else if rfix g ≠ 2 ^ g.length - 1 then 4 else 0
end Go.Proofs.Ytanglbgincgmaaa.Vm
