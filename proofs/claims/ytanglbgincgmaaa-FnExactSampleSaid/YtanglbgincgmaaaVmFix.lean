/-
  Plain laws: rounds that settle; the least numbers of a row of rules.
-/
import Derived.Test.YtanglbgincgmaaaVmPA
namespace Go.Proofs.Ytanglbgincgmaaa.Vm
open Go Go.RowKit Go.Proofs
set_option linter.unusedVariables false
/-- So many rounds. -/
def iterN {σ : Type} (f : σ → σ) : Nat → σ → σ
  | 0, s => s
  | n + 1, s => iterN f n (f s)
theorem iterN_succ {σ : Type} (f : σ → σ) (n : Nat) (s : σ) : iterN f (n + 1) s = f (iterN f n s) := by
  induction n generalizing s with
  | zero => rfl
  | succ n ih => rw [iterN, ih, iterN]
theorem iterN_fix {σ : Type} (f : σ → σ) (n : Nat) (s : σ) (h : f s = s) : iterN f n s = s := by
  induction n with
  | zero => rfl
  | succ n ih => rw [iterN, h, ih]
theorem iterN_inv {σ : Type} {f : σ → σ} {Inv : σ → Prop} (hI : ∀ s, Inv s → Inv (f s)) (n : Nat) (s : σ) (h : Inv s) : Inv (iterN f n s) := by
  induction n generalizing s with
  | zero => exact h
  | succ n ih => exact ih _ (hI s h)
/-- Where each round that turns something makes a number less, as many rounds do as that number says. -/
theorem settle {σ : Type} {f : σ → σ} {Inv : σ → Prop} {μ : σ → Nat} (hI : ∀ s, Inv s → Inv (f s)) (hd : ∀ s, Inv s → f s ≠ s → μ (f s) < μ s) : ∀ (d : Nat) (s : σ), Inv s → μ s ≤ d → f (iterN f d s) = iterN f d s := by
  intro d
  induction d with
  | zero =>
    intro s hs h
    by_cases he : f s = s
    · exact he
    · have := hd s hs he; omega
  | succ d ih =>
    intro s hs h
    by_cases he : f s = s
    · rw [iterN_fix f _ s he]; exact he
    · have := hd s hs he
      exact ih _ (hI s hs) (by omega)
/-- A loop that goes on till nothing turns. -/
theorem settleLoop {σ ρ : Type} {f : σ → σ} {Inv : σ → Prop} {μ : σ → Nat} (hI : ∀ s, Inv s → Inv (f s)) (hd : ∀ s, Inv s → f s ≠ s → μ (f s) < μ s) (L : σ → Option ρ) (fin : σ → ρ) (hy : ∀ s, Inv s → f s = s → L s = some (fin s)) (hn : ∀ s, Inv s → f s ≠ s → L s = L (f s)) : ∀ (d : Nat) (s : σ), Inv s → μ s ≤ d → L s = some (fin (iterN f d s)) := by
  intro d
  induction d with
  | zero =>
    intro s hs h
    by_cases he : f s = s
    · exact hy s hs he
    · have := hd s hs he; omega
  | succ d ih =>
    intro s hs h
    by_cases he : f s = s
    · rw [iterN_fix f _ s he]; exact hy s hs he
    · have := hd s hs he
      rw [hn s hs he, ih _ (hI s hs) (by omega)]
      rfl
theorem iterN_more {σ : Type} {f : σ → σ} {d : Nat} {s : σ} (h : f (iterN f d s) = iterN f d s) (e : Nat) : iterN f (d + e) s = iterN f d s := by
  induction e with
  | zero => rfl
  | succ e ih => rw [Nat.add_succ, iterN_succ, ih, h]
theorem countP_lt {α : Type} {p q : α → Bool} : ∀ {l : List α}, (∀ x ∈ l, p x = true → q x = true) → (∃ x ∈ l, q x = true ∧ p x = false) → l.countP p < l.countP q := by
  intro l
  induction l with
  | nil => rintro _ ⟨x, h, _⟩; cases h
  | cons y l ih =>
    rintro h ⟨x, hx, h1, h2⟩
    have hle : l.countP p ≤ l.countP q := List.countP_mono_left (fun z hz => h z (List.mem_cons_of_mem _ hz))
    rw [List.countP_cons, List.countP_cons]
    rcases List.mem_cons.1 hx with rfl | hx
    · rw [h1, h2]; simp; omega
    · have := ih (fun z hz => h z (List.mem_cons_of_mem _ hz)) ⟨x, hx, h1, h2⟩
      have h3 := h y List.mem_cons_self
      cases hp : p y with
      | false => simp; omega
      | true => rw [h3 hp]; simp; omega

/-! Least numbers. -/
def lv (v : List Int) (p : Nat) : Int := v.getD p 0
def symVal (v : List Int) (x : Int) : Int := if x < 100 then 1 else lv v (x - 100).toNat
def rowSum (v : List Int) (row : List Int) : Int := (row.map (symVal v)).sum
def rowMin (v : List Int) (row : List Int) : Int := min (rowSum v row) 1000000000
def lstep (v : List Int) (e : Nat × List Int) : List Int := v.set e.1 (min (lv v e.1) (rowMin v e.2))
def lround (E : List (Nat × List Int)) (v : List Int) : List Int := E.foldl lstep v
theorem lv_set (v : List Int) (k p : Nat) (x : Int) (hk : k < v.length) : lv (v.set k x) p = if p = k then x else lv v p := by
  unfold lv
  rw [List.getD_eq_getElem?_getD, List.getD_eq_getElem?_getD, List.getElem?_set]
  by_cases h : p = k
  · subst h; simp [hk]
  · have : ¬ k = p := fun e => h e.symm
    simp [h, this]
theorem lv_ext {a b : List Int} (hl : a.length = b.length) (h : ∀ p, lv a p = lv b p) : a = b := by
  refine List.ext_getElem hl (fun i h1 h2 => ?_)
  have := h i
  unfold lv at this
  simpa [List.getD_eq_getElem?_getD, List.getElem?_eq_getElem h1, List.getElem?_eq_getElem h2] using this
theorem lstep_len (v : List Int) (e : Nat × List Int) : (lstep v e).length = v.length := by simp [lstep]
theorem lround_len (E : List (Nat × List Int)) (v : List Int) : (lround E v).length = v.length := by
  unfold lround
  induction E generalizing v with
  | nil => rfl
  | cons e E ih => rw [List.foldl_cons, ih, lstep_len]
/-- Below, cell by cell. -/
def lle (a b : List Int) : Prop := ∀ p, lv a p ≤ lv b p
theorem lle.trans {a b c : List Int} (h : lle a b) (k : lle b c) : lle a c := fun p => Int.le_trans (h p) (k p)
theorem lle.refl (a : List Int) : lle a a := fun p => Int.le_refl _
theorem sum_le {f g : Int → Int} : ∀ {row : List Int}, (∀ x ∈ row, f x ≤ g x) → (row.map f).sum ≤ (row.map g).sum := by
  intro row
  induction row with
  | nil => intro _; simp
  | cons x row ih =>
    intro h
    have h1 := h x List.mem_cons_self
    have h2 := ih (fun y hy => h y (List.mem_cons_of_mem _ hy))
    simp only [List.map_cons, List.sum_cons]
    omega
theorem sum_eq {f g : Int → Int} : ∀ {row : List Int}, (∀ x ∈ row, f x ≤ g x) → (row.map g).sum ≤ (row.map f).sum → ∀ x ∈ row, f x = g x := by
  intro row
  induction row with
  | nil => intro _ _ x hx; cases hx
  | cons y row ih =>
    intro h hs x hx
    have h1 := h y List.mem_cons_self
    have h2 := sum_le (fun y hy => h y (List.mem_cons_of_mem _ hy))
    simp only [List.map_cons, List.sum_cons] at hs
    rcases List.mem_cons.1 hx with rfl | hx
    · omega
    · exact ih (fun y hy => h y (List.mem_cons_of_mem _ hy)) (by omega) x hx
theorem symVal_le {a b : List Int} (h : lle a b) (x : Int) : symVal a x ≤ symVal b x := by
  unfold symVal
  split
  · omega
  · exact h _
theorem rowSum_le {a b : List Int} (h : lle a b) (row : List Int) : rowSum a row ≤ rowSum b row := sum_le (fun x _ => symVal_le h x)
theorem rowMin_le {a b : List Int} (h : lle a b) (row : List Int) : rowMin a row ≤ rowMin b row := by
  have := rowSum_le h row
  unfold rowMin
  omega
theorem lstep_out (v : List Int) (e : Nat × List Int) (hk : ¬ e.1 < v.length) : lstep v e = v := by
  unfold lstep
  exact List.set_eq_of_length_le (by omega)
theorem lstep_le (v : List Int) (e : Nat × List Int) : lle (lstep v e) v := by
  intro p
  by_cases hk : e.1 < v.length
  · unfold lstep
    rw [lv_set _ _ _ _ hk]
    split
    · rename_i h; subst h; omega
    · omega
  · rw [lstep_out _ _ hk]; exact Int.le_refl _
theorem lstep_mono {a b : List Int} (hl : a.length = b.length) (h : lle a b) (e : Nat × List Int) : lle (lstep a e) (lstep b e) := by
  intro p
  by_cases hk : e.1 < a.length
  · unfold lstep
    rw [lv_set _ _ _ _ hk, lv_set _ _ _ _ (by omega)]
    split
    · have h1 := h e.1
      have h2 := rowMin_le h e.2
      omega
    · exact h p
  · rw [lstep_out _ _ hk, lstep_out _ _ (by omega)]; exact h p
theorem lround_le (E : List (Nat × List Int)) (v : List Int) : lle (lround E v) v := by
  unfold lround
  induction E generalizing v with
  | nil => exact lle.refl v
  | cons e E ih => exact (ih _).trans (lstep_le v e)
theorem lle_antisymm {a b : List Int} (hl : a.length = b.length) (h : lle a b) (k : lle b a) : a = b := lv_ext hl (fun p => Int.le_antisymm (h p) (k p))
/-- Where a round turns nothing, no step does. -/
theorem lround_fix_step : ∀ {E : List (Nat × List Int)} {v : List Int}, lround E v = v → ∀ e ∈ E, lstep v e = v := by
  intro E
  induction E with
  | nil => intro v _ e he; cases he
  | cons e E ih =>
    intro v h e' he
    have h0 : lround E (lstep v e) = v := h
    have h1 : lstep v e = v := lle_antisymm (lstep_len v e) (lstep_le v e) (by
      have := lround_le E (lstep v e)
      rwa [h0] at this)
    rcases List.mem_cons.1 he with rfl | he
    · exact h1
    · rw [h1] at h0
      exact ih h0 e' he
/-- What the rounds come to. -/
structure Lim (E : List (Nat × List Int)) (n : Nat) (v0 vs : List Int) : Prop where
  len0 : v0.length = n
  len : vs.length = n
  le : lle vs v0
  fix : lround E vs = vs
  sup : ∀ S : Nat → Prop, (∀ k, k < n → lv vs k = 1000000000 → S k) → (∀ e ∈ E, e.1 < n → (∀ x ∈ e.2, 100 ≤ x → S (x - 100).toNat) → rowMin vs e.2 = lv vs e.1 → S e.1) → ∀ k, k < n → S k
theorem lround_low {vs : List Int} : ∀ {E : List (Nat × List Int)} {w : List Int}, (∀ e ∈ E, lstep vs e = vs) → w.length = vs.length → lle vs w → lle vs (lround E w) := by
  intro E
  induction E with
  | nil => intro w _ _ h; exact h
  | cons e E ih =>
    intro w hf hl h
    refine ih (fun e' he => hf e' (List.mem_cons_of_mem _ he)) (by rw [lstep_len, hl]) ?_
    have := lstep_mono hl.symm h e
    rwa [hf e List.mem_cons_self] at this
/-- What is final is had by what is final. -/
theorem sup_round {vs : List Int} {n : Nat} (hn : vs.length = n) {S : Nat → Prop} : ∀ {E : List (Nat × List Int)} {w : List Int}, (∀ e ∈ E, lstep vs e = vs) → (∀ e ∈ E, e.1 < n → (∀ x ∈ e.2, 100 ≤ x → S (x - 100).toNat) → rowMin vs e.2 = lv vs e.1 → S e.1) → (∀ e ∈ E, ∀ x ∈ e.2, 100 ≤ x → (x - 100).toNat < n) → w.length = n → lle vs w → (∀ k, lv w k ≤ 1000000000) → (∀ k, k < n → lv w k = lv vs k → S k) →
    (∀ k, lv (lround E w) k ≤ 1000000000) ∧ ∀ k, k < n → lv (lround E w) k = lv vs k → S k := by
  intro E
  induction E with
  | nil => intro w _ _ _ _ _ hb h; exact ⟨hb, h⟩
  | cons e E ih =>
    intro w hf hS hx hl hle hb h
    have hst := hf e List.mem_cons_self
    have hle' : lle vs (lstep w e) := by
      have := lstep_mono (hn.trans hl.symm) hle e
      rwa [hst] at this
    refine ih (fun e' he => hf e' (List.mem_cons_of_mem _ he)) (fun e' he => hS e' (List.mem_cons_of_mem _ he)) (fun e' he => hx e' (List.mem_cons_of_mem _ he)) (by rw [lstep_len, hl]) hle' (fun k => Int.le_trans (lstep_le w e k) (hb k)) (fun k hk hv => ?_)
    by_cases hk2 : e.1 < w.length
    · unfold lstep at hv
      rw [lv_set _ _ _ _ hk2] at hv
      by_cases hke : k = e.1
      · subst hke
        rw [if_pos rfl] at hv
        by_cases hold : lv w e.1 ≤ rowMin w e.2
        · exact h _ hk (by omega)
        · have h1 : rowMin w e.2 = lv vs e.1 := by omega
          have h2 : lv vs e.1 ≤ rowMin vs e.2 := by
            have := congrArg (fun v => lv v e.1) hst
            simp only [lstep] at this
            rw [lv_set _ _ _ _ (by omega), if_pos rfl] at this
            omega
          have h3 := rowMin_le hle e.2
          have h4 := hb e.1
          have h5 : rowMin vs e.2 = lv vs e.1 := by omega
          refine hS e List.mem_cons_self hk (fun x hxm hx100 => ?_) h5
          have h6 : rowSum w e.2 ≤ rowSum vs e.2 := by unfold rowMin at h1 h5 hold; omega
          have h7 := sum_eq (fun x _ => symVal_le hle x) h6 x hxm
          have h8 : ¬ x < 100 := by omega
          simp only [symVal, if_neg h8] at h7
          exact h _ (hx e List.mem_cons_self x hxm hx100) h7.symm
      · rw [if_neg hke] at hv
        exact h k hk hv
    · rw [lstep_out _ _ hk2] at hv
      exact h k hk hv
theorem lround_pos : ∀ {E : List (Nat × List Int)} {w : List Int}, (∀ k, 0 ≤ lv w k) → ∀ k, 0 ≤ lv (lround E w) k := by
  intro E
  induction E with
  | nil => intro w h; exact h
  | cons e E ih =>
    intro w h
    refine ih (fun k => ?_)
    by_cases hk : e.1 < w.length
    · unfold lstep
      rw [lv_set _ _ _ _ hk]
      split
      · have h1 : 0 ≤ rowSum w e.2 := by
          unfold rowSum
          generalize e.2 = row
          induction row with
          | nil => simp
          | cons x row ihr =>
            simp only [List.map_cons, List.sum_cons]
            have : 0 ≤ symVal w x := by
              unfold symVal
              split
              · omega
              · exact h _
            omega
        have h2 := h e.1
        unfold rowMin
        omega
      · exact h k
    · rw [lstep_out _ _ hk]; exact h k
def lsum (v : List Int) : Nat := (v.map Int.toNat).sum
theorem lsum_lt : ∀ {a b : List Int}, a.length = b.length → lle a b → (∀ k, 0 ≤ lv a k) → a ≠ b → lsum a < lsum b := by
  intro a
  induction a with
  | nil => intro b hl _ _ hne; cases b with
    | nil => exact absurd rfl hne
    | cons => simp at hl
  | cons x a ih =>
    intro b hl hle hp hne
    cases b with
    | nil => simp at hl
    | cons y b =>
      have h0 : x ≤ y := by have := hle 0; simpa [lv] using this
      have hx : 0 ≤ x := by have := hp 0; simpa [lv] using this
      have hle' : lle a b := fun p => by have := hle (p + 1); simpa [lv] using this
      have hp' : ∀ k, 0 ≤ lv a k := fun p => by have := hp (p + 1); simpa [lv] using this
      have hl' : a.length = b.length := by simpa using hl
      simp only [lsum, List.map_cons, List.sum_cons]
      by_cases he : a = b
      · subst he
        have : x ≠ y := fun e => hne (by rw [e])
        omega
      · have := ih hl' hle' hp' he
        simp only [lsum] at this
        omega
theorem lim_exists {E : List (Nat × List Int)} {n : Nat} (hE : ∀ e ∈ E, ∀ x ∈ e.2, 100 ≤ x → (x - 100).toNat < n) {v0 : List Int} (h0 : v0.length = n) (hv : ∀ k, k < n → lv v0 k = 1000000000) : ∃ vs, Lim E n v0 vs ∧ (∀ k, 0 ≤ lv vs k) ∧ ∃ d, vs = iterN (lround E) d v0 := by
  have hb : ∀ k, 0 ≤ lv v0 k ∧ lv v0 k ≤ 1000000000 := fun k => by
    rcases Nat.lt_or_ge k n with h | h
    · rw [hv k h]; omega
    · unfold lv
      rw [List.getD_eq_getElem?_getD, List.getElem?_eq_none (by omega)]
      simp
  let Inv : List Int → Prop := fun v => v.length = n ∧ ∀ k, 0 ≤ lv v k
  have hI : ∀ s, Inv s → Inv (lround E s) := fun s hs => ⟨(lround_len E s).trans hs.1, lround_pos hs.2⟩
  have hfix := settle (f := lround E) (Inv := Inv) (μ := lsum) hI (fun s hs hne => lsum_lt (lround_len E s) (lround_le E s) (lround_pos hs.2) hne) (lsum v0) v0 ⟨h0, fun k => (hb k).1⟩ (Nat.le_refl _)
  generalize hd : lsum v0 = d at hfix
  have hInv := iterN_inv (f := lround E) (Inv := Inv) hI d v0 ⟨h0, fun k => (hb k).1⟩
  generalize hvs : iterN (lround E) d v0 = vs at hfix hInv
  have hst := lround_fix_step hfix
  have hlow : ∀ j s, s.length = n → lle vs (iterN (lround E) j s) → lle vs s := by
    intro j
    induction j with
    | zero => intro s _ h; exact h
    | succ j ih => intro s hs h; exact (ih _ ((lround_len E s).trans hs) h).trans (lround_le E s)
  refine ⟨vs, ⟨h0, hInv.1, hlow d v0 h0 (by rw [hvs]; exact lle.refl _), hfix, fun S hS1 hS2 => ?_⟩, hInv.2, d, hvs.symm⟩
  have key : ∀ j s, s.length = n → lle vs s → (∀ k, lv s k ≤ 1000000000) → (∀ k, k < n → lv s k = lv vs k → S k) → ∀ k, k < n → lv (iterN (lround E) j s) k = lv vs k → S k := by
    intro j
    induction j with
    | zero => intro s _ _ _ h; exact h
    | succ j ih =>
      intro s hs hle hbs h
      obtain ⟨h1, h2⟩ := sup_round hInv.1 hst hS2 hE hs hle hbs h
      exact ih _ ((lround_len E s).trans hs) (lround_low hst (hs.trans hInv.1.symm) hle) h1 h2
  have hle0 : lle vs v0 := hlow d v0 h0 (by rw [hvs]; exact lle.refl _)
  intro k hk
  refine key d v0 h0 hle0 (fun k => (hb k).2) (fun k hk he => hS1 k hk (by rw [← he]; exact hv k hk)) k hk ?_
  rw [hvs]
/-- A round makes one more final. -/
theorem lround_more {E : List (Nat × List Int)} {n : Nat} {v0 vs : List Int} (hL : Lim E n v0 vs) (hE : ∀ e ∈ E, ∀ x ∈ e.2, 100 ≤ x → (x - 100).toNat < n) {v : List Int} (hl : v.length = n) (hle : lle vs v) (hb : ∀ k, lv v k ≤ 1000000000) (hs : ∀ k, k < n → lv (lround E v) k = lv vs k → lv v k = lv vs k) : v = vs := by
  have hst := lround_fix_step hL.fix
  have all : ∀ k, k < n → lv v k = lv vs k := by
    refine hL.sup _ (fun k hk h => ?_) (fun e he hen hx hr => hs _ hen ?_)
    · have h1 := hle k
      have h2 := hb k
      omega
    · have key : ∀ (E' : List (Nat × List Int)) (w : List Int), (∀ e' ∈ E', e' ∈ E) → w.length = n → lle vs w → lle w v → e ∈ E' → lv (lround E' w) e.1 ≤ lv vs e.1 := by
        intro E'
        induction E' with
        | nil => intro w _ _ _ _ h; cases h
        | cons e' E' ih =>
          intro w hsub hlw h1 h2 hm
          have hlow : lle vs (lstep w e') := by
            have := lstep_mono (hL.len.trans hlw.symm) h1 e'
            rwa [hst e' (hsub e' List.mem_cons_self)] at this
          rcases List.mem_cons.1 hm with rfl | hm
          · refine Int.le_trans (lround_le E' (lstep w e) e.1) ?_
            unfold lstep
            rw [lv_set _ _ _ _ (by omega), if_pos rfl]
            have h3 : rowSum w e.2 = rowSum vs e.2 := by
              unfold rowSum
              congr 1
              refine List.map_congr_left (fun x hxm => ?_)
              unfold symVal
              split
              · rfl
              · have h4 := hx x hxm (by omega)
                have h5 := h1 (x - 100).toNat
                have h6 := h2 (x - 100).toNat
                omega
            have h4 : rowMin w e.2 = rowMin vs e.2 := by unfold rowMin; rw [h3]
            omega
          · exact ih _ (fun x hx => hsub x (List.mem_cons_of_mem _ hx)) (by rw [lstep_len, hlw]) hlow ((lstep_le w e').trans h2) hm
      have h1 := key E v (fun _ h => h) hl hle (lle.refl v) he
      have h2 := lround_low hst (hl.trans hL.len.symm) hle e.1
      change lv (lround E v) e.1 = lv vs e.1
      omega
  refine lv_ext (hl.trans hL.len.symm) (fun p => ?_)
  rcases Nat.lt_or_ge p n with h | h
  · exact all p h
  · unfold lv
    rw [List.getD_eq_getElem?_getD, List.getD_eq_getElem?_getD, List.getElem?_eq_none (by omega), List.getElem?_eq_none (by rw [hL.len]; omega)]
/-- As many rounds as there are parts are enough. -/
theorem lround_n {E : List (Nat × List Int)} {n : Nat} {v0 vs : List Int} (hL : Lim E n v0 vs) (hE : ∀ e ∈ E, ∀ x ∈ e.2, 100 ≤ x → (x - 100).toNat < n) (hb : ∀ k, lv v0 k ≤ 1000000000) : iterN (lround E) n v0 = vs := by
  have hst := lround_fix_step hL.fix
  have key : ∀ d (v : List Int), v.length = n → lle vs v → (∀ k, lv v k ≤ 1000000000) → (List.range n).countP (fun k => decide (lv v k ≠ lv vs k)) ≤ d → iterN (lround E) d v = vs := by
    intro d
    induction d with
    | zero =>
      intro v hl hle hb hc
      show v = vs
      refine lv_ext (hl.trans hL.len.symm) (fun p => ?_)
      rcases Nat.lt_or_ge p n with h | h
      · have := List.countP_eq_zero.1 (Nat.le_zero.1 hc) p (List.mem_range.2 h)
        simpa using this
      · unfold lv
        rw [List.getD_eq_getElem?_getD, List.getD_eq_getElem?_getD, List.getElem?_eq_none (by omega), List.getElem?_eq_none (by rw [hL.len]; omega)]
    | succ d ih =>
      intro v hl hle hb hc
      by_cases hs : ∀ k, k < n → lv (lround E v) k = lv vs k → lv v k = lv vs k
      · rw [lround_more hL hE hl hle hb hs]
        exact iterN_fix _ _ _ hL.fix
      · rw [iterN]
        have hlow := lround_low hst (hl.trans hL.len.symm) hle
        refine ih _ ((lround_len E v).trans hl) hlow (fun k => Int.le_trans (lround_le E v k) (hb k)) ?_
        have : (List.range n).countP (fun k => decide (lv (lround E v) k ≠ lv vs k)) < (List.range n).countP (fun k => decide (lv v k ≠ lv vs k)) := by
          refine countP_lt (fun k _ h => ?_) ?_
          · simp only [decide_eq_true_eq] at h ⊢
            intro he
            have h1 := hlow k
            have h2 := lround_le E v k
            omega
          · simp only [Classical.not_forall] at hs
            obtain ⟨k, hk, h1, h2⟩ := hs
            exact ⟨k, List.mem_range.2 hk, by simpa using h2, by simpa using h1⟩
        omega
  refine key n v0 hL.len0 hL.le hb ?_
  have := List.countP_le_length (p := fun k => decide (lv v0 k ≠ lv vs k)) (l := List.range n)
  simpa using this
end Go.Proofs.Ytanglbgincgmaaa.Vm
