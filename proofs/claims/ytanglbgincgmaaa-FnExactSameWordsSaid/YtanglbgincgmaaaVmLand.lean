/-
  The small machine: what a call hands on, and where its results land.
-/
import Derived.Test.YtanglbgincgmaaaVmCall
namespace Go.Proofs.Ytanglbgincgmaaa.Vm
open Go Go.RowKit
set_option linter.unusedVariables false
section
variable {P : Program} {z : Nat → Nat} {B : Nat} {w0 w w' : World} {mem mem' : Mem} {ep ep' : Nat} {m m' : Mp}

theorem pureRow_all : ∀ (l : List V), pureRow l = true → ∀ u ∈ l, pure0 u = true := by
  intro l
  induction l with
  | nil => simp
  | cons x l ih =>
    intro h u hu
    simp only [pureRow, Bool.and_eq_true] at h
    rcases List.mem_cons.1 hu with rfl | hu
    · exact h.1
    · exact ih h.2 u hu
theorem pureRows_all : ∀ (l : List (List V)), pureRows l = true → ∀ r ∈ l, pureRow r = true := by
  intro l
  induction l with
  | nil => simp
  | cons x l ih =>
    intro h u hu
    simp only [pureRows, Bool.and_eq_true] at h
    rcases List.mem_cons.1 hu with rfl | hu
    · exact h.1
    · exact ih h.2 u hu
theorem pure_rep {ro ro' ok : Nat → Prop} {v : V} {y : Value} (h : Rep z w ro ok v y) (hp : pure0 v = true) : Rep z w ro' ok v y := by
  induction h generalizing ro' with
  | lit h => exact .lit h
  | roS => simp [pure0] at hp
  | own cells f ho hok hrow hr ih =>
    refine .own cells f ho hok hrow (fun i j row u y a b c => ih i j row u y a b c ?_)
    simp only [pure0] at hp
    exact pureRow_all _ (pureRows_all _ hp _ (List.mem_of_getElem? a)) _ (List.mem_of_getElem? b)
  | rp => simp [pure0] at hp
  | cl => simp [pure0] at hp

theorem seen0_rep (hg : Good z B w0 mem ep m w) {v u : V} {y : Value} (hv : RV z mem ep m w v y) (h : seen0 mem v = some u) : bare1 u = true ∧ Rep z w (fun _ => True) (fun _ => False) u y ∧ (bare1 v = true → Rep z w (roG m w) (fun _ => False) u y) := by
  cases hv with
  | lit hc =>
    simp only [seen0, Option.some.injEq] at h
    subst h
    exact ⟨rfl, .lit hc, fun _ => .lit hc⟩
  | ro hr =>
    simp only [seen0, Option.some.injEq] at h
    subst h
    exact ⟨rfl, hr.mono (fun _ _ => trivial) (fun _ h => h), fun _ => hr⟩
  | ow hid h1 hh =>
    rename_i id hv
    simp only [seen0, Option.bind_eq_some_iff, Option.some.injEq] at h
    obtain ⟨b, hb, rfl⟩ := h
    have hb' := rowsH_some hb
    have hy := hh _ _ _ hb'
    subst hy
    obtain ⟨_, _, cs, f, ho, hG, hlen, hrep⟩ := hg.blk _ _ hb'
    have hR : Rep z w (fun _ => True) (fun _ => True) (.sl true b.2.1 b.2.2) (m.hd id) :=
      .own cs f ho (fun _ _ => trivial) hlen (fun i j row u y a b c => (hrep i j row u y a b c).mono (fun _ _ => trivial) (fun k hk => ⟨trivial, hk.1.2.1, hk.2⟩))
    have := hR.erase (ok' := fun _ => False)
    simp only [V.er] at this
    exact ⟨rfl, this.mono (fun _ _ => trivial) (fun _ h => h), fun hb => by simp [bare1] at hb⟩
  | vw hid h1 hh hpp =>
    simp only [seen0] at h
    split at h
    · rename_i hs
      simp only [Option.some.injEq] at h
      subst h
      obtain ⟨hv, e, rs, hm⟩ := seenC_some hs
      exact ⟨rfl, (hh _ _ _ hm).mono (fun _ _ => trivial) (fun _ h => h), fun hb => by simp [bare1] at hb⟩
    · cases h
  | _ => simp [seen0] at h
theorem seen0L_rep (hg : Good z B w0 mem ep m w) : ∀ (cs us : List V), seen0L mem cs = some us → us.length = cs.length ∧ ∀ (j : Nat) (u : V) (y : Value), us[j]? = some u → (∀ v, cs[j]? = some v → RV z mem ep m w v y) → Rep z w (fun _ => True) (fun _ => False) u y := by
  intro cs
  induction cs with
  | nil => intro us h; simp only [seen0L, Option.some.injEq] at h; subst h; exact ⟨rfl, by simp⟩
  | cons v cs ih =>
    intro us h
    simp only [seen0L, Option.bind_eq_some_iff, Option.some.injEq] at h
    obtain ⟨u, hu, us', hus, rfl⟩ := h
    obtain ⟨h1, h2⟩ := ih us' hus
    refine ⟨by simp [h1], fun j x y a hv => ?_⟩
    cases j with
    | zero =>
      simp at a
      subst a
      exact (seen0_rep hg (hv v rfl) hu).2.1
    | succ j =>
      simp at a
      exact h2 j x y a (fun v' hv' => hv v' (by simpa using hv'))
theorem rv_rp {row : List V} {off : Nat} {y : Value} (h : RV z mem ep m w (.rp row off) y) : Rep z w (roG m w) (fun _ => False) (.rp row off) y := by
  cases h with
  | rp ad f hro hcell hr => exact .rp ad f hro hcell hr
theorem seen1_rep (hg : Good z B w0 mem ep m w) {v u : V} {y : Value} (hv : RV z mem ep m w v y) (h : seen1 mem v = some u) : isRp u = true ∧ Rep z w (fun _ => True) (fun _ => False) u y ∧ (isRp v = true → Rep z w (roG m w) (fun _ => False) u y) := by
  cases v with
  | rp row off =>
    simp only [seen1, Option.some.injEq] at h
    subst h
    have := rv_rp hv
    exact ⟨rfl, this.mono (fun _ _ => trivial) (fun _ h => h), fun _ => this⟩
  | bp id bv off =>
    simp only [seen1, Option.bind_eq_some_iff, Option.some.injEq] at h
    obtain ⟨cells, hb, us, hus, rfl⟩ := h
    refine ⟨rfl, ?_, fun h => by cases h⟩
    have hb' := boxOf_some hb
    cases hv with
    | bp hid h1 hh =>
      obtain ⟨g, hd, rfl⟩ := hh _ hb'
      obtain ⟨_, g', T, cs, h2, h3, h4, h5, h6⟩ := hg.blk _ _ hb'
      rw [hd] at h2
      simp only [Value.pointer.injEq, Option.some.injEq, Addr.mk.injEq, and_true] at h2
      subst h2
      obtain ⟨q1, q2⟩ := seen0L_rep hg _ _ hus
      have hlt : ∀ j u, us[j]? = some u → j < cs.size := fun j u hu => by have := (List.getElem?_eq_some_iff.1 hu).1; omega
      have e1 : (Value.pointer (some ⟨g, off, none⟩)) = .pointer (some ((⟨g, 0, none⟩ : Addr).add off)) := by rw [add0]
      rw [e1]
      refine .rp ⟨g, 0, none⟩ (fun j => cs.getD j default) (fun _ _ _ => trivial) (fun j u hu => ?_) (fun j u hu => ?_)
      · have := hlt j u hu
        rw [add0]
        simp [World.cell?, h3, this]
      · have := hlt j u hu
        refine q2 j u _ hu (fun v hv => h6 j v _ hv ?_)
        simp [this]
  | _ => simp [seen1] at h
theorem seen1L_rep (hg : Good z B w0 mem ep m w) : ∀ (cs us : List V), seen1L mem cs = some us → us.length = cs.length ∧ us.all isRp = true ∧ ∀ (j : Nat) (u : V) (y : Value), us[j]? = some u → (∀ v, cs[j]? = some v → RV z mem ep m w v y) → Rep z w (fun _ => True) (fun _ => False) u y ∧ (cs.all isRp = true → Rep z w (roG m w) (fun _ => False) u y) := by
  intro cs
  induction cs with
  | nil => intro us h; simp only [seen1L, Option.some.injEq] at h; subst h; exact ⟨rfl, rfl, by simp⟩
  | cons v cs ih =>
    intro us h
    simp only [seen1L, Option.bind_eq_some_iff, Option.some.injEq] at h
    obtain ⟨u, hu, us', hus, rfl⟩ := h
    obtain ⟨h1, h2, h3⟩ := ih us' hus
    have hb : isRp u = true := by
      cases v <;> simp only [seen1, Option.some.injEq, Option.bind_eq_some_iff] at hu
      case rp => subst hu; rfl
      case bp => obtain ⟨_, _, _, _, rfl⟩ := hu; rfl
      all_goals cases hu
    refine ⟨by simp [h1], by simp [hb]; simpa using h2, fun j x y a hv => ?_⟩
    cases j with
    | zero =>
      simp at a
      subst a
      obtain ⟨_, h5, h6⟩ := seen1_rep hg (hv v rfl) hu
      exact ⟨h5, fun hall => h6 (by simp at hall; exact hall.1)⟩
    | succ j =>
      simp at a
      obtain ⟨h5, h6⟩ := h3 j x y a (fun v' hv' => hv v' (by simpa using hv'))
      exact ⟨h5, fun hall => h6 (by simp at hall; simpa using hall.2)⟩
theorem seen_rep (hg : Good z B w0 mem ep m w) {v u : V} {y : Value} (hv : RV z mem ep m w v y) (h : seen mem v = some u) : bare1 u = true ∧ Rep z w (fun _ => True) (fun _ => False) u y ∧ (bare1 v = true → Rep z w (roG m w) (fun _ => False) u y) := by
  cases v with
  | lit v => exact seen0_rep hg hv (by simpa [seen, seen0] using h)
  | sl own e rows =>
    cases own with
    | true => simp [seen] at h
    | false => exact seen0_rep hg hv (by simpa [seen, seen0] using h)
  | ow id hv' => exact seen0_rep hg hv (by simpa only [seen, seen0] using h)
  | vw id cv p e rows => exact seen0_rep hg hv (by simpa only [seen, seen0] using h)
  | rp row off =>
    obtain ⟨h1, h2, h3⟩ := seen1_rep hg hv (by simpa [seen, seen1] using h)
    simp only [seen, Option.some.injEq] at h
    subst h
    exact ⟨rfl, h2, fun _ => h3 rfl⟩
  | bp id bv off =>
    obtain ⟨h1, h2, h3⟩ := seen1_rep hg hv (u := u) (by simpa only [seen, seen1] using h)
    refine ⟨?_, h2, fun hb => by simp [bare1] at hb⟩
    cases u <;> simp [isRp] at h1
    rfl
  | cl g cs =>
    simp only [seen, Option.bind_eq_some_iff, Option.some.injEq] at h
    obtain ⟨us, hus, rfl⟩ := h
    obtain ⟨h1, h2, h3⟩ := seen1L_rep hg _ _ hus
    cases hv with
    | cl hn hr =>
      refine ⟨h2, .cl (by rw [h1]; exact hn) (fun j u y a b => (h3 j u y a (fun v hv => hr j v y hv b)).1), fun hb => .cl (by rw [h1]; exact hn) (fun j u y a b => (h3 j u y a (fun v hv => hr j v y hv b)).2 hb)⟩
  | _ => simp [seen] at h

theorem seen1L_all : ∀ (cs us : List V), seen1L mem cs = some us → us.all isRp = true := by
  intro cs
  induction cs with
  | nil => intro us hus; simp only [seen1L, Option.some.injEq] at hus; subst hus; rfl
  | cons v cs ih =>
    intro us hus
    simp only [seen1L, Option.bind_eq_some_iff, Option.some.injEq] at hus
    obtain ⟨u, hu, us', hus, rfl⟩ := hus
    have hb : isRp u = true := by
      cases v <;> simp only [seen1, Option.some.injEq, Option.bind_eq_some_iff] at hu
      case rp => subst hu; rfl
      case bp => obtain ⟨_, _, _, _, rfl⟩ := hu; rfl
      all_goals cases hu
    rw [List.all_cons, hb, ih _ hus]
    rfl
theorem seen_bare {v u : V} (h : seen mem v = some u) : bare1 u = true := by
  cases v <;> simp only [seen, Option.some.injEq, Option.bind_eq_some_iff] at h
  case lit => subst h; rfl
  case sl own e rows =>
    cases own
    · simp only [seen, Option.some.injEq] at h; subst h; rfl
    · simp [seen] at h
  case ow => obtain ⟨_, _, rfl⟩ := h; rfl
  case vw =>
    split at h
    · simp only [Option.some.injEq] at h; subst h; rfl
    · cases h
  case rp => subst h; rfl
  case bp => obtain ⟨_, _, _, _, rfl⟩ := h; rfl
  case cl g cs =>
    obtain ⟨us, hus, rfl⟩ := h
    exact seen1L_all _ _ hus
  all_goals cases h
theorem seenL_rep (hg : Good z B w0 mem ep m w) : ∀ (cs us : List V), seenL mem cs = some us → us.length = cs.length ∧ us.all bare1 = true ∧ ∀ (j : Nat) (u : V) (y : Value), us[j]? = some u → (∀ v, cs[j]? = some v → RV z mem ep m w v y) → Rep z w (fun _ => True) (fun _ => False) u y ∧ (cs.all bare1 = true → Rep z w (roG m w) (fun _ => False) u y) := by
  intro cs
  induction cs with
  | nil => intro us h; simp only [seenL, Option.some.injEq] at h; subst h; exact ⟨rfl, rfl, by simp⟩
  | cons v cs ih =>
    intro us h
    simp only [seenL, Option.bind_eq_some_iff, Option.some.injEq] at h
    obtain ⟨u, hu, us', hus, rfl⟩ := h
    obtain ⟨h1, h2, h3⟩ := ih us' hus
    have hb : bare1 u = true := seen_bare hu
    refine ⟨by simp [h1], by simp [hb]; simpa using h2, fun j x y a hv => ?_⟩
    cases j with
    | zero =>
      simp at a
      subst a
      obtain ⟨_, h5, h6⟩ := seen_rep hg (hv v rfl) hu
      exact ⟨h5, fun hall => h6 (by simp at hall; exact hall.1)⟩
    | succ j =>
      simp at a
      obtain ⟨h5, h6⟩ := h3 j x y a (fun v' hv' => hv v' (by simpa using hv'))
      exact ⟨h5, fun hall => h6 (by simp at hall; simpa using hall.2)⟩

theorem seenT_arg (hg : Good z B w0 mem ep m w) {v u : TV} {y : Value} (hv : RTV z mem ep m w v y) (h : seenT mem v = some u) : ArgT z w (fun _ => True) u y ∧ (bareT v = true → ArgT z w (roG m w) u y) := by
  cases hv with
  | one hv =>
    simp only [seenT, Option.bind_eq_some_iff, Option.some.injEq] at h
    obtain ⟨u', hu, rfl⟩ := h
    obtain ⟨h1, h2, h3⟩ := seen_rep hg hv hu
    exact ⟨.one h1 h2, fun hb => .one h1 (h3 hb)⟩
  | agg hs hr =>
    simp only [seenT, Option.bind_eq_some_iff, Option.some.injEq] at h
    obtain ⟨us, hus, rfl⟩ := h
    obtain ⟨h1, h2, h3⟩ := seenL_rep hg _ _ hus
    exact ⟨.agg h2 (by rw [h1]; exact hs) (fun j u y a b => (h3 j u y a (fun v hv => hr j v y hv b)).1), fun hb => .agg h2 (by rw [h1]; exact hs) (fun j u y a b => (h3 j u y a (fun v hv => hr j v y hv b)).2 hb)⟩
  | tup => simp [seenT] at h
theorem seenTs_len : ∀ (vs us : List TV), seenTs mem vs = some us → us.length = vs.length ∧ ∀ (j : Nat) (u : TV), us[j]? = some u → ∃ v, vs[j]? = some v ∧ seenT mem v = some u := by
  intro vs
  induction vs with
  | nil => intro us h; simp only [seenTs, Option.some.injEq] at h; subst h; exact ⟨rfl, by simp⟩
  | cons v vs ih =>
    intro us h
    simp only [seenTs, Option.bind_eq_some_iff, Option.some.injEq] at h
    obtain ⟨u, hu, us', hus, rfl⟩ := h
    obtain ⟨h1, h2⟩ := ih us' hus
    refine ⟨by simp [h1], fun j x a => ?_⟩
    cases j with
    | zero => simp at a; subst a; exact ⟨v, rfl, hu⟩
    | succ j => simp at a; obtain ⟨v', h3, h4⟩ := h2 j x a; exact ⟨v', by simpa using h3, h4⟩

theorem ownNo_zero (cs : List V) : ownNo cs 0 = 0 := rfl
theorem ownNo_succ (v : V) (cs : List V) (j : Nat) : ownNo (v :: cs) (j + 1) = (if ownC v then 1 else 0) + ownNo cs j := by
  simp only [ownNo, List.take_succ_cons, List.countP_cons]
  omega
theorem ownNo_inj : ∀ (cs : List V) (i j : Nat) (u v : V), cs[i]? = some u → cs[j]? = some v → ownC u = true → ownC v = true → ownNo cs i = ownNo cs j → i = j := by
  intro cs
  induction cs with
  | nil => intro i j u v h; simp at h
  | cons x cs ih =>
    intro i j u v hi hj hu hv he
    cases i with
    | zero =>
      cases j with
      | zero => rfl
      | succ j =>
        simp at hi
        subst hi
        rw [ownNo_succ, hu, ownNo_zero] at he
        simp at he
        omega
    | succ i =>
      cases j with
      | zero =>
        simp at hj
        subst hj
        rw [ownNo_succ, hv, ownNo_zero] at he
        simp at he
      | succ j =>
        rw [ownNo_succ, ownNo_succ] at he
        rw [ih i j u v (by simpa using hi) (by simpa using hj) hu hv (by omega)]

theorem landC_spec {ok : Bool} : ∀ (cs : List V) (n : Nat) (cs' : List V) (bs : List Blk), landC ok ep n cs = some (cs', bs) → cs'.length = cs.length ∧
    (∀ (j : Nat) (u : V), cs[j]? = some u → (∃ v, u = .lit v ∧ cs'[j]? = some u) ∨ (∃ e rows, u = .sl false e rows ∧ ok = true ∧ cs'[j]? = some u) ∨ ∃ e rows, u = .sl true e rows ∧ (ok = true ∨ pure0 u = true) ∧ cs'[j]? = some (.ow (n + ownNo cs j) ep) ∧ bs[ownNo cs j]? = some (.rows ep ep e rows)) ∧
    ∀ (q : Nat) (b : Blk), bs[q]? = some b → ∃ j e rows, cs[j]? = some (.sl true e rows) ∧ ownNo cs j = q ∧ b = .rows ep ep e rows := by
  intro cs
  induction cs with
  | nil =>
    intro n cs' bs h
    simp only [landC, Option.some.injEq, Prod.mk.injEq] at h
    obtain ⟨rfl, rfl⟩ := h
    exact ⟨rfl, by simp, by simp⟩
  | cons x cs ih =>
    intro n cs' bs h
    have step0 : ∀ (cs1 : List V) (bs1 : List Blk), landC ok ep n cs = some (cs1, bs1) → ownC x = false → cs' = x :: cs1 → bs = bs1 → ((∃ v, x = .lit v) ∨ ∃ e rows, x = .sl false e rows ∧ ok = true) → cs'.length = (x :: cs).length ∧
        (∀ (j : Nat) (u : V), (x :: cs)[j]? = some u → (∃ v, u = .lit v ∧ cs'[j]? = some u) ∨ (∃ e rows, u = .sl false e rows ∧ ok = true ∧ cs'[j]? = some u) ∨ ∃ e rows, u = .sl true e rows ∧ (ok = true ∨ pure0 u = true) ∧ cs'[j]? = some (.ow (n + ownNo (x :: cs) j) ep) ∧ bs[ownNo (x :: cs) j]? = some (.rows ep ep e rows)) ∧
        ∀ (q : Nat) (b : Blk), bs[q]? = some b → ∃ j e rows, (x :: cs)[j]? = some (.sl true e rows) ∧ ownNo (x :: cs) j = q ∧ b = .rows ep ep e rows := by
      intro cs1 bs1 h1 hx e1 e2 hk
      subst e1
      subst e2
      obtain ⟨g1, g2, g3⟩ := ih n _ _ h1
      refine ⟨by simp [g1], fun j u a => ?_, fun q b hb => ?_⟩
      · cases j with
        | zero =>
          simp at a
          subst a
          rcases hk with ⟨v, rfl⟩ | ⟨e, rows, rfl, hok⟩
          · exact .inl ⟨v, rfl, rfl⟩
          · exact .inr (.inl ⟨e, rows, rfl, hok, rfl⟩)
        | succ j =>
          simp at a
          rcases g2 j u a with ⟨v, e1, e2⟩ | ⟨e, rows, e1, e2, e3⟩ | ⟨e, rows, e1, e2, e3, e4⟩
          · exact .inl ⟨v, e1, by simpa using e2⟩
          · exact .inr (.inl ⟨e, rows, e1, e2, by simpa using e3⟩)
          · refine .inr (.inr ⟨e, rows, e1, e2, ?_, ?_⟩)
            · rw [ownNo_succ, hx]; simpa using e3
            · rw [ownNo_succ, hx]; simpa using e4
      · obtain ⟨j, e, rows, e1, e2, e3⟩ := g3 q b hb
        exact ⟨j + 1, e, rows, by simpa using e1, by rw [ownNo_succ, hx, e2]; simp, e3⟩
    cases x with
    | lit v =>
      simp only [landC, Option.bind_eq_some_iff, Option.some.injEq, Prod.mk.injEq] at h
      obtain ⟨p, hp, e1, e2⟩ := h
      exact step0 p.1 p.2 hp rfl e1.symm e2.symm (.inl ⟨v, rfl⟩)
    | sl own e rows =>
      cases own with
      | false =>
        simp only [landC] at h
        split at h
        · rename_i hok
          simp only [Option.bind_eq_some_iff, Option.some.injEq, Prod.mk.injEq] at h
          obtain ⟨p, hp, e1, e2⟩ := h
          exact step0 p.1 p.2 hp rfl e1.symm e2.symm (.inr ⟨e, rows, rfl, hok⟩)
        · cases h
      | true =>
        simp only [landC] at h
        split at h
        · rename_i hok
          simp only [Option.bind_eq_some_iff, Option.some.injEq, Prod.mk.injEq] at h
          obtain ⟨p, hp, rfl, rfl⟩ := h
          obtain ⟨g1, g2, g3⟩ := ih (n + 1) p.1 p.2 hp
          refine ⟨by simp [g1], fun j u a => ?_, fun q b hb => ?_⟩
          · cases j with
            | zero =>
              simp at a
              subst a
              exact .inr (.inr ⟨e, rows, rfl, by simpa [pure0] using hok, rfl, rfl⟩)
            | succ j =>
              simp at a
              rcases g2 j u a with ⟨v, e1, e2⟩ | ⟨e', rows', e1, e2, e3⟩ | ⟨e', rows', e1, e2, e3, e4⟩
              · exact .inl ⟨v, e1, by simpa using e2⟩
              · exact .inr (.inl ⟨e', rows', e1, e2, by simpa using e3⟩)
              · refine .inr (.inr ⟨e', rows', e1, e2, ?_, ?_⟩)
                · rw [ownNo_succ]
                  simp only [ownC, if_true, List.getElem?_cons_succ]
                  rw [e3]
                  congr 2
                  omega
                · rw [ownNo_succ]
                  simp only [ownC, if_true]
                  rw [Nat.add_comm 1, List.getElem?_cons_succ]
                  exact e4
          · cases q with
            | zero =>
              simp at hb
              exact ⟨0, e, rows, rfl, rfl, hb.symm⟩
            | succ q =>
              simp at hb
              obtain ⟨j, e', rows', e1, e2, e3⟩ := g3 q b hb
              exact ⟨j + 1, e', rows', by simpa using e1, by rw [ownNo_succ, e2]; simp [ownC]; omega, e3⟩
        · cases h
    | _ => simp [landC] at h

/-- Results land. -/
theorem land_good (hg : Good z B w0 mem ep m w) (hbel : Below w.heap.size w w') {R : Nat → Prop} {c : Nat → Nat} {r : Sh × List V} {v : Value} (ho : OutOk z w w' R c r v) {ok : Bool} (hR : ok = true → ∀ k, R k → k < w.heap.size → m.G k = 0)
    {cs : List V} {bs : List Blk} (hl : landC ok ep mem.length r.2 = some (cs, bs)) :
    ∃ m', RTV z (mem ++ bs.map some) (ep + 1) m' w' (unflat r.1 cs) v ∧ Good z B w0 (mem ++ bs.map some) (ep + 1) m' w' ∧ Evo ep (ep + 1) mem (mem ++ bs.map some) m m' w w' := by
  classical
  obtain ⟨ys, hyl, hshape, hrep⟩ := ho
  obtain ⟨h1, h2, h3⟩ := landC_spec _ _ _ _ hl
  let G : Nat → Nat := fun k => if k < w.heap.size then m.G k else if k < w'.heap.size ∧ c k ≠ 0 then mem.length + c k else 0
  let hd : Nat → Value := fun i => if i < mem.length then m.hd i else if h : ∃ j u, r.2[j]? = some u ∧ ownC u = true ∧ ownNo r.2 j = i - mem.length then ys.getD h.choose default else default
  let m' : Mp := ⟨G, hd⟩
  have hG1 : ∀ k, k < w.heap.size → m'.G k = m.G k := fun k hk => if_pos hk
  have hG2 : ∀ k q, w.heap.size ≤ k → k < w'.heap.size → c k = q + 1 → m'.G k = mem.length + q + 1 := by
    intro k q hk hk' hc
    show (if k < w.heap.size then m.G k else if k < w'.heap.size ∧ c k ≠ 0 then mem.length + c k else 0) = _
    rw [if_neg (by omega), if_pos ⟨hk', by omega⟩, hc]
    omega
  have hG3 : ∀ k, w.heap.size ≤ k → c k = 0 → m'.G k = 0 := by
    intro k hk hc
    show (if k < w.heap.size then m.G k else if k < w'.heap.size ∧ c k ≠ 0 then mem.length + c k else 0) = _
    rw [if_neg (by omega), if_neg (by omega)]
  have hhd : ∀ i, i < mem.length → m'.hd i = m.hd i := fun i hi => if_pos hi
  have hhd2 : ∀ (j : Nat) (u : V) (y : Value), r.2[j]? = some u → ys[j]? = some y → ownC u = true → m'.hd (mem.length + ownNo r.2 j) = y := by
    intro j u y a b hu
    have hex : ∃ j' u', r.2[j']? = some u' ∧ ownC u' = true ∧ ownNo r.2 j' = mem.length + ownNo r.2 j - mem.length := ⟨j, u, a, hu, by omega⟩
    show (if mem.length + ownNo r.2 j < mem.length then _ else if h : ∃ j' u', r.2[j']? = some u' ∧ ownC u' = true ∧ ownNo r.2 j' = mem.length + ownNo r.2 j - mem.length then ys.getD h.choose default else default) = y
    rw [if_neg (by omega), dif_pos hex]
    obtain ⟨u', h4, h5, h6⟩ := hex.choose_spec
    have : hex.choose = j := ownNo_inj r.2 _ _ u' u h4 a h5 hu (by rw [h6]; omega)
    rw [this]
    simp [b]
  have old : ∀ (i : Nat) (b : Blk), (mem ++ bs.map some)[i]? = some (some b) → i < mem.length → mem[i]? = some (some b) := by
    intro i b h hi
    rwa [List.getElem?_append_left hi] at h
  have new : ∀ (i : Nat) (b : Blk), (mem ++ bs.map some)[i]? = some (some b) → mem.length ≤ i → bs[i - mem.length]? = some b := by
    intro i b h hi
    rw [List.getElem?_append_right hi, List.getElem?_map] at h
    obtain ⟨b', h4, h5⟩ := Option.map_eq_some_iff.1 h
    simp only [Option.some.injEq] at h5
    rw [h4, h5]
  have stamp : ∀ (i : Nat) (b : Blk), (mem ++ bs.map some)[i]? = some (some b) → mem.length ≤ i → ∃ e rows, b = .rows ep ep e rows := by
    intro i b h hi
    obtain ⟨j, e, rows, _, _, e3⟩ := h3 _ _ (new i b h hi)
    exact ⟨e, rows, e3⟩
  have hE : Evo ep (ep + 1) mem (mem ++ bs.map some) m m' w w' := by
    refine ⟨by omega, hbel.size, fun k hk => ⟨(hG1 k hk.2).trans hk.1, hbel.block k hk.2⟩, fun k hk hlt => ⟨(hG1 k hlt).trans hk, hbel.block k hlt⟩, fun id bv cc hc => ?_, fun id hv cv e rs hc => ?_, fun id hv cv e rs hc => ?_, fun id hv cv e rs rs' h7 hc l1 _ => ?_⟩
    · rcases Nat.lt_or_ge id mem.length with hi | hi
      · exact .inr ⟨cc, old _ _ hc hi, hhd id hi⟩
      · obtain ⟨e, rows, h⟩ := stamp _ _ hc hi
        cases h
    · rcases Nat.lt_or_ge id mem.length with hi | hi
      · exact .inr ⟨cv, rs, old _ _ hc hi, hhd id hi⟩
      · obtain ⟨e, rows, h⟩ := stamp _ _ hc hi
        cases h
        exact .inl (Nat.le_refl _)
    · rcases Nat.lt_or_ge id mem.length with hi | hi
      · exact .inr ⟨hv, e, rs, old _ _ hc hi, fun k hk => ⟨⟨(hG1 k hk.2.2).trans hk.1, by rw [hhd id hi]; exact hk.2.1, Nat.lt_of_lt_of_le hk.2.2 hbel.size⟩, hbel.block k hk.2.2⟩⟩
      · obtain ⟨e, rows, h⟩ := stamp _ _ hc hi
        cases h
        exact .inl (Nat.le_refl _)
    · rcases Nat.lt_or_ge id mem.length with hi | hi
      · obtain ⟨_, _, _, rfl⟩ := rows_inj4 h7 (old _ _ hc hi)
        exact NestEq.same (fun g _ hlt => hbel.block g hlt)
      · obtain ⟨e, rows, h⟩ := stamp _ _ hc hi
        cases h
        omega
  have hro : ok = true → ∀ k, ((R k ∧ k < w.heap.size) ∨ (w.heap.size ≤ k ∧ k < w'.heap.size ∧ c k = 0)) → roG m' w' k := by
    intro hok k hk
    rcases hk with ⟨h4, h5⟩ | ⟨h4, h5, h6⟩
    · exact ⟨(hG1 k h5).trans (hR hok k h4 h5), Nat.lt_of_lt_of_le h5 hbel.size⟩
    · exact ⟨hG3 k h4 h6, h5⟩
  have toRo : ∀ {u : V} {y : Value} {okk : Nat → Prop}, (ok = true ∨ pure0 u = true) → Rep z w' (fun k => (R k ∧ k < w.heap.size) ∨ (w.heap.size ≤ k ∧ k < w'.heap.size ∧ c k = 0)) okk u y → Rep z w' (roG m' w') okk u y := by
    intro u y okk hk h
    rcases hk with hk | hk
    · exact h.mono (hro hk) (fun _ h => h)
    · exact pure_rep h hk
  have hgood : Good z B w0 (mem ++ bs.map some) (ep + 1) m' w' := by
    refine ⟨fun id b hb => ?_, fun k hk => ?_, hg.below.trans (hbel.mono hg.hB), Nat.le_trans hg.hB hbel.size, ?_⟩
    · rcases Nat.lt_or_ge id mem.length with hi | hi
      · exact (hg.blk id b (old _ _ hb hi)).keep hE (hhd id hi) (fun k hk hlt => ⟨(hG1 k hlt).trans hk, hbel.block k hlt⟩)
      · obtain ⟨j, e, rows, e1, e2, rfl⟩ := h3 _ _ (new id b hb hi)
        obtain ⟨y, hy⟩ : ∃ y, ys[j]? = some y := by
          have hlt := (List.getElem?_eq_some_iff.1 e1).1
          exact ⟨_, List.getElem?_eq_getElem (by omega)⟩
        have hid : id = mem.length + ownNo r.2 j := by omega
        have hpure : ok = true ∨ pure0 (.sl true e rows) = true := by
          rcases h2 j _ e1 with ⟨v, h4, _⟩ | ⟨e', rows', h4, _⟩ | ⟨e', rows', h4, h5, _⟩
          · cases h4
          · cases h4
          · exact h5
        have hr := toRo hpure (hrep j _ y e1 hy)
        have hdy : m'.hd id = y := by rw [hid]; exact hhd2 j _ y e1 hy rfl
        cases hr with
        | own cells f ho hok hrow hr =>
          refine ⟨by omega, by omega, cells, f, by rw [hdy]; exact ho, fun k hk => ?_, hrow, fun i j' row u y' a b c' => ?_⟩
          · rw [hdy] at hk
            obtain ⟨q1, q2, q3⟩ := hok k hk
            rw [hG2 k _ q1 q2 q3, hid]
          · refine (hr i j' row u y' a b c').mono (fun _ h => h) (fun k hk => ?_)
            obtain ⟨⟨q1, q2, q3⟩, q4, q5⟩ := hk
            exact ⟨⟨by rw [hG2 k _ q1 q2 q3, hid], by rw [hdy]; exact q4, q2⟩, q5⟩
    · rcases Nat.lt_or_ge k w.heap.size with hlt | hge
      · have h4 := hG1 k hlt
        obtain ⟨h5, h6⟩ := hg.lab k (by rw [← h4]; exact hk)
        exact ⟨Nat.lt_of_lt_of_le h5 hbel.size, h6.imp (fun e => e) (fun e => h4.trans e)⟩
      · refine ⟨?_, .inl (Nat.le_trans hg.hB hge)⟩
        rcases Nat.lt_or_ge k w'.heap.size with hlt' | hge'
        · exact hlt'
        · exfalso
          apply hk
          show (if k < w.heap.size then m.G k else if k < w'.heap.size ∧ c k ≠ 0 then mem.length + c k else 0) = 0
          rw [if_neg (by omega), if_neg (by omega)]
    · have := hg.fst
      rw [List.getElem?_append_left (List.getElem?_eq_some_iff.1 this).1]
      exact this
  refine ⟨m', hshape _ _ _ _ _ h1 (fun j u y a b => ?_), hgood, hE⟩
  have hlt : j < r.2.length := by rw [← h1]; exact (List.getElem?_eq_some_iff.1 a).1
  have e0 : r.2[j]? = some r.2[j] := List.getElem?_eq_getElem hlt
  generalize r.2[j] = u0 at e0
  have hr := hrep j u0 y e0 b
  rcases h2 j u0 e0 with ⟨v', h4, h5⟩ | ⟨e, rows, h4, h5, h6⟩ | ⟨e, rows, h4, h5, h6, h7⟩
  · rw [h5] at a
    simp only [Option.some.injEq] at a
    subst a
    subst h4
    cases hr with
    | lit h => exact .lit h
  · rw [h6] at a
    simp only [Option.some.injEq] at a
    subst a
    subst h4
    exact .ro (rep_ro (toRo (.inl h5) hr))
  · rw [h6] at a
    simp only [Option.some.injEq] at a
    subst a
    subst h4
    refine .ow (by omega) (rep_one hr) (fun cv e' rs hm => ?_)
    exact (hhd2 j _ y e0 b rfl).symm

theorem tabCal_ok {J : World → Prop} (hst : Stab J) {tab : Nat → Option Con} (ht : ∀ g F, tab g = some F → Fn P g F J) {w0 : World} (hJ0 : J w0) : CalOk P w0.heap.size w0 (tabCal tab) := by
  intro g vs mem ep r h m w ys hg hl hr
  have hJ : J w := hst w0 w hJ0 hg.below
  unfold tabCal at h
  simp only [Option.bind_eq_some_iff, Option.some.injEq] at h
  obtain ⟨F, hF, us, hus, q, hq, ⟨cs, bs⟩, hp, rfl⟩ := h
  obtain ⟨hfn, hcall⟩ := ht g F hF
  obtain ⟨g1, g2⟩ := seenTs_len _ _ hus
  refine ⟨hfn, ?_⟩
  cases hok : vs.all bareT with
  | true =>
    rw [hok] at hp
    refine (hcall us q hq (roG m w) w ys hJ (by rw [hl, g1]) (fun j u y a b => ?_)).mono fun e w' he => ?_
    · obtain ⟨v, hv, hs⟩ := g2 j u a
      exact (seenT_arg hg (hr j v y hv b) hs).2 (List.all_eq_true.1 hok v (List.mem_of_getElem? hv))
    · obtain ⟨v, rfl, hbel, c, ho⟩ := he
      obtain ⟨m', r1, r2, r3⟩ := land_good hg hbel ho (fun _ k hk _ => hk.1) hp
      exact ⟨v, rfl, fun _ => Ext.of_below hbel, m', r1, r2, r3⟩
  | false =>
    rw [hok] at hp
    refine (hcall us q hq (fun _ => True) w ys hJ (by rw [hl, g1]) (fun j u y a b => ?_)).mono fun e w' he => ?_
    · obtain ⟨v, hv, hs⟩ := g2 j u a
      exact (seenT_arg hg (hr j v y hv b) hs).1
    · obtain ⟨v, rfl, hbel, c, ho⟩ := he
      obtain ⟨m', r1, r2, r3⟩ := land_good hg hbel ho (fun h => by cases h) hp
      exact ⟨v, rfl, fun _ => Ext.of_below hbel, m', r1, r2, r3⟩
end
end Go.Proofs.Ytanglbgincgmaaa.Vm
