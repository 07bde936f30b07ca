/-
  Contracts of functions that a program of mine has turned into plain Lean ones.
-/
import Derived.Test.YtanglbgincgmaaaVmTree
namespace Go.Proofs.Ytanglbgincgmaaa.Vm
open Go Go.RowKit
set_option linter.unusedVariables false

/-- A nil slice, as one that is read alone. -/
def fixV : Option Nat → V → V
  | some e, .lit (.slice none 0 0) => .sl false e []
  | _, v => v
def fixL : List (Option Nat) → List V → List V
  | m :: ms, v :: vs => fixV m v :: fixL ms vs
  | _, vs => vs
def fixT : List (Option Nat) → TV → TV
  | m :: _, .one v => .one (fixV m v)
  | ms, .agg cs => .agg (fixL ms cs)
  | _, v => v
def fixTs : List (List (Option Nat)) → List TV → List TV
  | m :: ms, v :: vs => fixT m v :: fixTs ms vs
  | _, vs => vs
def nilfix (es : List (List (Option Nat))) (F : Con) : Con := fun vs => F (fixTs es vs)
section
variable {P : Program} {z : Nat → Nat} {w : World} {R : Nat → Prop}
theorem fixV_ok {m : Option Nat} {v : V} {y : Value} (h : Rep z w R (fun _ => False) v y) (hb : bare1 v = true) : Rep z w R (fun _ => False) (fixV m v) y ∧ bare1 (fixV m v) = true := by
  unfold fixV
  split
  · cases h with
    | lit _ => exact ⟨.roS ⟨0, 0, none⟩ (fun _ _ => .bool false) (Nat.zero_le _) (by simp [maxLen]) (by simp) (fun hn => absurd rfl hn) (by simp) (by simp) (by simp), rfl⟩
  · exact ⟨h, hb⟩
theorem fixL_get : ∀ (ms : List (Option Nat)) (vs : List V), (fixL ms vs).length = vs.length ∧ ∀ (j : Nat) (v : V), (fixL ms vs)[j]? = some v → ∃ m v0, vs[j]? = some v0 ∧ (v = fixV m v0 ∨ v = v0) := by
  intro ms
  induction ms with
  | nil => intro vs; exact ⟨by simp [fixL], fun j v h => ⟨none, v, by simpa [fixL] using h, .inr rfl⟩⟩
  | cons m ms ih =>
    intro vs
    cases vs with
    | nil => exact ⟨rfl, fun j v h => by simp [fixL] at h⟩
    | cons u vs =>
      refine ⟨by simp [fixL, (ih vs).1], fun j v h => ?_⟩
      cases j with
      | zero => simp [fixL] at h; exact ⟨m, u, rfl, .inl h.symm⟩
      | succ j => simp only [fixL, List.getElem?_cons_succ] at h ⊢; exact (ih vs).2 j v h
theorem fixT_ok {ms : List (Option Nat)} {v : TV} {y : Value} (h : ArgT z w R v y) : ArgT z w R (fixT ms v) y := by
  cases h with
  | one hb h =>
    cases ms with
    | nil => exact .one hb h
    | cons m ms => exact .one (fixV_ok h hb).2 (fixV_ok h hb).1
  | agg hb hs h =>
    rename_i cs ys
    have key : fixT ms (.agg cs) = .agg (fixL ms cs) := by cases ms <;> rfl
    rw [key]
    refine .agg ?_ (by rw [hs, (fixL_get ms cs).1]) (fun j u y a b => ?_)
    · rw [List.all_eq_true] at hb ⊢
      intro x hx
      obtain ⟨j, hj⟩ := List.mem_iff_getElem?.1 hx
      obtain ⟨m, v0, h1, h2⟩ := (fixL_get ms cs).2 j x hj
      have hlt : j < ys.size := by rw [hs]; exact (List.getElem?_eq_some_iff.1 h1).1
      have h3 := h j v0 _ h1 (Array.getElem?_eq_getElem hlt)
      rcases h2 with rfl | rfl
      · exact (fixV_ok h3 (hb _ (List.mem_of_getElem? h1))).2
      · exact hb _ (List.mem_of_getElem? h1)
    · obtain ⟨m, v0, h1, h2⟩ := (fixL_get ms cs).2 j u a
      have h3 := h j v0 _ h1 b
      rcases h2 with rfl | rfl
      · rw [List.all_eq_true] at hb
        exact (fixV_ok h3 (hb _ (List.mem_of_getElem? h1))).1
      · exact h3
theorem fixTs_get : ∀ (es : List (List (Option Nat))) (vs : List TV), (fixTs es vs).length = vs.length ∧ ∀ (j : Nat) (v : TV), (fixTs es vs)[j]? = some v → ∃ ms v0, vs[j]? = some v0 ∧ (v = fixT ms v0 ∨ v = v0) := by
  intro es
  induction es with
  | nil => intro vs; exact ⟨by simp [fixTs], fun j v h => ⟨[], v, by simpa [fixTs] using h, .inr rfl⟩⟩
  | cons m es ih =>
    intro vs
    cases vs with
    | nil => exact ⟨rfl, fun j v h => by simp [fixTs] at h⟩
    | cons u vs =>
      refine ⟨by simp [fixTs, (ih vs).1], fun j v h => ?_⟩
      cases j with
      | zero => simp [fixTs] at h; exact ⟨m, u, rfl, .inl h.symm⟩
      | succ j => simp only [fixTs, List.getElem?_cons_succ] at h ⊢; exact (ih vs).2 j v h
theorem Fn.nilfix {g : Nat} {F : Con} {J : World → Prop} (h : Fn P g F J) (es : List (List (Option Nat))) : Fn P g (nilfix es F) J := by
  refine ⟨h.1, fun vs r hr R w ys hJ hl ha => h.2 _ r hr R w ys hJ (by rw [(fixTs_get es vs).1]; exact hl) (fun j v y a b => ?_)⟩
  obtain ⟨ms, v0, h1, h2⟩ := (fixTs_get es vs).2 j v a
  have h3 := ha j v0 y h1 b
  rcases h2 with rfl | rfl
  · exact fixT_ok h3
  · exact h3
end

/-- What is told of a function at one row of arguments. -/
def FnAt (P : Program) (g : Nat) (J : World → Prop) (vs : List TV) (r : Sh × List V) : Prop := ∀ (R : Nat → Prop) (w : World) (ys : Array Value), J w → ys.size = vs.length → (∀ (j : Nat) (v : TV) (y : Value), vs[j]? = some v → ys[j]? = some y → ArgT P.cellsOf w R v y) →
    Calls P g ys w fun e w' => ∃ v, e = .returned v ∧ Below w.heap.size w w' ∧ ∃ c, OutOk P.cellsOf w w' R c r v
def Has (P : Program) (g : Nat) : Prop := ∃ fn, P.funcs[g]? = some fn ∧ (fn.name == "runtime.NumGoroutine") = false ∧ fn.body.isNone = false
open Classical in
/-- What a plain function tells: where it yields something. -/
noncomputable def pcon {α β : Type} (arg : α → List TV) (p : α → Option β) (res : β → Sh × List V) : Con := fun vs => if h : ∃ a, arg a = vs ∧ (p a).isSome then (p h.choose).map res else none
theorem pcon_at {α β : Type} {arg : α → List TV} {p : α → Option β} {res : β → Sh × List V} (inj : ∀ a b, arg a = arg b → a = b) {a : α} {b : β} (h : p a = some b) : pcon arg p res (arg a) = some (res b) := by
  have hex : ∃ b, arg b = arg a ∧ (p b).isSome := ⟨a, rfl, by rw [h]; rfl⟩
  unfold pcon
  rw [dif_pos hex, inj _ _ hex.choose_spec.1, h]
  rfl
theorem pcon_of {α β : Type} {arg : α → List TV} {p : α → Option β} {res : β → Sh × List V} {vs : List TV} {r : Sh × List V} (h : pcon arg p res vs = some r) : ∃ a b, vs = arg a ∧ p a = some b ∧ r = res b := by
  unfold pcon at h
  split at h
  · rename_i hex
    obtain ⟨b, h1, h2⟩ := Option.map_eq_some_iff.1 h
    exact ⟨hex.choose, b, hex.choose_spec.1.symm, h1, h2.symm⟩
  · cases h
theorem Fn.of_at {P : Program} {g : Nat} {J : World → Prop} {α β : Type} {arg : α → List TV} {p : α → Option β} {res : β → Sh × List V} (hh : Has P g) (h : ∀ a b, p a = some b → FnAt P g J (arg a) (res b)) : Fn P g (pcon arg p res) J :=
  ⟨hh, fun vs r hr => by
    obtain ⟨a, b, rfl, h1, rfl⟩ := pcon_of hr
    exact h a b h1⟩
/-- By a run of its body, whatever is called. -/
theorem FnAt.of_told {P : Program} {J : World → Prop} {cal : Cal} (hcal : ∀ w0, J w0 → CalOk P w0.heap.size w0 cal) (hm : P.follows .mixedOrders = true) {g : Nat} {fn : Func} {c : Code} (hf : P.funcs[g]? = some fn) (hn : (fn.name == "runtime.NumGoroutine") = false) (hb : fn.body = some c) (hd : dsts fn.ntmps c = true) {np : Nat} (hnp : np ≤ fn.ntmps) {lm : Nat → List Nat × Nat} {k : Nat} {vs : List TV} {r : Sh × List V} (hl : vs.length = np) (h : told P cal k lm fn vs = some r) : FnAt P g J vs r := by
  have := Fn.of_body (F := fun us => if us.length = np then told P cal k lm fn us else none) hcal hm hf hn hb hd hnp (lm := lm) (fun us r' hr => by
    split at hr
    · rename_i h1
      exact ⟨h1, k, hr⟩
    · cases hr)
  exact this.2 vs r (by simp only [hl]; exact h)
/-- A function whose body is run where it is called. -/
noncomputable def selfI (P : Program) (cal : Cal) (k : Nat) (lm : Nat → List Nat × Nat) (fn : Func) (np : Nat) : ICon := fun vs mem ep => if vs.length = np then body P cal k lm fn vs mem ep else none
theorem IFn.self {P : Program} {J : World → Prop} {cal : Cal} (hcal : ∀ w0, J w0 → CalOk P w0.heap.size w0 cal) (hm : P.follows .mixedOrders = true) {g : Nat} {fn : Func} {c : Code} (hf : P.funcs[g]? = some fn) (hn : (fn.name == "runtime.NumGoroutine") = false) (hb : fn.body = some c) (hd : dsts fn.ntmps c = true) {np : Nat} (hnp : np ≤ fn.ntmps) {lm : Nat → List Nat × Nat} {k : Nat} : IFn P g (selfI P cal k lm fn np) J := by
  refine ⟨⟨fn, hf, hn, by rw [hb]; rfl⟩, fun w0 hJ vs mem ep r hr m w ys hg hl ha => ?_⟩
  unfold selfI at hr
  split at hr
  · rename_i hvl
    exact body_sound (hcal w0 hJ) hm hf hb hd (by omega) hl hr hg ha
  · cases hr
/-- What is told of a last state. -/
def resR (P : Program) (S : St) (rs : List ResultVar) : Option TV := (resL P S rs).bind fun
  | [v] => some v
  | l => some (.tup l)
def tellS (P : Program) (lm : Nat → List Nat × Nat) (rs : List ResultVar) (S : St) : Option (Sh × List V) := (resR P (finH (lm 5000000) S) rs).bind fun v => (flatT v).bind fun cs => (shT v).bind fun s => (foldL (finH (lm 5000000) S).mem cs).bind fun p => some (s, p.1)
/-- The end of a run, by what is told of its last state. -/
def tellX {Y : Type} (fin : St → Option Y) (r : X × St) : Option Y := match r.1 with
  | .exit _ => none
  | _ => fin r.2
theorem tellX_ret {Y : Type} (fin : St → Option Y) (S : St) : tellX fin (.ret, S) = fin S := rfl
theorem tellX_norm {Y : Type} (fin : St → Option Y) (S : St) : tellX fin (.norm, S) = fin S := rfl
theorem tellS_mk (P : Program) (lm : Nat → List Nat × Nat) (rs : List ResultVar) (tm : List (Nat × TV)) (mem : Mem) (ep : Nat) : tellS P lm rs ⟨tm, mem, ep⟩ = (resR P (finH (lm 5000000) ⟨tm, mem, ep⟩) rs).bind fun v => (flatT v).bind fun cs => (shT v).bind fun s => (foldL (finH (lm 5000000) ⟨tm, mem, ep⟩).mem cs).bind fun p => some (s, p.1) := rfl
theorem told_eq (P : Program) (cal : Cal) (k : Nat) (lm : Nat → List Nat × Nat) (fn : Func) (vs : List TV) : told P cal k lm fn vs = fn.body.bind fun c => (exec P cal k 1 lm 0 c ⟨slots 0 vs, [none], 1⟩).bind (tellX (tellS P lm fn.results.toList)) := by
  unfold told body
  cases fn.body with
  | none => rfl
  | some c =>
    simp only [Option.bind_some]
    show ((exec P cal k 1 lm 0 c ⟨slots 0 vs, [none], 1⟩).bind _).bind _ = _
    cases exec P cal k 1 lm 0 c ⟨slots 0 vs, [none], 1⟩ with
    | none => rfl
    | some r =>
      obtain ⟨x, S⟩ := r
      cases x with
      | exit id => rfl
      | norm =>
        simp only [Option.bind_some, tellX, tellS]
        show _ = (resT P (finH (lm 5000000) S) fn).bind _
        cases resT P (finH (lm 5000000) S) fn <;> rfl
      | ret =>
        simp only [Option.bind_some, tellX, tellS]
        show _ = (resT P (finH (lm 5000000) S) fn).bind _
        cases resT P (finH (lm 5000000) S) fn <;> rfl
def retX {Y : Type} (fin : St → Option Y) (r : X × St) : Option Y := match r.1 with
  | .ret => fin r.2
  | _ => none
theorem retX_ret {Y : Type} (fin : St → Option Y) (S : St) : retX fin (.ret, S) = fin S := rfl
/-- A loop out of which the function returns. -/
def LoopsR {Y : Type} (P : Program) (cal : Nat → Cal) (n0 : Nat) (lm : Nat → List Nat × Nat) (b : Nat) (c : Code) (T : St) (fin : St → Option Y) (v : Y) : Prop := ∃ K, ∀ k, K ≤ k → ∀ q, K ≤ q → ∃ S', lexecE P (cal k) k n0 lm b c q T = some (.ret, S') ∧ fin S' = some v
theorem LoopsR.step {P : Program} {cal : Nat → Cal} {n0 b : Nat} {lm : Nat → List Nat × Nat} {c : Code} {T T' : St} {Y : Type} {fin : St → Option Y} {v : Y} (K : Nat) (h : ∀ k, K ≤ k → (exec P (cal k) k n0 lm b c T).bind (fun r => some (r.1, keepF n0 lm b r.2)) = some (.norm, T')) (h2 : LoopsR P cal n0 lm b c T' fin v) : LoopsR P cal n0 lm b c T fin v := by
  obtain ⟨K2, h2⟩ := h2
  refine ⟨K + K2 + 1, fun k hk q hq => ?_⟩
  obtain ⟨q, rfl⟩ : ∃ p, q = p + 1 := ⟨q - 1, by omega⟩
  have h1 := h k (by omega)
  simp only [Option.bind_eq_some_iff, Option.some.injEq, Prod.mk.injEq] at h1
  obtain ⟨⟨x1, S1⟩, h3, h4, h5⟩ := h1
  simp only at h4 h5
  subst h4
  obtain ⟨S', q1, q2⟩ := h2 k (by omega) q (by omega)
  refine ⟨S', ?_, q2⟩
  unfold lexecE at q1 ⊢
  simp only [lexec, h3, Option.bind_some, goOn, iterF_eq, h5]
  exact q1
theorem LoopsR.stop {P : Program} {cal : Nat → Cal} {n0 b : Nat} {lm : Nat → List Nat × Nat} {c : Code} {T : St} {Y : Type} {fin : St → Option Y} {v : Y} (K : Nat) (h : ∀ k, K ≤ k → (exec P (cal k) k n0 lm b c T).bind (retX fin) = some v) : LoopsR P cal n0 lm b c T fin v := by
  refine ⟨K + 1, fun k hk q hq => ?_⟩
  obtain ⟨q, rfl⟩ : ∃ p, q = p + 1 := ⟨q - 1, by omega⟩
  have h1 := h k (by omega)
  simp only [Option.bind_eq_some_iff] at h1
  obtain ⟨⟨x1, S1⟩, h3, h4⟩ := h1
  cases x1 with
  | norm => simp [retX] at h4
  | exit id => simp [retX] at h4
  | ret =>
    refine ⟨S1, ?_, h4⟩
    unfold lexecE
    simp only [lexec, h3, Option.bind_some, goOn, endF]
/-- A guarded operation of a region that draws. -/
def gi (P : Program) (cal : Cal) (ops : Array Oper) (rest : List Nat) (S : St) (o : Oper) (b : Bool) : Option St := if b then (runOp P cal S o).bind (runI P cal ops rest) else runI P cal ops rest (putT S o.dst (.tup [], S.mem, S.ep))
theorem ri_some (P : Program) (cal : Cal) (ops : Array Oper) (rest : List Nat) (S : St) (dst : Option Tmp) (op : Op) (type : TypeId) (pos : String) (after : Array Edge) (g : Nat × Bool) : ri P cal ops rest S { dst := dst, op := op, type := type, pos := pos, after := after, guard := some g } = (wants S ops { dst := dst, op := op, type := type, pos := pos, after := after, guard := some g }).bind (gi P cal ops rest S { dst := dst, op := op, type := type, pos := pos, after := after, guard := some g }) := rfl
theorem gi_true (P : Program) (cal : Cal) (ops : Array Oper) (rest : List Nat) (S : St) (o : Oper) : gi P cal ops rest S o true = (runOp P cal S o).bind (runI P cal ops rest) := rfl
theorem gi_false (P : Program) (cal : Cal) (ops : Array Oper) (rest : List Nat) (S : St) (o : Oper) : gi P cal ops rest S o false = runI P cal ops rest (putT S o.dst (.tup [], S.mem, S.ep)) := rfl
/-- Stamps, by number. -/
def sl (l : List Nat) (i : Nat) : Nat := (l[i]?).getD 0
/-- A loop that is left in a state that U tells. -/
def LoopG {O : Type} (P : Program) (cal : Nat → Cal) (n0 : Nat) (lm : Nat → List Nat × Nat) (b : Nat) (c : Code) (U : O → (Nat → Nat) → St) (T : St) (o : O) : Prop := ∃ st : Nat → Nat, Loops P cal n0 lm b c T (.exit b, U o st)
/-- One out of which the function may return, too. -/
def LoopT {R O Y : Type} (P : Program) (cal : Nat → Cal) (n0 : Nat) (lm : Nat → List Nat × Nat) (b : Nat) (c : Code) (fin : St → Option Y) (res : R → Y) (U : O → (Nat → Nat) → St) (T : St) (o : R ⊕ O) : Prop := match o with
  | .inl v => LoopsR P cal n0 lm b c T fin (res v)
  | .inr o => LoopG P cal n0 lm b c U T o
section
variable {R O Y : Type} {P : Program} {cal : Nat → Cal} {n0 b : Nat} {lm : Nat → List Nat × Nat} {c : Code} {fin : St → Option Y} {res : R → Y} {U : O → (Nat → Nat) → St} {T T' : St}
theorem LoopG.step {o : O} (K : Nat) (h : ∀ k, K ≤ k → (exec P (cal k) k n0 lm b c T).bind (fun r => some (r.1, keepF n0 lm b r.2)) = some (.norm, T')) (q : LoopG P cal n0 lm b c U T' o) : LoopG P cal n0 lm b c U T o := by
  obtain ⟨st, q⟩ := q
  exact ⟨st, Loops.step K h q⟩
theorem LoopG.exit {o : O} (st : Nat → Nat) (K : Nat) (h : ∀ k, K ≤ k → (exec P (cal k) k n0 lm b c T).bind (fun r => some (endF n0 lm b r)) = some (.exit b, U o st)) : LoopG P cal n0 lm b c U T o := ⟨st, Loops.stop K h (by simp)⟩
theorem LoopT.step {o : R ⊕ O} (K : Nat) (h : ∀ k, K ≤ k → (exec P (cal k) k n0 lm b c T).bind (fun r => some (r.1, keepF n0 lm b r.2)) = some (.norm, T')) (q : LoopT P cal n0 lm b c fin res U T' o) : LoopT P cal n0 lm b c fin res U T o := by
  cases o with
  | inl v => exact LoopsR.step K h q
  | inr o => exact LoopG.step K h q
theorem LoopT.ret {v : R} (K : Nat) (h : ∀ k, K ≤ k → (exec P (cal k) k n0 lm b c T).bind (retX fin) = some (res v)) : LoopT P cal n0 lm b c fin res U T (.inl v) := LoopsR.stop K h
theorem LoopT.exit {o : O} (st : Nat → Nat) (K : Nat) (h : ∀ k, K ≤ k → (exec P (cal k) k n0 lm b c T).bind (fun r => some (endF n0 lm b r)) = some (.exit b, U o st)) : LoopT P cal n0 lm b c fin res U T (.inr o) := LoopG.exit st K h
end
theorem ifc {β : Type} {c : Prop} [Decidable c] {a b : Option β} {r : β} (h : (if c then a else b) = some r) : (c ∧ a = some r) ∨ (¬ c ∧ b = some r) := by
  split at h
  · rename_i hc; exact .inl ⟨hc, h⟩
  · rename_i hc; exact .inr ⟨hc, h⟩
theorem ifb {β : Type} {c : Bool} {a b : Option β} {r : β} (h : (if c = true then a else b) = some r) : (c = true ∧ a = some r) ∨ (c = false ∧ b = some r) := by
  cases c
  · exact .inr ⟨rfl, h⟩
  · exact .inl ⟨rfl, h⟩
theorem ifg {β : Type} {c : Prop} [Decidable c] {a : Option β} {r : β} (h : (if c then a else none) = some r) : c ∧ a = some r := by
  split at h
  · rename_i hc; exact ⟨hc, h⟩
  · cases h
theorem Fn.pure {P : Program} {α β : Type} {arg : α → List TV} {p : α → Option β} {res : β → Sh × List V} (cal : Nat → Cal) {J : World → Prop} (hcal : ∀ k w0, J w0 → CalOk P w0.heap.size w0 (cal k)) (hm : P.follows .mixedOrders = true) {g : Nat} {fn : Func} {c : Code} (hf : P.funcs[g]? = some fn) (hn : (fn.name == "runtime.NumGoroutine") = false) (hb : fn.body = some c) (hd : dsts fn.ntmps c = true) (np : Nat) (hnp : np ≤ fn.ntmps) (harg : ∀ a, (arg a).length = np) (lm : Nat → List Nat × Nat)
    (h : ∀ a b, p a = some b → ∃ k, told P (cal k) k lm fn (arg a) = some (res b)) : Fn P g (pcon arg p res) J :=
  Fn.of_at ⟨fn, hf, hn, by rw [hb]; rfl⟩ (fun a b hab => by
    obtain ⟨k, hk⟩ := h a b hab
    exact FnAt.of_told (hcal k) hm hf hn hb hd hnp (harg a) hk)
def noNil (row : List V) : Bool := row.all fun | .lit (.slice ..) => false | _ => true
theorem nzRow_no {j x : Nat} {row : List V} (h : noNil row = true) : nzRow j x row = row := by
  unfold nzRow
  split
  · rename_i hj
    have := List.all_eq_true.1 h _ (List.mem_of_getElem? hj)
    simp at this
  · rfl
theorem nz_map {α : Type} {c : α → List V} (hc : ∀ a, noNil (c a) = true) (j x : Nat) (l : List α) : List.map (nzRow j x) (List.map c l) = List.map c l := by
  rw [List.map_map]
  exact List.map_congr_left (fun a _ => nzRow_no (hc a))
/-! Functions that write into the slice that is their first argument; functions that are run where they are called. -/
open Classical in
noncomputable def ptcon {α β : Type} (rows : α → List (List V)) (arg : α → List TV) (p : α → Option β) (val : β → Value) (rows' : β → List (List V)) : TCon := fun rs vs => if h : ∃ a, rows a = rs ∧ arg a = vs ∧ (p a).isSome then (p h.choose).map fun r => (val r, rows' r) else none
theorem ptcon_at {α β : Type} {rows : α → List (List V)} {arg : α → List TV} {p : α → Option β} {val : β → Value} {rows' : β → List (List V)} (inj : ∀ a b, rows a = rows b → arg a = arg b → a = b) {a : α} {b : β} (h : p a = some b) : ptcon rows arg p val rows' (rows a) (arg a) = some (val b, rows' b) := by
  have hex : ∃ c, rows c = rows a ∧ arg c = arg a ∧ (p c).isSome := ⟨a, rfl, rfl, by rw [h]; rfl⟩
  unfold ptcon
  rw [dif_pos hex, inj _ _ hex.choose_spec.1 hex.choose_spec.2.1, h]
  rfl
theorem ptcon_of {α β : Type} {rows : α → List (List V)} {arg : α → List TV} {p : α → Option β} {val : β → Value} {rows' : β → List (List V)} {rs rs' : List (List V)} {vs : List TV} {v : Value} (h : ptcon rows arg p val rows' rs vs = some (v, rs')) : ∃ a b, rs = rows a ∧ vs = arg a ∧ p a = some b ∧ v = val b ∧ rs' = rows' b := by
  unfold ptcon at h
  split at h
  · rename_i hex
    obtain ⟨b, h1, h2⟩ := Option.map_eq_some_iff.1 h
    simp only [Prod.mk.injEq] at h2
    exact ⟨hex.choose, b, hex.choose_spec.1.symm, hex.choose_spec.2.1.symm, h1, h2.1.symm, h2.2.symm⟩
  · cases h
/-- The end of a run that has written into block 1. -/
def tellT (P : Program) (lm : Nat → List Nat × Nat) (rs : List ResultVar) (e : Nat) (S : St) : Option (Value × List (List V)) := (resR P (finH (lm 5000000) S) rs).bind fun v => match v with
  | .one (.lit v) => match (finH (lm 5000000) S).mem[1]? with
    | some (some (Blk.rows hv _ e' rows')) => if hv = 1 ∧ e' = e then some (v, rows') else none
    | _ => none
  | _ => none
theorem tellT_mk (P : Program) (lm : Nat → List Nat × Nat) (rs : List ResultVar) (e : Nat) (tm : List (Nat × TV)) (mem : Mem) (ep : Nat) : tellT P lm rs e ⟨tm, mem, ep⟩ = (resR P (finH (lm 5000000) ⟨tm, mem, ep⟩) rs).bind fun v => match v with
  | .one (.lit v) => match (finH (lm 5000000) ⟨tm, mem, ep⟩).mem[1]? with
    | some (some (Blk.rows hv _ e' rows')) => if hv = 1 ∧ e' = e then some (v, rows') else none
    | _ => none
  | _ => none := rfl
noncomputable def toldT (P : Program) (cal : Cal) (k : Nat) (lm : Nat → List Nat × Nat) (fn : Func) (e : Nat) (rows : List (List V)) (rest : List TV) : Option (Value × List (List V)) := fn.body.bind fun c => (exec P cal k 2 lm 0 c ⟨slots 0 (.one (.ow 1 1) :: rest), [none, some (.rows 1 1 e rows)], 2⟩).bind (tellX (tellT P lm fn.results.toList e))
theorem toldT_body {P : Program} {cal : Cal} {k : Nat} {lm : Nat → List Nat × Nat} {fn : Func} {e : Nat} {rows rows' : List (List V)} {rest : List TV} {v : Value} (h : toldT P cal k lm fn e rows rest = some (v, rows')) : ∃ mem1 ep1 cv, body P cal k lm fn (.one (.ow 1 1) :: rest) [none, some (.rows 1 1 e rows)] 2 = some (.one (.lit v), mem1, ep1) ∧ mem1[1]? = some (some (.rows 1 cv e rows')) := by
  unfold toldT at h
  simp only [Option.bind_eq_some_iff] at h
  obtain ⟨c, hc, ⟨x, S⟩, hx, h⟩ := h
  have h1 : tellT P lm fn.results.toList e S = some (v, rows') ∧ (x = .norm ∨ x = .ret) := by
    cases x with
    | exit id => cases h
    | norm => exact ⟨h, .inl rfl⟩
    | ret => exact ⟨h, .inr rfl⟩
  obtain ⟨h1, h2⟩ := h1
  unfold tellT at h1
  simp only [Option.bind_eq_some_iff] at h1
  obtain ⟨tv, h3, h4⟩ := h1
  split at h4
  · rename_i v1
    split at h4
    · rename_i hv cv e' rs1 h5
      split at h4
      · rename_i h6
        simp only [Option.some.injEq, Prod.mk.injEq] at h4
        obtain ⟨rfl, rfl⟩ := h4
        obtain ⟨rfl, rfl⟩ := h6
        refine ⟨(finH (lm 5000000) S).mem, (finH (lm 5000000) S).ep, cv, ?_, h5⟩
        unfold body
        have h7 : resT P (finH (lm 5000000) S) fn = some (.one (.lit v1)) := h3
        have hx' : exec P cal k [none, some (Blk.rows 1 1 e' rows)].length lm 0 c ⟨slots 0 (.one (.ow 1 1) :: rest), [none, some (.rows 1 1 e' rows)], 2⟩ = some (x, S) := hx
        simp only [hc, Option.bind_some, hx']
        rcases h2 with rfl | rfl
        · simp only [h7, Option.bind_some]
        · simp only [h7, Option.bind_some]
      · cases h4
    · cases h4
  · cases h4
open Classical in
theorem TFn.pure {P : Program} {α β : Type} {rows : α → List (List V)} {arg : α → List TV} {p : α → Option β} {val : β → Value} {rows' : β → List (List V)} (cal : Nat → Cal) {J : World → Prop} (hcal : ∀ k w0, J w0 → CalOk P w0.heap.size w0 (cal k)) (hm : P.follows .mixedOrders = true) {g e : Nat} {fn : Func} {c : Code} (hf : P.funcs[g]? = some fn) (hn : (fn.name == "runtime.NumGoroutine") = false) (hb : fn.body = some c) (hd : dsts fn.ntmps c = true) (np : Nat) (hnp : np ≤ fn.ntmps) (harg : ∀ a, (arg a).length + 1 = np) (lm : Nat → List Nat × Nat)
    (h : ∀ a b, p a = some b → ∃ k, toldT P (cal k) k lm fn e (rows a) (arg a) = some (val b, rows' b)) : TFn P g e (ptcon rows arg p val rows') J := by
  refine ⟨⟨fn, hf, hn, by rw [hb]; rfl⟩, fun rs rest v rs' hr => ?_⟩
  obtain ⟨a, b, rfl, rfl, hp, rfl, rfl⟩ := ptcon_of hr
  obtain ⟨k, hk⟩ := h a b hp
  have key : TFn P g e (fun r1 r2 => if r1 = rows a ∧ r2 = arg a then some (val b, rows' b) else none) J := by
    exact TFn.of_body (hcal k) hm hf hn hb hd hnp (lm := lm) (fun r1 r2 v1 r3 h1 => by
      split at h1
      · rename_i h2
        obtain ⟨rfl, rfl⟩ := h2
        simp only [Option.some.injEq, Prod.mk.injEq] at h1
        obtain ⟨rfl, rfl⟩ := h1
        obtain ⟨mem1, ep1, cv, q1, q2⟩ := toldT_body hk
        exact ⟨harg a, k, mem1, ep1, cv, q1, q2⟩
      · cases h1)
  exact key.2 (rows a) (arg a) (val b) (rows' b) (by simp)
def bodyX (P : Program) (lm : Nat → List Nat × Nat) (rs : List ResultVar) (r : X × St) : Option (TV × Mem × Nat) := match r.1 with
  | .exit _ => none
  | _ => (resR P (finH (lm 5000000) r.2) rs).bind fun v => some (v, (finH (lm 5000000) r.2).mem, (finH (lm 5000000) r.2).ep)
theorem bodyX_ret (P : Program) (lm : Nat → List Nat × Nat) (rs : List ResultVar) (tm : List (Nat × TV)) (mem : Mem) (ep : Nat) : bodyX P lm rs (.ret, ⟨tm, mem, ep⟩) = (resR P (finH (lm 5000000) ⟨tm, mem, ep⟩) rs).bind fun v => some (v, (finH (lm 5000000) ⟨tm, mem, ep⟩).mem, (finH (lm 5000000) ⟨tm, mem, ep⟩).ep) := rfl
theorem bodyX_norm (P : Program) (lm : Nat → List Nat × Nat) (rs : List ResultVar) (tm : List (Nat × TV)) (mem : Mem) (ep : Nat) : bodyX P lm rs (.norm, ⟨tm, mem, ep⟩) = (resR P (finH (lm 5000000) ⟨tm, mem, ep⟩) rs).bind fun v => some (v, (finH (lm 5000000) ⟨tm, mem, ep⟩).mem, (finH (lm 5000000) ⟨tm, mem, ep⟩).ep) := rfl
theorem selfI_eq (P : Program) (cal : Cal) (k : Nat) (lm : Nat → List Nat × Nat) (fn : Func) (np : Nat) (vs : List TV) (mem : Mem) (ep : Nat) : selfI P cal k lm fn np vs mem ep = if vs.length = np then fn.body.bind fun c => (exec P cal k mem.length lm 0 c ⟨slots 0 vs, mem, ep⟩).bind (bodyX P lm fn.results.toList) else none := by
  unfold selfI body
  split
  · cases fn.body with
    | none => rfl
    | some c =>
      simp only [Option.bind_some]
      cases exec P cal k mem.length lm 0 c ⟨slots 0 vs, mem, ep⟩ with
      | none => rfl
      | some r =>
        obtain ⟨x, S⟩ := r
        cases x <;> rfl
  · rfl
theorem bd {α β : Type} {o : Option α} {f : α → Option β} {r : β} (h : o >>= f = some r) : ∃ a, o = some a ∧ f a = some r := Option.bind_eq_some_iff.1 h
/-- What is appended, where there is room for it; B: the bytes of an element. -/
def app {α : Type} (B : Nat) (l n : List α) : Option (List α) := if (l.length + n.length) * B ≤ 140737488355328 then some (l ++ n) else none
theorem app_some {α : Type} {B : Nat} {l n r : List α} (h : app B l n = some r) : (l.length + n.length) * B ≤ 140737488355328 ∧ r = l ++ n := by
  unfold app at h
  split at h
  · rename_i h1; exact ⟨h1, (Option.some.inj h).symm⟩
  · cases h
/-- Element i. -/
def at_ {α : Type} (l : List α) (i : Int) : Option α := if 0 ≤ i then l[i.toNat]? else none
theorem at_some {α : Type} {l : List α} {i : Int} {x : α} (h : at_ l i = some x) : 0 ≤ i ∧ l[i.toNat]? = some x := by
  unfold at_ at h
  split at h
  · rename_i h1; exact ⟨h1, h⟩
  · cases h
theorem at_nat {α : Type} (l : List α) (i : Nat) : at_ l (i : Int) = l[i]? := by simp [at_]
/-- Texts one behind the other. -/
def cat (a b : ByteArray) : Option ByteArray := if a.size + b.size ≤ 9223372036854775807 then some (a ++ b) else none
theorem cat_some {a b r : ByteArray} (h : cat a b = some r) : a.size + b.size ≤ 9223372036854775807 ∧ r = a ++ b := by
  unfold cat at h
  split at h
  · rename_i h1; exact ⟨h1, (Option.some.inj h).symm⟩
  · cases h
abbrev wr (n : Int) : Int := IntKind.i64.wrap n
end Go.Proofs.Ytanglbgincgmaaa.Vm
