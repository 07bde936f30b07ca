/-
  The rules by which simp runs the small machine, for what gen.py writes; texts (strings) as the machine has them.
-/
import Derived.Test.YtanglbgincgmaaaVmFactsG
import Derived.Laws.Strings
import Derived.Test.YtanglbgincgmaaaVmPtr
namespace Go.Proofs.Ytanglbgincgmaaa.Vm
open Go Go.RowKit Go.Proofs
set_option linter.unusedVariables false
attribute [simp] hint5 nzDeep sameN_eq sameK_eq allK_eq allS_cons sameO_nil sameO_cons normF_eq ptrIn nestSet nestGet nu tame idxA rdA shL ex_skip ex_region ex_seq thn_norm thn_exit thn_ret ex_cond iff_bool ex_block out_norm out_ret out_exit ex_exit ex_ret kept keep ro_nil ro_none ro_some gd_true gd_false ri_nil ri_cons ri_none wants runOp stepOp ev ev1 evL look lift putT stepB lenV rd ru vu wu rdN ptrAdd isAggD natOf optN rowsH boxOf seenC stV overB ownB foldL fold foldR putL TV.cells evs rowsIn partsV elemsV fillV part1 List.getElem?_cons_zero List.getElem?_cons_succ
attribute [simp] fin_eq finH_eq hintS hint1 hint4 nzRow cellAt setAt endF keepF nilS nil1 nilV ev1s seen0 seen0L seen1 seen1L isRp calI inlOf tI cal1_tab ints_len ints2_len ints3_len b_add b_sub b_mul b_lss b_leq b_gtr b_geq b_eql b_neq u_not tabCal tabOf seenTs seenT seenL seen bareT bare1 landC unflat cut Nat.add_assoc slots resT resL resV flatT flatL shT sh1 bytesV bytesR
attribute [simp] ri_some gi_true gi_false bodyOf nav told_eq tellX_ret tellX_norm tellS_mk retX_ret resR tellT_mk toldT bI_ow bI_bp bI_nil fixO fixO1 toldB tellB_mk pI toldP tellP_mk bodyX_ret bodyX_norm selfI_eq cal1 ex_loop sl fixTs fixT fixV fixL nilfix
@[simp] theorem loadV_bp (P : Program) (mem : Mem) (T : Nat) (id bv off : Nat) : loadV P mem T (.bp id bv off) = (P.underlying T).bind fun d => if isAggD d then (rdN mem (.bp id bv off) 0 (P.cellsOf T)).bind fun cs => some (.agg cs) else (rd mem 0 (.bp id bv off)).bind fun v => some (.one v) := rfl
@[simp] theorem loadV_ip (P : Program) (mem : Mem) (T : Nat) (id hv i off : Nat) : loadV P mem T (.ip id hv i off) = (P.underlying T).bind fun d => if isAggD d then (rdN mem (.ip id hv i off) 0 (P.cellsOf T)).bind fun cs => some (.agg cs) else (rd mem 0 (.ip id hv i off)).bind fun v => some (.one v) := rfl
@[simp] theorem loadV_rp (P : Program) (mem : Mem) (T : Nat) (row : List V) (off : Nat) : loadV P mem T (.rp row off) = (P.underlying T).bind fun d => if isAggD d then (rdN mem (.rp row off) 0 (P.cellsOf T)).bind fun cs => some (.agg cs) else (rd mem 0 (.rp row off)).bind fun v => some (.one v) := rfl
@[simp] theorem loadV_vp (P : Program) (mem : Mem) (T : Nat) (id cv : Nat) (row : List V) (off : Nat) : loadV P mem T (.vp id cv row off) = (P.underlying T).bind fun d => if isAggD d then (rdN mem (.vp id cv row off) 0 (P.cellsOf T)).bind fun cs => some (.agg cs) else (rd mem 0 (.vp id cv row off)).bind fun v => some (.one v) := rfl
@[simp] theorem loadV_np (P : Program) (mem : Mem) (T : Nat) (id cv : Nat) (pl : Nat × Nat × Nat × Nat × Nat) (row : List V) (off : Nat) : loadV P mem T (.np id cv pl row off) = (P.underlying T).bind fun d => if isAggD d then (rdN mem (.np id cv pl row off) 0 (P.cellsOf T)).bind fun cs => some (.agg cs) else (rd mem 0 (.np id cv pl row off)).bind fun v => some (.one v) := rfl
@[simp] theorem loadV_ap (P : Program) (mem : Mem) (T : Nat) (q : V) (n i off : Nat) : loadV P mem T (.ap q n i off) = (P.underlying T).bind fun d => if isAggD d then (rdN mem (.ap q n i off) 0 (P.cellsOf T)).bind fun cs => some (.agg cs) else (rd mem 0 (.ap q n i off)).bind fun v => some (.one v) := rfl
/-- A region's operations. -/
def opsOf : Code → Array Oper
  | .region _ ops _ => ops
  | _ => #[]
/-- A text. -/
abbrev bs (l : List UInt8) : ByteArray := ⟨l.toArray⟩
@[simp] theorem bs_size (l : List UInt8) : (bs l).size = l.length := by simp [bs, ByteArray.size]
theorem ba_ext {a b : ByteArray} (h : a.data.toList = b.data.toList) : a = b := by
  cases a; cases b
  congr 1
  exact Array.toList_inj.1 h
theorem bs_data (a : ByteArray) : bs a.data.toList = a := ba_ext (by simp [bs])
theorem bs_cat (a b : List UInt8) : bs a ++ bs b = bs (a ++ b) := ba_ext (by simp [bs])
theorem ba_assoc (a b c : ByteArray) : a ++ b ++ c = a ++ (b ++ c) := ba_ext (by simp)
theorem ba_size (a b : ByteArray) : (a ++ b).size = a.size + b.size := ByteArray.size_append
theorem ba_nil (a : ByteArray) : bs [] ++ a = a := ba_ext (by simp [bs])
theorem ba_nil' (a : ByteArray) : a ++ bs [] = a := ba_ext (by simp [bs])
theorem ba_beq (a b : ByteArray) : (a.toList == b.toList) = decide (a = b) := by
  rw [ByteArray.toList_eq, ByteArray.toList_eq]
  by_cases h : a = b
  · simp [h]
  · have : ¬ a.data.toList = b.data.toList := fun e => h (ba_ext e)
    rw [decide_eq_false h]
    simpa using fun e => this (by rw [e])
section
variable (P : Program) (T : Nat) (x y : Operand) (a b : ByteArray)
@[simp] theorem b_seql : binV P .eql T x y (.string a) (.string b) = some (.bool (decide (a = b))) := by rw [← ba_beq]; rfl
@[simp] theorem b_sneq : binV P .neq T x y (.string a) (.string b) = some (.bool (!decide (a = b))) := by rw [← ba_beq]; rfl
theorem b_cat (h : a.size + b.size ≤ 9223372036854775807) : binV P .add T x y (.string a) (.string b) = some (.string (a ++ b)) := by
  show quiet P (do eqGuard .add T x y (.string a) (.string b); binOp .add T (.string a) (.string b)) = _
  have : ¬ ((a.size + b.size : Nat) : Int) > IntKind.i64.max := by
    simp [IntKind.max, IntKind.bits, IntKind.signed]
    omega
  simp only [eqGuard, binOp, Op.stringOp, if_neg this]
  rfl
end
/-! Numbers of any kind, bytes, pieces. -/
def andI (k : IntKind) (a b : Int) : Int := k.wrap ((BitVec.ofInt k.bits a &&& BitVec.ofInt k.bits b).toNat)
def orI (k : IntKind) (a b : Int) : Int := k.wrap ((BitVec.ofInt k.bits a ||| BitVec.ofInt k.bits b).toNat)
def xorI (k : IntKind) (a b : Int) : Int := k.wrap ((BitVec.ofInt k.bits a ^^^ BitVec.ofInt k.bits b).toNat)
def shlI (k : IntKind) (a n : Int) : Int := k.wrap (a * 2 ^ (min n.toNat k.bits))
def shrI (k : IntKind) (a n : Int) : Int := a.fdiv (2 ^ (min n.toNat k.bits))
section
variable (P : Program) (T : Nat) (x y : Operand) (k k2 : IntKind) (a b : Int)
@[simp] theorem g_add : binV P .add T x y (.int k a) (.int k b) = some (.int k (k.wrap (a + b))) := by cases k <;> rfl
@[simp] theorem g_sub : binV P .sub T x y (.int k a) (.int k b) = some (.int k (k.wrap (a - b))) := by cases k <;> rfl
@[simp] theorem g_mul : binV P .mul T x y (.int k a) (.int k b) = some (.int k (k.wrap (a * b))) := by cases k <;> rfl
@[simp] theorem g_lss : binV P .lss T x y (.int k a) (.int k b) = some (.bool (decide (a < b))) := by cases k <;> rfl
@[simp] theorem g_leq : binV P .leq T x y (.int k a) (.int k b) = some (.bool (decide (a ≤ b))) := by cases k <;> rfl
@[simp] theorem g_gtr : binV P .gtr T x y (.int k a) (.int k b) = some (.bool (decide (a > b))) := by cases k <;> rfl
@[simp] theorem g_geq : binV P .geq T x y (.int k a) (.int k b) = some (.bool (decide (a ≥ b))) := by cases k <;> rfl
@[simp] theorem g_eql : binV P .eql T x y (.int k a) (.int k b) = some (.bool (a == b)) := by cases k <;> rfl
@[simp] theorem g_neq : binV P .neq T x y (.int k a) (.int k b) = some (.bool (a != b)) := by cases k <;> rfl
@[simp] theorem g_and : binV P .and T x y (.int k a) (.int k b) = some (.int k (andI k a b)) := by cases k <;> rfl
@[simp] theorem g_or : binV P .or T x y (.int k a) (.int k b) = some (.int k (orI k a b)) := by cases k <;> rfl
@[simp] theorem g_xor : binV P .xor T x y (.int k a) (.int k b) = some (.int k (xorI k a b)) := by cases k <;> rfl
@[simp] theorem g_shl : binV P .shl T x y (.int k a) (.int k2 b) = if b < 0 then none else some (.int k (shlI k a b)) := by
  show quiet P (do eqGuard .shl T x y (.int k a) (.int k2 b); binOp .shl T (.int k a) (.int k2 b)) = _
  simp only [eqGuard, binOp, Op.shift]
  by_cases h : b < 0
  · rw [if_pos h, if_pos h]; rfl
  · rw [if_neg h, if_neg h]; rfl
@[simp] theorem g_shr : binV P .shr T x y (.int k a) (.int k2 b) = if b < 0 then none else some (.int k (shrI k a b)) := by
  show quiet P (do eqGuard .shr T x y (.int k a) (.int k2 b); binOp .shr T (.int k a) (.int k2 b)) = _
  simp only [eqGuard, binOp, Op.shift]
  by_cases h : b < 0
  · rw [if_pos h, if_pos h]; rfl
  · rw [if_neg h, if_neg h]; rfl
@[simp] theorem g_rem : binV P .rem T x y (.int k a) (.int k b) = if b = 0 then none else some (.int k (a.tmod b)) := by
  show quiet P (do eqGuard .rem T x y (.int k a) (.int k b); binOp .rem T (.int k a) (.int k b)) = _
  simp only [eqGuard, binOp, Op.intDiv]
  by_cases h : b = 0
  · rw [if_pos h, if_pos h]; cases k <;> rfl
  · rw [if_neg h, if_neg h]; simp [quiet, Bind.bind, Pure.pure, Sem.bind]
@[simp] theorem g_quo : binV P .quo T x y (.int k a) (.int k b) = if b = 0 then none else some (.int k (k.wrap (a.tdiv b))) := by
  show quiet P (do eqGuard .quo T x y (.int k a) (.int k b); binOp .quo T (.int k a) (.int k b)) = _
  simp only [eqGuard, binOp, Op.intDiv]
  by_cases h : b = 0
  · rw [if_pos h, if_pos h]; cases k <;> rfl
  · rw [if_neg h, if_neg h]; simp [quiet, Bind.bind, Pure.pure, Sem.bind]
end
theorem gq_bind {α β : Type} (P : Program) (s : Sem α) (f : α → Sem β) : quiet P (s >>= f) = (quiet P s).bind fun a => quiet P (f a) := by
  show quiet P (Sem.bind s f) = _
  induction s with
  | pure a => rfl
  | program k ih => exact ih P
  | _ => rfl
theorem gq_und {P : Program} {t : TypeId} {d : TypeDesc} (h : P.underlying t = some d) : quiet P (underlying t) = some d := by
  unfold underlying
  show quiet P (Sem.bind program _) = _
  simp only [program, Sem.bind, quiet, h]
  rfl
theorem gq_pure {α : Type} (P : Program) (a : α) : quiet P (pure a : Sem α) = some a := rfl
theorem g_conv {P : Program} {src dst : Nat} {d : TypeDesc} {k' : IntKind} (hs : P.underlying src = some d) (hd : P.underlying dst = some (.int k')) (k : IntKind) (a : Int) : convV P src dst (.int k a) = some (.int k' (k'.wrap a)) := by
  unfold convV convert
  rw [gq_bind, gq_und hs, Option.bind_some, gq_bind, gq_und hd, Option.bind_some]
  rfl
theorem g_index {P : Program} {T : Nat} (ht : P.underlying T = some .string) {s : ByteArray} {e : Int} {b : UInt8} (h0 : 0 ≤ e) (h : s.data.toList[e.toNat]? = some b) : quiet P (Instr.index T (.string s) (.int .i64 e)) = some (.int .u8 b.toNat) := by
  obtain ⟨i, rfl⟩ : ∃ i : Nat, e = i := ⟨e.toNat, by omega⟩
  have h1 : s[((i : Int)).toNat]? = some b := by
    have hl : i < s.data.size := by
      have := (List.getElem?_eq_some_iff.1 h).1
      simpa using this
    have h2 := (List.getElem?_eq_some_iff.1 h).2
    have hl2 : i < s.size := hl
    simp only [Int.toNat_natCast] at h2 ⊢
    rw [getElem?_pos s i hl2]
    congr 1
  unfold Instr.index
  simp only [asIntOf, gq_bind, gq_pure, Option.bind_some, gq_und ht, h1, Int.natCast_nonneg, if_true]
/-- A piece of a text. -/
def cutS (s : ByteArray) (l h : Int) : Option ByteArray := if 0 ≤ l ∧ l ≤ h ∧ h ≤ s.size then some (s.extract l.toNat h.toNat) else none
theorem cutS_some {s y : ByteArray} {l h : Int} (e : cutS s l h = some y) : (0 ≤ l ∧ l ≤ h ∧ h ≤ s.size) ∧ y = s.extract l.toNat h.toNat := by
  unfold cutS at e
  split at e
  · rename_i hc; exact ⟨hc, (Option.some.inj e).symm⟩
  · cases e
theorem gq_bound {P : Program} {n : Int} {y : Nat} {c : BoundsCode} (h0 : 0 ≤ n) (h : n ≤ y) : quiet P (Instr.sliceBound (.int .i64 n) y c) = some n.toNat := by
  unfold Instr.sliceBound
  have : 0 ≤ n ∧ n ≤ y := ⟨h0, h⟩
  simp only [asIntOf, gq_bind, gq_pure, Option.bind_some, this, and_self, if_true]
theorem g_piece {P : Program} {T : Nat} (ht : P.underlying T = some .string) {s y : ByteArray} {l h : Int} (e : cutS s l h = some y) : quiet P (Instr.slice T (.string s) (some (.int .i64 l)) (some (.int .i64 h)) none) = some (.string y) := by
  obtain ⟨⟨h0, h1, h2⟩, rfl⟩ := cutS_some e
  unfold Instr.slice Instr.sliceBounds
  simp only [gq_bind, gq_pure, Option.bind_some, gq_und ht, Option.isSome_none, Bool.false_eq_true, if_false, gq_bound (by omega : 0 ≤ h) h2, gq_bound h0 (by omega : l ≤ (h.toNat : Nat))]
theorem g_from {P : Program} {T : Nat} (ht : P.underlying T = some .string) {s y : ByteArray} {l : Int} (e : cutS s l s.size = some y) : quiet P (Instr.slice T (.string s) (some (.int .i64 l)) none none) = some (.string y) := by
  obtain ⟨⟨h0, h1, h2⟩, rfl⟩ := cutS_some e
  unfold Instr.slice Instr.sliceBounds
  simp only [gq_bind, gq_pure, Option.bind_some, gq_und ht, Option.isSome_none, Bool.false_eq_true, if_false, gq_bound h0 h1, Int.toNat_natCast]
theorem g_upto {P : Program} {T : Nat} (ht : P.underlying T = some .string) {s y : ByteArray} {h : Int} (e : cutS s 0 h = some y) : quiet P (Instr.slice T (.string s) none (some (.int .i64 h)) none) = some (.string y) := by
  obtain ⟨⟨h0, h1, h2⟩, rfl⟩ := cutS_some e
  unfold Instr.slice Instr.sliceBounds
  simp only [gq_bind, gq_pure, Option.bind_some, gq_und ht, Option.isSome_none, Bool.false_eq_true, if_false, gq_bound h1 h2, Int.toNat_zero]
theorem g_bytes (l : List Int) : bytesR (List.map (fun x => [V.lit (.int .u8 x)]) l) = some l := by
  induction l with
  | nil => rfl
  | cons x l ih => simp only [List.map_cons, bytesR, ih, Option.bind_some]
/-! Arrays of numbers, truths, texts: their cells. -/
def kI (k : IntKind) (x : Int) : V := .lit (.int k x)
def kB (x : Bool) : V := .lit (.bool x)
def kS (x : ByteArray) : V := .lit (.string x)
@[simp] theorem kI_ap (k : IntKind) (x : Int) : kI k x = .lit (.int k x) := rfl
@[simp] theorem kB_ap (x : Bool) : kB x = .lit (.bool x) := rfl
@[simp] theorem kS_ap (x : ByteArray) : kS x = .lit (.string x) := rfl
@[simp] theorem kI_m {k : IntKind} {a b : List Int} : List.map (kI k) a = List.map (kI k) b ↔ a = b := ⟨map_inj' (fun a b h => by simpa using h) a b, fun h => by rw [h]⟩
@[simp] theorem kB_m {a b : List Bool} : List.map kB a = List.map kB b ↔ a = b := ⟨map_inj' (fun a b h => by simpa using h) a b, fun h => by rw [h]⟩
@[simp] theorem kS_m {a b : List ByteArray} : List.map kS a = List.map kS b ↔ a = b := ⟨map_inj' (fun a b h => by simpa using h) a b, fun h => by rw [h]⟩
/-- Cells of an array. -/
class ArrK {α : Type} (k : α → V) : Prop where
  lit : ∀ x, ∃ v, k x = .lit v
instance (k : IntKind) : ArrK (kI k) := ⟨fun x => ⟨_, rfl⟩⟩
instance : ArrK kB := ⟨fun x => ⟨_, rfl⟩⟩
instance : ArrK kS := ⟨fun x => ⟨_, rfl⟩⟩
section
variable {α : Type} {k : α → V} [h : ArrK k]
@[simp] theorem arr_foldL (mem : Mem) (l : List α) : foldL mem (List.map k l) = some (List.map k l, mem) := by
  induction l with
  | nil => rfl
  | cons x l ih => obtain ⟨v, hv⟩ := h.lit x; simp [List.map_cons, foldL, hv, fold, ih]
@[simp] theorem arr_landC (ok : Bool) (ep n : Nat) (l : List α) : landC ok ep n (List.map k l) = some (List.map k l, []) := by
  induction l with
  | nil => rfl
  | cons x l ih => obtain ⟨v, hv⟩ := h.lit x; simp [List.map_cons, landC, hv, ih]
@[simp] theorem arr_seenL (mem : Mem) (l : List α) : seenL mem (List.map k l) = some (List.map k l) := by
  induction l with
  | nil => rfl
  | cons x l ih => obtain ⟨v, hv⟩ := h.lit x; simp [List.map_cons, seenL, hv, seen, ih]
@[simp] theorem arr_seen0L (mem : Mem) (l : List α) : seen0L mem (List.map k l) = some (List.map k l) := by
  induction l with
  | nil => rfl
  | cons x l ih => obtain ⟨v, hv⟩ := h.lit x; simp [List.map_cons, seen0L, hv, seen0, ih]
@[simp] theorem arr_bare (l : List α) : (List.map k l).all bare1 = true := by
  induction l with
  | nil => rfl
  | cons x l ih => obtain ⟨v, hv⟩ := h.lit x; simp [List.map_cons, hv, bare1, ih]
end
/-- Elements of so many cells, one behind the other. -/
def fl {α : Type} (k : α → List V) (l : List α) : List V := l.flatMap k
class FlatK {α : Type} (k : α → List V) (n : outParam Nat) : Prop where
  len : ∀ x, (k x).length = n
  pos : 0 < n
  lit : ∀ x, ∀ u ∈ k x, ∃ v, u = .lit v
  inj : ∀ a b, k a = k b → a = b
theorem fl_lit {α : Type} {k : α → List V} {n : Nat} [h : FlatK k n] : ∀ (l : List α), ∀ u ∈ fl k l, ∃ v, u = .lit v := by
  intro l u hu
  obtain ⟨x, _, hx⟩ := List.mem_flatMap.1 hu
  exact h.lit x u hx
@[simp 2000] theorem fl_len {α : Type} {k : α → List V} {n : Nat} [h : FlatK k n] (l : List α) : (fl k l).length = l.length * n := by
  unfold fl
  induction l with
  | nil => simp
  | cons x l ih => rw [List.flatMap_cons, List.length_append, ih, h.len, List.length_cons, Nat.add_mul]; omega
theorem lits_foldL (mem : Mem) : ∀ (l : List V), (∀ u ∈ l, ∃ v, u = .lit v) → foldL mem l = some (l, mem) := by
  intro l
  induction l with
  | nil => intro _; rfl
  | cons x l ih =>
    intro hl
    obtain ⟨v, rfl⟩ := hl x List.mem_cons_self
    simp [foldL, fold, ih (fun u hu => hl u (List.mem_cons_of_mem _ hu))]
theorem lits_landC (ok : Bool) (ep i : Nat) : ∀ (l : List V), (∀ u ∈ l, ∃ v, u = .lit v) → landC ok ep i l = some (l, []) := by
  intro l
  induction l with
  | nil => intro _; rfl
  | cons x l ih =>
    intro hl
    obtain ⟨v, rfl⟩ := hl x List.mem_cons_self
    simp [landC, ih (fun u hu => hl u (List.mem_cons_of_mem _ hu))]
theorem lits_seenL (mem : Mem) : ∀ (l : List V), (∀ u ∈ l, ∃ v, u = .lit v) → seenL mem l = some l := by
  intro l
  induction l with
  | nil => intro _; rfl
  | cons x l ih =>
    intro hl
    obtain ⟨v, rfl⟩ := hl x List.mem_cons_self
    simp [seenL, seen, ih (fun u hu => hl u (List.mem_cons_of_mem _ hu))]
theorem lits_seen0L (mem : Mem) : ∀ (l : List V), (∀ u ∈ l, ∃ v, u = .lit v) → seen0L mem l = some l := by
  intro l
  induction l with
  | nil => intro _; rfl
  | cons x l ih =>
    intro hl
    obtain ⟨v, rfl⟩ := hl x List.mem_cons_self
    simp [seen0L, seen0, ih (fun u hu => hl u (List.mem_cons_of_mem _ hu))]
theorem lits_fixO : ∀ (ms : List (Option (Bool × Nat))) (l : List V), ms = [] → fixO ms l = l := by
  rintro _ l rfl
  cases l <;> rfl
@[simp] theorem fl_foldL {α : Type} {k : α → List V} {n : Nat} [h : FlatK k n] (mem : Mem) (l : List α) : foldL mem (fl k l) = some (fl k l, mem) := lits_foldL mem _ (fl_lit l)
@[simp] theorem fl_landC {α : Type} {k : α → List V} {n : Nat} [h : FlatK k n] (ok : Bool) (ep i : Nat) (l : List α) : landC ok ep i (fl k l) = some (fl k l, []) := lits_landC ok ep i _ (fl_lit l)
@[simp] theorem fl_seenL {α : Type} {k : α → List V} {n : Nat} [h : FlatK k n] (mem : Mem) (l : List α) : seenL mem (fl k l) = some (fl k l) := lits_seenL mem _ (fl_lit l)
@[simp] theorem fl_seen0L {α : Type} {k : α → List V} {n : Nat} [h : FlatK k n] (mem : Mem) (l : List α) : seen0L mem (fl k l) = some (fl k l) := lits_seen0L mem _ (fl_lit l)
@[simp] theorem fl_bare {α : Type} {k : α → List V} {n : Nat} [h : FlatK k n] (l : List α) : (fl k l).all bare1 = true := List.all_eq_true.2 (fun u hu => by obtain ⟨v, rfl⟩ := fl_lit (k := k) l u hu; rfl)
theorem fl_el {α : Type} {k : α → List V} {n : Nat} [h : FlatK k n] (i c : Nat) (hc : c < n) (l : List α) : el n i c (fl k l) = (l[i]?).bind fun y => (k y)[c]? := by
  unfold el fl
  induction l generalizing i with
  | nil => simp
  | cons x l ih =>
    rw [List.flatMap_cons]
    cases i with
    | zero => rw [Nat.zero_mul, Nat.zero_add, List.getElem?_append_left (by rw [h.len]; exact hc)]; rfl
    | succ i =>
      rw [List.getElem?_append_right (by rw [h.len, Nat.succ_mul]; omega), h.len, show (i + 1) * n + c - n = i * n + c by rw [Nat.succ_mul]; omega, ih]
      rfl
theorem fl_put {α : Type} {k : α → List V} {n : Nat} [h : FlatK k n] {i : Nat} {l : List α} (hi : i < l.length) (y : α) : putEl n i 0 (k y) (fl k l) = some (fl k (l.set i y)) := by
  have hle : i * n + 0 + (k y).length ≤ (fl k l).length := by
    rw [fl_len, h.len]
    have : (i + 1) * n ≤ l.length * n := Nat.mul_le_mul_right _ hi
    rw [Nat.succ_mul] at this
    omega
  unfold putEl
  rw [if_pos hle]
  congr 1
  rw [Nat.add_zero] at hle ⊢
  rw [putL_seg _ _ _ hle, h.len]
  unfold fl at hle ⊢
  induction l generalizing i with
  | nil => simp at hi
  | cons x l ih =>
    cases i with
    | zero =>
      simp only [Nat.zero_mul, Nat.zero_add, List.take_zero, List.nil_append, List.set_cons_zero, List.flatMap_cons]
      rw [List.drop_left' (h.len x)]
    | succ i =>
      have hi' : i < l.length := by simpa using hi
      have hle' : i * n + (k y).length ≤ (l.flatMap k).length := by
        rw [List.flatMap_cons, List.length_append, h.len x, Nat.succ_mul] at hle
        omega
      have e1 : (i + 1) * n = (k x).length + i * n := by rw [h.len, Nat.succ_mul]; omega
      rw [List.set_cons_succ, List.flatMap_cons, List.flatMap_cons, e1, List.take_length_add_append, Nat.add_assoc, List.drop_length_add_append, List.append_assoc, List.append_assoc, ← ih hi' hle', List.append_assoc]
@[simp] theorem fl_m {α : Type} {k : α → List V} {n : Nat} [h : FlatK k n] {a b : List α} : fl k a = fl k b ↔ a = b := by
  constructor
  · unfold fl
    induction a generalizing b with
    | nil =>
      intro he
      cases b with
      | nil => rfl
      | cons y b =>
        have := congrArg List.length he
        simp only [List.flatMap_nil, List.length_nil, List.flatMap_cons, List.length_append, h.len] at this
        have := h.pos
        omega
    | cons x a ih =>
      intro he
      cases b with
      | nil =>
        have := congrArg List.length he
        simp only [List.flatMap_nil, List.length_nil, List.flatMap_cons, List.length_append, h.len] at this
        have := h.pos
        omega
      | cons y b =>
        rw [List.flatMap_cons, List.flatMap_cons] at he
        obtain ⟨h1, h2⟩ := List.append_inj he (by rw [h.len, h.len])
        rw [h.inj _ _ h1, ih h2]
  · rintro rfl; rfl
@[simp] theorem fixL_nil (vs : List V) : fixL [] vs = vs := by cases vs <;> rfl
theorem rdN_bp (mem : Mem) (id bv off : Nat) : ∀ (n j : Nat), n ≠ 0 → rdN mem (.bp id bv off) j n = (boxOf mem id bv).bind fun cells => if off + j + n ≤ cells.length then some ((cells.drop (off + j)).take n) else none := by
  intro n
  cases hb : boxOf mem id bv with
  | none => intro j hn; cases n with | zero => exact absurd rfl hn | succ n => simp only [rdN, rd, hb, Option.bind_none]
  | some cells =>
    induction n with
    | zero => intro j hn; exact absurd rfl hn
    | succ n ih =>
      intro j _
      simp only [rdN, rd, hb, Option.bind_some]
      by_cases hlt : off + j < cells.length
      · rw [List.getElem?_eq_getElem hlt, Option.bind_some, List.drop_eq_getElem_cons hlt]
        cases n with
        | zero => simp only [rdN, Option.bind_some]; rw [if_pos (by omega)]; rfl
        | succ n =>
          rw [ih (j + 1) (by omega)]
          simp only [Option.bind_some]
          by_cases h2 : off + (j + 1) + (n + 1) ≤ cells.length
          · rw [if_pos h2, if_pos (by omega)]
            rfl
          · rw [if_neg h2, if_neg (by omega)]; rfl
      · rw [List.getElem?_eq_none_iff.2 (by omega), if_neg (by omega)]; rfl
theorem arr_load {P : Program} {T len e n : Nat} (hT : P.underlying T = some (.array len e)) (hn : P.cellsOf T = n) (h0 : n ≠ 0) (mem : Mem) (id bv : Nat) : loadV P mem T (.bp id bv 0) = (boxOf mem id bv).bind fun cells => if cells.length = n then some (.agg cells) else if n ≤ cells.length then some (.agg (cells.take n)) else none := by
  unfold loadV
  simp only [hT, Option.bind_some, isAggD, if_true, hn, rdN_bp mem id bv 0 n 0 h0]
  cases boxOf mem id bv with
  | none => rfl
  | some cells =>
    simp only [Option.bind_some, Nat.zero_add, List.drop_zero]
    by_cases h1 : cells.length = n
    · rw [if_pos (by omega), if_pos h1, List.take_of_length_le (by omega)]; rfl
    · rw [if_neg h1]
      split <;> rfl
theorem arr_put {α : Type} {a b : List α} {n : Nat} (ha : a.length = n) (hb : b.length = n) (k : α → V) : putL (List.map k a) 0 (List.map k b) = List.map k b := by
  rw [putL_seg _ _ _ (by simp; omega)]
  simp
  omega
@[simp] theorem int_beq (a b : Int) : (a == b) = decide (a = b) := rfl
@[simp] theorem int_bne (a b : Int) : (a != b) = !decide (a = b) := rfl
end Go.Proofs.Ytanglbgincgmaaa.Vm
