/-
  The small machine: what each operation does to a state that is told plainly.
-/
import Derived.Test.YtanglbgincgmaaaVmState
import Derived.Test.YtanglbgincgmaaaVmLast
import Derived.Laws.BytesArg
import Derived.Lib.SliceRun
namespace Go.Proofs.Ytanglbgincgmaaa.Vm
open Go Go.RowKit
set_option linter.unusedVariables false

/-- What is computed without a look at memory. -/
def quiet {α : Type} (P : Program) : Sem α → Option α
  | .pure a => some a
  | .program k => quiet P (k P)
  | _ => none
theorem quiet_run {α : Type} {P : Program} {s : Sem α} {a : α} (h : quiet P s = some a) (w : World) : s.run P w = .ok a w := by
  induction s with
  | pure b => simp [quiet] at h; subst h; rfl
  | program k ih => simp only [quiet] at h; simp only [Sem.run]; exact ih P h
  | _ => simp [quiet] at h

structure St where
  tm : List (Nat × TV)
  mem : Mem
  ep : Nat

def look : List (Nat × TV) → Nat → Option TV
  | [], _ => none
  | (k, v) :: r, t => if k = t then some v else look r t

/-- A value as it stands, its cells none but immediate ones. -/
def lift : Value → Option TV
  | .agg cs => if cs.toList.all (·.oneCell') then some (.agg (cs.toList.map .lit)) else none
  | .tuple _ => none
  | v => some (.one (.lit v))
def ev (S : St) : Operand → Option TV
  | .tmp t => look S.tm t
  | .const v => lift v
  | .func f => some (.one (.lit (.func (.func f) #[] #[])))
  | .global _ => none
def ev1 (S : St) (x : Operand) : Option V := match ev S x with
  | some (.one v) => some v
  | _ => none
def ev1s (S : St) : List Operand → Option (List V)
  | [] => some []
  | x :: r => (ev1 S x).bind fun v => (ev1s S r).bind fun vs => some (v :: vs)
def evL (S : St) (x : Operand) : Option Value := match ev1 S x with
  | some (.lit v) => some v
  | _ => none
def TV.cells : TV → Option (List V)
  | .one v => some [v]
  | .agg cs => some cs
  | .tup _ => none

/-- A cell within a row of block id, as it is read. -/
def vu (id cv hv i j : Nat) : V → Option V
  | .lit v => some (.lit v)
  | .sl true e rows => some (.vw id cv (some (hv, i, j)) e (erRows rows))
  | .sl false e rows => some (.sl false e rows)
  | _ => none
/-- One within a row that nobody writes. -/
def ru : V → Option V
  | .lit v => some (.lit v)
  | .sl false e rows => some (.sl false e rows)
  | _ => none
/-- One within what is seen of block id. -/
def wu (id cv : Nat) : V → Option V
  | .lit v => some (.lit v)
  | .sl false e rows => some (.vw id cv none e rows)
  | _ => none
def boxOf (mem : Mem) (id bv : Nat) : Option (List V) := match mem[id]? with
  | some (some (.box bv' cells)) => if bv' = bv then some cells else none
  | _ => none
/-- The rows of block id, its head's stamp being hv: the other stamp, the type, the rows. -/
def rowsH (mem : Mem) (id hv : Nat) : Option (Nat × Nat × List (List V)) := match mem[id]? with
  | some (some (.rows hv' cv e rs)) => if hv' = hv then some (cv, e, rs) else none
  | _ => none
def seenC (mem : Mem) (id cv : Nat) : Bool := match mem[id]? with
  | some (some (.rows _ cv' _ _)) => decide (cv' = cv)
  | _ => false
/-- One within a nested own slice of block id. -/
def nu (id cv : Nat) : V → Option V
  | .lit v => some (.lit v)
  | .sl true e rows => some (.vw id cv none e (erRows rows))
  | .sl false e rows => some (.sl false e rows)
  | _ => none
/-- Cell c of row n of a nested own slice. -/
def nestGet (e n c : Nat) : V → Option V
  | .sl true e2 r2 => if e2 = e then (r2[n]?).bind fun nr => nr[c]? else none
  | _ => none
/-- Cell c of element i, of n cells each. -/
def el (n i c : Nat) (cells : List V) : Option V := cells[i * n + c]?
def rdA (mem : Mem) (n i c : Nat) : V → Option V
  | .bp id bv base => (boxOf mem id bv).bind fun cells => el n i c (cells.drop base)
  | .rp row base => (el n i c (row.drop base)).bind ru
  | _ => none
/-- The j-th cell behind a pointer. -/
def rd (mem : Mem) (j : Nat) : V → Option V
  | .bp id bv off => (boxOf mem id bv).bind (·[off + j]?)
  | .ip id hv i off => (rowsH mem id hv).bind fun b => (b.2.2[i]?).bind fun row => (row[off + j]?).bind (vu id b.1 hv i (off + j))
  | .rp row off => (row[off + j]?).bind ru
  | .vp id cv row off => if seenC mem id cv then (row[off + j]?).bind (wu id cv) else none
  | .np id cv pl row off => match rowsH mem id pl.1 with
    | some b => if b.1 = cv then (b.2.2[pl.2.1]?).bind fun r0 => (r0[pl.2.2.1]?).bind fun u => (nestGet pl.2.2.2.1 pl.2.2.2.2 (off + j) u).bind (nu id cv) else none
    | none => if seenC mem id cv then (row[off + j]?).bind (wu id cv) else none
  | .ap q n i off => rdA mem n i (off + j) q
  | _ => none
def rdN (mem : Mem) (p : V) (j : Nat) : Nat → Option (List V)
  | 0 => some []
  | n + 1 => (rd mem j p).bind fun v => (rdN mem p (j + 1) n).bind fun vs => some (v :: vs)
def isAggD : TypeDesc → Bool
  | .struct _ | .array _ _ => true
  | _ => false
def loadV (P : Program) (mem : Mem) (T : Nat) (p : V) : Option TV := (P.underlying T).bind fun d =>
  if isAggD d then (rdN mem p 0 (P.cellsOf T)).bind fun cs => some (.agg cs) else (rd mem 0 p).bind fun v => some (.one v)

def ptrAdd (mem : Mem) (k : Nat) : V → Option V
  | .bp id bv off => (boxOf mem id bv).bind fun _ => some (.bp id bv (off + k))
  | .ip id hv i off => (rowsH mem id hv).bind fun _ => some (.ip id hv i (off + k))
  | .rp row off => some (.rp row (off + k))
  | .vp id cv row off => if seenC mem id cv then some (.vp id cv row (off + k)) else none
  | .np id cv pl row off => if seenC mem id cv then some (.np id cv pl row (off + k)) else none
  | .ap q n i off => some (.ap q n i (off + k))
  | _ => none
/-- A pointer to element j of an array of len elements, of n cells each. -/
def idxA (mem : Mem) (len n j : Nat) : V → Option V
  | .ap q n2 i off => if off = 0 ∧ n2 = len * n then some (.ap q n (i * len + j) 0) else none
  | .bp id bv off => if off = 0 ∧ n = 1 then ptrAdd mem (j * n) (.bp id bv off) else (ptrAdd mem 0 (.bp id bv off)).bind fun q => some (.ap q n j 0)
  | .rp row off => if off = 0 ∧ n = 1 then ptrAdd mem (j * n) (.rp row off) else some (.ap (.rp row off) n j 0)
  | p => ptrAdd mem (j * n) p
/-- A pointer to row j of what is seen; where its place is known, with its place. -/
def ptrIn (p : Option (Nat × Nat × Nat)) (id cv e j : Nat) (row : List V) : V := match p with
  | some q => .np id cv (q.1, q.2.1, q.2.2, e, j) row 0
  | none => .vp id cv row 0

/-- A value that goes into a row: what it owns goes along. -/
def fold (mem : Mem) : V → Option (V × Mem)
  | .lit v => some (.lit v, mem)
  | .sl false e rows => some (.sl false e rows, mem)
  | .ow id hv => (rowsH mem id hv).bind fun b => some (.sl true b.2.1 b.2.2, mem.set id none)
  | _ => none
def foldL (mem : Mem) : List V → Option (List V × Mem)
  | [] => some ([], mem)
  | v :: vs => (fold mem v).bind fun a => (foldL a.2 vs).bind fun b => some (a.1 :: b.1, b.2)
def putL {α : Type} (l : List α) (k : Nat) : List α → List α
  | [] => l
  | x :: xs => putL (l.set k x) (k + 1) xs
/-- A store of cells behind a pointer. -/
def ownB : V → Bool
  | .sl true _ _ => true
  | _ => false
/-- Whether an own slice is overwritten: then what was seen in the block goes. -/
def overB (row : List V) (off n : Nat) : Bool := ((row.drop off).take n).any ownB
/-- What may be written into a nested slice: what owns nothing. -/
def tame : V → Bool
  | .lit _ => true
  | .sl false _ _ => true
  | _ => false
/-- Cells written from cell off of element i on. -/
def putEl (n i off : Nat) (cs l : List V) : Option (List V) := if i * n + off + cs.length ≤ l.length then some (putL l (i * n + off) cs) else none
/-- A nested own slice, one of its rows written to. -/
def nestSet (e n off : Nat) (cs : List V) : V → Option V
  | .sl true e2 r2 => if e2 = e then (r2[n]?).bind fun nr => if off + cs.length ≤ nr.length ∧ cs.all tame = true then some (.sl true e2 (r2.set n (putL nr off cs))) else none else none
  | _ => none
def stV (mem : Mem) (ep : Nat) (p : V) (cs : List V) : Option (Mem × Nat) := match p with
  | .ap (.bp id bv base) n i off => (boxOf mem id bv).bind fun cells => (putEl n i off cs (cells.drop base)).bind fun new => some (mem.set id (some (.box bv (cells.take base ++ new))), ep)
  | .np id cv pl _ off => (rowsH mem id pl.1).bind fun b => if b.1 = cv then (b.2.2[pl.2.1]?).bind fun r0 => (r0[pl.2.2.1]?).bind fun u => (nestSet pl.2.2.2.1 pl.2.2.2.2 off cs u).bind fun u' =>
      some (mem.set id (some (.rows pl.1 ep b.2.1 (b.2.2.set pl.2.1 (r0.set pl.2.2.1 u')))), ep + 1) else none
  | .bp id bv off => (boxOf mem id bv).bind fun cells => if off + cs.length ≤ cells.length then some (mem.set id (some (.box bv (putL cells off cs))), ep) else none
  | .ip id hv i off => (foldL mem cs).bind fun a => (rowsH a.2 id hv).bind fun b => (b.2.2[i]?).bind fun row =>
      if off + cs.length ≤ row.length then
        (if overB row off cs.length then some (a.2.set id (some (.rows hv ep b.2.1 (b.2.2.set i (putL row off a.1)))), ep + 1)
         else some (a.2.set id (some (.rows hv b.1 b.2.1 (b.2.2.set i (putL row off a.1)))), ep)) else none
  | _ => none

def zeroV (P : Program) (T : Nat) : Option (List V) := (quiet P (zeroValue T)).bind fun v => if v.cells.toList.all (·.oneCell') then some (v.cells.toList.map .lit) else none

/-- How many rows. -/
def lenV (mem : Mem) : V → Option Nat
  | .lit (.slice none 0 0) => some 0
  | .sl false _ rows => some rows.length
  | .ow id hv => (rowsH mem id hv).bind fun b => some b.2.2.length
  | .vw id cv _ _ rows => if seenC mem id cv then some rows.length else none
  | _ => none
def flatRow (row : List V) : Bool := row.all fun | .lit _ => true | _ => false
/-- The rows that are appended; what it owns goes along. -/
def rowsIn (mem : Mem) (e : Nat) : V → Option (List (List V) × Mem)
  | .lit (.slice _ 0 _) => some ([], mem)
  | .sl false e' rows => if e' = e then some (rows, mem) else none
  | .ow id hv => (rowsH mem id hv).bind fun b => if b.2.1 = e then some (b.2.2, mem.set id none) else none
  | .vw id cv _ e' rows => if e' = e ∧ seenC mem id cv = true ∧ rows.all flatRow = true then some (rows, mem) else none
  | _ => none

def fillV (place : Nat → Option (Nat × Nat)) (cells : List V) : List (Nat × List V) → Option (List V)
  | [] => some cells
  | (i, cs) :: rest => (place i).bind fun p => if cs.length = p.2 ∧ p.1 + cs.length ≤ cells.length then fillV place (putL cells p.1 cs) rest else none
def partsV (S : St) : List (Nat × Operand) → Option (List (Nat × List V))
  | [] => some []
  | (i, x) :: rest => (ev S x).bind fun v => v.cells.bind fun cs => (partsV S rest).bind fun r => some ((i, cs) :: r)
def foldR (mem : Mem) : List (List V) → Option (List (List V) × Mem)
  | [] => some ([], mem)
  | cs :: rest => (foldL mem cs).bind fun a => (foldR a.2 rest).bind fun b => some (a.1 :: b.1, b.2)
/-- The elements of a slice that is written out, one behind the other. -/
def elemsV (S : St) (n : Nat) : Nat → List (Nat × Operand) → Option (List (List V))
  | _, [] => some []
  | k, (i, x) :: rest => if i = k then (ev S x).bind fun v => v.cells.bind fun cs => if cs.length = n then (elemsV S n (k + 1) rest).bind fun r => some (cs :: r) else none else none

def part1 (P : Program) (T : Nat) (cs : List V) (off : Nat) : Option TV := (P.underlying T).bind fun d =>
  if isAggD d then (if off + P.cellsOf T ≤ cs.length then some (.agg ((cs.drop off).take (P.cellsOf T))) else none) else (cs[off]?).bind fun v => some (.one v)
def natOf : Value → Option Nat
  | .int .i64 n => if 0 ≤ n then some n.toNat else none
  | _ => none
def optN (S : St) (d : Nat) : Option Operand → Option Nat
  | none => some d
  | some x => (evL S x).bind natOf

/-- The builtins. -/
def stepB (P : Program) (S : St) (b : Builtin) (args : List Operand) (ts : List TypeId) : Option (TV × Mem × Nat) := match b, args, ts with
  | .len, [x], [T] => (ev1 S x).bind fun v => (P.underlying T).bind fun
    | .slice _ => (lenV S.mem v).bind fun n => some (.one (.lit (.int .i64 n)), S.mem, S.ep)
    | .string => match v with
      | .lit (.string s) => some (.one (.lit (.int .i64 s.size)), S.mem, S.ep)
      | _ => none
    | _ => none
  | .append, [x, y], [T, T'] => if T = T' then (P.underlying T).bind fun
    | .slice e => (zeroV P e).bind fun zs => (ev1 S x).bind fun a => (ev1 S y).bind fun b => (rowsIn S.mem e b).bind fun news => match a with
      | .lit (.slice none 0 0) => if news.1.length * P.bytesOf e ≤ 140737488355328 ∧ zs.length = P.cellsOf e ∧ P.cellsOf e ≠ 0 ∧ P.bytesOf e ≠ 0 then some (.one (.ow news.2.length S.ep), news.2 ++ [some (.rows S.ep S.ep e news.1)], S.ep + 1) else none
      | .ow id hv => (rowsH news.2 id hv).bind fun q => if (q.2.2.length + news.1.length) * P.bytesOf e ≤ 140737488355328 ∧ zs.length = P.cellsOf e ∧ q.2.1 = e ∧ P.cellsOf e ≠ 0 ∧ P.bytesOf e ≠ 0 then
          some (.one (.ow id S.ep), news.2.set id (some (.rows S.ep q.1 e (q.2.2 ++ news.1))), S.ep + 1) else none
      | _ => none
    | _ => none else none
  | .min, [x, y], _ => (evL S x).bind fun a => (evL S y).bind fun b => match a, b with
    | .int k m, .int k' n => if k = k' then some (.one (.lit (.int k (if n < m then n else m))), S.mem, S.ep) else none
    | _, _ => none
  | .max, [x, y], _ => (evL S x).bind fun a => (evL S y).bind fun b => match a, b with
    | .int k m, .int k' n => if k = k' then some (.one (.lit (.int k (if m < n then n else m))), S.mem, S.ep) else none
    | _, _ => none
  | _, _, _ => none

def binV (P : Program) (op : BinOp) (T : Nat) (x y : Operand) (a b : Value) : Option Value := quiet P (do eqGuard op T x y a b; binOp op T a b)
def unV (P : Program) (op : UnOp) (a : Value) : Option Value := quiet P (Op.unary op a)
def convV (P : Program) (src dst : Nat) (a : Value) : Option Value := quiet P (convert src dst a)

/-- The bytes of a slice that becomes a text. -/
def bytesR : List (List V) → Option (List Int)
  | [] => some []
  | r :: rs => match r with
    | [.lit (.int .u8 n)] => (bytesR rs).bind fun l => some (n :: l)
    | _ => none
def bytesV (P : Program) (mem : Mem) (src dst : Nat) (v : V) : Option (List Int) := (P.underlying src).bind fun
  | .slice e => (P.underlying e).bind fun
    | .int .u8 => (P.underlying dst).bind fun
      | .string => if P.cellsOf e = 1 then (rowsIn mem e v).bind fun p => bytesR p.1 else none
      | _ => none
    | _ => none
  | _ => none

/-- Whether a slice is nil (or is not), where it shows. -/
def nilV (P : Program) (S : St) (op : BinOp) (T : Nat) (x : Operand) : Option Bool := (P.underlying T).bind fun
  | .slice _ => (match ev1 S x with
    | some (.lit (.slice A _ _)) => some A.isNone
    | some (.sl false _ (_ :: _)) => some false
    | _ => none).bind fun t => match op with
      | .eql => some t
      | .neq => some !t
      | _ => none
  | _ => none
/-- An operation that yields a value and calls no function of the program. -/
def stepOp (P : Program) (S : St) (o : Oper) : Option (TV × Mem × Nat) := match o.op with
  | .move x | .assign x => (ev S x).bind fun v => some (v, S.mem, S.ep)
  | .pick c a b => (evL S c).bind fun
    | .bool t => if t then (ev S a).bind fun v => some (v, S.mem, S.ep) else (ev S b).bind fun v => some (v, S.mem, S.ep)
    | _ => none
  | .binOp op T x y _ => match y with
    | .const (.slice none 0 0) => (nilV P S op T x).bind fun t => some (.one (.lit (.bool t)), S.mem, S.ep)
    | y => (evL S x).bind fun a => (evL S y).bind fun b => (binV P op T x y a b).bind fun v => (lift v).bind fun r => some (r, S.mem, S.ep)
  | .unOp op _ x => (evL S x).bind fun a => (unV P op a).bind fun v => (lift v).bind fun r => some (r, S.mem, S.ep)
  | .convert src dst x => (ev1 S x).bind fun
    | .lit a => (convV P src dst a).bind fun v => (lift v).bind fun r => some (r, S.mem, S.ep)
    | b => (bytesV P S.mem src dst b).bind fun l => some (.one (.lit (.string (strOfNums l))), S.mem, S.ep)
  | .load T x => if P.cellsOf T = 0 then none else (ev1 S x).bind fun p => (loadV P S.mem T p).bind fun v => some (v, S.mem, S.ep)
  | .box T x => (ev S x).bind fun v => v.cells.bind fun cs => some (.one (.bp S.mem.length S.ep 0), S.mem ++ [some (.box S.ep cs)], S.ep + 1)
  | .alloc T => (zeroV P T).bind fun cs => some (.one (.bp S.mem.length S.ep 0), S.mem ++ [some (.box S.ep cs)], S.ep + 1)
  | .fieldAddr T x f => (P.underlying T).bind fun
    | .struct fs => (fs[f]?).bind fun fd => if P.cellsOf fd.type = 0 then none else (ev1 S x).bind fun p => (ptrAdd S.mem fd.offset p).bind fun q => some (.one q, S.mem, S.ep)
    | _ => none
  | .field T x f => (P.underlying T).bind fun
    | .struct fs => (fs[f]?).bind fun fd => (ev S x).bind fun
      | .agg cs => (part1 P fd.type cs fd.offset).bind fun r => some (r, S.mem, S.ep)
      | _ => none
    | _ => none
  | .index T x i => (evL S i).bind fun n => match ev S x with
    | some (.agg cs) => (P.underlying T).bind fun
      | .array len e => (natOf n).bind fun j => if j < len then (part1 P e cs (j * P.cellsOf e)).bind fun r => some (r, S.mem, S.ep) else none
      | _ => none
    | some (.one (.lit v)) => (quiet P (Instr.index T v n)).bind fun v => (lift v).bind fun r => some (r, S.mem, S.ep)
    | _ => none
  | .indexAddr T x i => (evL S i).bind fun n => (natOf n).bind fun j => (ev1 S x).bind fun p => (P.underlying T).bind fun
    | .slice e => if P.cellsOf e = 0 then none else match p with
      | .sl false e' rows => if e' = e then (rows[j]?).bind fun row => some (.one (.rp row 0), S.mem, S.ep) else none
      | .vw id cv pp e' rows => if e' = e ∧ seenC S.mem id cv = true then (rows[j]?).bind fun row => some (.one (ptrIn pp id cv e j row), S.mem, S.ep) else none
      | .ow id hv => (rowsH S.mem id hv).bind fun b => if j < b.2.2.length ∧ b.2.1 = e then some (.one (.ip id hv j 0), S.mem, S.ep) else none
      | _ => none
    | .array len e => if P.cellsOf e = 0 then none else if j < len then (idxA S.mem len (P.cellsOf e) j p).bind fun q => some (.one q, S.mem, S.ep) else none
    | _ => none
  | .build T parts => (zeroV P T).bind fun zs => (partsV S parts.toList).bind fun ps => (P.underlying T).bind fun
    | .struct fs => (fs.toList.mapM (fun f => (P.info? f.type).map fun i => (f.offset, i.size))).bind fun places => (fillV (places[·]?) zs ps).bind fun cs => some (.agg cs, S.mem, S.ep)
    | .array _ e => (P.info? e).bind fun i => (fillV (fun k => some (k * i.size, i.size)) zs ps).bind fun cs => some (.agg cs, S.mem, S.ep)
    | _ => none
  | .buildSlice T len parts => (P.underlying T).bind fun
    | .slice e => (zeroV P e).bind fun zs => (elemsV S (P.cellsOf e) 0 parts.toList).bind fun rs => (foldR S.mem rs).bind fun q =>
      if len * P.cellsOf e ≤ 16777216 ∧ zs.length = P.cellsOf e ∧ P.cellsOf e ≠ 0 ∧ rs.length = len then
        some (.one (.ow q.2.length S.ep), q.2 ++ [some (.rows S.ep S.ep e q.1)], S.ep + 1) else none
    | _ => none
  | .makeSlice T l c => (P.underlying T).bind fun
    | .slice e => (zeroV P e).bind fun zs => (evL S l).bind fun l => (natOf l).bind fun n => (evL S c).bind fun c => (natOf c).bind fun m =>
      if n = m ∧ m * P.bytesOf e ≤ 140737488355328 ∧ m ≤ 9223372036854775807 ∧ zs.length = P.cellsOf e ∧ P.cellsOf e ≠ 0 then
        some (.one (.ow S.mem.length S.ep), S.mem ++ [some (.rows S.ep S.ep e (List.replicate n zs))], S.ep + 1) else none
    | _ => none
  | .slice T x lo hi none => (ev1 S x).bind fun
    | .lit v => (P.underlying T).bind fun
      | .string => (match lo with | none => some none | some y => (evL S y).map some).bind fun lo => (match hi with | none => some none | some y => (evL S y).map some).bind fun hi =>
        (quiet P (Instr.slice T v lo hi none)).bind fun v => (lift v).bind fun r => some (r, S.mem, S.ep)
      | _ => none
    | .sl false e rows => (optN S 0 lo).bind fun l => (optN S rows.length hi).bind fun h => (P.underlying T).bind fun
      | .slice e' => if l ≤ h ∧ h ≤ rows.length ∧ e' = e ∧ P.cellsOf e ≠ 0 then some (.one (.sl false e ((rows.take h).drop l)), S.mem, S.ep) else none
      | _ => none
    | .vw id cv _ e rows => (optN S 0 lo).bind fun l => (optN S rows.length hi).bind fun h => (P.underlying T).bind fun
      | .slice e' => if l ≤ h ∧ h ≤ rows.length ∧ e' = e ∧ P.cellsOf e ≠ 0 ∧ seenC S.mem id cv = true then some (.one (.vw id cv none e ((rows.take h).drop l)), S.mem, S.ep) else none
      | _ => none
    | .ow id hv => (rowsH S.mem id hv).bind fun b => (optN S 0 lo).bind fun l => (optN S b.2.2.length hi).bind fun h => (P.underlying T).bind fun
      | .slice e' => if l ≤ h ∧ h ≤ b.2.2.length ∧ e' = b.2.1 ∧ P.cellsOf e' ≠ 0 then
          (if l = 0 then some (.one (.ow id S.ep), S.mem.set id (some (.rows S.ep b.1 b.2.1 (b.2.2.take h))), S.ep + 1)
           else some (.one (.sl false b.2.1 (erRows ((b.2.2.take h).drop l))), S.mem.set id none, S.ep)) else none
      | _ => none
    | _ => none
  | .makeFunc fn first captured => match fn with
    | .func g => if first.size = 0 then (ev1s S captured.toList).bind fun cs => some (.one (.cl g cs), S.mem, S.ep) else none
    | _ => none
  | .nilCheck x => (ev1 S x).bind fun
    | .lit (.func (.func g) first cap) => some (.one (.lit (.func (.func g) first cap)), S.mem, S.ep)
    | .cl g cs => some (.one (.cl g cs), S.mem, S.ep)
    | p => (ptrAdd S.mem 0 p).bind fun _ => some (.one p, S.mem, S.ep)
  | .extract x i => (ev S x).bind fun
    | .tup l => (l[i]?).bind fun v => some (v, S.mem, S.ep)
    | _ => none
  | .call c => match c.callee with
    | .builtin b => stepB P S b c.args.toList c.argTypes.toList
    | _ => none
  | _ => none

/-- What only computes and reads. -/
def quietKind (o : Oper) : Bool := match o.op with
  | .move _ | .assign _ | .pick .. | .binOp .. | .unOp .. | .convert .. | .load .. | .fieldAddr .. | .field .. | .index .. | .indexAddr .. | .extract .. | .build .. | .nilCheck _ | .makeFunc .. => true
  | .call c => match c.callee with
    | .builtin .len | .builtin .min | .builtin .max => true
    | _ => false
  | _ => false

/-- What touches nothing that was there. -/
def freshKind (o : Oper) : Bool := quietKind o || match o.op with
  | .box .. | .alloc _ | .buildSlice .. | .makeSlice .. => true
  | _ => false

def evs (S : St) : List Operand → Option (List TV)
  | [] => some []
  | x :: xs => (ev S x).bind fun v => (evs S xs).bind fun vs => some (v :: vs)
abbrev Cal := Nat → List TV → Mem → Nat → Option (TV × Mem × Nat)
def putT (S : St) (dst : Option Tmp) (r : TV × Mem × Nat) : St := match dst with
  | some d => ⟨(d, r.1) :: S.tm, r.2.1, r.2.2⟩
  | none => ⟨S.tm, r.2.1, r.2.2⟩
/-- Whether an operation runs. -/
def wants (S : St) (ops : Array Oper) (o : Oper) : Option Bool := match o.guard with
  | none => some true
  | some (j, want) => (ops[j]?).bind fun oj => oj.dst.bind fun d => (look S.tm d).bind fun
    | .one (.lit (.bool b)) => some (b == want)
    | .tup [] => some false
    | _ => none
def runOp (P : Program) (cal : Cal) (S : St) (o : Oper) : Option St := match o.op with
  | .store T x v => (ev1 S x).bind fun p => (ev S v).bind fun tv => tv.cells.bind fun cs => if cs.length = P.cellsOf T ∧ P.cellsOf T ≠ 0 ∧ o.dst = none then (stV S.mem S.ep p cs).bind fun q => some ⟨S.tm, q.1, q.2⟩ else none
  | .call { callee := .value f, args := args, argTypes := _ } => (ev1 S f).bind fun
    | .lit (.func (.func g) first cap) => if first.size = 0 ∧ cap.size = 0 then (evs S args.toList).bind fun vs => (cal g vs S.mem S.ep).bind fun r => some (putT S o.dst r) else none
    | .cl g cs => (evs S args.toList).bind fun vs => (cal g (vs ++ cs.map .one) S.mem S.ep).bind fun r => some (putT S o.dst r)
    | _ => none
  | _ => (stepOp P S o).bind fun r => some (putT S o.dst r)
def runOps (P : Program) (cal : Cal) (ops : Array Oper) : List Oper → St → Option St
  | [], S => some S
  | o :: rest, S => (wants S ops o).bind fun b => if b then (runOp P cal S o).bind (runOps P cal ops rest) else runOps P cal ops rest (putT S o.dst (.tup [], S.mem, S.ep))

def isCall (o : Oper) : Bool := match o.op with
  | .call c => match c.callee with
    | .value _ => true
    | _ => false
  | _ => false
/-- The order in which a region that draws is run: first what only computes and reads, then what stands alone. -/
def takesF (pr : Nat → Bool) (ops : Array Oper) : Nat → Array Bool → List Nat × Array Bool
  | 0, l => ([], l)
  | n + 1, l => match (Region.ready .any ops l).find? fun i => (ops[i]?).elim false quietKind && Region.free .any ops l i && pr i with
    | some i => (i :: (takesF pr ops n (l.setIfInBounds i true)).1, (takesF pr ops n (l.setIfInBounds i true)).2)
    | none => ([], l)
/-- What looks at no memory, but hands on or names a place. -/
def addrKind (o : Oper) : Bool := match o.op with
  | .move _ | .assign _ | .nilCheck _ | .fieldAddr .. => true
  | _ => false
/-- What computes with numbers, texts and truths alone, or looks at no memory: wherever it comes up. -/
def litKind (o : Oper) : Bool := match o.op with
  | .binOp .. | .unOp .. => true
  | _ => addrKind o
/-- What reads memory, or is wanted by what does. -/
def wantedBy (ops : Array Oper) (i : Nat) : Bool := (ops[i]?).elim false (fun o => !litKind o) || (List.range ops.size).any fun j => (ops[j]?).elim false (fun o => quietKind o && !litKind o) && VmLast.Region.reachB .any ops i ops.size j
def singF (ops : Array Oper) : Nat → Array Bool → Option (List Nat)
  | 0, _ => some []
  | n + 1, l => match Region.ready .any ops l with
    | [] => some []
    | [i] => (singF ops n (l.setIfInBounds i true)).map (i :: ·)
    | is => match is.find? fun i => (ops[i]?).elim false litKind && VmLast.anyB .any ops l (l.setIfInBounds i true) i with
      | some i => (singF ops n (l.setIfInBounds i true)).map (i :: ·)
      | none => none
def chkT (ops : Array Oper) (ds : List Nat) : List Nat → Array Bool → Bool
  | [], _ => true
  | i :: r, l => VmLast.takeB .any ops ds l (l.setIfInBounds i true) i && (ops[i]?).elim false quietKind && chkT ops ds r (l.setIfInBounds i true)
def chkS (ops : Array Oper) (ds : List Nat) : List Nat → Array Bool → Bool
  | [], l => Region.ready .any ops l == []
  | i :: r, l => ((Region.ready .any ops l == [i] && (ds.contains i || (ops[i]?).elim false fun o => freshKind o || isCall o)) || ((ops[i]?).elim false litKind && VmLast.anyB .any ops l (l.setIfInBounds i true) i)) && chkS ops ds r (l.setIfInBounds i true)
def marked (l : Array Bool) : List Nat → Array Bool
  | [] => l
  | i :: r => marked (l.setIfInBounds i true) r
/-- The last ones, so far as each is behind all that only reads. -/
def cutD (ds : List Nat) (s : List Nat) : List Nat × List Nat := let k := s.length - (s.reverse.takeWhile ds.contains).length
  (s.take k, s.drop k)
def drawnT (pr : Nat → Bool) (ops : Array Oper) : Option (List Nat × List Nat) :=
  let l0 := Array.replicate ops.size false
  let t := takesF pr ops ops.size l0
  (singF ops ops.size t.2).bind fun s =>
    let ds := s.filter fun j => t.1.all fun i => VmLast.Region.reachB .any ops i ops.size j
    if t.1.length + s.length ≤ ops.size ∧ chkT ops ds t.1 l0 = true ∧ chkS ops ds s (marked l0 t.1) = true ∧ (cutD ds s).2.all ds.contains = true then some (t.1 ++ (cutD ds s).1, (cutD ds s).2) else none
def drawn (ops : Array Oper) : Option (List Nat × List Nat) := match drawnT (fun _ => true) ops with
  | some p => some p
  | none => drawnT (wantedBy ops) ops
/-- All orders of what is left, where more than one comes up at once. -/
def ordsF (ops : Array Oper) : Nat → Array Bool → Option (List (List Nat))
  | 0, _ => some [[]]
  | n + 1, l => match Region.ready .any ops l with
    | [] => some [[]]
    | is => match is.find? fun i => (ops[i]?).elim false litKind && VmLast.anyB .any ops l (l.setIfInBounds i true) i with
      | some i => (ordsF ops n (l.setIfInBounds i true)).map (List.map (i :: ·))
      | none => (is.mapM fun i => (ordsF ops n (l.setIfInBounds i true)).map (List.map (i :: ·))).map List.flatten
def tails (i : Nat) : List (List Nat) → List (List Nat)
  | [] => []
  | [] :: os => tails i os
  | (j :: r) :: os => if j = i then r :: tails i os else tails i os
def chkO (ops : Array Oper) (ds : List Nat) : Nat → List (List Nat) → Array Bool → Bool
  | 0, os, l => Region.ready .any ops l == [] && os.contains []
  | n + 1, os, l => (Region.ready .any ops l == [] && os.contains []) ||
    ((Region.ready .any ops l).any fun i => (ops[i]?).elim false litKind && VmLast.anyB .any ops l (l.setIfInBounds i true) i && !(tails i os).isEmpty && chkO ops ds n (tails i os) (l.setIfInBounds i true)) ||
    (!(Region.ready .any ops l).isEmpty && (Region.ready .any ops l).all fun i => (ds.contains i || (ops[i]?).elim false fun o => freshKind o || isCall o) && !(tails i os).isEmpty && chkO ops ds n (tails i os) (l.setIfInBounds i true))
/-- What reads, and what does not wait for it writes nothing that was there. -/
def calm (ops : Array Oper) (i : Nat) : Bool := (List.range ops.size).all fun j => VmLast.Region.reachB .any ops i ops.size j || (ops[j]?).elim true fun o => freshKind o || isCall o
/-- First what only reads; then all orders of the rest. -/
def drawnM (ops : Array Oper) : Option (List Nat × List (List Nat)) :=
  let l0 := Array.replicate ops.size false
  let t := takesF (calm ops) ops ops.size l0
  (ordsF ops (ops.size - t.1.length) t.2).bind fun os =>
    let ds := (List.range ops.size).filter fun j => t.1.all fun i => VmLast.Region.reachB .any ops i ops.size j
    if t.1.length ≤ ops.size ∧ chkT ops ds t.1 l0 = true ∧ chkO ops ds (ops.size - t.1.length) os (marked l0 t.1) = true then some (t.1, os) else none
def runI (P : Program) (cal : Cal) (ops : Array Oper) : List Nat → St → Option St
  | [], S => some S
  | i :: rest, S => (ops[i]?).bind fun o => (wants S ops o).bind fun b => if b then (runOp P cal S o).bind (runI P cal ops rest) else runI P cal ops rest (putT S o.dst (.tup [], S.mem, S.ep))

/-- What may be called where the order is left open: what writes nothing that was there. -/
def cal1 (cal : Cal) : Cal := fun g vs mem ep => (cal g vs mem ep).bind fun r => if r.2.2 = ep + 1 then some r else none

/-- A nil slice, seen as an own one without rows: in temporary t, or in cell j of the box that it leads to. -/
def nil1 (t j e : Nat) (S : St) : St := match look S.tm t with
  | some (.one (.lit (.slice none 0 0))) => ⟨(t, .one (.ow S.mem.length S.ep)) :: S.tm, S.mem ++ [some (.rows S.ep S.ep e [])], S.ep + 1⟩
  | some (.one (.bp id bv off)) => match boxOf S.mem id bv with
    | some cells => match cells[off + j]? with
      | some (.lit (.slice none 0 0)) => ⟨S.tm, ((S.mem ++ [some (Blk.rows S.ep S.ep e [])] : Mem)).set id (some (.box bv (cells.set (off + j) (.ow S.mem.length S.ep)))), S.ep + 1⟩
      | _ => S
    | none => S
  | _ => S
def nilS : List Nat → St → St
  | t :: j :: e :: r, S => nilS r (nil1 t j e S)
  | _, S => S
/-- What a hint aims at: cell j of the box that temporary t leads to, or of the struct that it holds; or what it holds. -/
def cellAt (S : St) (t j : Nat) : Option V := match look S.tm t with
  | some (.one (.bp id bv off)) => (boxOf S.mem id bv).bind (·[off + j]?)
  | some (.agg cs) => cs[j]?
  | some (.one v) => some v
  | _ => none
def setAt (S : St) (t j : Nat) (v : V) : St := match look S.tm t with
  | some (.one (.bp id bv off)) => match boxOf S.mem id bv with
    | some cells => ⟨S.tm, S.mem.set id (some (.box bv (cells.set (off + j) v))), S.ep⟩
    | none => S
  | some (.agg cs) => ⟨(t, .agg (cs.set j v)) :: S.tm, S.mem, S.ep⟩
  | some (.one _) => ⟨(t, .one v) :: S.tm, S.mem, S.ep⟩
  | _ => S
/-- A nil slice in cell j of a row, as an own one of type x. -/
def nzRow (j x : Nat) (row : List V) : List V := match row[j]? with
  | some (.lit (.slice none 0 0)) => row.set j (.sl (decide (x < 1000000)) (x % 1000000) [])
  | _ => row
/-- A change of view. 4: nil slices in cell j of each row are own ones of type x (with a million more: such as are read alone). 0: a nil slice is an own one of type x; 1: an own one is block x; 2: an own one is to be read alone; 3: a nil slice, to be read alone, of type x. -/
def hint1 (kind t j x : Nat) (S : St) : St := match cellAt S t j with
  | some (.lit (.slice none 0 0)) => if kind = 0 then setAt ⟨S.tm, S.mem ++ [some (.rows S.ep S.ep x [])], S.ep + 1⟩ t j (.ow S.mem.length S.ep) else if kind = 3 then setAt S t j (.sl false x []) else S
  | some (.ow id hv) => match rowsH S.mem id hv with
    | some b => if kind = 1 then (if 0 < x ∧ x < S.mem.length then setAt ⟨S.tm, ((S.mem.set id none).set x none).set x (some (.rows S.ep S.ep b.2.1 b.2.2)), S.ep + 1⟩ t j (.ow x S.ep) else S)
      else if kind = 2 then setAt ⟨S.tm, S.mem.set id none, S.ep⟩ t j (.sl false b.2.1 (erRows b.2.2)) else S
    | none => S
  | _ => S
def hint4 (t j x : Nat) (S : St) : St := match look S.tm t with
  | some (.one (.ow id hv)) => match rowsH S.mem id hv with
    | some b => ⟨S.tm, S.mem.set id (some (.rows hv b.1 b.2.1 (b.2.2.map (nzRow j x)))), S.ep⟩
    | none => S
  | _ => S
/-- The same, one level deeper: in the rows of the own slice in cell j. -/
def nzDeep (j x : Nat) (row : List V) : List V := match row[j]? with
  | some (.sl true e rows) => row.set j (.sl true e (rows.map (nzRow 0 x)))
  | _ => row
def hint5 (t j x : Nat) (S : St) : St := match look S.tm t with
  | some (.one (.ow id hv)) => match rowsH S.mem id hv with
    | some b => ⟨S.tm, S.mem.set id (some (.rows hv S.ep b.2.1 (b.2.2.map (nzDeep j x)))), S.ep + 1⟩
    | none => S
  | _ => S
def hintS : List Nat → St → St
  | k :: t :: j :: x :: r, S => hintS r (if k = 4 then hint4 t j x S else if k = 5 then hint5 t j x S else hint1 k t j x S)
  | _, S => S
def finH (ann : List Nat × Nat) (S : St) : St := if ann.2 = 8888888 then hintS ann.1 S else S
/-- Behind a region: what lm names at its number and a million, marked by 7777777. -/
def fin (ann : List Nat × Nat) (S : St) : St := if ann.2 = 7777777 then nilS ann.1 S else finH ann S

inductive X where
  | norm
  | exit (id : Nat)
  | ret

def iter (step : St → Option (X × St)) : Nat → St → Option (X × St)
  | 0, _ => none
  | k + 1, S => (step S).bind fun r => match r.1 with
    | .norm => iter step k r.2
    | x => some (x, r.2)
/-- What is kept at a loop's head: some temporaries, and so many blocks. -/
def keep (n0 : Nat) (ann : List Nat × Nat) (S : St) : St := ⟨ann.1.filterMap fun t => (look S.tm t).map fun v => (t, v), S.mem.take (n0 + ann.2), S.ep⟩

/-- Rounds, ahead of each of which the state is trimmed. -/
def iterF (step : St → Option (X × St)) (kf : St → St) : Nat → St → Option (X × St)
  | 0, _ => none
  | k + 1, S => (step (kf S)).bind fun r => match r.1 with
    | .norm => iterF step kf k r.2
    | x => some (x, r.2)
def keepF (n0 : Nat) (lm : Nat → List Nat × Nat) (b : Nat) (S : St) : St := keep n0 (lm b) (finH (lm (b + 2000000)) S)
/-- How a loop is left. -/
def endF (n0 : Nat) (lm : Nat → List Nat × Nat) (b : Nat) (r : X × St) : X × St := match r.1 with
  | .ret => r
  | x => (x, keep n0 (lm (b + 3000000)) (finH (lm (b + 4000000)) r.2))
/-- All orders come to the same. -/
noncomputable def sameO (P : Program) (cal : Cal) (ops : Array Oper) (nf : St → St) (S S1 : St) : List (List Nat) → Option St
  | [] => some S1
  | o :: r => (runI P cal ops o S).bind fun S2 => open Classical in if nf S2 = S1 then sameO P cal ops nf S S1 r else none
noncomputable def allO (P : Program) (cal : Cal) (ops : Array Oper) (nf : St → St) (S : St) : List (List Nat) → Option St
  | [] => none
  | o :: r => (runI P cal ops o S).bind fun S1 => sameO P cal ops nf S (nf S1) r
noncomputable def regD (P : Program) (cal : Cal) (ops : Array Oper) (nf : St → St) (S : St) : Option (X × St) := match drawn ops with
  | some p => (runI P (cal1 cal) ops p.1 S).bind fun S' => (runI P cal ops p.2 S').bind fun S'' => some (.norm, S'')
  | none => (drawnM ops).bind fun p => (runI P (cal1 cal) ops p.1 S).bind fun S' => (allO P (cal1 cal) ops nf S' p.2).bind fun S'' => some (.norm, S'')
def normF (n0 : Nat) (lm : Nat → List Nat × Nat) (id : Nat) (S : St) : St := keep n0 (lm (id + 6000000)) (finH (lm (id + 7000000)) S)
/-- k: rounds; n0: the blocks ahead of the call; lm: what is kept at each loop's head, by its block's number. -/
noncomputable def exec (P : Program) (cal : Cal) (k n0 : Nat) (lm : Nat → List Nat × Nat) : Nat → Code → St → Option (X × St)
  | _, .skip, S => some (.norm, S)
  | _, .region id ops draw, S => (if draw then regD P cal ops (normF n0 lm id) S else (runOps P cal ops ops.toList S).bind fun S' => some (.norm, S')).bind fun r => some (r.1, fin (lm (id + 1000000)) r.2)
  | b, .seq x y, S => (exec P cal k n0 lm b x S).bind fun r => match r.1 with
    | .norm => exec P cal k n0 lm b y r.2
    | e => some (e, r.2)
  | b, .cond c x y, S => (evL S c).bind fun
    | .bool t => if t then exec P cal k n0 lm b x S else exec P cal k n0 lm b y S
    | _ => none
  | _, .block id c, S => (exec P cal k n0 lm id c S).bind fun r => match r.1 with
    | .exit id' => if id' = id then some (.norm, r.2) else some (.exit id', r.2)
    | e => some (e, r.2)
  | b, .loop c, S => if (lm (b + 2000000)).2 = 8888888 then (iterF (fun S => exec P cal k n0 lm b c S) (keepF n0 lm b) k S).bind fun r => some (endF n0 lm b r) else (iter (fun S => exec P cal k n0 lm b c (keep n0 (lm b) S)) k S).bind fun r => some (r.1, keep n0 (lm b) r.2)
  | _, .exit id, S => some (.exit id, S)
  | _, .ret, S => some (.ret, S)
  | _, _, _ => none

def resV (P : Program) (S : St) : ResultVar → Option TV
  | .tmp t => look S.tm t
  | .cell a T => if P.cellsOf T = 0 then none else (ev1 S (.tmp a)).bind fun p => loadV P S.mem T p
def resL (P : Program) (S : St) : List ResultVar → Option (List TV)
  | [] => some []
  | x :: xs => (resV P S x).bind fun v => (resL P S xs).bind fun vs => some (v :: vs)
def resT (P : Program) (S : St) (fn : Func) : Option TV := (resL P S fn.results.toList).bind fun
  | [v] => some v
  | l => some (.tup l)
/-- Whether all that is written lies among so many temporaries. -/
def dstOk (nt : Nat) (o : Oper) : Bool := match o.dst with
  | some d => decide (d < nt)
  | none => true
def dsts (nt : Nat) : Code → Bool
  | .region _ ops _ => ops.toList.all (dstOk nt)
  | .seq x y => dsts nt x && dsts nt y
  | .cond _ x y => dsts nt x && dsts nt y
  | .block _ c => dsts nt c
  | .loop c => dsts nt c
  | _ => true
/-- The arguments in their slots. -/
def slots : Nat → List TV → List (Nat × TV)
  | _, [] => []
  | k, v :: vs => (k, v) :: slots (k + 1) vs
/-- A function's body, run. -/
noncomputable def body (P : Program) (cal : Cal) (k : Nat) (lm : Nat → List Nat × Nat) (fn : Func) (args : List TV) (mem : Mem) (ep : Nat) : Option (TV × Mem × Nat) := fn.body.bind fun c =>
  (exec P cal k mem.length lm 0 c ⟨slots 0 args, mem, ep⟩).bind fun r => match r.1 with
    | .exit _ => none
    | _ => (resT P (finH (lm 5000000) r.2) fn).bind fun v => some (v, (finH (lm 5000000) r.2).mem, (finH (lm 5000000) r.2).ep)
end Go.Proofs.Ytanglbgincgmaaa.Vm
