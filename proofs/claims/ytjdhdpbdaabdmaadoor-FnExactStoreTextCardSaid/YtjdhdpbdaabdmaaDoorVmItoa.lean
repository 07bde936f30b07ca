/-
  strconv.Itoa by the shelf's contract: what a call of the library tells the small machine; impl.Digits.
-/
import Derived.Test.YtjdhdpbdaabdmaaDoorVmSim
import Derived.Test.YtjdhdpbdaabdmaaDoorShelf
import Derived.Lib.ItoaLen
import Derived.Lib.AppendIntMem
namespace Go.Proofs.YtjdhdpbdaabdmaaDoor.Vm
open Go Go.RowKit Go.Proofs
set_option linter.unusedVariables false
set_option linter.unusedSimpArgs false
set_option maxHeartbeats 4000000
/-- A function of numbers, truths and texts that is known by a contract of the shelf. -/
theorem Fn.lits {P : Program} {g : Nat} {J : World → Prop} {α : Type} {vals : α → List Value} {ok : α → Prop} {r : α → Value} (hf : ∃ fn, P.funcs[g]? = some fn ∧ (fn.name == "runtime.NumGoroutine") = false ∧ fn.body.isNone = false)
    (h1 : ∀ a, (r a).oneCell' = true) (h : ∀ a, ok a → ∀ w, J w → Calls P g (vals a).toArray w fun e w' => e = .returned (r a) ∧ Below w.heap.size w w') :
    Fn P g (Vm.con (fun a => (vals a).map fun v => TV.one (.lit v)) ok (fun a => ((false, [none]), [.lit (r a)]))) J := by
  refine ⟨hf, fun vs q hq R w ys hJ hl ha => ?_⟩
  obtain ⟨a, rfl, hok, rfl⟩ := con_of hq
  have hys : ys = (vals a).toArray := by
    apply Array.ext_getElem?
    intro j
    rcases Nat.lt_or_ge j (vals a).length with hj | hj
    · have hj2 : j < ys.size := by rw [hl]; simpa using hj
      have := ha j _ ys[j] (by rw [List.getElem?_map, List.getElem?_eq_getElem hj]; rfl) (Array.getElem?_eq_getElem hj2)
      cases this with
      | one hb hr =>
        rw [Array.getElem?_eq_getElem hj2]
        generalize ys[j] = y at hr
        cases hr with
        | lit _ => simp [hj]
    · rw [Array.getElem?_eq_none (by rw [hl]; simpa using hj), Array.getElem?_eq_none (by simpa using hj)]
  subst hys
  refine (h a hok w hJ).mono ?_
  rintro e w' ⟨rfl, hb⟩
  refine ⟨r a, rfl, hb, fun _ => 0, [r a], rfl, fun mem ep m w2 cs hcl hc => ?_, fun j u y hu hy => ?_⟩
  · obtain ⟨c, rfl⟩ : ∃ c, cs = [c] := by
      cases cs with
      | nil => simp at hcl
      | cons c cs => cases cs with | nil => exact ⟨c, rfl⟩ | cons => simp at hcl
    exact .one (hc 0 c (r a) rfl rfl)
  · cases j with
    | zero =>
      simp only [List.getElem?_cons_zero, Option.some.injEq] at hu hy
      subst hu; subst hy
      exact .lit (h1 a)
    | succ j => simp at hu
theorem below_grow {w : World} (k : Nat) (os : Array Obj) : Below w.heap.size w (Go.Sort.grow (w.drewN k) os) := ⟨rfl, rfl, rfl, by simp [Go.Sort.grow, World.drewN], fun j hj => by simp [Go.Sort.grow, World.drewN, Array.getElem?_append_left hj]⟩
/-- The library's table is laid. -/
abbrev Tab (w : World) : Prop := Lib.TabIs Tryd.prog w "internal/strconv.uint64pow10" .u64 Lib.pow10Tab
theorem stab_tab : Stab Tab := fun w w' h hb => Lib.tabBelow_of_tabIs h w' hb
def dig (n : Int) : ByteArray := bs (Lib.itoa n)
abbrev i64 (n : Int) : Prop := -9223372036854775808 ≤ n ∧ n ≤ 9223372036854775807
theorem dig_size {n : Int} (h : i64 n) : (dig n).size ≤ 21 := by unfold dig; rw [bs_size]; exact Lib.itoa_length_le n h.1 h.2
noncomputable def FDig : Con := con (fun n : Int => [.one (.lit (.int .i64 n))]) i64 (fun n => ((false, [none]), [.lit (.string (dig n))]))
theorem fn_Itoa : Fn Tryd.prog 52 FDig Tab :=
  Fn.lits (vals := fun n : Int => [.int .i64 n]) (r := fun n => .string (dig n)) ⟨_, Tryd.func52, rfl, rfl⟩ (fun _ => rfl) (fun n h w hJ => (Tryd.strconv_Itoa n h.1 h.2 w hJ).mono (by
    rintro e w' ⟨rfl, k, os, rfl⟩
    exact ⟨rfl, below_grow k os⟩))
theorem callDig {n : Int} (h : i64 n) : FDig [.one (.lit (.int .i64 n))] = some ((false, [none]), [.lit (.string (dig n))]) :=
  con_at (arg := fun n : Int => [.one (.lit (.int .i64 n))]) (by intro a b h; simpa using h) h
theorem fn_iDigits : Fn Tryd.prog 25 FDig Tab := by
  refine Fn.con [(52, FDig)] (by simp [fn_Itoa]) mixed (fn := Tryd.f25) Tryd.func25 rfl rfl (by kernel_rfl) 1 (by decide) (fun _ => rfl) (fun _ => ([], 0)) (fun n hn => ⟨1, ?_⟩) stab_tab
  have hcall := callDig hn
  simp (implicitDefEqProofs := false) [-getElem?_pos, -getElem?_neg, Tryd.f25, hcall]
end Go.Proofs.YtjdhdpbdaabdmaaDoor.Vm
