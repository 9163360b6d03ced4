/-
  CLOSED FACTS that all cards of this seat want: nothing starts a goroutine.
-/
import Derived.Test.YtdijjakmjlegoaaGreatDoorCards
import Derived.Test.YtdijjakmjlegoaaGreatDoorTie
import Derived.ProofKit
import Derived.Deep.DeepHandedRow
namespace Go.Proofs.YtdijjakmjlegoaaGreatDoor
open Go
theorem and_i {a b : Bool} (h : a = true) (k : b = true) : (a && b) = true := by rw [h, k]; rfl
/-- nothing in the program starts a goroutine -/
theorem no_goes : Tryz.prog.funcs.any Func.goes = false := by kernel_rfl
theorem goes_of {p : Program} (h0 : p.funcs.any Func.goes = false) (f : FuncId) : p.goes f = false := by
  unfold Program.goes
  rw [h0, Bool.and_false, Bool.or_false]
  rw [List.any_eq_false]
  intro g _ h
  rw [Option.any_eq_true] at h
  obtain ⟨fn, hf, hg⟩ := h
  rw [Array.any_eq_false'] at h0
  exact h0 fn (Array.mem_of_getElem? hf) hg
theorem goesFrom_of {p : Program} (h0 : p.funcs.any Func.goes = false) (s : String) : p.goesFrom s = false := by
  unfold Program.goesFrom
  cases p.funcNamed s with
  | none => rfl
  | some f => exact goes_of h0 f
theorem goesFrom_none (s : String) : Tryz.prog.goesFrom s = false := goesFrom_of no_goes s
theorem looks_on : true = Tryz.prog.looks [] := by kernel_rfl
end Go.Proofs.YtdijjakmjlegoaaGreatDoor
