/-
  LayoutNobody, run by the evaluator: of whatever numbers and whatever style: true.
-/
import Derived.Test.YtdijjakmjlegoaaGreatDoorSEnv
namespace Go.Proofs.YtdijjakmjlegoaaGreatDoor
open Go Go.Ev
theorem run4 : yes ((ev EE 3000).call 4 [.unk, .unk, .agg (List.replicate 51 .unk)] none ⟨emp AB 4, 8⟩) = true := by kernel_rfl
end Go.Proofs.YtdijjakmjlegoaaGreatDoor
