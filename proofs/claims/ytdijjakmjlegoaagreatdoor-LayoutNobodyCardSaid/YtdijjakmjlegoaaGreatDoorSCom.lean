/-
  WHAT ALL CARDS OF THIS SEAT WANT: a world that holds the library's two listed tables; arguments as rows of cells of whatever content.
-/
import Derived.Test.YtdijjakmjlegoaaGreatDoorCards
import Derived.Test.YtdijjakmjlegoaaGreatDoorTie
import Derived.WalkKit
import Derived.ProofKit
import Derived.OpenShut
import Derived.Deep.DeepHandedRow
import Derived.Test.YtdijjakmjlegoaaGreatDoorSEnv
namespace Go.Proofs.YtdijjakmjlegoaaGreatDoor
open Go Go.ChangeShapes Go.WideShapes Go.ChangeAt Go.RowKit Go.Ev

theorem own : ownKnob Tryz.prog.godebug = none := by kernel_rfl
theorem laidOut : laidOutB Tryz.prog = true := by kernel_rfl
def litCell : DataW Unit → List Value
  | .lit (.int k n) => [.int k n]
  | _ => []
def rowCells : DataW Unit → List Value
  | .agg ps => ps.flatMap litCell
  | _ => []
def gridCells : DataW Unit → List Value
  | .agg ps => ps.flatMap rowCells
  | _ => []
/-- a row of cells laid anew -/
def layCells (cs : List Value) : Obj → Obj
  | .cells _ t fz => .cells cs.toArray t fz
  | o => o
/-- A WORLD FOR THE WITNESS: the settled one, the two tables holding what they are listed as. -/
noncomputable def laidWorld (os : Os) : World :=
  { World.holding Tryz.prog os ⟨#[], #[], []⟩ with heap := ((World.holding Tryz.prog os ⟨#[], #[], []⟩).heap.modify 7 (layCells (rowCells Rows.laid_unicode_utf8_first))).modify 8 (layCells (gridCells Rows.laid_unicode_utf8_acceptRanges)) }
/-- one value is one cell -/
theorem one_of_ok {P : Program} {w : World} {r : Reach} {b : Nat} {t : TypeId} {v : Value} (h : Cell.okWide P w r b t v) : v.oneCell' = true := by
  unfold Cell.okWide Cell.ok at h
  cases v <;> first | rfl | (exfalso; revert h; cases P.underlying t with
    | none => simp
    | some d => cases d <;> simp)
theorem unk_of_ok {P : Program} {ρ : Rho} {w : World} {r : Reach} {b : Nat} {t : TypeId} {n : Nat} {cs : Array Value} (h : Row.okWide P w r b t cs) (hn : cs.size = n) : VRs P ρ (List.replicate n .unk) cs.toList := by
  obtain ⟨ts, _, _, h3⟩ := h
  refine VRs.of_get (by simpa using hn.symm) fun i v u hv hu => ?_
  have hv' : v = .unk := by
    have := List.mem_of_getElem? hv
    exact List.eq_of_mem_replicate this
  subst hv'
  rw [Array.getElem?_toList] at hu
  obtain ⟨_, _, h4⟩ := h3 i u hu
  exact .unk _ (one_of_ok h4)
/-- the evaluator's word, of arguments too -/
theorem run_args {n nx : Nat} {f : FuncId} {args : List AV} {args' : Array Value} {w : World} (ha : VRs Tryz.prog (fun _ => none) args args'.toList) (hev : yes ((ev EE n).call f args none ⟨emp AB 4, nx⟩) = true) :
    Calls Tryz.prog f args' w fun e w' => e = .returned (.bool true) ∧ Below w.heap.size w w' := by
  obtain ⟨h', pn, h⟩ := yes_inv hev
  have hwr : WR Tryz.prog w (fun _ => none) ⟨emp AB 4, nx⟩ w := ⟨⟨(fun b ab x _ h => by cases h), (fun b b' ab ab' x x' _ _ h => by cases h), (fun b x h => by cases h)⟩, (fun b x h => by cases h), Below.refl _ _⟩
  refine (ev_call env_ok (does_all env_ok) hwr (fun _ _ => rfl) ha h).mono fun e w' ⟨v', ρ', he, hv, _, hw, _⟩ => ?_
  cases hv
  exact ⟨he, hw.below⟩
end Go.Proofs.YtdijjakmjlegoaaGreatDoor
