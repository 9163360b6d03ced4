/-
  CONVERSIONS between strings and bytes.
-/
import Derived.Test.YtdijjakmjlegoaaGreatDoorEvC
namespace Go.Ev
open Go.RowKit (Below)
variable {P : Program} {E : Env} {ρ ρ' : Rho} {w0 w : World} {Φ : Out → Prop}

theorem alloc_freeze (w : World) (c : Array Value) (e : TypeId) : (w.alloc (.cells c e)).freeze { block := w.heap.size, off := c.size } 1 = w.alloc (.cells c e (c.size, c.size + 1)) := by
  have : (w.heap.push (.cells c e)).modify w.heap.size (fun
      | .cells d elem (lo, hi) => .cells d elem (if lo == hi then (c.size, c.size + 1) else (min lo c.size, max hi (c.size + 1)))
      | o => o) = w.heap.push (.cells c e (c.size, c.size + 1)) := by
    apply Array.ext_getElem?
    intro j
    rw [Array.getElem?_modify, Array.getElem?_push, Array.getElem?_push]
    by_cases h : w.heap.size = j
    · subst h; simp
    · rw [if_neg h]
      have h' : ¬ j = w.heap.size := fun e => h e.symm
      rw [if_neg h', if_neg h']
  show ({ w with heap := _ } : World) = { w with heap := _ }
  congr 1
def strRow (w : World) (e : TypeId) (s : ByteArray) : Array Value :=
  (s.data.map fun b : UInt8 => Value.int .u8 (b.toNat : Int)) ++ Array.replicate (grownCap w s.size 0 e - s.size) (Value.int .u8 0)
theorem run_stringToBytes (e : TypeId) (s : ByteArray) (w : World) : (Conv.stringToBytes e s).run P w =
    .ok (.slice (some ⟨w.heap.size, 0, none⟩) s.size (grownCap w s.size 0 e)) (w.drew.alloc (.cells (strRow w e s) e ((strRow w e s).size, (strRow w e s).size + 1))) := by
  have hsh : (w.drew.alloc (.cells (strRow w e s) e)).shape? w.heap.size = some (e, (strRow w e s).size) := by
    show (match (w.heap.push (.cells (strRow w e s) e))[w.heap.size]? with | some (.cells c el _) => some (el, c.size) | _ => none) = _
    simp
  have hsz : w.drew.heap.size = w.heap.size := rfl
  have hf := alloc_freeze w.drew (strRow w e s) e
  rw [hsz] at hf
  have h1 : (Conv.stringToBytes e s).run P w = (do markStringish ⟨w.heap.size, 0, none⟩; pure (.slice (some ⟨w.heap.size, 0, none⟩) s.size (grownCap w s.size 0 e)) : Sem Value).run P (w.drew.alloc (.cells (strRow w e s) e)) := by
    simp only [Conv.stringToBytes, Sem.run_bind, run_choose_drew, Question.forced, Bool.false_eq_true, if_false, Result.andThen_ok, newRow, run_newObj_alloc, Sem.run_pure]
    rfl
  rw [h1]
  simp only [markStringish, Sem.run_bind, run_shape, hsh, Result.andThen_ok, run_freeze, hf, Sem.run_pure]
theorem toBytes_ok {H : Hp} (hb : ∀ c, Φ (.bad_ c)) (hw : WR P w0 ρ H w) (hf : Fresh ρ H) {e : TypeId} (he : P.cellsOf e = 1) {x : AV} {u : Value} (hx : VR P ρ x u) {K : AV → Hp → Out}
    (h : ∀ ρ' h' w' v q s, u = .string s → Ext H ρ h' ρ' → WR P w0 ρ' h' w' → Fresh ρ' h' → VR P ρ' v q → (Conv.stringToBytes e s).run P w = .ok q w' → Φ (K v h')) : Φ (toBytes e x H K) := by
  refine AV.onStr_ok hb fun p ex => ?_
  subst ex
  obtain ⟨s, rfl, rfl⟩ := hx.str_inv
  rw [forceNat_eq, lenL_eq]
  have hlen : (List.map UInt8.toNat s.data.toList).length = s.size := by simp
  rw [hlen]
  refine bt_ok (fun _ => ?_) (fun _ => hb _)
  have hbr : ∀ ρ', ρ.le ρ' → BR P ρ' (w.drew.heap.size, (strRow w e s).size, e) (.cells (bytesA (s.data.toList.map UInt8.toNat)) e 1) (.cells (strRow w e s) e ((strRow w e s).size, (strRow w e s).size + 1)) := by
    intro ρ' _
    have hrel := bytesA_rel (P := P) (ρ := ρ') s
    have hl := hrel.length
    refine .cells _ e 1 _ _ rfl rfl ?_ (fun i v hv => ?_) (by simp) ⟨by simp, fun e => absurd rfl e, fun _ o ho => by simp; omega⟩
    · simp [strRow, bytesA]
    · obtain ⟨u, hu, hr⟩ := hrel.get hv
      refine ⟨u, ?_, hr⟩
      have hi : i < (s.data.map fun b : UInt8 => Value.int .u8 (b.toNat : Int)).size := by
        rcases Nat.lt_or_ge i (s.data.map fun b : UInt8 => Value.int .u8 (b.toNat : Int)).size with k | k
        · exact k
        · rw [Array.getElem?_toList, Array.getElem?_eq_none k] at hu; cases hu
      unfold strRow
      rw [Array.getElem?_append_left hi, ← Array.getElem?_toList]; exact hu
  refine newB_ok hb hw.drew hf hbr fun ρ' h' b hle hbx hw' hf' _ => h ρ' h' _ _ _ s rfl hle hw' hf' ?_ (run_stringToBytes e s w)
  have hge := grownCap_ge w s.size 0 e
  refine .sl b 0 s.size s.size false (grownCap w s.size 0 e) _ hbx (Nat.le_refl _) hge (by simp) fun _ _ => ?_
  show grownCap w s.size 0 e * P.cellsOf e ≤ (strRow w e s).size
  rw [he, Nat.mul_one]
  simp [strRow]
  omega
end Go.Ev
