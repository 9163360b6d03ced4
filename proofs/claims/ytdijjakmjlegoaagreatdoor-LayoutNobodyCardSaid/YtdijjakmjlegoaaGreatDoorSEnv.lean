/-
  THE EVALUATOR's TABLES FOR THIS SEAT's PROGRAM, and that they are the program's own.
-/
import Derived.Test.YtdijjakmjlegoaaGreatDoorProg
import Derived.KernelRfl
import Derived.Test.YtdijjakmjlegoaaGreatDoorEvAR
namespace Go.Proofs.YtdijjakmjlegoaaGreatDoor
open Go Go.Ev
def eqTypes : List Nat := [7, 8, 27, 28, 29, 30, 33, 34, 36, 37, 43, 44, 51, 52, 54, 55, 63, 64, 65, 66, 67, 68, 76, 77, 80, 81, 93, 94, 99, 100, 109, 110, 128, 129, 135, 136, 138, 139, 145, 146, 158, 159, 162, 163, 165, 166, 168, 169, 176, 177, 178, 179, 180, 181, 191, 192, 194, 195, 225, 226, 229, 230, 237, 238, 250, 251, 252, 253, 275, 276, 284, 285, 301, 302, 315, 316, 324, 325, 334, 335, 338, 339, 348, 349, 353, 354, 389, 390, 435, 436, 453, 454, 455, 456, 474, 475, 486, 487, 505, 506, 516, 517, 566, 567, 582, 583, 640, 641, 657, 658]
noncomputable def EE : Env := ⟨ofList 3 Tryz.funcs.toList, ofList 3 Tryz.types.toList, eqTypes, 376, 400⟩
theorem funcs_len : Tryz.funcs.toList.length = 569 := by kernel_rfl
theorem types_len : Tryz.types.toList.length = 659 := by kernel_rfl
theorem names_ok : (Tryz.funcs.toList.all fun fn => !(fn.name == "runtime.NumGoroutine")) = true := by kernel_rfl
theorem eqs_ok : (EE.eqs.all fun t => !Tryz.prog.stoodInHeld t && !Tryz.prog.eqGuardType Tryz.prog.depth t) = true := by kernel_rfl
theorem mixed_ok : Tryz.prog.follows .mixedOrders = true := by kernel_rfl
theorem noesc_ok (x : Value) (w : World) : (callFunc 376 #[x]).run Tryz.prog w = .ok (.value x) w := by kernel_rfl
def byteSem (s : ByteArray) (c : Int) : Sem Next := do pure (.value (← (match (List.range s.size).find? fun i => s[i]! == c.toNat.toUInt8 with | some i => pure (goInt i) | none => pure (goInt (-1)) : Sem Value)))
theorem idxb_run (s : ByteArray) (c : Int) (w : World) : (callFunc 400 #[.string s, .int .u8 c]).run Tryz.prog w = (byteSem s c).run Tryz.prog w := by kernel_rfl
theorem find_idx (b : ByteArray) (c : Nat) (hc : c < 256) : ∀ (l : List UInt8) (i : Nat), (∀ j, j < l.length → b[i + j]! = l.getD j 0) →
    (match (List.range' i l.length).find? (fun k => b[k]! == c.toUInt8) with | some k => goInt k | none => goInt (-1)) = .int .i64 (match idxOf c (l.map UInt8.toNat) i with | r => r)
  | [], i, h => by simp [idxOf, goInt]
  | x :: l, i, h => by
    have h0 := h 0 (by simp)
    simp only [Nat.add_zero, List.getD_cons_zero] at h0
    have ih := find_idx b c hc l (i + 1) fun j hj => by
      have := h (j + 1) (by simp; omega)
      rw [List.getD_cons_succ] at this
      rw [← this]; congr 1; omega
    rw [List.length_cons, List.range'_succ, List.find?_cons, h0]
    show _ = Value.int .i64 (bt (Nat.beq x.toNat c) (Int.ofNat i) (idxOf c (l.map UInt8.toNat) (i + 1)))
    have hx : (x == c.toUInt8) = Nat.beq x.toNat c := by
      rw [Bool.eq_iff_iff, beq_iff_eq]
      constructor
      · intro e
        subst e
        have : c.toUInt8.toNat = c := by simp; omega
        rw [this]; exact Nat.beq_refl c
      · intro e
        have := Nat.eq_of_beq_eq_true e
        subst this; simp
    rw [hx]
    cases hb : Nat.beq x.toNat c with
    | true => rw [bt_true]; rfl
    | false => rw [bt_false]; exact ih
theorem idxb_ok (s : ByteArray) (c : Nat) (w : World) (hc : c < 256) : (callFunc 400 #[.string s, .int .u8 c]).run Tryz.prog w = .ok (.value (.int .i64 (idxOf c (s.data.toList.map UInt8.toNat) 0))) w := by
  rw [idxb_run]
  have h := find_idx s c hc s.data.toList 0 fun j hj => by
    rw [Nat.zero_add]
    have hj' : j < s.size := hj
    have h2 : j < s.data.size := hj
    rw [getElem!_pos s j hj']
    show s.data[j] = _
    rw [List.getD_eq_getElem?_getD, Array.getElem?_toList, Array.getElem?_eq_getElem h2]; rfl
  have hr : List.range' 0 s.data.toList.length = List.range s.size := by rw [← List.range_eq_range']; simp
  rw [hr] at h
  simp only at h
  rw [← h]
  simp only [byteSem, Sem.run_bind, Int.toNat_natCast]
  cases (List.range s.size).find? (fun k => s[k]! == c.toUInt8) <;> simp
theorem EE_fs : EE.fs = ofList 3 Tryz.funcs.toList := by kernel_rfl
theorem EE_ty : EE.ty = ofList 3 Tryz.types.toList := by kernel_rfl
theorem env_ok : EnvOk Tryz.prog EE where
  fs := fun f fn hf h => by
    have h' := h
    rw [EE_fs] at h'
    rw [ofList_get 3 _ f (by rw [funcs_len]; omega) hf] at h'
    refine ⟨by rw [← Array.getElem?_toList]; exact h', ?_⟩
    have h3 : (!(fn.name == "runtime.NumGoroutine")) = true := List.all_eq_true.1 names_ok fn (List.mem_of_getElem? h')
    cases hq : (fn.name == "runtime.NumGoroutine") with
    | false => rfl
    | true => rw [hq] at h3; cases h3
  ty := fun t i ht h => by
    have h' := h
    unfold info at h'
    rw [EE_ty] at h'
    rw [ofList_get 3 _ t (by rw [types_len]; omega) ht] at h'
    have hlt : t < Tryz.prog.types.size := by
      have h3 : t < Tryz.types.toList.length := (List.getElem?_eq_some_iff.1 h').1
      have h4 : Tryz.types.toList.length = Tryz.prog.types.size := Array.length_toList
      rw [← h4]; exact h3
    have hget : Tryz.prog.types[t]? = some i := by rw [← Array.getElem?_toList]; exact h'
    show Tables.info? Tryz.prog.toTables t = some i
    unfold Tables.info?
    rw [if_pos hlt]; exact hget
  eqs := fun t ht => by
    have h3 : (!Tryz.prog.stoodInHeld t && !Tryz.prog.eqGuardType Tryz.prog.depth t) = true := List.all_eq_true.1 eqs_ok t ht
    rw [Bool.and_eq_true, Bool.not_eq_true', Bool.not_eq_true'] at h3
    exact h3
  noesc := noesc_ok
  idxb := fun s c w hc => idxb_ok s c w hc
  mixed := mixed_ok
end Go.Proofs.YtdijjakmjlegoaaGreatDoor
