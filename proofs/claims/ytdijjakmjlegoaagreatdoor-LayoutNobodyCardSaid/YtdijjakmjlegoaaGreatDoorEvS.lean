/-
  STORES: a row of values laid into a block's cells.
-/
import Derived.Test.YtdijjakmjlegoaaGreatDoorEvH
namespace Go.Ev
open Go.RowKit (Below)
variable {P : Program} {ρ ρ' : Rho} {w0 w : World}

def writeC (c : Array Value) (o : Nat) : List Value → Array Value
  | [] => c
  | v :: vs => writeC (c.setIfInBounds o v) (o + 1) vs
theorem writeC_size : ∀ (vs : List Value) (c : Array Value) (o : Nat), (writeC c o vs).size = c.size
  | [], _, _ => rfl
  | v :: vs, c, o => by rw [writeC, writeC_size vs]; simp
theorem writeC_get : ∀ (vs : List Value) (c : Array Value) (o : Nat), o + vs.length ≤ c.size → ∀ j, (writeC c o vs)[j]? = if o ≤ j ∧ j < o + vs.length then vs[j - o]? else c[j]?
  | [], c, o, _, j => by rw [writeC, if_neg (by simp)]
  | v :: vs, c, o, h, j => by
    simp only [List.length_cons] at h ⊢
    rw [writeC, writeC_get vs _ _ (by simp; omega)]
    by_cases h1 : o + 1 ≤ j ∧ j < o + 1 + vs.length
    · rw [if_pos h1, if_pos (by omega), show j - o = (j - (o + 1)) + 1 by omega, List.getElem?_cons_succ]
    · rw [if_neg h1]
      by_cases h2 : j = o
      · subst h2; rw [if_pos (by omega)]; simp [Array.getElem?_setIfInBounds]; omega
      · rw [if_neg (by omega), Array.getElem?_setIfInBounds_ne (fun e => h2 e.symm)]
theorem setCell_heap {b i : Nat} {v : Value} {c : Array Value} {t : TypeId} {f : Nat × Nat} (h : w.heap[b]? = some (.cells c t f)) :
    (w.setCell ⟨b, i, none⟩ v).heap = w.heap.setIfInBounds b (.cells (c.setIfInBounds i v) t f) := by
  apply Array.ext_getElem?
  intro j
  show (w.heap.modify b _)[j]? = _
  rw [Array.getElem?_modify, Array.getElem?_setIfInBounds]
  have hlt : b < w.heap.size := by
    rcases Nat.lt_or_ge b w.heap.size with k | k
    · exact k
    · simp [Array.getElem?_eq_none k] at h
  by_cases hj : b = j
  · subst hj; rw [if_pos rfl, if_pos rfl, if_pos hlt, h]; rfl
  · rw [if_neg hj, if_neg hj]
theorem run_storeCells_row {b : Nat} {t : TypeId} {f : Nat × Nat} : ∀ (vs : List Value) (w : World) (c : Array Value) (o i : Nat), w.heap[b]? = some (.cells c t f) → o + i + vs.length ≤ c.size →
    (∀ v ∈ vs, v.oneCell' = true) → (∀ j, o + i ≤ j → j < o + i + vs.length → ¬ (f.1 ≤ j ∧ j < f.2)) →
    ∃ w', (storeCells ⟨b, o, none⟩ vs i).run P w = .ok () w' ∧ w'.heap = w.heap.setIfInBounds b (.cells (writeC c (o + i) vs) t f) ∧ w'.os = w.os ∧ w'.tape = w.tape ∧ w'.output = w.output
  | [], w, c, o, i, h, _, _, _ => by
    refine ⟨w, by simp [storeCells], ?_, rfl, rfl, rfl⟩
    apply Array.ext_getElem?
    intro j
    rw [Array.getElem?_setIfInBounds]
    by_cases hj : b = j
    · subst hj; rw [if_pos rfl]
      split
      · rw [h]; rfl
      · exact Array.getElem?_eq_none (by omega)
    · rw [if_neg hj]
  | v :: vs, w, c, o, i, h, hn, hv, hf => by
    simp only [List.length_cons] at hn hf
    have hc : w.cell? ⟨b, o + i, none⟩ = some c[o + i] := by rw [cell_at rfl h]; exact Array.getElem?_eq_getElem (by omega)
    have hz : w.frozen? ⟨b, o + i, none⟩ = false := by
      rw [frozen_at h]
      have := hf (o + i) (by omega) (by omega)
      simp; omega
    have hh := setCell_heap (i := o + i) (v := v) h
    have hlt : b < w.heap.size := by
      rcases Nat.lt_or_ge b w.heap.size with k | k
      · exact k
      · simp [Array.getElem?_eq_none k] at h
    have h' : (w.setCell ⟨b, o + i, none⟩ v).heap[b]? = some (.cells (c.setIfInBounds (o + i) v) t f) := by rw [hh]; simp [hlt]
    obtain ⟨w', hr, e1, e2, e3, e4⟩ := run_storeCells_row vs (w.setCell ⟨b, o + i, none⟩ v) (c.setIfInBounds (o + i) v) o (i + 1) h' (by simp; omega) (fun u hu => hv u (by simp [hu])) (fun j hj hj' => hf j (by omega) (by omega))
    refine ⟨w', ?_, ?_, e2, e3, e4⟩
    · simp only [storeCells, Sem.run_bind, addr_add]
      rw [run_store P w _ v _ (hv v (by simp)), hc]
      simp only [hz, Bool.false_eq_true, if_false, Result.andThen_ok]
      exact hr
    · rw [e1, hh, writeC, Nat.add_assoc]; simp
end Go.Ev
