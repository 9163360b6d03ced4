/-
  THE EVALUATOR's HEAP AGAINST A WORLD's: a new block, a block written, a block let go.
-/
import Derived.Test.YtdijjakmjlegoaaGreatDoorEvR
namespace Go.Ev
open Go.RowKit (Below)
variable {P : Program} {ρ ρ' : Rho} {w0 w : World}

theorem Below.of_heap {B : Nat} {a w w' : World} (h : Below B a w) (ho : w'.os = w.os) (ht : w'.tape = w.tape) (hu : w'.output = w.output) (hs : w.heap.size ≤ w'.heap.size)
    (hb : ∀ k, k < B → w'.heap[k]? = w.heap[k]?) : Below B a w' := h.trans ⟨ho, ht, hu, hs, hb⟩
theorem HR.lt {H : Hp} {hp : Array Obj} (h : HR P ρ H hp) {b : Nat} {ab : AB} {x : Nat × Nat × Nat} (hb : H.get b = some ab) (hx : ρ b = some x) : x.1 < hp.size := by
  obtain ⟨o, ho, _⟩ := h.live b ab x hb hx
  rcases Nat.lt_or_ge x.1 hp.size with k | k
  · exact k
  · simp [Array.getElem?_eq_none k] at ho
/-- draws do not touch the heap -/
theorem WR.drew {H : Hp} (h : WR P w0 ρ H w) : WR P w0 ρ H w.drew := ⟨h.hr, h.base, h.below.drew⟩

/-- a new block -/
theorem WR.new {H : Hp} (h : WR P w0 ρ H w) (hf : Fresh ρ H) (hn : H.nx < 65536) {ab : AB} {o : Obj} {x : Nat × Nat × Nat} (hx : x.1 = w.heap.size)
    (hb : BR P (ρ.put H.nx x) x ab o) :
    WR P w0 (ρ.put H.nx x) ⟨(acc AB 4 H.nx).set H.bl (some ab), H.nx + 1⟩ (w.alloc o) ∧ Fresh (ρ.put H.nx x) ⟨(acc AB 4 H.nx).set H.bl (some ab), H.nx + 1⟩ ∧ ρ.le (ρ.put H.nx x) := by
  have hle : ρ.le (ρ.put H.nx x) := Rho.le_put x (hf _ (Nat.le_refl _))
  have hget : ∀ j, j < 65536 → Hp.get ⟨(acc AB 4 H.nx).set H.bl (some ab), H.nx + 1⟩ j = if H.nx = j then some ab else H.get j :=
    fun j hj => hp_get_set H.bl H.nx H.nx j (some ab) hn hj (H.nx + 1)
  have hdom : ∀ b y, ρ.put H.nx x b = some y → b < 65536 := by
    intro b y e
    by_cases hb' : b = H.nx
    · omega
    · rw [Rho.put_other ρ x hb'] at e; exact h.hr.dom b y e
  refine ⟨⟨⟨?_, ?_, hdom⟩, ?_, ?_⟩, ?_, hle⟩
  · intro b ab' y e ey
    rw [hget b (hdom b y ey)] at e
    by_cases hb' : b = H.nx
    · rw [if_pos hb'.symm] at e; cases e
      rw [hb', Rho.put_same] at ey; cases ey
      exact ⟨o, by show (w.heap.push o)[x.1]? = some o; rw [hx]; simp, hb⟩
    · rw [if_neg (fun e => hb' e.symm)] at e
      rw [Rho.put_other ρ x hb'] at ey
      obtain ⟨o', ho, hr⟩ := h.hr.live b ab' y e ey
      have hlt := h.hr.lt e ey
      exact ⟨o', by show (w.heap.push o)[y.1]? = some o'; rw [Array.getElem?_push, if_neg (Nat.ne_of_lt hlt)]; exact ho, hr.mono hle⟩
  · intro b b' a1 a2 y y' e e' ey ey' hyy
    rw [hget b (hdom b y ey)] at e
    rw [hget b' (hdom b' y' ey')] at e'
    by_cases h1 : b = H.nx <;> by_cases h2 : b' = H.nx
    · rw [h1, h2]
    · rw [h1, Rho.put_same] at ey; cases ey
      rw [Rho.put_other ρ x h2] at ey'
      rw [if_neg (fun e => h2 e.symm)] at e'
      have := h.hr.lt e' ey'; omega
    · rw [h2, Rho.put_same] at ey'; cases ey'
      rw [Rho.put_other ρ x h1] at ey
      rw [if_neg (fun e => h1 e.symm)] at e
      have := h.hr.lt e ey; omega
    · rw [Rho.put_other ρ x h1] at ey
      rw [Rho.put_other ρ x h2] at ey'
      rw [if_neg (fun e => h1 e.symm)] at e
      rw [if_neg (fun e => h2 e.symm)] at e'
      exact h.hr.inj b b' a1 a2 y y' e e' ey ey' hyy
  · intro b y e
    by_cases hb' : b = H.nx
    · rw [hb', Rho.put_same] at e; cases e
      rw [hx]; exact h.below.size
    · rw [Rho.put_other ρ x hb'] at e; exact h.base b y e
  · exact h.below.alloc h.below.size o
  · intro b hb'
    change H.nx + 1 ≤ b at hb'
    rw [Rho.put_other ρ x (by omega)]
    exact hf b (by omega)

/-- a block written -/
theorem WR.up {H : Hp} (h : WR P w0 ρ H w) {b : Nat} {ab ab' : AB} {x : Nat × Nat × Nat} (hb : H.get b = some ab) (hx : ρ b = some x) {o' : Obj} (hr : BR P ρ x ab' o') {w' : World}
    (hh : w'.heap = w.heap.setIfInBounds x.1 o') (ho : w'.os = w.os) (ht : w'.tape = w.tape) (hu : w'.output = w.output) (nx : Nat) :
    WR P w0 ρ ⟨(acc AB 4 b).set H.bl (some ab'), nx⟩ w' := by
  have hbn := h.hr.dom b x hx
  have hlt := h.hr.lt hb hx
  have hget : ∀ j, j < 65536 → Hp.get ⟨(acc AB 4 b).set H.bl (some ab'), nx⟩ j = if b = j then some ab' else H.get j :=
    fun j hj => hp_get_set H.bl H.nx b j (some ab') hbn hj nx
  refine ⟨⟨?_, ?_, h.hr.dom⟩, h.base, ?_⟩
  · intro c a y e ey
    rw [hget c (h.hr.dom c y ey)] at e
    by_cases hc : b = c
    · rw [if_pos hc] at e; cases e
      subst hc; rw [hx] at ey; cases ey
      exact ⟨o', by rw [hh]; simp [hlt], hr⟩
    · rw [if_neg hc] at e
      obtain ⟨o, ho', hr'⟩ := h.hr.live c a y e ey
      refine ⟨o, ?_, hr'⟩
      have hne : x.1 ≠ y.1 := fun e' => hc (h.hr.inj b c ab a x y hb e hx ey e')
      rw [hh, Array.getElem?_setIfInBounds_ne hne]; exact ho'
  · intro c c' a a' y y' e e' ey ey' hyy
    rw [hget c (h.hr.dom c y ey)] at e
    rw [hget c' (h.hr.dom c' y' ey')] at e'
    have f : ∃ q, H.get c = some q := by
      by_cases hc : b = c
      · subst hc; exact ⟨ab, hb⟩
      · rw [if_neg hc] at e; exact ⟨a, e⟩
    have f' : ∃ q, H.get c' = some q := by
      by_cases hc : b = c'
      · subst hc; exact ⟨ab, hb⟩
      · rw [if_neg hc] at e'; exact ⟨a', e'⟩
    obtain ⟨q, hq⟩ := f
    obtain ⟨q', hq'⟩ := f'
    exact h.hr.inj c c' q q' y y' hq hq' ey ey' hyy
  · refine Below.of_heap h.below ho ht hu (by rw [hh]; simp) fun k hk => ?_
    rw [hh, Array.getElem?_setIfInBounds_ne (by have := h.base b x hx; omega)]

/-- a block let go; another one, that is new, lies where it lay -/
theorem WR.move {H : Hp} (h : WR P w0 ρ H w) (hf : Fresh ρ H) (hn : H.nx < 65536) {b : Nat} {ab ab' : AB} {x : Nat × Nat × Nat} (hb : H.get b = some ab) (hx : ρ b = some x) {o' : Obj}
    (hr : BR P ρ x ab' o') {w' : World}
    (hh : w'.heap = w.heap.setIfInBounds x.1 o') (ho : w'.os = w.os) (ht : w'.tape = w.tape) (hu : w'.output = w.output) :
    WR P w0 (ρ.put H.nx x) ⟨(acc AB 4 H.nx).set ((acc AB 4 b).set H.bl none) (some ab'), H.nx + 1⟩ w' ∧
      Fresh (ρ.put H.nx x) ⟨(acc AB 4 H.nx).set ((acc AB 4 b).set H.bl none) (some ab'), H.nx + 1⟩ ∧ ρ.le (ρ.put H.nx x) := by
  have hle : ρ.le (ρ.put H.nx x) := Rho.le_put x (hf _ (Nat.le_refl _))
  have hbn := h.hr.dom b x hx
  have hlt := h.hr.lt hb hx
  have hbne : b ≠ H.nx := by intro e; rw [e, hf _ (Nat.le_refl _)] at hx; cases hx
  have hget : ∀ j, j < 65536 → Hp.get ⟨(acc AB 4 H.nx).set ((acc AB 4 b).set H.bl none) (some ab'), H.nx + 1⟩ j = if H.nx = j then some ab' else if b = j then none else H.get j := by
    intro j hj
    rw [hp_get_set _ H.nx H.nx j (some ab') hn hj, hp_get_set H.bl H.nx b j none hbn hj]
  have hdom : ∀ b y, ρ.put H.nx x b = some y → b < 65536 := by
    intro b y e
    by_cases hb' : b = H.nx
    · omega
    · rw [Rho.put_other ρ x hb'] at e; exact h.hr.dom b y e
  have key : ∀ c a y, Hp.get ⟨(acc AB 4 H.nx).set ((acc AB 4 b).set H.bl none) (some ab'), H.nx + 1⟩ c = some a → ρ.put H.nx x c = some y →
      (c = H.nx ∧ a = ab' ∧ y = x) ∨ (c ≠ H.nx ∧ c ≠ b ∧ H.get c = some a ∧ ρ c = some y) := by
    intro c a y e ey
    rw [hget c (hdom c y ey)] at e
    by_cases hc : H.nx = c
    · rw [if_pos hc] at e; cases e
      subst hc; rw [Rho.put_same] at ey; cases ey
      exact .inl ⟨rfl, rfl, rfl⟩
    · rw [if_neg hc] at e
      by_cases hcb : b = c
      · rw [if_pos hcb] at e; cases e
      · rw [if_neg hcb] at e
        rw [Rho.put_other ρ x (fun e => hc e.symm)] at ey
        exact .inr ⟨fun e => hc e.symm, fun e => hcb e.symm, e, ey⟩
  refine ⟨⟨⟨?_, ?_, hdom⟩, ?_, ?_⟩, ?_, hle⟩
  · intro c a y e ey
    rcases key c a y e ey with ⟨_, rfl, rfl⟩ | ⟨_, hcb, e1, ey1⟩
    · exact ⟨o', by rw [hh]; simp [hlt], hr.mono hle⟩
    · obtain ⟨o, ho', hr'⟩ := h.hr.live c a y e1 ey1
      refine ⟨o, ?_, hr'.mono hle⟩
      have hne : x.1 ≠ y.1 := fun e' => hcb (h.hr.inj b c ab a x y hb e1 hx ey1 e').symm
      rw [hh, Array.getElem?_setIfInBounds_ne hne]; exact ho'
  · intro c c' a a' y y' e e' ey ey' hyy
    rcases key c a y e ey with ⟨h1, h2, h3⟩ | ⟨h1, h2, h3, h4⟩ <;> rcases key c' a' y' e' ey' with ⟨k1, k2, k3⟩ | ⟨k1, k2, k3, k4⟩
    · rw [h1, k1]
    · subst h3; exact absurd (h.hr.inj b c' ab a' y y' hb k3 hx k4 hyy) (fun e => k2 e.symm)
    · subst k3; exact absurd (h.hr.inj b c ab a y' y hb h3 hx h4 hyy.symm) (fun e => h2 e.symm)
    · exact h.hr.inj c c' a a' y y' h3 k3 h4 k4 hyy
  · intro c y e
    by_cases hc : c = H.nx
    · rw [hc, Rho.put_same] at e; cases e; exact h.base b x hx
    · rw [Rho.put_other ρ x hc] at e; exact h.base c y e
  · refine Below.of_heap h.below ho ht hu (by rw [hh]; simp) fun k hk => ?_
    rw [hh, Array.getElem?_setIfInBounds_ne (by have := h.base b x hx; omega)]
  · intro c hc
    change H.nx + 1 ≤ c at hc
    rw [Rho.put_other ρ x (by omega)]
    exact hf c (by omega)
/-- a block let go -/
theorem WR.del {H : Hp} (h : WR P w0 ρ H w) (b : Nat) (hb : b < 65536) (nx : Nat) : WR P w0 ρ ⟨(acc AB 4 b).set H.bl none, nx⟩ w := by
  have key : ∀ c a y, Hp.get ⟨(acc AB 4 b).set H.bl none, nx⟩ c = some a → ρ c = some y → H.get c = some a := by
    intro c a y e ey
    rw [hp_get_set H.bl H.nx b c none hb (h.hr.dom c y ey)] at e
    by_cases hc : b = c
    · rw [if_pos hc] at e; cases e
    · rw [if_neg hc] at e; exact e
  exact ⟨⟨fun c a y e ey => h.hr.live c a y (key c a y e ey) ey, fun c c' a a' y y' e e' ey ey' => h.hr.inj c c' a a' y y' (key c a y e ey) (key c' a' y' e' ey') ey ey', h.hr.dom⟩, h.base, h.below⟩

/-- the relation goes on: of older blocks it says what it said -/
structure Ext (H : Hp) (ρ : Rho) (H' : Hp) (ρ' : Rho) : Prop where
  le : ρ.le ρ'
  nx : H.nx ≤ H'.nx
  old : ∀ b, b < H.nx → ρ' b = ρ b
theorem Ext.same {H H' : Hp} (e : H'.nx = H.nx) : Ext H ρ H' ρ := ⟨Rho.le.refl ρ, Nat.le_of_eq e.symm, fun _ _ => rfl⟩
theorem Ext.refl {H : Hp} : Ext H ρ H ρ := Ext.same rfl
theorem Ext.put {H H' : Hp} {x : Nat × Nat × Nat} (hf : Fresh ρ H) (e : H'.nx = H.nx + 1) : Ext H ρ H' (ρ.put H.nx x) :=
  ⟨Rho.le_put x (hf _ (Nat.le_refl _)), by omega, fun b hb => Rho.put_other ρ x (by omega)⟩
theorem Ext.trans {H H' H'' : Hp} {ρ'' : Rho} (h : Ext H ρ H' ρ') (k : Ext H' ρ' H'' ρ'') : Ext H ρ H'' ρ'' :=
  ⟨h.le.trans k.le, Nat.le_trans h.nx k.nx, fun b hb => by rw [k.old b (Nat.lt_of_lt_of_le hb h.nx), h.old b hb]⟩
theorem Ext.from {H G H' : Hp} (h : Ext H ρ H' ρ') (e : G.nx = H.nx) : Ext G ρ H' ρ' := ⟨h.le, by rw [e]; exact h.nx, fun b hb => h.old b (by omega)⟩
theorem Ext.to {H G H' : Hp} (h : Ext H ρ H' ρ') (e : G.nx = H'.nx) : Ext H ρ G ρ' := ⟨h.le, by rw [e]; exact h.nx, h.old⟩

/-! ### reading and writing cells -/
theorem cell_at {hp : Array Obj} {b i : Nat} {c : Array Value} {t : TypeId} {f : Nat × Nat} {w : World} (hw : w.heap = hp) (h : hp[b]? = some (.cells c t f)) : w.cell? ⟨b, i, none⟩ = c[i]? := by
  subst hw; simp [World.cell?, h]
theorem frozen_at {b i : Nat} {c : Array Value} {t : TypeId} {f : Nat × Nat} {w : World} (h : w.heap[b]? = some (.cells c t f)) : w.frozen? ⟨b, i, none⟩ = (f.1 ≤ i && i < f.2) := by
  simp [World.frozen?, h]
theorem addr_add (b o n : Nat) : (⟨b, o, none⟩ : Addr).add n = ⟨b, o + n, none⟩ := by
  unfold Addr.add; split
  · next h => subst h; rfl
  · rfl
/-- cells read off a row -/
theorem run_cells {w : World} {b : Nat} {c : Array Value} {t : TypeId} {f : Nat × Nat} (h : w.heap[b]? = some (.cells c t f)) : ∀ (n o i : Nat) (a : Array Value), o + i + n ≤ c.size →
    (loadCellsFrom ⟨b, o, none⟩ i n a).run P w = .ok (a ++ (c.extract (o + i) (o + i + n))) w
  | 0, o, i, a, _ => by simp [loadCellsFrom]; omega
  | n + 1, o, i, a, hn => by
    have hc : w.cell? ⟨b, o + i, none⟩ = some c[o + i] := by rw [cell_at rfl h]; exact Array.getElem?_eq_getElem (by omega)
    simp only [loadCellsFrom, Sem.run_bind, run_load, addr_add, hc, Result.andThen_ok]
    rw [run_cells h n o (i + 1) _ (by omega)]
    congr 1
    rw [Array.push_eq_append, Array.append_assoc]
    congr 1
    apply Array.ext_getElem?
    intro j
    rw [Array.getElem?_append]
    simp only [List.size_toArray, List.length_cons, List.length_nil, Nat.zero_add]
    by_cases hj : j = 0
    · subst hj; simp; rw [Array.getElem?_eq_getElem (by simp; omega)]; simp
    · rw [if_neg (by omega)]
      rw [Array.getElem?_extract, Array.getElem?_extract]
      by_cases hj' : j < n + 1
      · rw [if_pos (by omega), if_pos (by omega)]; congr 1; omega
      · rw [if_neg (by omega), if_neg (by omega)]
theorem run_loadCells_row {w : World} {b o n : Nat} {c : Array Value} {t : TypeId} {f : Nat × Nat} (h : w.heap[b]? = some (.cells c t f)) (hn : o + n ≤ c.size) :
    (loadCells ⟨b, o, none⟩ n).run P w = .ok (c.extract o (o + n)) w := by
  unfold loadCells; rw [run_cells h n o 0 #[] (by omega)]; simp
end Go.Ev
