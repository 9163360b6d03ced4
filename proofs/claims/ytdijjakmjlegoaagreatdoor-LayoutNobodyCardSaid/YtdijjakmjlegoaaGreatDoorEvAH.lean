/-
  REGIONS THAT DRAW THEIR ORDER, joined; straight code.
-/
import Derived.Test.YtdijjakmjlegoaaGreatDoorEvAG
namespace Go.Ev
open Go.RowKit (Below)
variable {P : Program} {E : Env} {ρ ρ' : Rho} {w0 w w' : World} {C : Ctx} {s : St} {a : Act} {cs : List Frame} {k : List Item} {ops : Array Oper}

theorem stand_pre {ops : Array Oper} {M : List Nat} {l : List Nat} : ∀ {done : List Nat}, standF E ops.toList M l done = true → ∀ j ∈ l, ∀ o, ops[j]? = some o → ∀ e ∈ preds o, e < j := by
  induction l with
  | nil => intro done _ j hj; simp at hj
  | cons i l ih =>
    intro done h j hj o ho e he
    unfold standF at h
    cases hoi : nth ops.toList i with
    | none => rw [hoi] at h; cases h
    | some oi =>
      rw [hoi, ot_some] at h
      obtain ⟨h1, h2⟩ := bt_both h
      simp only [List.mem_cons] at hj
      rcases hj with rfl | hj
      · have : oi = o := by rw [nth_eq] at hoi; simp at hoi; rw [ho] at hoi; cases hoi; rfl
        subst this
        unfold mayStand at h1
        cases g1 : inB j done with
        | true => rw [g1] at h1; cases h1
        | false =>
          rw [g1, bt_false] at h1
          obtain ⟨g2, h1⟩ := bt_both h1
          rw [allB_eq, List.all_eq_true] at g2
          obtain ⟨g3, _⟩ := bt_both (g2 e he)
          rw [Nat.blt_eq] at g3; exact g3
      · exact ih h2 j hj o ho e he
theorem region_draw_ok {r : Rec} {cx : Cx} (hE : EnvOk P E) (D : ∀ o, plainOp o.op = true → Does P E o) (hr : RecOk P E r) (hc : CtxOk P C cx) (h : SR P w0 C ρ [] s a cs w) (id : Nat) :
    OutOk P w0 C ρ s.h k (lone (C.b.atR a (.code (.region id ops true) :: k)) cs w) ((cdRegion id ops true E cx).run r s) := by
  have key : RegOut P w0 C ρ s.h (dsAt ops.toList (order E ops.toList) []) ops k (lone (C.b.atR a (.code (.region id ops true) :: k)) cs w) ((drawC E cx ops.toList).run r s) := by
    unfold drawC
    refine btC_ok (fun h1 => btC_ok (fun h2 => btC_ok (fun h3 => btC_ok (fun h4 => btC_ok (fun h5 => ?_) (fun _ => trivial)) (fun _ => trivial)) (fun _ => trivial)) (fun _ => trivial)) (fun _ => trivial)
    rw [allB_eq, List.all_eq_true] at h1 h2
    unfold masksOk at h4
    unfold looksOk at h5
    rw [allB_eq, List.all_eq_true] at h4 h5
    rw [lenL_eq, Array.length_toList] at h2 h4 h5
    have hlo : s.lo = [] := by have := h.len; simpa using this
    obtain ⟨lo, tm, df, sh, pn⟩ := s
    change lo = [] at hlo
    subst hlo
    let R : Rg := { P, E, w0, C, cx, ops, M := masks ops.toList, r, ρ0 := ρ, h0 := sh, tm0 := tm, a0 := a }
    have H : RgOk R := by
      refine ⟨hE, D, hr, hc, h.fr, h.tk, fun i o ho => h1 o (by rw [Array.mem_toList_iff]; exact Array.mem_of_getElem? ho), fun j o ho i hi hb => ?_, fun i o ho t ht kk p hp hd => ?_⟩
      · have ho' : ops.toList[j]? = some o := by simpa using ho
        have g := h4 j (by rw [List.mem_range]; exact (Array.getElem?_eq_some_iff.1 ho).1)
        rw [nth_eq, ho', ot_some, allB_eq, List.all_eq_true] at g
        have g := g i (by rw [List.mem_range]; exact hi)
        change bt (bit (nthD (masks ops.toList) j) i) _ true = true at g
        have hb' : bit (nthD (masks ops.toList) j) i = true := hb
        rw [hb', bt_true, anyB_eq, List.any_eq_true] at g
        obtain ⟨e, he, g⟩ := g
        refine ⟨e, he, ?_⟩
        cases hbe : Nat.beq e i with
        | true => exact .inl (Nat.eq_of_beq_eq_true hbe)
        | false => rw [hbe, bt_false] at g; exact .inr g
      · have ho' : ops.toList[i]? = some o := by simpa using ho
        have g := h5 i (by rw [List.mem_range]; exact (Array.getElem?_eq_some_iff.1 ho).1)
        rw [nth_eq, ho', ot_some, allB_eq, List.all_eq_true] at g
        have g := g t ht
        rw [allB_eq, List.all_eq_true] at g
        have g := g kk (by rw [List.mem_range]; exact (Array.getElem?_eq_some_iff.1 hp).1)
        have hp' : ops.toList[kk]? = some p := by simpa using hp
        rw [nth_eq, hp', ot_some, hd, ot_some, Nat.beq_refl, bt_true] at g
        cases hbe : Nat.beq kk i with
        | true => exact .inl (Nat.eq_of_beq_eq_true hbe)
        | false =>
          rw [hbe, bt_false] at g
          cases hbi : bit (nthD (masks ops.toList) i) kk with
          | true => exact .inr (.inl hbi)
          | false => rw [hbi, bt_false] at g; exact .inr (.inr g)
    have hall : ∀ i, i < ops.size → i ∈ order E ops.toList := fun i hi => inB_iff.1 (h2 i (by rw [List.mem_range]; exact hi))
    have hpre : ∀ (i : Nat) (o : Oper), ops[i]? = some o → ∀ e ∈ preds o, e < i := fun i o ho => stand_pre h3 i (hall i (Array.getElem?_eq_some_iff.1 ho).1) o ho
    have hDI : DI R [] [] [] ⟨[], tm, df, sh, pn⟩ ρ a cs w.drew :=
      ⟨rfl, by simp, by simp, by simp, rfl, by simp, by simp, by simp, by simp, by simp, h.wr.drew, h.fresh, Ext.refl, by simp, fun _ _ => rfl, rfl, h.df, h.cs, by simp, by simp⟩
    have hsim := draw_sim (K := k) H (order E ops.toList) [] [] ⟨[], tm, df, sh, pn⟩ h3 (fun i hi => .inr (hall i hi)) (Region.linearise .any ops (w.tape w.drawn (.order C.b.fn id))) [] ρ a cs w.drew (sched_lin hpre _) hDI
    refine RegOut.from Ext.refl (.one ?_) hsim
    rw [stepR_region_draw, hE.mixed]
    rfl
  have h3 := reg_end key
  rw [← hc.ms] at h3
  exact h3

/-! ### code -/
theorem OutOk.from {H H' : Hp} {m m' : Machine} {x : Out} (he : Ext H' ρ' H ρ) (hs : Steps P m' m) (h : OutOk P w0 C ρ H k m x) : OutOk P w0 C ρ' H' k m' x := by
  cases x with
  | bad_ c => trivial
  | ok s' => obtain ⟨ρ1, a', cs', w', h1, h2, h3⟩ := h; exact ⟨ρ1, a', cs', w', he.trans h1, h2, hs.trans h3⟩
  | lv e s' =>
    obtain ⟨ρ1, a', cs', w', h1, h2, k1, h3⟩ := h
    refine ⟨ρ1, a', cs', w', he.trans h1, h2, k1, ?_⟩
    cases e with
    | exit i => exact ⟨h3.1, hs.trans h3.2⟩
    | ret => exact hs.trans h3
    | panic v => obtain ⟨v', h4, h5⟩ := h3; exact ⟨v', h4, hs.trans h5⟩
/-- left by way of more items -/
theorem OutOk.lvs {H : Hp} {k0 : List Item} {m : Machine} {e : Ex} {s' : St} (hk : ∀ i, exitTo i k0 = exitTo i k) (h : OutOk P w0 C ρ H k0 m (.lv e s')) : OutOk P w0 C ρ H k m (.lv e s') := by
  obtain ⟨ρ1, a', cs', w', h1, h2, k1, h3⟩ := h
  refine ⟨ρ1, a', cs', w', h1, h2, k1, ?_⟩
  cases e with
  | exit i => exact ⟨h3.1.trans (hk i), h3.2⟩
  | ret => exact h3
  | panic v => exact h3
/-- one piece of code, then more -/
theorem OutOk.then {H : Hp} {k0 : List Item} {m : Machine} {x : Out} {f : St → Out} (hk : ∀ i, exitTo i k0 = exitTo i k) (h : OutOk P w0 C ρ H k0 m x)
    (hf : ∀ ρ' s' a' cs' w', SR P w0 C ρ' [] s' a' cs' w' → OutOk P w0 C ρ' s'.h k (lone (C.b.atR a' k0) cs' w') (f s')) : OutOk P w0 C ρ H k m (onOk x f) := by
  cases x with
  | bad_ c => trivial
  | ok s' => obtain ⟨ρ1, a', cs', w', h1, h2, h3⟩ := h; exact OutOk.from h1 h3 (hf ρ1 s' a' cs' w' h2)
  | lv e s' => exact OutOk.lvs hk h
end Go.Ev
