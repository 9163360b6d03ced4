/-
  OPERATIONS THAT READ AT MOST, JOINED: comparisons, arithmetic, conversions between integers.
-/
import Derived.Test.YtdijjakmjlegoaaGreatDoorEvQ
namespace Go.Ev
open Go.RowKit (Below)
variable {P : Program} {E : Env} {ρ ρ' : Rho} {w0 w : World} {Φ : Out → Prop}

structure EqOk (P : Program) (w : World) (t : TypeId) (X Y : Operand) (u v : Value) (b : Bool) : Prop where
  guard : ∀ op, (eqGuard op t X Y u v).run P w = .ok () w
  eq : (Op.equal t u v).run P w = .ok b w
  be : binOp .eql t u v = (do pure (.bool (← Op.equal t u v)))
  bn : binOp .neq t u v = (do pure (.bool (!(← Op.equal t u v))))
theorem guard_plain {op : BinOp} {t : TypeId} {X Y : Operand} {u v : Value} (h : u ≠ .nilIface ∨ v ≠ .nilIface) (h' : ∀ l m, u ≠ .agg l ∨ v ≠ .agg m) (w : World) : (eqGuard op t X Y u v).run P w = .ok () w := by
  unfold eqGuard
  cases op <;> simp only [Bool.not_true, Bool.not_false, Bool.false_eq_true, if_false, if_true, Sem.run_pure]
  all_goals
    split
    · simp at h
    · next l m => have := h' l m; simp at this
    · rfl
theorem equal_of {t : TypeId} {u v : Value} {b : Bool} {w : World} (h : ∀ d, 5 ≤ d → (Op.equalIn (d + 1) t u v).run P w = .ok b w) : (Op.equal t u v).run P w = .ok b w := h 9999 (by omega)
theorem eqOf_ok (hE : EnvOk P E) {t : Nat} {c : Bool} {f : Eqf} (h : eqOf E t c = some f) (hs : isStr E t = false) (hi : isInt E t = false) {x y : AV} {u v : Value} {b : Bool} (hx : VR P ρ x u) (hy : VR P ρ y v)
    (hr : f.run x y = some b) {X Y : Operand} (hc : c = true → isC X = true ∨ isC Y = true) (w : World) : EqOk P w t X Y u v b := by
  unfold eqOf at h
  split at h
  · next e =>
    simp only [Option.some.injEq] at h; subst h
    have := eqKd_ok hE e (.inl ⟨rfl, rfl⟩) hx hy hr w
    cases hx <;> cases hy <;> try (cases hr; done)
    exact ⟨fun op => guard_plain (.inl (by simp)) (by simp) w, equal_of fun d _ => this d, rfl, rfl⟩
  · next e => unfold isInt at hi; rw [e] at hi; cases hi
  · next e => unfold isStr at hs; rw [e] at hs; cases hs
  · next el e =>
    have hu := hE.run_underlying w e
    cases hn : szOf E el with
    | none => rw [hn] at h; cases h
    | some n =>
      rw [hn, ot_some] at h
      cases n with
      | zero => cases h
      | succ n =>
        simp only [nt_succ, Option.some.injEq] at h; subst h
        cases hx <;> cases hy <;> try (cases hr; done)
        · next p o X1 h1 q o' X2 h2 =>
          change bt (Nat.beq p q) (some (Nat.beq o o')) none = some b at hr
          cases hpq : Nat.beq p q with
          | false => rw [hpq] at hr; cases hr
          | true =>
            rw [hpq, bt_true, Option.some.injEq] at hr
            have hpq' := Nat.eq_of_beq_eq_true hpq
            subst hpq'
            rw [h1] at h2; cases h2
            refine ⟨fun op => guard_plain (.inl (by simp)) (by simp) w, equal_of fun d _ => ?_, rfl, rfl⟩
            simp only [Op.equalIn, Sem.run_bind, hu, Result.andThen_ok, hE.run_sizeOf w hn, sameAddr]
            simp only [ne_eq, Nat.add_eq_zero_iff, Nat.succ_ne_self, and_false, not_false_eq_true, if_true, beq_self_eq_true, Sem.run_pure]
            congr 1
            rw [← hr, Bool.eq_iff_iff, beq_iff_eq, Nat.beq_eq]
            constructor
            · intro e; cases e; rfl
            · intro e; rw [e]
        · simp [ptrEq] at hr; subst hr
          exact ⟨fun op => guard_plain (.inl (by simp)) (by simp) w, equal_of (fun d _ => by simp only [Op.equalIn, Sem.run_bind, hu, Result.andThen_ok]; rfl), rfl, rfl⟩
        · simp [ptrEq] at hr; subst hr
          exact ⟨fun op => guard_plain (.inl (by simp)) (by simp) w, equal_of (fun d _ => by simp only [Op.equalIn, Sem.run_bind, hu, Result.andThen_ok]; rfl), rfl, rfl⟩
        · simp [ptrEq] at hr; subst hr
          exact ⟨fun op => guard_plain (.inl (by simp)) (by simp) w, equal_of (fun d _ => by simp only [Op.equalIn, Sem.run_bind, hu, Result.andThen_ok]; rfl), rfl, rfl⟩
  · next el e =>
    have hu := hE.run_underlying w e
    simp only [Option.some.injEq] at h; subst h
    cases hx <;> cases hy <;> try (cases hr; done)
    all_goals
      simp [slEq] at hr; subst hr
      exact ⟨fun op => guard_plain (.inl (by simp)) (by simp) w, equal_of (fun d _ => by simp only [Op.equalIn, Sem.run_bind, hu, Result.andThen_ok]; rfl), rfl, rfl⟩
  · next k el e =>
    have hu := hE.run_underlying w e
    simp only [Option.some.injEq] at h; subst h
    cases hx <;> cases hy <;> try (cases hr; done)
    all_goals
      simp [mpEq] at hr; subst hr
      exact ⟨fun op => guard_plain (.inl (by simp)) (by simp) w, equal_of (fun d _ => by simp only [Op.equalIn, Sem.run_bind, hu, Result.andThen_ok]; rfl), rfl, rfl⟩
  · next e =>
    have hu := hE.run_underlying w e
    simp only [Option.some.injEq] at h; subst h
    cases hx <;> cases hy <;> try (cases hr; done)
    all_goals
      simp [fnEq] at hr; subst hr
      exact ⟨fun op => guard_plain (.inl (by simp)) (by simp) w, equal_of (fun d _ => by simp only [Op.equalIn, Sem.run_bind, hu, Result.andThen_ok]; rfl), rfl, rfl⟩
  · next ms e =>
    have hu := hE.run_underlying w e
    simp only [Option.some.injEq] at h; subst h
    cases hx <;> cases hy <;> try (cases hr; done)
    · simp [ifcEq] at hr; subst hr
      exact ⟨fun op => guard_plain (.inl (by simp)) (by simp) w, equal_of (fun d _ => by simp only [Op.equalIn, Sem.run_bind, hu, Result.andThen_ok]; rfl), rfl, rfl⟩
    · simp [ifcEq] at hr; subst hr
      exact ⟨fun op => guard_plain (.inr (by simp)) (by simp) w, equal_of (fun d _ => by simp only [Op.equalIn, Sem.run_bind, hu, Result.andThen_ok]; rfl), rfl, rfl⟩
    · change bt c (some true) none = some b at hr
      cases c with
      | false => cases hr
      | true =>
        simp at hr; subst hr
        refine ⟨fun op => ?_, equal_of (fun d _ => by simp only [Op.equalIn, Sem.run_bind, hu, Result.andThen_ok]; rfl), rfl, rfl⟩
        unfold eqGuard
        cases op <;> simp only [Bool.not_true, Bool.not_false, Bool.false_eq_true, if_false, if_true, Sem.run_pure]
        all_goals
          rcases hc rfl with h | h
          · cases X <;> simp [isC] at h
            rfl
          · cases Y <;> simp [isC] at h
            cases X <;> rfl
  · next fs e =>
    cases hl : plan E t with
    | none => rw [hl] at h; cases h
    | some l =>
      cases hn : szOf E t with
      | none => rw [hl, hn] at h; cases h
      | some n =>
        rw [hl, hn] at h
        simp only [ot_some, Option.some.injEq] at h; subst h
        cases hx <;> cases hy <;> try (cases hr; done)
        next A xs hA B ys hB =>
        change bt (Nat.beq (lenL A) n) (bt (Nat.beq (lenL B) n) (eqPl l A B) none) none = some b at hr
        rw [lenL_eq, lenL_eq] at hr
        cases h1 : Nat.beq A.length n with
        | false => rw [h1] at hr; cases hr
        | true =>
          cases h2 : Nat.beq B.length n with
          | false => rw [h1, h2] at hr; cases hr
          | true =>
            rw [h1, h2, bt_true, bt_true] at hr
            have l1 := Nat.eq_of_beq_eq_true h1
            have l2 := Nat.eq_of_beq_eq_true h2
            have hA' := hA.length
            have hB' := hB.length
            refine ⟨fun op => ?_, equal_of (fun d hd => plan_ok hE hA hB w e hl hn (by simpa using hA'.symm.trans l1) (by simpa using hB'.symm.trans l2) hr (d := d + 1) (by omega)), rfl, rfl⟩
            have heq : inB t E.eqs = true := by
              unfold plan planF at hl
              rw [e] at hl
              cases hq : inB t E.eqs with
              | true => rfl
              | false => simp only [hq] at hl; cases hl
            have := (hE.eqs t (inB_iff.1 heq)).2
            unfold eqGuard
            cases op <;> simp [run_program, this]
  · cases h

theorem eqF_ok (hb : ∀ c, Φ (.bad_ c)) (hE : EnvOk P E) {t : Nat} {c wf : Bool} {F : Bif} {op : BinOp} (ho : (op = .eql ∧ wf = true) ∨ (op = .neq ∧ wf = false)) (h : eqF E t c wf = some F) (hs : isStr E t = false) (hi : isInt E t = false)
    {X Y : Operand} (hc : c = true → isC X = true ∨ isC Y = true) {x y : AV} {u v : Value} (hx : VR P ρ x u) (hy : VR P ρ y v) (w : World) {K : AV → Out}
    (hk : ∀ r q, VR P ρ r q → (do eqGuard op t X Y u v; binOp op t u v : Sem Value).run P w = .ok q w → Φ (K r)) : Φ (F.run x y K) := by
  unfold eqF at h
  cases hf : eqOf E t c with
  | none => rw [hf] at h; cases h
  | some f =>
    rw [hf, ot_some, Option.some.injEq] at h
    subst h
    refine ot_ok hb fun b hr => ?_
    have k := eqOf_ok hE hf hs hi hx hy hr hc w
    rcases ho with ⟨rfl, rfl⟩ | ⟨rfl, rfl⟩
    · refine hk _ _ (.bool _) ?_
      simp only [Sem.run_bind, k.guard, Result.andThen_ok, k.be, k.eq, Sem.run_pure, bt_true]
    · refine hk _ _ (.bool _) ?_
      simp only [Sem.run_bind, k.guard, Result.andThen_ok, k.bn, k.eq, Sem.run_pure, bt_false]
      cases b <;> rfl
theorem binF_ok (hb : ∀ c, Φ (.bad_ c)) (hE : EnvOk P E) {t : Nat} {c : Bool} {F : Bif} {op : BinOp} (h : binF E t op c = some F) {X Y : Operand} (hc : c = true → isC X = true ∨ isC Y = true) {x y : AV} {u v : Value}
    (hx : VR P ρ x u) (hy : VR P ρ y v) (w : World) {K : AV → Out} (hk : ∀ r q, VR P ρ r q → (do eqGuard op t X Y u v; binOp op t u v : Sem Value).run P w = .ok q w → Φ (K r)) : Φ (F.run x y K) := by
  have hint : Φ ((intF op).run x y K) := by
    refine AV.onInt_ok hb fun k m e => ?_
    subst e
    refine AV.onInt_ok hb fun k' n e => ?_
    subst e
    refine bt_ok (fun e => ?_) (fun _ => hb _)
    rw [eqK_eq] at e
    have e := of_decide_eq_true e
    subst e
    cases hx; cases hy
    exact intOp_ok hb w hk
  have hsh : op = .shl ∨ op = .shr → Φ ((shF op).run x y K) := by
    intro ho
    refine AV.onInt_ok hb fun k m e => ?_
    subst e
    refine AV.onInt_ok hb fun k' n e => ?_
    subst e
    cases hx; cases hy
    exact shS_ok hb w ho hk
  unfold binF at h
  cases hs : isStr E t with
  | true =>
    rw [hs, bt_true, Option.some.injEq] at h
    subst h
    refine AV.onStr_ok hb fun p e => ?_
    subst e
    refine AV.onStr_ok hb fun q e => ?_
    subst e
    generalize hp : AV.str p = X1 at hx
    generalize hq : AV.str q = Y1 at hy
    cases hx <;> cases hp
    cases hy <;> cases hq
    exact strS_ok hb w hk
  | false =>
    rw [hs, bt_false] at h
    split at h
    · simp only [Option.some.injEq] at h; subst h; exact hsh (.inl rfl)
    · simp only [Option.some.injEq] at h; subst h; exact hsh (.inr rfl)
    · cases hi : isInt E t with
      | true => rw [hi, bt_true, Option.some.injEq] at h; subst h; exact hint
      | false => rw [hi, bt_false] at h; exact eqF_ok hb hE (.inl ⟨rfl, rfl⟩) h hs hi hc hx hy w hk
    · cases hi : isInt E t with
      | true => rw [hi, bt_true, Option.some.injEq] at h; subst h; exact hint
      | false => rw [hi, bt_false] at h; exact eqF_ok hb hE (.inr ⟨rfl, rfl⟩) h hs hi hc hx hy w hk
    · simp only [Option.some.injEq] at h; subst h; exact hint
theorem reads_bin (hE : EnvOk P E) {o : Oper} {op : BinOp} {t yt : TypeId} {x y : Operand} (ho : o.op = .binOp op t x y yt) : Reads P E o := by
  intro Φ hb ρ w0 w nt ds s a r hw hf h
  rw [ho]
  refine otC_ok hb fun F hF => opd_ok hb hf fun v hv => opd_ok hb hf fun u hu => ?_
  refine binF_ok hb hE hF (X := x) (Y := y) (fun e => ?_) hv hu w fun r q hr hq => h r q hr (by simp only [execOp, ho, Sem.run_bind, Sem.run_pure] at hq ⊢; rw [hq]; rfl)
  rw [bt_eq] at e
  split at e
  · exact .inl (by assumption)
  · exact .inr e
end Go.Ev
