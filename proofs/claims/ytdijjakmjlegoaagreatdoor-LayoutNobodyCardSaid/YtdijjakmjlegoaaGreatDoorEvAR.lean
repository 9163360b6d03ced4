/-
  ALL PLAIN OPERATIONS; the evaluator's word, without conditions on operations.
-/
import Derived.Test.YtdijjakmjlegoaaGreatDoorEvAQ
namespace Go.Ev
open Go.RowKit (Below)
variable {P : Program} {E : Env} {ρ ρ' : Rho} {w0 w w' : World}

theorem does_bad {o : Oper} (h : ∀ (Φ : Out → Prop), (∀ c, Φ (.bad_ c)) → ∀ E ds r s, Φ ((opA o.op E ds o.dst).run r s)) : Does P E o := fun Φ hb _ _ _ _ _ _ _ _ _ _ _ _ => h Φ hb _ _ _ _
theorem does_all (hE : EnvOk P E) (o : Oper) (hp : plainOp o.op = true) : Does P E o := by
  by_cases hc : cls E o.op = 0
  · exact (reads_all hE hc).does
  cases ho : o.op with
  | alloc t => exact does_alloc hE ho
  | box t x => exact does_box ho
  | buildSlice t n ps => exact does_buildSlice hE ho
  | makeSlice t l c => exact does_makeSlice hE ho
  | makeMap t x => exact does_makeMap ho
  | store t a x => exact does_store hE ho
  | convert a b x => exact does_conv hE ho
  | mapUpdate t m k x => exact does_mapUpdate hE ho
  | call c =>
    rw [ho] at hp hc
    cases hcl : c.callee with
    | value f => simp [plainOp, hcl] at hp
    | invoke rc n =>
      intro Φ hb _ _ _ _ _ s _ r _ _ _ _
      rw [ho]
      show Φ (((@Callee.rec (fun _ => Cl) _ _ _ c.callee : Cl)).run r s)
      rw [hcl]; exact hb _
    | builtin b =>
      have bad : (∀ ats, builtinF E b ats = none) → b ≠ .recover → Does P E o := by
        intro h hne Φ hb ρ w0 w nt ds s a r _ _ _ _
        rw [ho]
        show Φ (((@Callee.rec (fun _ => Cl) _ _ _ c.callee : Cl)).run r s)
        rw [hcl]
        show Φ ((opBuiltin b c.args c.argTypes E ds o.dst).run r s)
        unfold opBuiltin
        split
        · exact absurd rfl hne
        · exact otC_ok hb fun F hF => by rw [h] at hF; cases hF
      cases b with
      | append => exact does_append hE ho hcl
      | copy => exact does_copy hE ho hcl
      | delete => exact does_delete hE ho hcl
      | unsafeString => exact does_uStr hE ho hcl
      | recover => simp [plainOp, hcl] at hp
      | len => simp [cls, hcl, clsB] at hc
      | cap => simp [cls, hcl, clsB] at hc
      | min => simp [cls, hcl, clsB] at hc
      | max => simp [cls, hcl, clsB] at hc
      | unsafeSliceData => simp [cls, hcl, clsB] at hc
      | _ => exact bad (fun _ => rfl) (by simp)
  | defer c => rw [ho] at hp; cases hp
  | panic x => rw [ho] at hp; cases hp
  | move x => rw [ho] at hc; exact absurd rfl hc
  | assign x => rw [ho] at hc; exact absurd rfl hc
  | pick c a b => rw [ho] at hc; exact absurd rfl hc
  | build t ps => rw [ho] at hc; exact absurd rfl hc
  | load t a => rw [ho] at hc; exact absurd rfl hc
  | nilCheck x => rw [ho] at hc; exact absurd rfl hc
  | binOp op t x y yt => rw [ho] at hc; exact absurd rfl hc
  | unOp op t x => rw [ho] at hc; exact absurd rfl hc
  | makeInterface t x => rw [ho] at hc; exact absurd rfl hc
  | makeFunc f a c => rw [ho] at hc; exact absurd rfl hc
  | slice t x l h m => rw [ho] at hc; exact absurd rfl hc
  | fieldAddr t x f => rw [ho] at hc; exact absurd rfl hc
  | field t x f => rw [ho] at hc; exact absurd rfl hc
  | indexAddr t x i => rw [ho] at hc; exact absurd rfl hc
  | index t x i => rw [ho] at hc; exact absurd rfl hc
  | lookup t x i k => rw [ho] at hc; exact absurd rfl hc
  | typeAssert x t u k => rw [ho] at hc; exact absurd rfl hc
  | extract x i => rw [ho] at hc; exact absurd rfl hc
  | _ => exact does_bad fun Φ hb E ds r s => by rw [ho]; exact hb _
/-- a call without arguments, in whatever world: what it answers; what was there is as it was -/
theorem run_ev (hE : EnvOk P E) {n : Nat} {f : FuncId} {b : Bool} {h' : Hp} {pn : Option AV} {nx : Nat} (hev : (ev E n).call f [] none ⟨emp AB 4, nx⟩ = .ret (.bool b) h' pn) (w : World) :
    Calls P f #[] w fun e w' => e = .returned (.bool b) ∧ Below w.heap.size w w' := ev_run hE (does_all hE) hev w
/-- did it answer true? -/
noncomputable def yes (r : CRes) : Bool := @CRes.rec (fun _ => Bool) (fun _ => false) (fun v _ _ => @AV.rec (fun _ => Bool) (fun _ => PUnit) (fun b => b) (fun _ _ => false) (fun _ _ => false) (fun _ => false) (fun _ _ => false) false (fun _ _ _ _ _ => false) false false (fun _ => false) false
  (fun _ _ _ _ _ => false) false (fun _ _ _ => false) false (fun _ _ => false) (fun _ _ => false) false ⟨⟩ (fun _ _ _ _ => ⟨⟩) v) (fun _ _ _ => false) r
theorem yes_inv {r : CRes} (h : yes r = true) : ∃ h' pn, r = .ret (.bool true) h' pn := by
  cases r with
  | bad_ c => cases h
  | panic v h' pn => cases h
  | ret v h' pn =>
    cases v <;> try (cases h; done)
    next b => change b = true at h; subst h; exact ⟨h', pn, rfl⟩
theorem run_yes (hE : EnvOk P E) {n : Nat} {f : FuncId} {nx : Nat} (hev : yes ((ev E n).call f [] none ⟨emp AB 4, nx⟩) = true) (w : World) :
    Calls P f #[] w fun e w' => e = .returned (.bool true) ∧ Below w.heap.size w w' := by
  obtain ⟨h', pn, h⟩ := yes_inv hev
  exact run_ev hE h w
#print axioms run_yes
end Go.Ev
