/-
  THE MACHINE's STEPS, IN A FRAME: an operation of a region, its guard; frames that are called, and what they leave.
-/
import Derived.Test.YtdijjakmjlegoaaGreatDoorEvG
import Derived.AtR
import Derived.Orders
import Derived.Defers
import Derived.Recover
namespace Go.Ev
open Go.RowKit (Below)
variable {P : Program} {E : Env} {ρ ρ' : Rho} {w0 w w' : World} {b : Frame} {a : Act} {k : List Item} {cs : List Frame} {ops : Array Oper} {i : Nat} {rest : List Nat} {o : Oper}

theorem wanted_of {a : Act} (h : Region.wanted o (yielded ops a.tmps) = true) (ho : ops[i]? = some o) : ((ops[i]?).map (Region.wanted · (yielded ops a.tmps))).getD false = true := by rw [ho]; simpa using h
theorem sem_at (hd : b.roundOf = none ∨ ∀ c, o.op ≠ .defer c) (f : Operand → Value) : o.semAt b.roundOf f = execOp f o := by
  rcases hd with h | h
  · rw [h]; rfl
  · exact Oper.semAt_eq _ _ _ h
theorem fin_atR (ho : ops[i]? = some o) (v : Value) : (b.atR a (.inRegion ops (i :: rest) :: k)).finish v = b.atR (a.put o.dst v) (.inRegion ops rest :: k) := by
  rw [Frame.finish_atR, ho]; rfl
section
variable (ho : ops[i]? = some o) (hw : Region.wanted o (yielded ops a.tmps) = true)
include ho hw
theorem stepR_value (hd : ∀ c, o.op ≠ .defer c) {u : Value} (hr : (execOp a.eval o).run P w = .ok (.value u) w') :
    step P (lone (b.atR a (.inRegion ops (i :: rest) :: k)) cs w) = .next (lone (b.atR (a.put o.dst u) (.inRegion ops rest :: k)) cs w') := by
  rw [← fin_atR ho]
  exact step_lone_go (by rw [stepGR_op ho hw, sem_at (.inr hd)]; simp [stepG.apply, hr])
theorem stepR_skipped (hd : ∀ c, o.op ≠ .defer c) (hr : (execOp a.eval o).run P w = .ok .skip w') :
    step P (lone (b.atR a (.inRegion ops (i :: rest) :: k)) cs w) = .next (lone (b.atR (a.put o.dst undef) (.inRegion ops rest :: k)) cs w') := by
  rw [← fin_atR ho]
  exact step_lone_go (by rw [stepGR_op ho hw, sem_at (.inr hd)]; simp [stepG.apply, hr])
theorem stepR_deferred (hd : b.roundOf = none) {d : Deferred} (hr : (execOp a.eval o).run P w = .ok (.defer d) w') :
    step P (lone (b.atR a (.inRegion ops (i :: rest) :: k)) cs w) = .next (lone (b.atR ({ a with defers := d :: a.defers }.put o.dst undef) (.inRegion ops rest :: k)) cs w') := by
  rw [← fin_atR ho]
  exact step_lone_go (by rw [stepGR_op ho hw, sem_at (.inl hd)]; simp only [stepG.apply, Sem.runT_eq, hr, GStep.bare_after]; rfl)
theorem stepR_panics (hd : ∀ c, o.op ≠ .defer c) {v : Value} (hr : (execOp a.eval o).run P w = .halt (.panic v) w') :
    step P (lone (b.atR a (.inRegion ops (i :: rest) :: k)) cs w) = .next (lone { b.atR a (.inRegion ops (i :: rest) :: k) with mode := .panicking [{ v, recovered := false }] } cs w') := by
  rw [← Frame.raise_atR]
  exact step_lone_go (by rw [stepGR_op ho hw, sem_at (.inr hd)]; simp [stepG.apply, hr])
theorem stepR_enter (hd : ∀ c, o.op ≠ .defer c) {f : FuncId} {xs : Array Value} (hr : (execOp a.eval o).run P w = .ok (.enter f xs) w') :
    step P (lone (b.atR a (.inRegion ops (i :: rest) :: k)) cs w) = .next (lone (Frame.enter P f xs .normal) (b.atR a (.inRegion ops (i :: rest) :: k) :: cs) w') :=
  step_lone_go (by rw [stepGR_op ho hw, sem_at (.inr hd)]; simp [stepG.apply, hr, Frame.atR])
theorem stepR_round (hd : ∀ c, o.op ≠ .defer c) {l : Nat} {f : FuncId} {tm : Array Value} {x y : Code} (hr : (execOp a.eval o).run P w = .ok (.round l f tm x y) w') :
    step P (lone (b.atR a (.inRegion ops (i :: rest) :: k)) cs w) = .next (lone (Frame.round l f tm x y .normal) (b.atR a (.inRegion ops (i :: rest) :: k) :: cs) w') :=
  step_lone_go (by rw [stepGR_op ho hw, sem_at (.inr hd)]; simp [stepG.apply, hr, Frame.atR])
theorem stepR_recover_some (hb : b.roundOf = none) (hd : ∀ c, o.op ≠ .defer c) {v : Value} {cs' : List Frame} (hr : (execOp a.eval o).run P w = .ok .recover w')
    (ht : tryRecover (b.atR a (.inRegion ops (i :: rest) :: k)) cs = some (v, cs')) :
    step P (lone (b.atR a (.inRegion ops (i :: rest) :: k)) cs w) = .next (lone (b.atR (a.put o.dst v) (.inRegion ops rest :: k)) cs' w') := by
  rw [← fin_atR ho]
  have hro : (b.atR a (.inRegion ops (i :: rest) :: k)).roundOf = none := hb
  exact step_lone_go (by rw [stepGR_op ho hw, sem_at (.inr hd)]; simp [stepG.apply, hr, hro, ht])
theorem stepR_recover_none (hb : b.roundOf = none) (hd : ∀ c, o.op ≠ .defer c) (hr : (execOp a.eval o).run P w = .ok .recover w')
    (ht : tryRecover (b.atR a (.inRegion ops (i :: rest) :: k)) cs = none) :
    step P (lone (b.atR a (.inRegion ops (i :: rest) :: k)) cs w) = .next (lone (b.atR (a.put o.dst .nilIface) (.inRegion ops rest :: k)) cs w') := by
  rw [← fin_atR ho]
  have hro : (b.atR a (.inRegion ops (i :: rest) :: k)).roundOf = none := hb
  exact step_lone_go (by rw [stepGR_op ho hw, sem_at (.inr hd)]; simp [stepG.apply, hr, hro, ht])
end

/-! ### what waits in the callers -/
def noRec (kind : CallKind) (cs : List Frame) : Prop := ∀ fr : Frame, fr.kind = kind → tryRecover fr cs = none
theorem noRec_normal (cs : List Frame) : noRec .normal cs := fun fr h => by
  unfold tryRecover; rw [h]
/-- a panic waits (some), or none that recover finds -/
def Pn (P : Program) (ρ : Rho) (kind : CallKind) (pn : Option AV) (cs : List Frame) : Prop :=
  match pn with
  | none => noRec kind cs
  | some v => kind = .deferred ∧ ∃ c r v', cs = c :: r ∧ c.mode = .panicking [{ v := v', recovered := false }] ∧ VR P ρ v v'
theorem Pn.mono (h : ρ.le ρ') {kind : CallKind} {pn : Option AV} (hp : Pn P ρ kind pn cs) : Pn P ρ' kind pn cs := by
  cases pn with
  | none => exact hp
  | some v => obtain ⟨h1, c, r, v', h2, h3, h4⟩ := hp; exact ⟨h1, c, r, v', h2, h3, h4.mono h⟩
/-- the callers, since the frame began: as they were, or the panic has been recovered -/
def Cs (P : Program) (kind : CallKind) (pn0 : Option AV) (cs0 : List Frame) (ρ : Rho) (pn : Option AV) (cs : List Frame) : Prop :=
  (pn = pn0 ∧ cs = cs0 ∧ Pn P ρ kind pn cs) ∨
    (pn = none ∧ pn0 ≠ none ∧ kind = .deferred ∧ ∃ c r v', cs0 = c :: r ∧ c.mode = .panicking [{ v := v', recovered := false }] ∧ cs = { c with mode := .panicking [{ v := v', recovered := true }] } :: r)
theorem Cs.mono (h : ρ.le ρ') {kind : CallKind} {pn0 pn : Option AV} {cs0 : List Frame} (hp : Cs P kind pn0 cs0 ρ pn cs) : Cs P kind pn0 cs0 ρ' pn cs := by
  rcases hp with ⟨h1, h2, h3⟩ | h1
  · exact .inl ⟨h1, h2, h3.mono h⟩
  · exact .inr h1
theorem Cs.start {kind : CallKind} {pn : Option AV} (h : Pn P ρ kind pn cs) : Cs P kind pn cs ρ pn cs := .inl ⟨rfl, rfl, h⟩
theorem Cs.normal {pn0 pn : Option AV} {cs0 : List Frame} (h : Cs P .normal pn0 cs0 ρ pn cs) : cs = cs0 ∧ pn = pn0 := by
  rcases h with ⟨h1, h2, h3⟩ | ⟨_, _, h3, _⟩
  · exact ⟨h2, h1⟩
  · cases h3
theorem Cs.pn {kind : CallKind} {pn0 pn : Option AV} {cs0 : List Frame} (h : Cs P kind pn0 cs0 ρ pn cs) : Pn P ρ kind pn cs := by
  rcases h with ⟨h1, h2, h3⟩ | ⟨rfl, _, rfl, c, r, v', h4, h5, rfl⟩
  · exact h3
  · intro fr hf
    rw [tryRecover_deferred hf]; rfl

structure Ctx where
  b : Frame
  pn0 : Option AV
  cs0 : List Frame
  nt : Nat
  ms : Nat
/-- what a state says of a frame and its world -/
structure SR (P : Program) (w0 : World) (C : Ctx) (ρ : Rho) (ds : List Nat) (s : St) (a : Act) (cs : List Frame) (w : World) : Prop where
  wr : WR P w0 ρ s.h w
  fresh : Fresh ρ s.h
  fr : Fr P ρ C.nt ds s.lo s.tm a.tmps
  tk : ∀ t v, t < 256 → (acc AV 2 t).get s.tm = some v → kept C.ms t = true
  df : DRs P ρ s.ds a.defers
  cs : Cs P C.b.kind C.pn0 C.cs0 ρ s.pn cs
  len : s.lo.length = ds.length
structure CtxOk (P : Program) (C : Ctx) (cx : Cx) : Prop where
  nt : cx.nt = C.nt
  ms : cx.ms = C.ms
  rd : cx.rd = C.b.roundOf.isSome
  kd : C.b.kind = .normal ∨ C.b.kind = .deferred
  rn : C.b.roundOf.isSome = true → C.b.kind = .normal
  fx : ∃ fn, P.funcs[C.b.fn]? = some fn

def pan (v : Value) : FrameMode := .panicking [{ v := v, recovered := false }]
/-- what code leaves -/
def OutOk (P : Program) (w0 : World) (C : Ctx) (ρ : Rho) (H : Hp) (k : List Item) (m : Machine) : Out → Prop
  | .bad_ _ => True
  | .ok s' => ∃ ρ' a' cs' w', Ext H ρ s'.h ρ' ∧ SR P w0 C ρ' [] s' a' cs' w' ∧ Steps P m (lone (C.b.atR a' k) cs' w')
  | .lv e s' => ∃ ρ' a' cs' w', Ext H ρ s'.h ρ' ∧ SR P w0 C ρ' [] s' a' cs' w' ∧ ∃ k1, match e with
    | .exit i => exitTo i k1 = exitTo i k ∧ Steps P m (lone (C.b.atR a' (.code (.exit i) :: k1)) cs' w')
    | .ret => Steps P m (lone (C.b.atR a' (.code .ret :: k1)) cs' w')
    | .panic v => ∃ v', VR P ρ' v v' ∧ Steps P m (lone { C.b.atR a' k1 with mode := pan v' } cs' w')
/-- what a call leaves -/
def ResOk (P : Program) (w0 : World) (kind : CallKind) (pn0 : Option AV) (cs0 : List Frame) (ρ : Rho) (H : Hp) (f : FuncId) (m : Machine) : CRes → Prop
  | .bad_ _ => True
  | .ret v h pn => ∃ ρ' w' fr cs' v', Ext H ρ h ρ' ∧ WR P w0 ρ' h w' ∧ Fresh ρ' h ∧ VR P ρ' v v' ∧ Cs P kind pn0 cs0 ρ' pn cs' ∧ Steps P m (lone fr cs' w') ∧ fr.fn = f ∧ fr.mode = .returning ∧ fr.defers = [] ∧ fr.kind = kind ∧
      ∃ fn, P.funcs[fr.fn]? = some fn ∧ (Go.results fn fr.tmps).run P w' = .ok v' w'
  | .panic v h pn => ∃ ρ' w' fr cs' v', Ext H ρ h ρ' ∧ WR P w0 ρ' h w' ∧ Fresh ρ' h ∧ VR P ρ' v v' ∧ Cs P kind pn0 cs0 ρ' pn cs' ∧ Steps P m (lone fr cs' w') ∧ fr.fn = f ∧ fr.mode = pan v' ∧ fr.defers = [] ∧ fr.kind = kind ∧
      ∃ fn, P.funcs[fr.fn]? = some fn
/-- what a caller c meets -/
def AppOk (P : Program) (w0 : World) (ρ : Rho) (H : Hp) (m : Machine) (c : Frame) (cs : List Frame) : CRes → Prop
  | .bad_ _ => True
  | .ret v h _ => ∃ ρ' w' v', Ext H ρ h ρ' ∧ WR P w0 ρ' h w' ∧ Fresh ρ' h ∧ VR P ρ' v v' ∧ Steps P m (lone (c.finish v') cs w')
  | .panic v h _ => ∃ ρ' w' v', Ext H ρ h ρ' ∧ WR P w0 ρ' h w' ∧ Fresh ρ' h ∧ VR P ρ' v v' ∧ Steps P m (lone (c.raise [{ v := v', recovered := false }]) cs w')
structure RecOk (P : Program) (E : Env) (r : Rec) : Prop where
  code : ∀ w0 C ρ s a cs w c cx k, CtxOk P C cx → SR P w0 C ρ [] s a cs w → OutOk P w0 C ρ s.h k (lone (C.b.atR a (.code c :: k)) cs w) (r.code c cx s)
  loop : ∀ w0 C ρ s a cs w c cx k, CtxOk P C cx → SR P w0 C ρ [] s a cs w → OutOk P w0 C ρ s.h k (lone (C.b.atR a (.inLoop c :: k)) cs w) (r.code (.loop c) cx s)
  call : ∀ w0 f args pn h ρ args' w kind cs, WR P w0 ρ h w → Fresh ρ h → VRs P ρ args args'.toList → (kind = .normal ∨ kind = .deferred) → Pn P ρ kind pn cs →
    (∃ fn, P.funcs[f]? = some fn ∧ fn.body.isSome = true ∧ (fn.name == "runtime.NumGoroutine") = false) ∧ ResOk P w0 kind pn cs ρ h f (lone (Frame.enter P f args' kind) cs w) (r.call f args pn h) ∨ ∃ c, r.call f args pn h = .bad_ c
  round : ∀ w0 l args h ρ args' w x c cs, WR P w0 ρ h w → Fresh ρ h → VRs P ρ args args'.toList → ρ l = some x →
    (∃ f tm y z, (invoke (.fn (.yield x.1) #[]) args').run P w = .ok (.round x.1 f tm y z) w ∧ AppOk P w0 ρ h (lone (Frame.round x.1 f tm y z .normal) (c :: cs) w) c cs (r.round l args h)) ∨ ∃ c, r.round l args h = .bad_ c
  unw : ∀ w0 C ρ fn s a cs w todo, C.b.roundOf = none → (C.b.kind = .normal ∨ C.b.kind = .deferred) → P.funcs[C.b.fn]? = some fn → SR P w0 C ρ [] s a cs w →
    ResOk P w0 C.b.kind C.pn0 C.cs0 ρ s.h C.b.fn (lone { C.b.atR a todo with mode := .returning } cs w) (r.unw fn none s)
  unwP : ∀ w0 C ρ fn s a cs w todo v v', C.b.roundOf = none → (C.b.kind = .normal ∨ C.b.kind = .deferred) → P.funcs[C.b.fn]? = some fn → SR P w0 C ρ [] s a cs w → VR P ρ v v' →
    ResOk P w0 C.b.kind C.pn0 C.cs0 ρ s.h C.b.fn (lone { C.b.atR a todo with mode := pan v' } cs w) (r.unw fn (some v) s)
end Go.Ev
