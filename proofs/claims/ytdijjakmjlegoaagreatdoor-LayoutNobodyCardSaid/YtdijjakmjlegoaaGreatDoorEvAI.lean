/-
  A RANGE OVER A FUNCTION, as a statement; all code.
-/
import Derived.Test.YtdijjakmjlegoaaGreatDoorEvAH
namespace Go.Ev
open Go.RowKit (Below)
variable {P : Program} {E : Env} {ρ ρ' : Rho} {w0 w w' w1 w2 : World} {C : Ctx} {s : St} {a : Act} {cs : List Frame} {k : List Item} {b : Frame}

theorem stepR_scope {c : Code} : step P (lone (b.atR a (.code (.scope c) :: k)) cs w) = .next (lone (b.atR a (.code c :: .inScope c :: k)) cs w) :=
  step_lone_go (by simp [stepG, stepG.exec, Frame.atR])
theorem stepR_inScope {c : Code} : step P (lone (b.atR a (.inScope c :: k)) cs w) = .next (lone (b.atR a k) cs w) :=
  step_lone_go (by simp [stepG, stepG.exec, Frame.atR])
theorem finish_inRange (l : Nat) (v : Value) : (b.atR a (.inRangeFunc l :: k)).finish v = b.atR a (.endRangeFunc l :: k) := by simp [Frame.finish, Frame.atR]
theorem stepR_endRange {l : Nat} {jump : Option Code} (h : (Instr.endLoop l).run P w = .ok jump w') :
    step P (lone (b.atR a (.endRangeFunc l :: k)) cs w) = .next (lone (b.atR a ((jump.map Item.code).toList ++ k)) cs w') :=
  step_lone_go (by simp [stepG, stepG.exec, Frame.atR, Sem.runT_eq, h, GStep.bare_after])
section
variable {g : Operand} {ps : Array Tmp} {x y : Code} {l : Nat} {mark : List Deferred} {fn : Fn} {fst cap : Array Value}
  (he : (Instr.enterLoop b.fn a.tmps ps x y b.roundOf).run P w = .ok (l, mark) w1) (hx : a.eval g = .func fn fst cap)
include he hx
theorem stepR_range_enter {f : FuncId} {xs : Array Value} (hinv : (invoke (.fn fn cap) (fst ++ #[.func (.yield l) #[] #[]])).run P w1 = .ok (.enter f xs) w2) :
    step P (lone (b.atR a (.code (.rangeFunc g ps x y) :: k)) cs w) = .next (lone (Frame.enter P f xs .normal) (b.atR { a with defers := mark ++ a.defers } (.inRangeFunc l :: k) :: cs) w2) :=
  step_lone_go (by
    have hev := Frame.eval_atR b { a with defers := mark ++ a.defers } (.inRangeFunc l :: k)
    simp only [Frame.atR] at hev
    have hx' : ({ tmps := a.tmps, defers := mark ++ a.defers } : Act).eval g = .func fn fst cap := by rw [← hx]; cases g <;> rfl
    have hres : Sem.run P (resolve ({ tmps := a.tmps, defers := mark ++ a.defers } : Act).eval { callee := .value g, args := #[.const (.func (.yield l) #[] #[])], argTypes := #[] } 0) w1 = .ok { target := .fn fn cap, args := fst ++ #[.func (.yield l) #[] #[]] } w1 := by
      rw [run_resolve (c := { callee := .value g, args := #[.const (.func (.yield l) #[] #[])], argTypes := #[] }) rfl hx']; simp [Act.eval]
    have hinv' := hinv
    rw [← Array.push_eq_append] at hinv'
    simp [stepG, stepG.exec, Frame.atR, Sem.runT_eq, he, GStep.bare_after, stepG.apply, hev, Sem.run_bind, hres, hinv', Result.andThen])
theorem stepR_range_round {l2 : Nat} {f : FuncId} {tm : Array Value} {x2 y2 : Code} (hinv : (invoke (.fn fn cap) (fst ++ #[.func (.yield l) #[] #[]])).run P w1 = .ok (.round l2 f tm x2 y2) w2) :
    step P (lone (b.atR a (.code (.rangeFunc g ps x y) :: k)) cs w) = .next (lone (Frame.round l2 f tm x2 y2 .normal) (b.atR { a with defers := mark ++ a.defers } (.inRangeFunc l :: k) :: cs) w2) :=
  step_lone_go (by
    have hev := Frame.eval_atR b { a with defers := mark ++ a.defers } (.inRangeFunc l :: k)
    simp only [Frame.atR] at hev
    have hx' : ({ tmps := a.tmps, defers := mark ++ a.defers } : Act).eval g = .func fn fst cap := by rw [← hx]; cases g <;> rfl
    have hres : Sem.run P (resolve ({ tmps := a.tmps, defers := mark ++ a.defers } : Act).eval { callee := .value g, args := #[.const (.func (.yield l) #[] #[])], argTypes := #[] } 0) w1 = .ok { target := .fn fn cap, args := fst ++ #[.func (.yield l) #[] #[]] } w1 := by
      rw [run_resolve (c := { callee := .value g, args := #[.const (.func (.yield l) #[] #[])], argTypes := #[] }) rfl hx']; simp [Act.eval]
    have hinv' := hinv
    rw [← Array.push_eq_append] at hinv'
    simp [stepG, stepG.exec, Frame.atR, Sem.runT_eq, he, GStep.bare_after, stepG.apply, hev, Sem.run_bind, hres, hinv', Result.andThen])
end
theorem run_enterLoop (f : FuncId) (tmps : Array Value) (ps : Array Tmp) (x y : Code) (w : World) : (Instr.enterLoop f tmps ps x y none).run P w =
    .ok (w.heap.size + 1, [{ target := .collected w.heap.size, args := #[] }]) ((w.alloc (.deferred (some []))).alloc (.loop { state := .ready, pending := none, fn := f, tmps, params := ps, assign := x, body := y, defers := w.heap.size })) := by
  simp [Instr.enterLoop, run_newObj_alloc]
theorem run_getLoop {l : Nat} {L : Loop} (h : w.heap[l]? = some (.loop L)) : (Instr.getLoop l).run P w = .ok L w := by
  simp only [Instr.getLoop, Sem.run_bind, run_getObj' h (by intro c t f e; cases e), Result.andThen_ok, Sem.run_pure]
theorem run_setObj' {l : Nat} {o o' : Obj} (h : w.heap[l]? = some o) (hn : ∀ c t f, o ≠ .cells c t f) : (setObj l o').run P w = .ok () { w with heap := w.heap.setIfInBounds l o' } := by
  simp only [setObj, Sem.run, h]
theorem run_endLoop {l : Nat} {L : Loop} (h : w.heap[l]? = some (.loop L)) (hs : L.state ≠ .busy) : (Instr.endLoop l).run P w = .ok L.pending { w with heap := w.heap.setIfInBounds l (.loop { L with state := .exhausted }) } := by
  have hb : (L.state == LoopState.busy) = false := by
    cases hq : L.state <;> first | rfl | exact absurd hq hs
  simp only [Instr.endLoop, Sem.run_bind, run_getLoop h, Result.andThen_ok, hb, Bool.false_eq_true, if_false, Sem.run_pure, run_setObj' h (by intro c t f e; cases e)]
/-- a loop's record, as the evaluator knows it -/
theorem WR.loop {H : Hp} (hw : WR P w0 ρ H w) {l : Nat} {x : Nat × Nat × Nat} (hx : ρ l = some x) {st : LoopState} {pend : Option Code} {cx : Cx} {tm : TT AV 2} {ps : List Nat} {c d : Code} (hg : H.get l = some (.loop st pend cx tm ps c d)) :
    ∃ L, w.heap[x.1]? = some (.loop L) ∧ L.state = st ∧ L.pending = pend ∧ cx.nt ≤ L.tmps.size ∧ TR P ρ tm L.tmps ∧ L.params.toList = ps ∧ L.assign = c ∧ L.body = d ∧ cx.rd = true ∧ psOk cx.nt ps = true ∧ psIn cx.ms ps = true ∧ (∀ t v, t < 256 → (acc AV 2 t).get tm = some v → kept cx.ms t = true) ∧ ∃ fn, P.funcs[L.fn]? = some fn := by
  obtain ⟨o, ho, hr⟩ := hw.hr.live l _ x hg hx
  cases hr with
  | loop cx tm ps a b pend L hn ht hp ha hb hd hrd hps hpi htk hfn => exact ⟨L, ho, rfl, hd, hn, ht, hp, ha, hb, hrd, hps, hpi, htk, hfn⟩
/-- a loop's record turned -/
theorem WR.setLoop {H : Hp} (hw : WR P w0 ρ H w) {l : Nat} {x : Nat × Nat × Nat} (hx : ρ l = some x) {st : LoopState} {pend : Option Code} {cx : Cx} {tm : TT AV 2} {ps : List Nat} {c d : Code} (hg : H.get l = some (.loop st pend cx tm ps c d))
    {L : Loop} (hL : w.heap[x.1]? = some (.loop L)) (st' : LoopState) (pend' : Option Code) :
    WR P w0 ρ ⟨(acc AB 4 l).set H.bl (some (.loop st' pend' cx tm ps c d)), H.nx⟩ { w with heap := w.heap.setIfInBounds x.1 (.loop { L with state := st', pending := pend' }) } := by
  obtain ⟨L', h0, h1, h2, h3, h4, h5, h6, h7, h8, h9, h10, h11, h12⟩ := hw.loop hx hg
  rw [hL] at h0; cases h0
  refine WR.up (o' := .loop { L with state := st', pending := pend' }) (w' := { w with heap := w.heap.setIfInBounds x.1 (.loop { L with state := st', pending := pend' }) }) hw hg hx ?_ rfl rfl rfl rfl H.nx
  exact .loop cx tm ps c d pend' { L with state := st', pending := pend' } h3 h4 h5 h6 h7 rfl h8 h9 h10 h11 h12
end Go.Ev
