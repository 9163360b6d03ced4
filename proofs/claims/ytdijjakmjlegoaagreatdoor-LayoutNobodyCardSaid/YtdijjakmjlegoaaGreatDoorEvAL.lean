/-
  THE EVALUATOR's ANSWERS ARE THE MACHINE's: calls, unwinding, rounds, by the evaluator's fuel.
-/
import Derived.Test.YtdijjakmjlegoaaGreatDoorEvAK
namespace Go.Ev
open Go.RowKit (Below)
variable {P : Program} {E : Env} {ρ ρ' : Rho} {w0 w w' w1 w2 : World} {C : Ctx} {s : St} {a : Act} {cs : List Frame} {k : List Item} {b : Frame} {Φ : Out → Prop}

theorem unw_ok {r : Rec} (hE : EnvOk P E) (hr : RecOk P E r) {fn : Func} {todo : List Item} {e : Option AV} {u : FrameMode} (hro : C.b.roundOf = none) (hkd : C.b.kind = .normal ∨ C.b.kind = .deferred) (hf : P.funcs[C.b.fn]? = some fn) (h : SR P w0 C ρ [] s a cs w)
    (hu : (e = none ∧ u = .returning) ∨ ∃ v v', e = some v ∧ u = pan v' ∧ VR P ρ v v') :
    ResOk P w0 C.b.kind C.pn0 C.cs0 ρ s.h C.b.fn (lone { C.b.atR a todo with mode := u } cs w) (unwA E r fn e s) := by
  have hum : u ≠ .run := by rcases hu with ⟨_, rfl⟩ | ⟨_, _, _, rfl, _⟩ <;> simp [pan]
  unfold unwA
  have hdf := h.df
  split
  · next hds =>
    rw [hds] at hdf
    have ha : a.defers = [] := by generalize a.defers = q at hdf; cases hdf; rfl
    rcases hu with ⟨rfl, rfl⟩ | ⟨v, v', rfl, rfl, hv⟩
    · exact results_ok hE hf h hds
    · exact ⟨ρ, w, _, cs, v', Ext.refl, h.wr, h.fresh, hv, h.cs, .refl _ _, rfl, rfl, ha, rfl, fn, hf⟩
  · next g fa fc args ds hds =>
    rw [hds] at hdf
    generalize hq : a.defers = q at hdf
    cases hdf with
    | cons _ d _ dfs hd1 hds1 =>
    cases hd1 with
    | fn _ _ fn' fst cap args' hfn hargs =>
    cases hfn with
    | fn _ _ _ _ _ h1 h2 =>
    have hxs : VRs P ρ (app fa (app args fc)) (((fst ++ args'.toArray) ++ cap).toList) := by
      rw [app_eq, app_eq, Array.toList_append, Array.toList_append, List.append_assoc]
      exact h1.append (hargs.append h2)
    have hsr : SR P w0 C ρ [] ⟨s.lo, s.tm, ds, s.h, s.pn⟩ { a with defers := dfs } cs w := ⟨h.wr, h.fresh, h.fr, h.tk, hds1, h.cs, h.len⟩
    exact deferred_ok (a := a) (todo := todo) hr hro hkd hf hu hds1 hsr hxs fun he => .one (step_defer (fr := { C.b.atR a todo with mode := u }) (cs := cs) hum hq rfl (run_enter he w))
  · trivial
  · next bb ds hds =>
    rw [hds] at hdf
    generalize hq : a.defers = q at hdf
    cases hdf with
    | cons _ d _ dfs hd1 hds1 =>
    cases hd1 with
    | coll _ x hx =>
    split
    · next hg =>
      obtain ⟨o, ho, hbr⟩ := h.wr.hr.live bb _ x hg hx
      cases hbr with
      | dfr _ calls hcalls =>
      have hc := hcalls rfl
      subst hc
      obtain ⟨lo, tm, df, ⟨bl, nx⟩, pn⟩ := s
      have hwr : WR P w0 ρ ⟨(acc AB 4 bb).set bl (some (.dfr true)), nx⟩ { w with heap := w.heap.setIfInBounds x.1 (.deferred none) } :=
        WR.up (o' := .deferred none) (w' := { w with heap := w.heap.setIfInBounds x.1 (.deferred none) }) h.wr hg hx (.dfr true none (by simp)) rfl rfl rfl rfl nx
      have hsr : SR P w0 C ρ [] ⟨lo, tm, ds, ⟨(acc AB 4 bb).set bl (some (.dfr true)), nx⟩, pn⟩ { a with defers := dfs } cs { w with heap := w.heap.setIfInBounds x.1 (.deferred none) } :=
        ⟨hwr, h.fresh.nx rfl, h.fr, h.tk, hds1, h.cs, h.len⟩
      have hst := step_collected (P := P) (fr := { C.b.atR a todo with mode := u }) (cs := cs) hum hq ho
      show ResOk P w0 C.b.kind C.pn0 C.cs0 ρ ⟨bl, nx⟩ C.b.fn _ (r.unw fn e ⟨lo, tm, ds, ⟨(acc AB 4 bb).set bl (some (.dfr true)), nx⟩, pn⟩)
      rcases hu with ⟨rfl, rfl⟩ | ⟨v, v', rfl, rfl, hv⟩
      · exact ResOk.from (H := ⟨(acc AB 4 bb).set bl (some (.dfr true)), nx⟩) (Ext.same rfl) (.one hst) (hr.unw w0 C ρ fn _ { a with defers := dfs } cs _ todo hro hkd hf hsr)
      · exact ResOk.from (H := ⟨(acc AB 4 bb).set bl (some (.dfr true)), nx⟩) (Ext.same rfl) (.one hst) (hr.unwP w0 C ρ fn _ { a with defers := dfs } cs _ todo v v' hro hkd hf hsr hv)
    · trivial
theorem call_ok' {r : Rec} (hE : EnvOk P E) (D : ∀ o, plainOp o.op = true → Does P E o) (hr : RecOk P E r) {f : FuncId} {args : List AV} {pn : Option AV} {h : Hp} {args' : Array Value} {kind : CallKind}
    (hw : WR P w0 ρ h w) (hfr : Fresh ρ h) (ha : VRs P ρ args args'.toList) (hk : kind = .normal ∨ kind = .deferred) (hp : Pn P ρ kind pn cs) :
    ((∃ fn, P.funcs[f]? = some fn ∧ fn.body.isSome = true ∧ (fn.name == "runtime.NumGoroutine") = false) ∧ ResOk P w0 kind pn cs ρ h f (lone (Frame.enter P f args' kind) cs w) ((fnC E f).run r args pn h)) ∨ ∃ c, (fnC E f).run r args pn h = .bad_ c := by
  unfold fnC
  cases hlt : Nat.blt f 4096 with
  | false => exact .inr ⟨_, rfl⟩
  | true =>
    rw [bt_true]
    rw [Nat.blt_eq] at hlt
    cases hfs : (acc Func 3 f).get E.fs with
    | none => exact .inr ⟨_, rfl⟩
    | some fn =>
      obtain ⟨hf, hname⟩ := hE.fs f fn hlt hfs
      cases hbody : fn.body with
      | none =>
        refine .inr ⟨6, ?_⟩
        show ((@Option.rec Code (fun _ => Fc) fcBad _ fn.body : Fc)).run r args pn h = _
        rw [hbody]; rfl
      | some c =>
        have hrun : ((@Option.rec Func (fun _ => Fc) fcBad (fun fn => @Option.rec Code (fun _ => Fc) fcBad
            (fun c => forceNat (Nat.lor (maskOf fn) (Nat.pred (Nat.shiftLeft (nat_lit 1) (Nat.add fn.params.size fn.nfree)))) fun m => forceNat fn.ntmps fun n => ⟨fun r args pn h => bt (argsIn m args (nat_lit 0)) (ot (setAll (emp AV 2) (nat_lit 0) args) (.bad_ 7) fun t => onEnd r fn ((comp c E ⟨m, n, false⟩).run r ⟨[], t, [], h, pn⟩)) (.bad_ 16)⟩) fn.body) (some fn) : Fc)).run r args pn h =
          (forceNat (Nat.lor (maskOf fn) (Nat.pred (Nat.shiftLeft (nat_lit 1) (Nat.add fn.params.size fn.nfree)))) fun m => (forceNat fn.ntmps fun n => (⟨fun r args pn h => bt (argsIn m args (nat_lit 0)) (ot (setAll (emp AV 2) (nat_lit 0) args) (.bad_ 7) fun t => onEnd r fn ((comp c E ⟨m, n, false⟩).run r ⟨[], t, [], h, pn⟩)) (.bad_ 16)⟩ : Fc))).run r args pn h := by
          show ((@Option.rec Code (fun _ => Fc) fcBad _ fn.body : Fc)).run r args pn h = _
          rw [hbody]
        rw [hrun, forceNat_eq, forceNat_eq]
        generalize Nat.lor (maskOf fn) (Nat.pred (Nat.shiftLeft 1 (Nat.add fn.params.size fn.nfree))) = m
        show _ ∨ ∃ c_1, bt (argsIn m args 0) (ot (setAll (emp AV 2) 0 args) (.bad_ 7) fun t => onEnd r fn ((comp c E ⟨m, fn.ntmps, false⟩).run r ⟨[], t, [], h, pn⟩)) (.bad_ 16) = .bad_ c_1
        cases hin : argsIn m args 0 with
        | false => exact .inr ⟨_, rfl⟩
        | true =>
          rw [bt_true]
          cases hset : setAll (emp AV 2) 0 args with
          | none => exact .inr ⟨_, rfl⟩
          | some t =>
            refine .inl ⟨⟨fn, hf, by rw [hbody]; rfl, hname⟩, ?_⟩
            show ResOk P w0 kind pn cs ρ h f _ (bt (argsIn m args 0) (ot (setAll (emp AV 2) 0 args) (.bad_ 7) fun t => onEnd r fn ((comp c E ⟨m, fn.ntmps, false⟩).run r ⟨[], t, [], h, pn⟩)) (.bad_ 16))
            rw [hin, hset, bt_true, ot_some]
            let b : Frame := { (default : Frame) with fn := f, kind := kind }
            let a0 : Act := { tmps := args' ++ Array.replicate (fn.ntmps - args'.size) undef, defers := [] }
            have henter : Frame.enter P f args' kind = b.atR a0 [.code c] := by
              simp [Frame.enter, Frame.atR, hf, hbody, b, a0]; rfl
            have hsz : args'.toList.length = args'.size := by simp
            have hal := ha.length
            have hsr : SR P w0 ⟨b, pn, cs, fn.ntmps, m⟩ ρ [] ⟨[], t, [], h, pn⟩ a0 cs w := by
              refine ⟨hw, hfr, ⟨by simp [a0]; omega, fun t j v hp hv => by simp at hv, fun i v _ hi hv => ?_⟩, fun i v hi hv => ?_, .nil, Cs.start hp, rfl⟩
              · change (acc AV 2 i).get t = some v at hv
                rw [setAll_get args 0 _ t hset i hi] at hv
                by_cases h1 : 0 ≤ i ∧ i < 0 + args.length
                · rw [if_pos h1] at hv
                  obtain ⟨u, hu, hr'⟩ := ha.get hv
                  have hi2 : i < args'.size := by omega
                  have hget : a0.tmps.getD i undef = u := by
                    simp only [a0, Array.getD_eq_getD_getElem?]
                    rw [Array.getElem?_append_left hi2]
                    rw [Array.getElem?_toList, Nat.sub_zero] at hu
                    rw [hu]; rfl
                  rw [hget]; exact hr'
                · rw [if_neg h1, acc_emp] at hv; cases hv
              · change (acc AV 2 i).get t = some v at hv
                rw [setAll_get args 0 _ t hset i hi] at hv
                by_cases h1 : 0 ≤ i ∧ i < 0 + args.length
                · exact kept_of (argsIn_bit args 0 hin i h1.1 h1.2) hi
                · rw [if_neg h1, acc_emp] at hv; cases hv
            have hcx : CtxOk P ⟨b, pn, cs, fn.ntmps, m⟩ ⟨m, fn.ntmps, false⟩ := ⟨rfl, rfl, rfl, hk, (fun hh => by cases hh), fn, hf⟩
            have hcode := code_ok hE D hr (hr.loop w0) c ⟨b, pn, cs, fn.ntmps, m⟩ ρ ⟨[], t, [], h, pn⟩ a0 cs w ⟨m, fn.ntmps, false⟩ [] hcx hsr
            rw [henter]
            generalize (comp c E ⟨m, fn.ntmps, false⟩).run r ⟨[], t, [], h, pn⟩ = o at hcode
            cases o with
            | bad_ c => trivial
            | ok s' =>
              obtain ⟨ρ1, a1, cs1, w1, g1, g2, g3⟩ := hcode
              exact ResOk.from g1 (g3.trans (.one (stepR_end rfl))) (hr.unw w0 ⟨b, pn, cs, fn.ntmps, m⟩ ρ1 fn s' a1 cs1 w1 [] rfl hk hf g2)
            | lv e s' =>
              obtain ⟨ρ1, a1, cs1, w1, g1, g2, k1, g3⟩ := hcode
              cases e with
              | exit i => trivial
              | ret => exact ResOk.from g1 (g3.trans (.one (stepR_ret rfl))) (hr.unw w0 ⟨b, pn, cs, fn.ntmps, m⟩ ρ1 fn s' a1 cs1 w1 (.code .ret :: k1) rfl hk hf g2)
              | panic v =>
                obtain ⟨v', g4, g5⟩ := g3
                exact ResOk.from g1 g5 (hr.unwP w0 ⟨b, pn, cs, fn.ntmps, m⟩ ρ1 fn s' a1 cs1 w1 k1 v v' rfl hk hf g2 g4)
end Go.Ev
