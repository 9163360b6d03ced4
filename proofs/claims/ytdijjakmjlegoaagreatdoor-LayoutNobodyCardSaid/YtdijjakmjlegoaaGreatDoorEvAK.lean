/-
  A FRAME FROM ITS ENTRY TO ITS END: arguments, results, deferred calls, rounds.
-/
import Derived.Test.YtdijjakmjlegoaaGreatDoorEvAJ
namespace Go.Ev
open Go.RowKit (Below)
variable {P : Program} {E : Env} {ρ ρ' : Rho} {w0 w w' w1 w2 : World} {C : Ctx} {s : St} {a : Act} {cs : List Frame} {k : List Item} {b : Frame} {Φ : Out → Prop}

/-! ### arguments -/
theorem setAll_get : ∀ (l : List AV) (i : Nat) (t0 t' : TT AV 2), setAll t0 i l = some t' → ∀ t, t < 256 → (acc AV 2 t).get t' = if i ≤ t ∧ t < i + l.length then l[t - i]? else (acc AV 2 t).get t0
  | [], i, t0, t', h, t, ht => by
    change some t0 = some t' at h
    cases h
    rw [if_neg (by simp)]
  | v :: l, i, t0, t', h, t, ht => by
    change bt (Nat.blt i 256) (setAll ((acc AV 2 i).set t0 (some v)) (i + 1) l) none = some t' at h
    cases hb : Nat.blt i 256 with
    | false => rw [hb] at h; cases h
    | true =>
      rw [hb, bt_true] at h
      rw [Nat.blt_eq] at hb
      have ih := setAll_get l (i + 1) _ t' h t ht
      rw [ih, acc_get_set 2 i t _ _ (by omega) (by omega)]
      simp only [List.length_cons]
      by_cases h1 : i + 1 ≤ t ∧ t < i + 1 + l.length
      · rw [if_pos h1, if_pos (by omega)]
        have : t - i = (t - (i + 1)) + 1 := by omega
        rw [this, List.getElem?_cons_succ]
      · rw [if_neg h1]
        by_cases h2 : i = t
        · subst h2; simp
        · rw [if_neg h2, if_neg (by omega)]
theorem argsIn_bit {m : Nat} : ∀ (l : List AV) (i : Nat), argsIn m l i = true → ∀ t, i ≤ t → t < i + l.length → bit m t = true
  | [], i, _, t, h1, h2 => by simp at h2; omega
  | _ :: l, i, h, t, h1, h2 => by
    change bt (bit m i) (argsIn m l (i + 1)) false = true at h
    obtain ⟨h3, h4⟩ := bt_both h
    by_cases e : i = t
    · subst e; exact h3
    · exact argsIn_bit l (i + 1) h4 t (by omega) (by simp at h2; omega)
theorem kept_of {m t : Nat} (h : bit m t = true) (ht : t < 256) : kept m t = true := by
  unfold kept; rw [h, bt_true, Nat.blt_eq]; exact ht

/-! ### results -/
def resOne (tmps : Array Value) : ResultVar → Sem Value
  | .tmp t => pure (tmps.getD t undef)
  | .cell a t => do loadVar t (← asAddr (tmps.getD a undef))
def resSem (l : List ResultVar) (tmps : Array Value) : Sem (List Value) := l.mapM (resOne tmps)
theorem results_eq (fn : Func) (tmps : Array Value) : Go.results fn tmps = (do let vs ← fn.results.mapM (resOne tmps); pure (if h : vs.size = 1 then vs[0] else .tuple vs)) := by
  unfold Go.results
  congr 2
theorem run_loadVar_agg (hE : EnvOk P E) {t n : Nat} (hg : isA E t = some true) (hn : szOf E t = some n) {b o : Nat} {c : Array Value} {t' : TypeId} {f : Nat × Nat} (h : w.heap[b]? = some (.cells c t' f)) (hs : o + n ≤ c.size) :
    (loadVar t ⟨b, o, none⟩).run P w = .ok (.agg (c.extract o (o + n))) w := by
  simp [loadVar, hE.run_isAgg w hg, hE.run_sizeOf w hn, run_loadCells_row h hs]
theorem run_loadVar_one (hE : EnvOk P E) {t : Nat} (hg : isA E t = some false) {ad : Addr} {u : Value} (h : w.cell? ad = some u) : (loadVar t ad).run P w = .ok u w := by
  simp [loadVar, hE.run_isAgg w hg, h]
theorem resK_ok (hb : ∀ c, Φ (.bad_ c)) (hE : EnvOk P E) (h : SR P w0 C ρ [] s a cs w) : ∀ (l : List ResultVar) {K : List AV → Out}, (∀ m vs, VRs P ρ m vs → (resSem l a.tmps).run P w = .ok vs w → Φ (K m)) → Φ (resK E l s K)
  | [], K, hk => hk [] [] .nil (by simp [resSem])
  | .tmp t :: l, K, hk => by
    refine opT_ok hb h.fr fun v hv => resK_ok hb hE h l fun m vs hm hr => hk _ _ (.cons _ _ _ _ hv hm) ?_
    unfold resSem at hr ⊢
    rw [List.mapM_cons]
    simp only [resOne, Sem.run_bind, Sem.run_pure, Result.andThen_ok, hr]
  | .cell ca t :: l, K, hk => by
    refine opT_ok hb h.fr fun p hp => AV.onPtr_ok hb fun b o e => ot_ok hb fun g hg => ot_ok hb fun n hn => ?_
    subst e
    generalize hx : a.tmps.getD ca undef = u at hp
    cases hp with
    | ptr b o y hy =>
    have fin_ : ∀ q, (loadVar t ⟨y.1, o, none⟩).run P w = .ok q w → ∀ vs, (resSem l a.tmps).run P w = .ok vs w → (resSem (.cell ca t :: l) a.tmps).run P w = .ok (q :: vs) w := by
      intro q hq vs hr
      unfold resSem at hr ⊢
      rw [List.mapM_cons]
      simp only [resOne, hx, asAddr, Sem.run_bind, Sem.run_pure, Result.andThen_ok, hq, hr]
    refine bt_ok (fun e => ?_) (fun e => ?_)
    · subst e
      refine ldN_ok hb h.wr hy fun lc c t' f hh hs hl => resK_ok hb hE h l fun m vs hm hr => hk _ _ (.cons _ _ _ _ (.agg _ (c.extract o (o + n)) hl) hm) (fin_ _ (run_loadVar_agg hE hg hn hh hs) vs hr)
    · subst e
      refine ldo_ok hb h.wr hy fun v q hq hv => resK_ok hb hE h l fun m vs hm hr => hk _ _ (.cons _ _ _ _ hv hm) (fin_ _ (run_loadVar_one hE hg hq) vs hr)
theorem resV_rel {m : List AV} {vs : List Value} (h : VRs P ρ m vs) : VR P ρ (resV m) (if hs : vs.toArray.size = 1 then vs.toArray[0] else .tuple vs.toArray) := by
  cases h with
  | nil => exact .tup [] #[] .nil
  | cons v l v' l' hv hl =>
    cases hl with
    | nil => exact hv
    | cons v2 l2 v2' l2' hv2 hl2 =>
      rw [dif_neg (by simp)]
      exact .tup _ _ (.cons _ _ _ _ hv (.cons _ _ _ _ hv2 hl2))
theorem run_results {fn : Func} {tmps : Array Value} {vs : List Value} (h : (resSem fn.results.toList tmps).run P w = .ok vs w) :
    (Go.results fn tmps).run P w = .ok (if hs : vs.toArray.size = 1 then vs.toArray[0] else .tuple vs.toArray) w := by
  rw [results_eq]
  unfold resSem at h
  simp only [Sem.run_bind]
  rw [Array.mapM_eq_mapM_toList, Sem.run_map, h]
  simp only [Result.andThen_ok, Sem.run_pure]
theorem results_ok (hE : EnvOk P E) {fn : Func} {todo : List Item} (hf : P.funcs[C.b.fn]? = some fn) (h : SR P w0 C ρ [] s a cs w) (hd : s.ds = []) :
    ResOk P w0 C.b.kind C.pn0 C.cs0 ρ s.h C.b.fn (lone { C.b.atR a todo with mode := .returning } cs w) (results E fn s) := by
  unfold results
  have := resK_ok (Φ := fun o => ResOk P w0 C.b.kind C.pn0 C.cs0 ρ s.h C.b.fn (lone { C.b.atR a todo with mode := .returning } cs w) (match o with
    | .lv (.panic v) s => .ret v s.h s.pn
    | .bad_ c => .bad_ c
    | _ => .bad_ 1)) (fun _ => trivial) hE h fn.results.toList (K := fun l => .lv (.panic (resV l)) s) fun m vs hm hr => ?_
  · exact this
  · have hdf := h.df
    rw [hd] at hdf
    have ha : a.defers = [] := by generalize a.defers = q at hdf; cases hdf; rfl
    exact ⟨ρ, w, _, cs, _, Ext.refl, h.wr, h.fresh, resV_rel hm, h.cs, .refl _ _, rfl, rfl, ha, rfl, fn, hf, run_results hr⟩

/-! ### deferred calls -/
theorem ResOk.from {H H' : Hp} {kind : CallKind} {pn0 : Option AV} {cs0 : List Frame} {f : FuncId} {m m' : Machine} {x : CRes} (he : Ext H' ρ' H ρ) (hs : Steps P m' m) (h : ResOk P w0 kind pn0 cs0 ρ H f m x) : ResOk P w0 kind pn0 cs0 ρ' H' f m' x := by
  cases x with
  | bad_ c => trivial
  | ret v h1 pn => obtain ⟨ρ1, w', fr, cs', v', g1, g2, g3, g4, g5, g6, g7⟩ := h; exact ⟨ρ1, w', fr, cs', v', he.trans g1, g2, g3, g4, g5, hs.trans g6, g7⟩
  | panic v h1 pn => obtain ⟨ρ1, w', fr, cs', v', g1, g2, g3, g4, g5, g6, g7⟩ := h; exact ⟨ρ1, w', fr, cs', v', he.trans g1, g2, g3, g4, g5, hs.trans g6, g7⟩
theorem run_takeDeferred {l : Nat} (h : w.heap[l]? = some (.deferred (some []))) : (Instr.takeDeferred l).run P w = .ok [] { w with heap := w.heap.setIfInBounds l (.deferred none) } := by
  simp only [Instr.takeDeferred, Sem.run_bind, run_getObj' h (by intro c t f e; cases e), Result.andThen_ok, run_setObj' h (by intro c t f e; cases e), Sem.run_pure]
theorem step_collected {fr : Frame} {l : Nat} {ds : List Deferred} (hm : fr.mode ≠ .run) (hd : fr.defers = { target := .collected l, args := #[] } :: ds) (h : w.heap[l]? = some (.deferred (some []))) :
    step P (lone fr cs w) = .next (lone { fr with defers := ds } cs { w with heap := w.heap.setIfInBounds l (.deferred none) }) := by
  have ht := run_takeDeferred (P := P) h
  refine step_lone_go ?_
  cases hmode : fr.mode with
  | run => exact absurd hmode hm
  | returning => simp [stepG, unwind, hmode, hd, Sem.runT_eq, ht, GStep.bare_after]
  | panicking chain => simp [stepG, unwind, hmode, hd, Sem.runT_eq, ht, GStep.bare_after]
theorem settle_pan (v : Value) : settle (pan v) = pan v := rfl
/-- what a deferred call leaves: the frame that unwinds goes on -/
theorem deferred_ok {r : Rec} (hr : RecOk P E r) {fn : Func} {todo : List Item} (hro : C.b.roundOf = none) (hkd : C.b.kind = .normal ∨ C.b.kind = .deferred) (hf : P.funcs[C.b.fn]? = some fn) {u : FrameMode} {pn : Option AV}
    (hu : (pn = none ∧ u = .returning) ∨ ∃ v v', pn = some v ∧ u = pan v' ∧ VR P ρ v v') {ds : List ADef} {dfs : List Deferred} (hds : DRs P ρ ds dfs) (h : SR P w0 C ρ [] ⟨s.lo, s.tm, ds, s.h, s.pn⟩ { a with defers := dfs } cs w) {g : FuncId} {xs : Array Value} {args : List AV} (hxs : VRs P ρ args xs.toList) {m : Machine}
    (hent : (∃ fn, P.funcs[g]? = some fn ∧ fn.body.isSome = true ∧ (fn.name == "runtime.NumGoroutine") = false) → Steps P m (lone (Frame.enter P g xs .deferred) ({ C.b.atR { a with defers := dfs } todo with mode := u } :: cs) w)) :
    ResOk P w0 C.b.kind C.pn0 C.cs0 ρ s.h C.b.fn m (match r.call g args pn s.h with
      | .ret _ h pn => r.unw fn pn ⟨s.lo, s.tm, ds, h, s.pn⟩
      | .bad_ c => .bad_ c
      | .panic .. => .bad_ 2) := by
  have hpn : Pn P ρ .deferred pn ({ C.b.atR { a with defers := dfs } todo with mode := u } :: cs) := by
    rcases hu with ⟨rfl, rfl⟩ | ⟨v, v', rfl, rfl, hv⟩
    · intro fr hfr
      rw [tryRecover_deferred hfr]; rfl
    · exact ⟨rfl, _, _, v', rfl, rfl, hv⟩
  rcases (hr.call w0 g args pn s.h ρ xs w .deferred ({ C.b.atR { a with defers := dfs } todo with mode := u } :: cs) h.wr h.fresh hxs (.inr rfl) hpn).symm with ⟨c, hbad⟩ | ⟨he, hres⟩
  · rw [hbad]; trivial
  · have hent := hent he
    generalize r.call g args pn s.h = res at hres
    cases res with
    | bad_ c => trivial
    | panic v h1 p1 => trivial
    | ret v h1 p1 =>
      obtain ⟨ρ1, w', fr, cs', v', g1, g2, g3, g4, g5, g6, g7, g8, g9, g10, g11⟩ := hres
      have hsr : ∀ s', s' = (⟨s.lo, s.tm, ds, h1, s.pn⟩ : St) → SR P w0 C ρ1 [] s' { a with defers := dfs } cs w' := by
        intro s' e
        subst e
        exact ⟨g2, g3, h.fr.mono g1.le, h.tk, hds.mono g1.le, h.cs.mono g1.le, h.len⟩
      have hgo : fr.going P w' (.returned v') := ⟨g8, g9, g11⟩
      rcases g5 with ⟨rfl, rfl, _⟩ | ⟨rfl, hne, _, c, rr, vv, hc1, hc2, rfl⟩
      · have hst := step_going_returned (cs := cs) g10 (c := { C.b.atR { a with defers := dfs } todo with mode := u }) hgo
        rcases hu with ⟨rfl, rfl⟩ | ⟨v1, v1', rfl, rfl, hv1⟩
        · exact ResOk.from g1 ((hent.trans g6).trans (.one hst)) (hr.unw w0 C ρ1 fn _ { a with defers := dfs } cs w' todo hro hkd hf (hsr _ rfl))
        · exact ResOk.from g1 ((hent.trans g6).trans (.one hst)) (hr.unwP w0 C ρ1 fn _ { a with defers := dfs } cs w' todo v1 v1' hro hkd hf (hsr _ rfl) (hv1.mono g1.le))
      · simp only [List.cons.injEq] at hc1
        obtain ⟨rfl, rfl⟩ := hc1
        have hst := step_going_returned (cs := cs) g10 (c := { { C.b.atR { a with defers := dfs } todo with mode := u } with mode := .panicking [{ v := vv, recovered := true }] }) hgo
        exact ResOk.from g1 ((hent.trans g6).trans (.one hst)) (hr.unw w0 C ρ1 fn _ { a with defers := dfs } cs w' todo hro hkd hf (hsr _ rfl))
end Go.Ev
