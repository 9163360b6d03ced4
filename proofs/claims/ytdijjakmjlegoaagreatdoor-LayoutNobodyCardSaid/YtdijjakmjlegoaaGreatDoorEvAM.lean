/-
  ROUNDS of a range over a function; THE EVALUATOR's WORD: what it answers, every run of the model comes to.
-/
import Derived.Test.YtdijjakmjlegoaaGreatDoorEvAL
namespace Go.Ev
open Go.RowKit (Below)
variable {P : Program} {E : Env} {ρ ρ' : Rho} {w0 w w' w1 w2 : World} {C : Ctx} {s : St} {a : Act} {cs : List Frame} {k : List Item} {b : Frame} {Φ : Out → Prop}

theorem setPs_rel {nt ms : Nat} : ∀ (ps : List Nat) (args : List AV) (vs : List Value) (tm t : TT AV 2) (tmps : Array Value), setPs tm ps args = some t → VRs P ρ args vs → psOk nt ps = true → psIn ms ps = true → nt ≤ tmps.size → TR P ρ tm tmps →
    (∀ i v, i < 256 → (acc AV 2 i).get tm = some v → kept ms i = true) →
    ps.length = vs.length ∧ TR P ρ t ((ps.zip vs).foldl (fun tmps (x : Nat × Value) => tmps.setIfInBounds x.1 x.2) tmps) ∧ ((ps.zip vs).foldl (fun tmps (x : Nat × Value) => tmps.setIfInBounds x.1 x.2) tmps).size = tmps.size ∧
      (∀ i v, i < 256 → (acc AV 2 i).get t = some v → kept ms i = true)
  | [], [], vs, tm, t, tmps, h, hv, _, _, _, ht, hk => by
    cases hv
    change some tm = some t at h
    cases h
    exact ⟨rfl, ht, rfl, hk⟩
  | [], _ :: _, vs, tm, t, tmps, h, _, _, _, _, _, _ => by cases h
  | _ :: _, [], vs, tm, t, tmps, h, _, _, _, _, _, _ => by cases h
  | p :: ps, v :: args, vs, tm, t, tmps, h, hv, hp, hi, hn, ht, hk => by
    cases hv with
    | cons _ _ u us hvu hvs =>
    change setPs ((acc AV 2 p).set tm (some v)) ps args = some t at h
    have hp' : bt (bt (Nat.blt p nt) (Nat.blt p 256) false) (psOk nt ps) false = true := hp
    have hi' : bt (bit ms p) (psIn ms ps) false = true := hi
    obtain ⟨h1, h2⟩ := bt_both hp'
    obtain ⟨h3, h4⟩ := bt_both h1
    obtain ⟨h5, h6⟩ := bt_both hi'
    rw [Nat.blt_eq] at h3 h4
    have hA : TR P ρ ((acc AV 2 p).set tm (some v)) (tmps.setIfInBounds p u) := by
      intro i x hi hx
      rw [acc_get_set 2 p i _ _ (by omega) (by omega)] at hx
      by_cases e : p = i
      · subst e
        rw [if_pos rfl] at hx
        cases hx
        have : (tmps.setIfInBounds p u).getD p undef = u := by simp [Array.getD_eq_getD_getElem?]; intro hle; omega
        rw [this]; exact hvu
      · rw [if_neg e] at hx
        have : (tmps.setIfInBounds p u).getD i undef = tmps.getD i undef := by simp [Array.getD_eq_getD_getElem?, Array.getElem?_setIfInBounds_ne e]
        rw [this]; exact ht i x hi hx
    have hB : ∀ i x, i < 256 → (acc AV 2 i).get ((acc AV 2 p).set tm (some v)) = some x → kept ms i = true := by
      intro i x hi hx
      rw [acc_get_set 2 p i _ _ (by omega) (by omega)] at hx
      by_cases e : p = i
      · subst e; exact kept_of h5 h4
      · rw [if_neg e] at hx; exact hk i x hi hx
    obtain ⟨g1, g2, g3, g4⟩ := setPs_rel ps args us _ t (tmps.setIfInBounds p u) h hvs h2 h6 (by simpa using hn) hA hB
    exact ⟨by simp [g1], g2, by simpa using g3, g4⟩
theorem run_yield {l : Nat} {L : Loop} {args : Array Value} (h : w.heap[l]? = some (.loop L)) (hs : args.size = L.params.size) :
    (invoke (.fn (.yield l) #[]) args).run P w = .ok (.round l L.fn ((L.params.toList.zip args.toList).foldl (fun tmps (x : Nat × Value) => tmps.setIfInBounds x.1 x.2) L.tmps) L.assign L.body) w := by
  simp only [invoke, Instr.yield, Sem.run_bind, run_getLoop h, Result.andThen_ok, hs, ne_eq, not_true_eq_false, if_false, Sem.run_pure]
  rw [← Array.foldl_toList, Array.toList_zip]
theorem run_beginRound {l : Nat} {L : Loop} (h : w.heap[l]? = some (.loop L)) (hs : L.state = .ready) : (Instr.beginRound l).run P w = .ok () { w with heap := w.heap.setIfInBounds l (.loop { L with state := .busy }) } := by
  simp only [Instr.beginRound, Sem.run_bind, run_getLoop h, Result.andThen_ok, run_setObj' h (by intro c t f e; cases e), hs, Sem.run_pure]
theorem run_endRound {l : Nat} {L : Loop} (h : w.heap[l]? = some (.loop L)) (j : Option Code) : (Instr.endRound l j).run P w =
    .ok (.bool j.isNone) { w with heap := w.heap.setIfInBounds l (.loop { L with state := (match j with | none => .ready | some _ => .done), pending := j }) } := by
  simp only [Instr.endRound, Sem.run_bind, run_getLoop h, Result.andThen_ok, run_setObj' h (by intro c t f e; cases e), Sem.run_pure]
  cases j <;> rfl
/-- a round's end -/
theorem roundEnd_ok {l : Nat} {x : Nat × Nat × Nat} (hx : ρ l = some x) {c : Frame} (h : SR P w0 C ρ [] s a (c :: cs) w) (j : Option Code) {m : Machine}
    (hst : ∀ v w', (Instr.endRound x.1 j).run P w = .ok v w' → Steps P m (lone (c.finish v) cs w')) : AppOk P w0 ρ s.h m c cs (roundEnd l j s) := by
  obtain ⟨lo, tm, df, ⟨bl, nx⟩, pn⟩ := s
  unfold roundEnd
  split
  · next hds hg =>
    next st pend cx tml ps cc dd =>
    obtain ⟨L, h0, _⟩ := h.wr.loop hx hg
    cases j with
    | none => exact ⟨ρ, _, .bool true, Ext.same rfl, h.wr.setLoop hx hg h0 .ready none, h.fresh.nx rfl, .bool _, hst _ _ (run_endRound h0 none)⟩
    | some j => exact ⟨ρ, _, .bool false, Ext.same rfl, h.wr.setLoop hx hg h0 .done (some j), h.fresh.nx rfl, .bool _, hst _ _ (run_endRound h0 (some j))⟩
  · trivial
theorem AppOk.to {H H' : Hp} {m m' : Machine} {c : Frame} {res : CRes} (he : Ext H' ρ' H ρ) (hs : Steps P m' m) (h : AppOk P w0 ρ H m c cs res) : AppOk P w0 ρ' H' m' c cs res := by
  cases res with
  | bad_ c => trivial
  | ret v h' pn => obtain ⟨ρ1, w', v', h1, h2, h3, h4, h5⟩ := h; exact ⟨ρ1, w', v', he.trans h1, h2, h3, h4, hs.trans h5⟩
  | panic v h' pn => obtain ⟨ρ1, w', v', h1, h2, h3, h4, h5⟩ := h; exact ⟨ρ1, w', v', he.trans h1, h2, h3, h4, hs.trans h5⟩
theorem roundB_ok {r : Rec} (hr : RecOk P E r) {l : Nat} {x : Nat × Nat × Nat} (hx : ρ l = some x) {cx : Cx} {bd : Code} {c : Frame} (hc : CtxOk P C cx) (hro : C.b.roundOf = some x.1) (hp0 : C.pn0 = none) (hc0 : C.cs0 = c :: cs)
    (h : SR P w0 C ρ [] s a (c :: cs) w) : AppOk P w0 ρ s.h (lone (C.b.atR a [.beginRound, .code bd]) (c :: cs) w) c cs (roundB r l cx bd s) := by
  have hkn : C.b.kind = .normal := hc.rn (by rw [hro]; rfl)
  obtain ⟨lo, tm, df, ⟨bl, nx⟩, pn⟩ := s
  unfold roundB
  split
  · next p cx1 tm1 ps1 a1 b1 hg =>
    obtain ⟨L, h0, h1, h2, _⟩ := h.wr.loop hx hg
    have hset := h.wr.setLoop hx hg h0 .busy p
    have hbeg := run_beginRound (P := P) h0 h1
    have hL : ({ L with state := .busy, pending := p } : Loop) = { L with state := .busy } := by rw [← h2]
    rw [hL] at hset
    have hsr : SR P w0 C ρ [] ⟨lo, tm, df, ⟨(acc AB 4 l).set bl (some (.loop .busy p cx1 tm1 ps1 a1 b1)), nx⟩, pn⟩ a (c :: cs) { w with heap := w.heap.setIfInBounds x.1 (.loop { L with state := .busy }) } :=
      ⟨hset, h.fresh.nx rfl, h.fr, h.tk, h.df, h.cs, h.len⟩
    have hcode := hr.code w0 C ρ _ a (c :: cs) _ bd cx [] hc hsr
    have hst0 : Steps P (lone (C.b.atR a [.beginRound, .code bd]) (c :: cs) w) (lone (C.b.atR a [.code bd]) (c :: cs) { w with heap := w.heap.setIfInBounds x.1 (.loop { L with state := .busy }) }) := .one (stepR_beginRound hro hbeg)
    show AppOk P w0 ρ ⟨bl, nx⟩ _ c cs (match r.code bd cx ⟨lo, tm, df, ⟨(acc AB 4 l).set bl (some (.loop .busy p cx1 tm1 ps1 a1 b1)), nx⟩, pn⟩ with
      | .ok s => roundEnd l none s
      | .lv e s => (match e with | .panic v => (match s.ds with | [] => .panic v s.h none | _ => .bad_ 14) | .exit i => roundEnd l (some (.exit i)) s | .ret => roundEnd l (some .ret) s)
      | .bad_ c => .bad_ c)
    generalize r.code bd cx ⟨lo, tm, df, ⟨(acc AB 4 l).set bl (some (.loop .busy p cx1 tm1 ps1 a1 b1)), nx⟩, pn⟩ = o at hcode
    have hxx : Ext (⟨bl, nx⟩ : Hp) ρ ⟨(acc AB 4 l).set bl (some (.loop .busy p cx1 tm1 ps1 a1 b1)), nx⟩ ρ := Ext.same rfl
    cases o with
    | bad_ c => trivial
    | ok s' =>
      obtain ⟨ρ1, a1', cs1, w1, g1, g2, g3⟩ := hcode
      have hcs := g2.cs
      rw [hkn, hp0, hc0] at hcs
      obtain ⟨rfl, _⟩ := hcs.normal
      exact AppOk.to (hxx.trans g1) (hst0.trans g3) (roundEnd_ok (g1.le l x hx) g2 none fun v w' hr' => .one (stepR_round_end hro hkn hr'))
    | lv e s' =>
      obtain ⟨ρ1, a1', cs1, w1, g1, g2, k1, g3⟩ := hcode
      have hcs := g2.cs
      rw [hkn, hp0, hc0] at hcs
      obtain ⟨rfl, _⟩ := hcs.normal
      cases e with
      | exit i => exact AppOk.to (hxx.trans g1) (hst0.trans g3.2) (roundEnd_ok (g1.le l x hx) g2 (some (.exit i)) fun v w' hr' => .one (stepR_round_exit hro hkn (by rw [g3.1]; rfl) hr'))
      | ret => exact AppOk.to (hxx.trans g1) (hst0.trans g3) (roundEnd_ok (g1.le l x hx) g2 (some .ret) fun v w' hr' => .one (stepR_round_ret hro hkn hr'))
      | panic v =>
        obtain ⟨v', g4, g5⟩ := g3
        show AppOk P w0 ρ ⟨bl, nx⟩ _ c cs (match s'.ds with | [] => .panic v s'.h none | _ => .bad_ 14)
        split
        · next hds =>
          have hdf := g2.df
          rw [hds] at hdf
          have ha : a1'.defers = [] := by generalize a1'.defers = q at hdf; cases hdf; rfl
          have hlv := step_leave_panicked (P := P) (fr := { C.b.atR a1' k1 with mode := pan v' }) (c := c) (cs := cs) (w := w1) (chain := [{ v := v', recovered := false }]) ⟨rfl, ha, hc.fx⟩
          exact ⟨ρ1, w1, v', hxx.trans g1, g2.wr, g2.fresh, g4, (hst0.trans g5).trans (.one hlv)⟩
        · trivial
  · trivial
theorem roundA_ok {r : Rec} (hr : RecOk P E r) {l : Nat} {args : List AV} {h : Hp} {args' : Array Value} {x : Nat × Nat × Nat} {c : Frame} (hw : WR P w0 ρ h w) (hf : Fresh ρ h) (ha : VRs P ρ args args'.toList) (hx : ρ l = some x) :
    (∃ f tm y z, (invoke (.fn (.yield x.1) #[]) args').run P w = .ok (.round x.1 f tm y z) w ∧ AppOk P w0 ρ h (lone (Frame.round x.1 f tm y z .normal) (c :: cs) w) c cs (roundA r l args h)) ∨ ∃ e, roundA r l args h = .bad_ e := by
  unfold roundA
  split
  · next st pend cx tm ps cd bd hg =>
    obtain ⟨L, h0, h1, h2, h3, h4, h5, h6, h7, h8, h9, h10, h11, h12⟩ := hw.loop hx hg
    split
    · next t hset =>
      obtain ⟨g1, g2, g3, g4⟩ := setPs_rel ps args args'.toList tm t L.tmps hset ha h9 h10 h3 h4 h11
      have hsz : args'.size = L.params.size := by
        have e1 : args'.toList.length = args'.size := by simp
        have e2 : L.params.toList.length = L.params.size := by simp
        rw [h5] at e2
        omega
      refine .inl ⟨_, _, _, _, run_yield h0 hsz, ?_⟩
      rw [h5, h6, h7]
      let tmps := (ps.zip args'.toList).foldl (fun tmps (x : Nat × Value) => tmps.setIfInBounds x.1 x.2) L.tmps
      let b : Frame := { (default : Frame) with fn := L.fn, kind := .normal, roundOf := some x.1 }
      let C : Ctx := ⟨b, none, c :: cs, cx.nt, cx.ms⟩
      have hrd : Frame.round x.1 L.fn tmps cd bd .normal = b.atR { tmps := tmps, defers := [] } [.code cd, .beginRound, .code bd] := by
        simp [Frame.round, Frame.atR, b]
      have hc : CtxOk P C cx := ⟨rfl, rfl, h8, .inl rfl, fun _ => rfl, h12⟩
      have hsr : SR P w0 C ρ [] ⟨[], t, [], h, none⟩ { tmps := tmps, defers := [] } (c :: cs) w :=
        ⟨hw, hf, ⟨by rw [show C.nt = cx.nt from rfl]; simp only [tmps]; omega, fun t j v hp hv => by simp at hv, fun i v _ hi hv => g2 i v hi hv⟩, g4, .nil, Cs.start (noRec_normal _), rfl⟩
      have hcode := hr.code w0 C ρ _ _ (c :: cs) w cd cx [.beginRound, .code bd] hc hsr
      show AppOk P w0 ρ h (lone (Frame.round x.1 L.fn tmps cd bd .normal) (c :: cs) w) c cs _
      rw [hrd]
      generalize r.code cd cx ⟨[], t, [], h, none⟩ = o at hcode
      cases o with
      | bad_ c => trivial
      | lv e s' => trivial
      | ok s' =>
        obtain ⟨ρ1, a1', cs1, w1, g1, g2, g3⟩ := hcode
        obtain ⟨rfl, _⟩ := Cs.normal (show Cs P .normal none (c :: cs) ρ1 s'.pn cs1 from g2.cs)
        exact AppOk.to g1 g3 (roundB_ok hr (g1.le l x hx) hc rfl rfl rfl g2)
    · exact .inr ⟨_, rfl⟩
  · exact .inr ⟨_, rfl⟩
theorem step_rec {r : Rec} (hE : EnvOk P E) (D : ∀ o, plainOp o.op = true → Does P E o) (hr : RecOk P E r) : RecOk P E (stepR E r) where
  code := fun w0 C ρ s a cs w c cx k hc h => code_ok hE D hr (hr.loop w0) c C ρ s a cs w cx k hc h
  loop := fun w0 C ρ s a cs w c cx k hc h => by
    show OutOk P w0 C ρ s.h k _ (onOk ((comp c E cx).run r s) (r.code (.loop c) cx))
    refine OutOk.from Ext.refl (.one stepR_inLoop) ?_
    exact OutOk.then (k0 := .inLoop c :: k) (fun _ => rfl) (code_ok hE D hr (hr.loop w0) c C ρ s a cs w cx _ hc h) fun ρ' s' a' cs' w' h' => hr.loop w0 C ρ' s' a' cs' w' c cx k hc h'
  call := fun w0 f args pn h ρ args' w kind cs hw hf ha hk hp => call_ok' hE D hr hw hf ha hk hp
  round := fun w0 l args h ρ args' w x c cs hw hf ha hx => roundA_ok hr hw hf ha hx
  unw := fun w0 C ρ fn s a cs w todo hro hkd hf h => unw_ok hE hr hro hkd hf h (.inl ⟨rfl, rfl⟩)
  unwP := fun w0 C ρ fn s a cs w todo v v' hro hkd hf h hv => unw_ok hE hr hro hkd hf h (.inr ⟨v, v', rfl, rfl, hv⟩)
theorem recz_ok : RecOk P E rec0 where
  code := fun _ _ _ _ _ _ _ _ _ _ _ _ => trivial
  loop := fun _ _ _ _ _ _ _ _ _ _ _ _ => trivial
  call := fun _ _ _ _ _ _ _ _ _ _ _ _ _ _ _ => .inr ⟨_, rfl⟩
  round := fun _ _ _ _ _ _ _ _ _ _ _ _ _ _ => .inr ⟨_, rfl⟩
  unw := fun _ _ _ _ _ _ _ _ _ _ _ _ _ => trivial
  unwP := fun _ _ _ _ _ _ _ _ _ _ _ _ _ _ _ _ => trivial
theorem ev_ok (hE : EnvOk P E) (D : ∀ o, plainOp o.op = true → Does P E o) : ∀ n, RecOk P E (ev E n)
  | 0 => recz_ok
  | n + 1 => step_rec hE D (ev_ok hE D n)
/-- a call, of whatever arguments -/
theorem ev_call (hE : EnvOk P E) (D : ∀ o, plainOp o.op = true → Does P E o) {n : Nat} {f : FuncId} {args : List AV} {h : Hp} {args' : Array Value} (hw : WR P w0 ρ h w) (hf : Fresh ρ h) (ha : VRs P ρ args args'.toList)
    {v : AV} {h' : Hp} {pn : Option AV} (hev : (ev E n).call f args none h = .ret v h' pn) :
    Calls P f args' w fun e w' => ∃ v' ρ', e = .returned v' ∧ VR P ρ' v v' ∧ Ext h ρ h' ρ' ∧ WR P w0 ρ' h' w' ∧ Fresh ρ' h' := by
  intro cs
  rcases (ev_ok hE D n).call w0 f args none h ρ args' w .normal cs hw hf ha (.inl rfl) (noRec_normal _) with ⟨_, hres⟩ | ⟨c, hbad⟩
  · rw [hev] at hres
    obtain ⟨ρ1, w', fr, cs', v', g1, g2, g3, g4, g5, g6, g7, g8, g9, g10, g11⟩ := hres
    obtain ⟨rfl, _⟩ := g5.normal
    exact ⟨.returned v', w', fr, ⟨v', ρ1, rfl, g4, g1, g2, g3⟩, g6, g7, g8, g9, g10, g11⟩
  · rw [hbad] at hev; cases hev
/-- a call without arguments, in whatever world: what it answers; what was there is as it was -/
theorem ev_run (hE : EnvOk P E) (D : ∀ o, plainOp o.op = true → Does P E o) {n : Nat} {f : FuncId} {b : Bool} {h' : Hp} {pn : Option AV} {nx : Nat} (hev : (ev E n).call f [] none ⟨emp AB 4, nx⟩ = .ret (.bool b) h' pn) (w : World) :
    Calls P f #[] w fun e w' => e = .returned (.bool b) ∧ Below w.heap.size w w' := by
  have hwr : WR P w (fun _ => none) ⟨emp AB 4, nx⟩ w := ⟨⟨(fun b ab x _ h => by cases h), (fun b b' ab ab' x x' _ _ h => by cases h), (fun b x h => by cases h)⟩, (fun b x h => by cases h), Below.refl _ _⟩
  refine (ev_call hE D (args' := #[]) hwr (fun _ _ => rfl) .nil hev).mono fun e w' ⟨v', ρ', he, hv, _, hw, _⟩ => ?_
  cases hv
  exact ⟨he, hw.below⟩
end Go.Ev
