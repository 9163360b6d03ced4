/-
  CALLS, defer, recover, panic: an operation that is not plain.
-/
import Derived.Test.YtdijjakmjlegoaaGreatDoorEvZ
namespace Go.Ev
open Go.RowKit (Below)
variable {P : Program} {E : Env} {ρ ρ' : Rho} {w0 w w' : World} {C : Ctx} {ds : List Nat} {ops : Array Oper} {i : Nat} {o : Oper} {s : St} {a am : Act} {cs : List Frame} {k : List Item} {rest : List Nat}

theorem run_resolve {f : Operand → Value} {c : Call} {x : Operand} (hc : c.callee = .value x) {fn : Fn} {fst cap : Array Value} (hx : f x = .func fn fst cap) (t : TypeId) (w : World) :
    (resolve f c t).run P w = .ok { target := .fn fn cap, args := fst ++ c.args.map f } w := by
  simp only [resolve, hc, Deferred.ofValue, hx, Sem.run_pure]
theorem run_callv {f : Operand → Value} {c : Call} {x : Operand} (ho : o.op = .call c) (hc : c.callee = .value x) {fn : Fn} {fst cap : Array Value} (hx : f x = .func fn fst cap) (w : World) :
    (execOp f o).run P w = (invoke (.fn fn cap) (fst ++ c.args.map f)).run P w := by
  simp only [execOp, ho, Sem.run_bind, run_resolve hc hx, Result.andThen_ok]
theorem run_enter {g : FuncId} {xs : Array Value} (h : ∃ fn, P.funcs[g]? = some fn ∧ fn.body.isSome = true ∧ (fn.name == "runtime.NumGoroutine") = false) (w : World) : (callFunc g xs).run P w = .ok (.enter g xs) w := by
  obtain ⟨fn, h1, h2, h3⟩ := h
  have hn : fn.body.isNone = false := by cases hb : fn.body <;> rw [hb] at h2 <;> simp at h2 ⊢
  simp only [callFunc, Sem.run_bind, run_program, Result.andThen_ok, h1, h3, hn, Bool.false_eq_true, if_false, Sem.run_pure]
/-- a called frame's end, as its caller meets it -/
theorem ResOk.app {H : Hp} {f : FuncId} {m : Machine} {c : Frame} {res : CRes} (h : ResOk P w0 .normal none (c :: cs) ρ H f m res) : AppOk P w0 ρ H m c cs res := by
  cases res with
  | bad_ c => trivial
  | ret v h' pn =>
    obtain ⟨ρ', w', fr, cs', v', h1, h2, h3, h4, h5, h6, h7, h8, h9, h10, h11⟩ := h
    obtain ⟨rfl, _⟩ := h5.normal
    exact ⟨ρ', w', v', h1, h2, h3, h4, Steps.trans h6 (.one (step_leave_returned ⟨h8, h9, h10, h11⟩))⟩
  | panic v h' pn =>
    obtain ⟨ρ', w', fr, cs', v', h1, h2, h3, h4, h5, h6, h7, h8, h9, h10, h11⟩ := h
    obtain ⟨rfl, _⟩ := h5.normal
    exact ⟨ρ', w', v', h1, h2, h3, h4, Steps.trans h6 (.one (step_leave_panicked ⟨h8, h9, h11⟩))⟩
theorem AppOk.from {H : Hp} {m m0 : Machine} {c : Frame} {res : CRes} (hs : Steps P m0 m) (h : AppOk P w0 ρ H m c cs res) : AppOk P w0 ρ H m0 c cs res := by
  cases res with
  | bad_ c => trivial
  | ret v h' pn => obtain ⟨ρ', w', v', h1, h2, h3, h4, h5⟩ := h; exact ⟨ρ', w', v', h1, h2, h3, h4, hs.trans h5⟩
  | panic v h' pn => obtain ⟨ρ', w', v', h1, h2, h3, h4, h5⟩ := h; exact ⟨ρ', w', v', h1, h2, h3, h4, hs.trans h5⟩
/-- a function value called: what the model enters, and what comes of it -/
theorem callA_ok {r : Rec} (hr : RecOk P E r) {H : Hp} (hw : WR P w0 ρ H w) (hf : Fresh ρ H) {fv : AV} {fu : Value} (hfv : VR P ρ fv fu) {args : List AV} {args' : Array Value} (ha : VRs P ρ args args'.toList) (c : Frame) (cs : List Frame) :
    (∃ fn fst cap, fu = .func fn fst cap ∧ ((∃ g xs, (invoke (.fn fn cap) (fst ++ args')).run P w = .ok (.enter g xs) w ∧ AppOk P w0 ρ H (lone (Frame.enter P g xs .normal) (c :: cs) w) c cs (callA r fv args none H)) ∨
      (∃ l f tm x y, (invoke (.fn fn cap) (fst ++ args')).run P w = .ok (.round l f tm x y) w ∧ AppOk P w0 ρ H (lone (Frame.round l f tm x y .normal) (c :: cs) w) c cs (callA r fv args none H)))) ∨ ∃ e, callA r fv args none H = .bad_ e := by
  unfold callA
  split
  · next g fa fc =>
    cases hfv with
    | fn g fa fc fa' fc' h1 h2 =>
    have hall : VRs P ρ (app fa (app args fc)) (((fa' ++ args') ++ fc').toList) := by
      rw [app_eq, app_eq, Array.toList_append, Array.toList_append, List.append_assoc]
      exact h1.append (ha.append h2)
    rcases hr.call w0 g _ none H ρ _ w .normal (c :: cs) hw hf hall (.inl rfl) (noRec_normal _) with ⟨he, hres⟩ | hbad
    · exact .inl ⟨_, _, _, rfl, .inl ⟨g, _, run_enter he w, hres.app⟩⟩
    · exact .inr hbad
  · next l =>
    cases hfv with
    | yld l x hx =>
      rcases hr.round w0 l args H ρ args' w x c cs hw hf ha hx with ⟨f, tm, y, z, h1, h2⟩ | hbad
      · refine .inl ⟨_, _, _, rfl, .inr ⟨_, _, _, _, _, ?_, h2⟩⟩
        rw [Array.empty_append]; exact h1
      · exact .inr hbad
  · exact .inr ⟨_, rfl⟩
/-- what a called function leaves, as an operation's outcome -/
theorem app_out (h : OpAt P w0 C ρ ds ops i o s a am cs w) {m : Machine} {res : CRes} (happ : AppOk P w0 ρ s.h m (C.b.atR am (.inRegion ops (i :: rest) :: k)) cs res) :
    GOut P w0 C ρ o.dst s am m (C.b.atR am (.inRegion ops (i :: rest) :: k)) (fun a' => C.b.atR a' (.inRegion ops rest :: k)) (onRes res o.dst s) := by
  cases res with
  | bad_ c => trivial
  | ret v h' pn =>
    obtain ⟨ρ', w', v', h1, h2, h3, h4, h5⟩ := happ
    show GOut _ _ _ _ _ _ _ _ _ _ (finH o.dst v h' s)
    rw [finH_eq]
    refine ⟨ρ', a.defers, cs, w', v, v', rfl, rfl, h1, h2, h3, h4, h.sr.df.mono h1.le, h.sr.cs.mono h1.le, ?_⟩
    rw [act_df h.df]
    rw [fin_atR h.ho] at h5
    exact h5
  | panic v h' pn =>
    obtain ⟨ρ', w', v', h1, h2, h3, h4, h5⟩ := happ
    cases s with
    | mk lo tm df sh spn =>
    refine ⟨ρ', cs, w', v, v', rfl, rfl, h1, h2, h3, h4, ?_, h.sr.cs.mono h1.le, ?_⟩
    · rw [h.df]; exact h.sr.df.mono h1.le
    · rw [Frame.raise_atR] at h5; exact h5
theorem OpAt.args {c : Call} (h : OpAt P w0 C ρ ds ops i o s a am cs w) (ho : o.op = .call c) : c.args.map am.eval = c.args.map a.eval := by
  apply Array.map_congr_left
  intro x hx
  refine h.ev x ?_
  rw [ho]
  show x ∈ c.operands
  unfold Call.operands
  exact Array.mem_append.2 (.inr hx)
theorem OpAt.callee {c : Call} {f : Operand} (h : OpAt P w0 C ρ ds ops i o s a am cs w) (ho : o.op = .call c) (hc : c.callee = .value f) : am.eval f = a.eval f := by
  refine h.ev f ?_
  rw [ho]
  show f ∈ c.operands
  unfold Call.operands
  rw [hc]
  exact Array.mem_append.2 (.inl (by simp))
theorem VRs.map_arr {m : List AV} {f : Operand → Value} {xs : Array Operand} (h : VRs P ρ m (xs.toList.map f)) : VRs P ρ m (xs.map f).toList := by rw [Array.toList_map]; exact h
/-- a call of a function value -/
theorem callv_ok {r : Rec} (hr : RecOk P E r) {c : Call} {f : Operand} (ho : o.op = .call c) (hc : c.callee = .value f) (h : OpAt P w0 C ρ ds ops i o s a am cs w) (hw : Region.wanted o (yielded ops am.tmps) = true)
    {fv : AV} (hfv : VR P ρ fv (a.eval f)) {args : List AV} (ha : VRs P ρ args (c.args.map a.eval).toList) :
    GOut P w0 C ρ o.dst s am (lone (C.b.atR am (.inRegion ops (i :: rest) :: k)) cs w) (C.b.atR am (.inRegion ops (i :: rest) :: k)) (fun a' => C.b.atR a' (.inRegion ops rest :: k)) (onRes (callA r fv args none s.h) o.dst s) := by
  have hd : ∀ c, o.op ≠ .defer c := fun c e => by rw [ho] at e; cases e
  have he := h.exec (fun c b e => by rw [ho] at e; cases e)
  rcases callA_ok hr h.sr.wr h.sr.fresh hfv ha (C.b.atR am (.inRegion ops (i :: rest) :: k)) cs with ⟨fn, fst, cap, hfu, hor⟩ | ⟨e, hbad⟩
  · have hx := run_callv (P := P) ho hc hfu w
    rcases hor with ⟨g, xs, h1, h2⟩ | ⟨l, g, tm, x, y, h1, h2⟩
    · exact app_out h (AppOk.from (.one (stepR_enter h.ho hw hd (by rw [he, hx]; exact h1))) h2)
    · exact app_out h (AppOk.from (.one (stepR_round h.ho hw hd (by rw [he, hx]; exact h1))) h2)
  · rw [hbad]; trivial
theorem pick_act (x : Option Tmp) (v : AV) (u : Value) (h : OpAt P w0 C ρ ds ops i o s a am cs w) (hv : VR P ρ v u)
    (hst : step P (lone (C.b.atR am (.inRegion ops (i :: rest) :: k)) cs w) = .next (lone (C.b.atR (am.put o.dst u) (.inRegion ops rest :: k)) cs w)) :
    GOut P w0 C ρ o.dst s am (lone (C.b.atR am (.inRegion ops (i :: rest) :: k)) cs w) (C.b.atR am (.inRegion ops (i :: rest) :: k)) (fun a' => C.b.atR a' (.inRegion ops rest :: k)) (fin o.dst v s) := by
  rw [fin_eq, finH_eq]
  refine ⟨ρ, a.defers, cs, w, v, u, rfl, rfl, Ext.refl, h.sr.wr, h.sr.fresh, hv, h.sr.df, h.sr.cs, ?_⟩
  rw [act_df h.df]
  exact .one hst
/-- idx of a byte -/
theorem idxB_ok {Φ : Out → Prop} (hb : ∀ c, Φ (.bad_ c)) (hE : EnvOk P E) {args : List AV} {xs : Array Value} (ha : VRs P ρ args xs.toList) {K : AV → Out}
    (h : ∀ v u, VR P ρ v u → (∀ w, (callFunc E.idxb xs).run P w = .ok (.value u) w) → Φ (K v)) : Φ (idxB args K) := by
  refine twob_ok hb fun x y e => ?_
  subst e
  obtain ⟨u, v, huv, hx, hy⟩ := ha.two_inv
  refine AV.onStr_ok hb fun p ex => AV.onInt_ok hb fun kd c ey => natK_ok hb fun c' e' => bt_ok (fun e1 => bt_ok (fun e2 => ?_) (fun _ => hb _)) (fun _ => hb _)
  subst ex; subst ey; subst e'
  obtain ⟨q, rfl, rfl⟩ := hx.str_inv
  rw [eqK_eq] at e1
  simp only [decide_eq_true_eq] at e1
  subst e1
  cases hy with
  | int k n =>
  rw [rawI_eq]
  rw [Nat.blt_eq] at e2
  have hxs : xs = #[.string q, .int .u8 (c' : Int)] := by apply Array.toList_inj.1; rw [huv]
  refine h _ _ (.int _ _) fun w => ?_
  rw [hxs]
  exact hE.idxb q c' w e2
theorem call_ok {r : Rec} (hE : EnvOk P E) (hr : RecOk P E r) {c : Call} {f : Operand} (ho : o.op = .call c) (hc : c.callee = .value f) (h : OpAt P w0 C ρ ds ops i o s a am cs w) (hw : Region.wanted o (yielded ops am.tmps) = true) :
    GOut P w0 C ρ o.dst s am (lone (C.b.atR am (.inRegion ops (i :: rest) :: k)) cs w) (C.b.atR am (.inRegion ops (i :: rest) :: k)) (fun a' => C.b.atR a' (.inRegion ops rest :: k)) ((opA o.op E ds o.dst).run r s) := by
  have hd : ∀ c, o.op ≠ .defer c := fun c e => by rw [ho] at e; cases e
  have he := h.exec (fun c b e => by rw [ho] at e; cases e)
  rw [ho]
  show GOut _ _ _ _ _ _ _ _ _ _ (((@Callee.rec (fun _ => Cl) _ _ _ c.callee : Cl)).run r s)
  rw [hc]
  show GOut _ _ _ _ _ _ _ _ _ _ ((opCallV f c.args E ds o.dst).run r s)
  cases f with
  | const v => trivial
  | global g => trivial
  | tmp t =>
    refine opT_ok (Φ := GOut P w0 C ρ o.dst s am _ _ _) (fun _ => trivial) h.sr.fr fun fv hfv => ?_
    exact opds_ok (Φ := GOut P w0 C ρ o.dst s am _ _ _) (fun _ => trivial) h.sr.fr fun m hm => callv_ok hr ho hc h hw hfv hm.map_arr
  | func g =>
    have hx := fun W => run_callv (P := P) (f := a.eval) ho hc (fn := .func g) (fst := #[]) (cap := #[]) rfl W
    have hinv : ∀ W, (invoke (.fn (.func g) #[]) (#[] ++ c.args.map a.eval)).run P W = (callFunc g (c.args.map a.eval)).run P W := by
      intro W; rw [Array.empty_append]; show (callFunc g (c.args.map a.eval ++ #[])).run P W = _; rw [Array.append_empty]
    show GOut _ _ _ _ _ _ _ _ _ _ ((callS E g c.args ds o.dst).run r s)
    unfold callS
    refine btC_ok (fun e1 => ?_) (fun _ => btC_ok (fun e1 => ?_) (fun _ => ?_))
    · have e1 := Nat.eq_of_beq_eq_true e1
      subst e1
      refine opds_ok (Φ := GOut P w0 C ρ o.dst s am _ _ _) (fun _ => trivial) h.sr.fr fun m hm => ?_
      unfold one1
      split
      · next x =>
        obtain ⟨u, hu, hxu⟩ := hm.one_inv
        have hxs : c.args.map a.eval = #[u] := by apply Array.toList_inj.1; rw [Array.toList_map]; exact hu
        exact pick_act none x u h hxu (stepR_value h.ho hw hd (by rw [he, hx, hinv, hxs]; exact hE.noesc u w))
      · trivial
    · have e1 := Nat.eq_of_beq_eq_true e1
      subst e1
      refine opds_ok (Φ := GOut P w0 C ρ o.dst s am _ _ _) (fun _ => trivial) h.sr.fr fun m hm => ?_
      exact idxB_ok (Φ := GOut P w0 C ρ o.dst s am _ _ _) (fun _ => trivial) hE hm.map_arr fun v u hv hrun => pick_act none v u h hv (stepR_value h.ho hw hd (by rw [he, hx, hinv]; exact hrun w))
    · refine opds_ok (Φ := GOut P w0 C ρ o.dst s am _ _ _) (fun _ => trivial) h.sr.fr fun m hm => ?_
      have := callv_ok (k := k) (rest := rest) hr ho hc h hw (fv := .fn (.func g) [] []) (.fn g [] [] #[] #[] .nil .nil) hm.map_arr
      simp only [callA, app_eq, List.nil_append, List.append_nil] at this
      exact this
/-- recover -/
theorem recover_ok {r : Rec} {c : Call} (ho : o.op = .call c) (hc : c.callee = .builtin .recover) (h : OpAt P w0 C ρ ds ops i o s a am cs w) (hw : Region.wanted o (yielded ops am.tmps) = true) :
    GOut P w0 C ρ o.dst s am (lone (C.b.atR am (.inRegion ops (i :: rest) :: k)) cs w) (C.b.atR am (.inRegion ops (i :: rest) :: k)) (fun a' => C.b.atR a' (.inRegion ops rest :: k)) ((opA o.op E ds o.dst).run r s) := by
  have hd : ∀ c, o.op ≠ .defer c := fun c e => by rw [ho] at e; cases e
  have hro : C.b.roundOf = none := by
    cases hq : C.b.roundOf with
    | none => rfl
    | some l =>
      have := h.rd (by rw [hq]; rfl)
      rw [ho] at this
      simp only [isDefer, hc] at this
      cases this
  have hrun : (execOp am.eval o).run P w = .ok .recover w := by
    simp only [execOp, ho, resolve, hc, Sem.run_bind, Sem.run_pure, Result.andThen_ok, invoke, builtin]
  rw [ho]
  show GOut _ _ _ _ _ _ _ _ _ _ (((@Callee.rec (fun _ => Cl) _ _ _ c.callee : Cl)).run r s)
  rw [hc]
  obtain ⟨lo, tm, df, sh, pn⟩ := s
  have hk : (C.b.atR am (.inRegion ops (i :: rest) :: k)).kind = C.b.kind := rfl
  cases pn with
  | none =>
    have hp : Pn P ρ C.b.kind none cs := h.sr.cs.pn
    have htr := hp (C.b.atR am (.inRegion ops (i :: rest) :: k)) hk
    show GOut _ _ _ _ _ _ _ _ _ _ (fin o.dst .nilifc ⟨lo, tm, df, sh, none⟩)
    exact pick_act none .nilifc .nilIface h .nilifc (stepR_recover_none h.ho hw hro hd hrun htr)
  | some v =>
    have hcs := h.sr.cs
    rcases hcs with ⟨h1, h2, h3⟩ | ⟨h1, _⟩
    · obtain ⟨h4, c', r', v', h5, h6, h7⟩ := h3
      have htr : tryRecover (C.b.atR am (.inRegion ops (i :: rest) :: k)) cs = some (v', { c' with mode := .panicking [{ v := v', recovered := true }] } :: r') := by
        rw [tryRecover_deferred (hk.trans h4), h5]
        simp only [recoverD, h6]
      have hst := stepR_recover_some (k := k) (rest := rest) h.ho hw hro hd hrun htr
      show GOut _ _ _ _ _ _ _ _ _ _ (fin o.dst v ⟨lo, tm, df, sh, none⟩)
      rw [fin_eq, finH_eq]
      refine ⟨ρ, a.defers, _, w, v, v', rfl, rfl, Ext.refl, h.sr.wr, h.sr.fresh, h7, h.sr.df, .inr ⟨rfl, ?_, h4, c', r', v', ?_, h6, rfl⟩, ?_⟩
      · change some v = C.pn0 at h1
        rw [← h1]; simp
      · rw [← h2]; exact h5
      · rw [act_df h.df]; exact .one hst
    · cases h1
/-- defer -/
theorem defer_ok {r : Rec} {c : Call} (ho : o.op = .defer c) (h : OpAt P w0 C ρ ds ops i o s a am cs w) (hw : Region.wanted o (yielded ops am.tmps) = true) :
    GOut P w0 C ρ o.dst s am (lone (C.b.atR am (.inRegion ops (i :: rest) :: k)) cs w) (C.b.atR am (.inRegion ops (i :: rest) :: k)) (fun a' => C.b.atR a' (.inRegion ops rest :: k)) ((opA o.op E ds o.dst).run r s) := by
  have he := h.exec (fun c b e => by rw [ho] at e; cases e)
  have hro : C.b.roundOf = none := by
    cases hq : C.b.roundOf with
    | none => rfl
    | some l =>
      have := h.rd (by rw [hq]; rfl)
      rw [ho] at this
      cases this
  rw [ho]
  show GOut _ _ _ _ _ _ _ _ _ _ ((opDefer c E ds o.dst).run r s)
  unfold opDefer
  split
  · next f hc =>
    refine opd_ok (Φ := GOut P w0 C ρ o.dst s am _ _ _) (fun _ => trivial) h.sr.fr fun fv hfv => ?_
    unfold fnK
    split
    · next g fa fc =>
      generalize hx : a.eval f = fu at hfv
      have hfv' := hfv
      cases hfv with
      | fn g fa fc fa' fc' h1 h2 =>
      refine opds_ok (Φ := GOut P w0 C ρ o.dst s am _ _ _) (fun _ => trivial) h.sr.fr fun m hm => ?_
      have hrun : (execOp am.eval o).run P w = .ok (.defer { target := .fn (.func g) fc', args := fa' ++ c.args.map a.eval }) w := by
        rw [he]
        simp only [execOp, ho, Sem.run_bind, run_resolve hc hx, Result.andThen_ok, Sem.run_pure]
      obtain ⟨lo, tm, df, sh, pn⟩ := s
      show GOut _ _ _ _ _ _ _ _ _ _ (fin o.dst (.tup []) ⟨lo, tm, .fn (.fn (.func g) fa fc) m :: df, sh, pn⟩)
      rw [fin_eq, finH_eq]
      refine ⟨ρ, _, cs, w, .tup [], undef, rfl, rfl, Ext.refl, h.sr.wr, h.sr.fresh, .tup [] #[] .nil, ?_, h.sr.cs, .one (stepR_deferred h.ho hw hro hrun)⟩
      have hdr := DR.fn _ _ _ _ _ _ hfv' hm
      have earr : (c.args.toList.map a.eval).toArray = c.args.map a.eval := by apply Array.toList_inj.1; simp
      rw [earr] at hdr
      rw [h.df]
      exact .cons _ _ _ _ hdr h.sr.df
    · trivial
  · trivial
/-- panic -/
theorem panic_ok {r : Rec} {x : Operand} (ho : o.op = .panic x) (h : OpAt P w0 C ρ ds ops i o s a am cs w) (hw : Region.wanted o (yielded ops am.tmps) = true) :
    GOut P w0 C ρ o.dst s am (lone (C.b.atR am (.inRegion ops (i :: rest) :: k)) cs w) (C.b.atR am (.inRegion ops (i :: rest) :: k)) (fun a' => C.b.atR a' (.inRegion ops rest :: k)) ((opA o.op E ds o.dst).run r s) := by
  have hd : ∀ c, o.op ≠ .defer c := fun c e => by rw [ho] at e; cases e
  have he := h.exec (fun c b e => by rw [ho] at e; cases e)
  rw [ho]
  refine opd_ok (Φ := GOut P w0 C ρ o.dst s am _ _ _) (fun _ => trivial) h.sr.fr fun v hv => ?_
  refine AV.onIfc_ok (Φ := GOut P w0 C ρ o.dst s am _ _ _) (fun _ => trivial) fun t v1 e => ?_
  subst e
  generalize hx : a.eval x = u at hv
  have hv' := hv
  cases hv with
  | ifc t v1 u1 h1 =>
  have hrun : (execOp am.eval o).run P w = .halt (.panic (.iface t u1)) w := by
    rw [he]
    simp only [execOp, ho, hx, Instr.panic, Sem.run_bind, run_goPanic]; rfl
  exact ⟨ρ, cs, w, _, _, rfl, rfl, Ext.refl, h.sr.wr, h.sr.fresh, hv', by rw [h.df]; exact h.sr.df, h.sr.cs, .one (stepR_panics h.ho hw hd hrun)⟩
/-- whatever operation -/
theorem op_ok {r : Rec} (hE : EnvOk P E) (D : ∀ o, plainOp o.op = true → Does P E o) (hr : RecOk P E r) (h : OpAt P w0 C ρ ds ops i o s a am cs w) :
    GOut P w0 C ρ o.dst s am (lone (C.b.atR am (.inRegion ops (i :: rest) :: k)) cs w) (C.b.atR am (.inRegion ops (i :: rest) :: k)) (fun a' => C.b.atR a' (.inRegion ops rest :: k)) ((gop E ops.toList ds o).run r s) := by
  refine gop_ok h r fun hw => ?_
  by_cases hsel : ∃ c b, o.op = .select c b
  · obtain ⟨c, b, e⟩ := hsel
    rw [e]; trivial
  · have hsel : ∀ c b, o.op ≠ .select c b := fun c b e => hsel ⟨c, b, e⟩
    cases hp : plainOp o.op with
    | true => exact plain_ok (D o hp) hp hsel h hw r
    | false =>
      unfold plainOp at hp
      split at hp
      · next c e => exact defer_ok e h hw
      · next x e => exact panic_ok e h hw
      · next c e =>
        split at hp
        · next f e2 => exact call_ok hE hr e e2 h hw
        · next e2 => exact recover_ok e e2 h hw
        · cases hp
      · cases hp
end Go.Ev
