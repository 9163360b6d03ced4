/-
  ALL CODE of a frame.
-/
import Derived.Test.YtdijjakmjlegoaaGreatDoorEvAI
namespace Go.Ev
open Go.RowKit (Below)
variable {P : Program} {E : Env} {ρ ρ' : Rho} {w0 w w' w1 w2 : World} {C : Ctx} {s : St} {a : Act} {cs : List Frame} {k : List Item} {b : Frame}

theorem SR.lo {H : SR P w0 C ρ [] s a cs w} : s.lo = [] := by have := H.len; simpa using this
/-- behind the function that is ranged over -/
theorem range_end {l d : Nat} {xl xd : Nat × Nat × Nat} (hxl : ρ' l = some xl) (hxd : ρ' d = some xd) (h : SR P w0 C ρ [] s a cs w) {H' : Hp} {w' : World} (hx : Ext s.h ρ H' ρ') (hw : WR P w0 ρ' H' w') (hf : Fresh ρ' H') :
    OutOk P w0 C ρ s.h k (lone (C.b.atR { a with defers := [{ target := .collected xd.1, args := #[] }] ++ a.defers } (.endRangeFunc xl.1 :: k)) cs w')
      (blk H' l fun b => withS s fun lo tm ds _ pn => loopEnd l ⟨lo, tm, .coll d :: ds, H', pn⟩ H' b) := by
  refine blk_ok (Φ := OutOk P w0 C ρ s.h k _) (fun _ => trivial) fun ab hg => ?_
  obtain ⟨lo, tm, df, sh, pn⟩ := s
  obtain ⟨bl, nx⟩ := H'
  show OutOk P w0 C ρ sh k _ (loopEnd l ⟨lo, tm, .coll d :: df, ⟨bl, nx⟩, pn⟩ ⟨bl, nx⟩ ab)
  unfold loopEnd
  split
  · next st pend cx tml ps c e =>
    obtain ⟨L, h0, h1, h2, _⟩ := hw.loop hxl hg
    have hset := hw.setLoop hxl hg h0 .exhausted pend
    split
    · trivial
    · next hst =>
      have hLs : L.state ≠ .busy := by rw [h1]; exact hst
      have hend := run_endLoop (P := P) h0 hLs
      have hsr : SR P w0 C ρ' [] ⟨lo, tm, .coll d :: df, ⟨(acc AB 4 l).set bl (some (.loop .exhausted pend cx tml ps c e)), nx⟩, pn⟩ { a with defers := [{ target := .collected xd.1, args := #[] }] ++ a.defers } cs
          { w' with heap := w'.heap.setIfInBounds xl.1 (.loop { L with state := .exhausted, pending := pend }) } :=
        ⟨hset, hf.nx rfl, h.fr.mono hx.le, h.tk, .cons _ _ _ _ (.coll d xd hxd) (h.df.mono hx.le), h.cs.mono hx.le, h.len⟩
      have hx' : Ext sh ρ ⟨(acc AB 4 l).set bl (some (.loop .exhausted pend cx tml ps c e)), nx⟩ ρ' := hx.to rfl
      have hstep := stepR_endRange (b := C.b) (a := { a with defers := [{ target := .collected xd.1, args := #[] }] ++ a.defers }) (k := k) (cs := cs) hend
      rw [h2] at hstep
      cases pend with
      | none => exact ⟨ρ', _, cs, _, hx', hsr, .one hstep⟩
      | some c' =>
        cases c' with
        | exit i => exact ⟨ρ', _, cs, _, hx', hsr, k, rfl, .one hstep⟩
        | ret => exact ⟨ρ', _, cs, _, hx', hsr, k, .one hstep⟩
        | _ => trivial
  · trivial
theorem range_ok {r : Rec} {cx : Cx} (hr : RecOk P E r) (hc : CtxOk P C cx) (h : SR P w0 C ρ [] s a cs w) (f : Operand) (ps : Array Tmp) (x y : Code) (A B : CArm) :
    OutOk P w0 C ρ s.h k (lone (C.b.atR a (.code (.rangeFunc f ps x y) :: k)) cs w) ((cdRange f ps x y A B E cx).run r s) := by
  unfold cdRange
  refine btC_ok (Φ := OutOk P w0 C ρ s.h k _) (fun _ => trivial) fun hrd => btC_ok (fun hps => ?_) (fun _ => trivial)
  obtain ⟨hps1, hps2⟩ := bt_both hps
  have hro : C.b.roundOf = none := by
    rw [hc.rd] at hrd
    cases hq : C.b.roundOf with
    | none => rfl
    | some l => rw [hq] at hrd; cases hrd
  refine opd_ok (Φ := OutOk P w0 C ρ s.h k _) (fun _ => trivial) h.fr fun fv hfv => ?_
  refine newB_ok (Φ := OutOk P w0 C ρ s.h k _) (ob := .deferred (some [])) (n := 0) (t := 0) (fun _ => trivial) h.wr h.fresh (fun ρ' _ => .dfr false _ fun _ => rfl) fun ρ1 h1 d hx1 hd1 hw1 hf1 _ => ?_
  have hnt : C.nt ≤ a.tmps.size := h.fr.sz
  let L : Loop := { state := .ready, pending := none, fn := C.b.fn, tmps := a.tmps, params := ps, assign := x, body := y, defers := w.heap.size }
  have hTR : ∀ ρ2, ρ1.le ρ2 → TR P ρ2 s.tm a.tmps := fun ρ2 hle t v ht hv => (h.fr.tm t v rfl ht hv).mono (hx1.le.trans hle)
  refine newB_ok (Φ := OutOk P w0 C ρ s.h k _) (ob := .loop L) (n := 0) (t := 0) (fun _ => trivial) hw1 hf1
    (fun ρ2 hle => .loop ⟨cx.ms, cx.nt, true⟩ s.tm ps.toList x y none L (by rw [hc.nt]; exact hnt) (hTR ρ2 hle) rfl rfl rfl rfl rfl (by exact hps1) (by exact hps2) (by rw [hc.ms]; exact h.tk) hc.fx) fun ρ2 h2 l hx2 hl2 hw2 hf2 _ => ?_
  have hx12 := hx1.trans hx2
  rw [World.size_alloc] at hl2
  have hd2 := hx2.le d _ hd1
  have hyld : VRs P ρ2 [.fn (.yield l) [] []] (#[Value.func (.yield (w.heap.size + 1)) #[] #[]] : Array Value).toList := .cons _ _ _ _ (.yld l (w.heap.size + 1, 0, 0) hl2) .nil
  have hcall := callA_ok hr hw2 hf2 (hfv.mono hx12.le) hyld (C.b.atR { a with defers := [{ target := .collected w.heap.size, args := #[] }] ++ a.defers } (.inRangeFunc (w.heap.size + 1) :: k)) cs
  have hent : (Instr.enterLoop C.b.fn a.tmps ps x y C.b.roundOf).run P w = .ok (w.heap.size + 1, [{ target := .collected w.heap.size, args := #[] }]) ((w.alloc (.deferred (some []))).alloc (.loop L)) := by
    rw [hro]; exact run_enterLoop _ _ _ _ _ _
  -- from what the call leaves
  have fin_ : ∀ (m0 : Machine) (res : CRes), Steps P (lone (C.b.atR a (.code (.rangeFunc f ps x y) :: k)) cs w) m0 →
      AppOk P w0 ρ2 h2 m0 (C.b.atR { a with defers := [{ target := .collected w.heap.size, args := #[] }] ++ a.defers } (.inRangeFunc (w.heap.size + 1) :: k)) cs res →
      OutOk P w0 C ρ s.h k (lone (C.b.atR a (.code (.rangeFunc f ps x y) :: k)) cs w) (match res with
        | .ret _ h _ => blk h l fun b => withS s fun lo tm ds _ pn => loopEnd l ⟨lo, tm, .coll d :: ds, h, pn⟩ h b
        | .panic v h _ => withS s fun lo tm ds _ pn => .lv (.panic v) ⟨lo, tm, .coll d :: ds, h, pn⟩
        | .bad_ c => .bad_ c) := by
    intro m0 res hs0 happ
    cases res with
    | bad_ c => trivial
    | ret v h' pn' =>
      obtain ⟨ρ', w', v', g1, g2, g3, g4, g5⟩ := happ
      rw [finish_inRange] at g5
      have := range_end (k := k) (xl := (w.heap.size + 1, 0, 0)) (xd := (w.heap.size, 0, 0)) (g1.le l _ hl2) (g1.le d _ hd2) h (hx12.trans g1) g2 g3
      exact OutOk.from Ext.refl (hs0.trans g5) this
    | panic v h' pn' =>
      obtain ⟨ρ', w', v', g1, g2, g3, g4, g5⟩ := happ
      rw [Frame.raise_atR] at g5
      obtain ⟨lo, tm, df, sh, pn⟩ := s
      exact ⟨ρ', { a with defers := [{ target := .collected w.heap.size, args := #[] }] ++ a.defers }, cs, w', hx12.trans g1, ⟨g2, g3, h.fr.mono (hx12.trans g1).le, h.tk, .cons _ _ _ _ (.coll d (w.heap.size, 0, 0) (g1.le d _ hd2)) (h.df.mono (hx12.trans g1).le), h.cs.mono (hx12.trans g1).le, h.len⟩, _, v', g4, hs0.trans g5⟩
  rcases hcall with ⟨fn, fst, cap, hfu, hor⟩ | ⟨e, hbad⟩
  · rcases hor with ⟨g, xs, g1, g2⟩ | ⟨l2, g, tm, x2, y2, g1, g2⟩
    · exact fin_ _ _ (.one (stepR_range_enter hent hfu g1)) g2
    · exact fin_ _ _ (.one (stepR_range_round hent hfu g1)) g2
  · rw [hbad]; trivial
/-- all code; and a loop that is in it already -/
theorem code_ok {r : Rec} (hE : EnvOk P E) (D : ∀ o, plainOp o.op = true → Does P E o) (hr : RecOk P E r)
    (hloop : ∀ C ρ s a cs w c cx k, CtxOk P C cx → SR P w0 C ρ [] s a cs w → OutOk P w0 C ρ s.h k (lone (C.b.atR a (.inLoop c :: k)) cs w) (r.code (.loop c) cx s)) :
    ∀ (c : Code) (C : Ctx) (ρ : Rho) (s : St) (a : Act) (cs : List Frame) (w : World) (cx : Cx) (k : List Item), CtxOk P C cx → SR P w0 C ρ [] s a cs w →
      OutOk P w0 C ρ s.h k (lone (C.b.atR a (.code c :: k)) cs w) ((comp c E cx).run r s)
  | .skip, C, ρ, s, a, cs, w, cx, k, hc, h => ⟨ρ, a, cs, w, Ext.refl, h, .one stepR_skip⟩
  | .region id ops d, C, ρ, s, a, cs, w, cx, k, hc, h => by
    cases d with
    | false => exact region_ok hE D hr hc h id
    | true => exact region_draw_ok hE D hr hc h id
  | .seq x y, C, ρ, s, a, cs, w, cx, k, hc, h => by
    show OutOk P w0 C ρ s.h k _ (onOk ((comp x E cx).run r s) ((comp y E cx).run r))
    refine OutOk.from Ext.refl (.one stepR_seq) ?_
    exact OutOk.then (k0 := .code y :: k) (fun _ => rfl) (code_ok hE D hr hloop x C ρ s a cs w cx _ hc h) fun ρ' s' a' cs' w' h' => code_ok hE D hr hloop y C ρ' s' a' cs' w' cx k hc h'
  | .cond c x y, C, ρ, s, a, cs, w, cx, k, hc, h => by
    refine opd_ok (Φ := OutOk P w0 C ρ s.h k _) (fun _ => trivial) h.fr fun v hv => AV.onBool_ok (Φ := OutOk P w0 C ρ s.h k _) (fun _ => trivial) fun t e => ?_
    subst e
    generalize hu : a.eval c = u at hv
    cases hv
    have hst := stepR_cond (P := P) (b := C.b) (a := a) (k := k) (cs := cs) (w := w) (x := x) (y := y) hu
    cases t with
    | true => exact OutOk.from Ext.refl (.one hst) (code_ok hE D hr hloop x C ρ s a cs w cx k hc h)
    | false => exact OutOk.from Ext.refl (.one hst) (code_ok hE D hr hloop y C ρ s a cs w cx k hc h)
  | .block id x, C, ρ, s, a, cs, w, cx, k, hc, h => by
    have hx := code_ok hE D hr hloop x C ρ s a cs w cx (.inBlock id :: k) hc h
    refine OutOk.from Ext.refl (.one stepR_block) ?_
    show OutOk P w0 C ρ s.h k _ (@Out.rec (fun _ => Out) (fun c => .bad_ c) (fun s => .ok s) (fun e s => exBlk id e s) ((comp x E cx).run r s))
    generalize (comp x E cx).run r s = o at hx
    cases o with
    | bad_ c => trivial
    | ok s' => obtain ⟨ρ1, a', cs', w', h1, h2, h3⟩ := hx; exact ⟨ρ1, a', cs', w', h1, h2, h3.trans (.one stepR_inBlock)⟩
    | lv e s' =>
      obtain ⟨ρ1, a', cs', w', h1, h2, k1, h3⟩ := hx
      cases e with
      | exit j =>
        show OutOk P w0 C ρ s.h k _ (bt (Nat.beq j id) (.ok s') (.lv (.exit j) s'))
        obtain ⟨h3, h4⟩ := h3
        cases hb : Nat.beq j id with
        | true =>
          have hj := Nat.eq_of_beq_eq_true hb
          subst hj
          refine ⟨ρ1, a', cs', w', h1, h2, h4.trans (.one (stepR_exit ?_))⟩
          rw [h3]; simp [exitTo]
        | false =>
          have hj := Nat.ne_of_beq_eq_false hb
          refine ⟨ρ1, a', cs', w', h1, h2, k1, ?_, h4⟩
          rw [h3]
          have : (id == j) = false := by simp; exact fun e => hj e.symm
          simp [exitTo, this]
      | ret => exact ⟨ρ1, a', cs', w', h1, h2, k1, h3⟩
      | panic v => exact ⟨ρ1, a', cs', w', h1, h2, k1, h3⟩
  | .loop x, C, ρ, s, a, cs, w, cx, k, hc, h => by
    show OutOk P w0 C ρ s.h k _ (onOk ((comp x E cx).run r s) (r.code (.loop x) cx))
    refine OutOk.from Ext.refl (.one stepR_loop) ?_
    exact OutOk.then (k0 := .inLoop x :: k) (fun _ => rfl) (code_ok hE D hr hloop x C ρ s a cs w cx _ hc h) fun ρ' s' a' cs' w' h' => hloop C ρ' s' a' cs' w' x cx k hc h'
  | .rangeFunc f ps x y, C, ρ, s, a, cs, w, cx, k, hc, h => range_ok hr hc h f ps x y (comp x) (comp y)
  | .exit i, C, ρ, s, a, cs, w, cx, k, hc, h => ⟨ρ, a, cs, w, Ext.refl, h, k, rfl, .refl _ _⟩
  | .scope x, C, ρ, s, a, cs, w, cx, k, hc, h => by
    have hx := code_ok hE D hr hloop x C ρ s a cs w cx (.inScope x :: k) hc h
    refine OutOk.from Ext.refl (.one stepR_scope) ?_
    show OutOk P w0 C ρ s.h k _ ((comp x E cx).run r s)
    generalize (comp x E cx).run r s = o at hx
    cases o with
    | bad_ c => trivial
    | ok s' => obtain ⟨ρ1, a', cs', w', h1, h2, h3⟩ := hx; exact ⟨ρ1, a', cs', w', h1, h2, h3.trans (.one stepR_inScope)⟩
    | lv e s' => exact OutOk.lvs (fun _ => rfl) hx
  | .label l, C, ρ, s, a, cs, w, cx, k, hc, h => ⟨ρ, a, cs, w, Ext.refl, h, .one stepR_label⟩
  | .goto l, C, ρ, s, a, cs, w, cx, k, hc, h => trivial
  | .ret, C, ρ, s, a, cs, w, cx, k, hc, h => ⟨ρ, a, cs, w, Ext.refl, h, k, .refl _ _⟩
  | .refuse why, C, ρ, s, a, cs, w, cx, k, hc, h => trivial
end Go.Ev
