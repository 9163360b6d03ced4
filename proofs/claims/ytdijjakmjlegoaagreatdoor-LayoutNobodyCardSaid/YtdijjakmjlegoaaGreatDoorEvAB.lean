/-
  A REGION IN ITS TEXT's ORDER; what is kept behind a region.
-/
import Derived.Test.YtdijjakmjlegoaaGreatDoorEvAA
namespace Go.Ev
open Go.RowKit (Below)
variable {P : Program} {E : Env} {ρ ρ' : Rho} {w0 w w' : World} {C : Ctx} {ds : List Nat} {ops : Array Oper} {i : Nat} {o : Oper} {s : St} {a am : Act} {cs : List Frame} {k : List Item} {rest : List Nat}

theorem pos_cons (u t : Nat) (ds : List Nat) : pos (u :: ds) t = if u = t then some 0 else (pos ds t).map Nat.succ := by
  by_cases h : u = t
  · subst h; rw [if_pos rfl, pos_cons_same]
  · rw [if_neg h, pos_cons_other ds h]
theorem pos_none {ds : List Nat} {t : Nat} : pos ds t = none ↔ t ∉ ds := by
  induction ds with
  | nil => simp; rfl
  | cons u ds ih =>
    rw [pos_cons]
    by_cases h : u = t
    · subst h; simp
    · rw [if_neg h]
      simp only [Option.map_eq_none_iff, ih, List.mem_cons, not_or]
      exact ⟨fun h1 => ⟨fun e => h e.symm, h1⟩, fun h1 => h1.2⟩
theorem pos_get {ds : List Nat} {t j : Nat} (h : pos ds t = some j) : ds[j]? = some t ∧ j < ds.length := by
  induction ds generalizing j with
  | nil => cases h
  | cons u ds ih =>
    rw [pos_cons] at h
    by_cases e : u = t
    · subst e; rw [if_pos rfl] at h; cases h; simp
    · rw [if_neg e] at h
      cases hp : pos ds t with
      | none => rw [hp] at h; cases h
      | some q => rw [hp] at h; simp at h; subst h; have := ih hp; simp; exact this
theorem psh_eq (d : Option Tmp) (ds : List Nat) : psh d ds = match d with | none => ds | some t => t :: ds := by cases d <;> rfl
theorem mem_dsOf (t : Nat) : ∀ (l : List Oper) (ds : List Nat), t ∈ ds → t ∈ dsOf l ds
  | [], ds, h => h
  | o :: l, ds, h => mem_dsOf t l (psh o.dst ds) (by cases hd : o.dst <;> simp [psh_eq, h])

/-- what the operations of a region leave -/
def RegOut (P : Program) (w0 : World) (C : Ctx) (ρ : Rho) (H : Hp) (DS : List Nat) (ops : Array Oper) (k : List Item) (m : Machine) : Out → Prop
  | .bad_ _ => True
  | .ok s' => ∃ ρ' a' cs' w', Ext H ρ s'.h ρ' ∧ SR P w0 C ρ' DS s' a' cs' w' ∧ Steps P m (lone (C.b.atR a' (.inRegion ops [] :: k)) cs' w')
  | .lv e s' => ∃ ρ' a' cs' w' v v' todo, e = .panic v ∧ Ext H ρ s'.h ρ' ∧ WR P w0 ρ' s'.h w' ∧ Fresh ρ' s'.h ∧ Fr P ρ' C.nt DS [] s'.tm a'.tmps ∧ (∀ t v, t < 256 → (acc AV 2 t).get s'.tm = some v → kept C.ms t = true) ∧
      DRs P ρ' s'.ds a'.defers ∧ Cs P C.b.kind C.pn0 C.cs0 ρ' s'.pn cs' ∧ VR P ρ' v v' ∧ Steps P m (lone { C.b.atR a' todo with mode := pan v' } cs' w')
theorem RegOut.from {H H' : Hp} {DS : List Nat} {m m' : Machine} {x : Out} (he : Ext H' ρ' H ρ) (hs : Steps P m' m) (h : RegOut P w0 C ρ H DS ops k m x) : RegOut P w0 C ρ' H' DS ops k m' x := by
  cases x with
  | bad_ c => trivial
  | ok s' => obtain ⟨ρ1, a', cs', w', h1, h2, h3⟩ := h; exact ⟨ρ1, a', cs', w', he.trans h1, h2, hs.trans h3⟩
  | lv e s' =>
    obtain ⟨ρ1, a', cs', w', v, v', todo, h1, h2, h3⟩ := h
    obtain ⟨h3, h4, h5, h6, h7, h8, h9, h10⟩ := h3
    exact ⟨ρ1, a', cs', w', v, v', todo, h1, he.trans h2, h3, h4, h5, h6, h7, h8, h9, hs.trans h10⟩
theorem opOk_dst {cx : Cx} (h : opOk cx o = true) {t : Tmp} (hd : o.dst = some t) : t < cx.nt := by
  unfold opOk at h
  rw [hd] at h
  change bt (Nat.blt t cx.nt) _ false = true at h
  cases hb : Nat.blt t cx.nt with
  | false => rw [hb] at h; cases h
  | true => rw [Nat.blt_eq] at hb; exact hb
theorem opOk_rd {cx : Cx} (h : opOk cx o = true) (hr : cx.rd = true) : isDefer o.op = false := by
  unfold opOk at h
  rw [hr] at h
  cases hb : dstOk cx.nt o.dst with
  | false => rw [hb] at h; cases h
  | true =>
    rw [hb] at h
    cases hi : isDefer o.op with
    | false => rfl
    | true => rw [hi] at h; cases h
/-- behind an operation -/
theorem SR.next {s' : St} {dfs : List Deferred} {cs' : List Frame} {v : AV} {u : Value} (h : SR P w0 C ρ ds s a cs w) (hd : ∀ t, o.dst = some t → t < C.nt) (h1 : s'.lo = pushO o.dst v s.lo) (h2 : s'.tm = s.tm)
    (h3 : Ext s.h ρ s'.h ρ') (h4 : WR P w0 ρ' s'.h w') (h5 : Fresh ρ' s'.h) (h6 : VR P ρ' v u) (h7 : DRs P ρ' s'.ds dfs) (h8 : Cs P C.b.kind C.pn0 C.cs0 ρ' s'.pn cs') :
    SR P w0 C ρ' (psh o.dst ds) s' ({ a with defers := dfs }.put o.dst u) cs' w' := by
  have hfr := h.fr.mono h3.le
  refine ⟨h4, h5, ?_, by rw [h2]; exact h.tk, ?_, h8, ?_⟩
  · rw [h1, h2]
    cases hdst : o.dst with
    | none => exact hfr
    | some t => exact Fr.put (a := { a with defers := dfs }) hfr (hd t hdst) h6
  · cases hdst : o.dst <;> exact h7
  · rw [h1]
    have := h.len
    cases hdst : o.dst <;> simp [pushO, psh_eq, this]
theorem opsA_ok {r : Rec} {cx : Cx} (hE : EnvOk P E) (D : ∀ o, plainOp o.op = true → Does P E o) (hr : RecOk P E r) (hc : CtxOk P C cx) : ∀ (l : List Oper) (ds : List Nat) (j : Nat) (ρ : Rho) (s : St) (a : Act) (cs : List Frame) (w : World),
    l = ops.toList.drop j → SR P w0 C ρ ds s a cs w →
      RegOut P w0 C ρ s.h (dsOf l ds) ops k (lone (C.b.atR a (.inRegion ops (List.range' j (ops.size - j)) :: k)) cs w) ((opsA E cx ops.toList l ds).run r s)
  | [], ds, j, ρ, s, a, cs, w, hl, h => by
    have hj : ops.size ≤ j := by
      have := congrArg List.length hl
      simp at this; omega
    have : ops.size - j = 0 := by omega
    rw [this]
    exact ⟨ρ, a, cs, w, Ext.refl, h, .refl _ _⟩
  | o :: l, ds, j, ρ, s, a, cs, w, hl, h => by
    have hj : j < ops.size := by
      rcases Nat.lt_or_ge j ops.size with h | h
      · exact h
      · rw [List.drop_eq_nil_of_le (by simpa using h)] at hl; cases hl
    have hget : ops.toList[j]? = some o ∧ l = ops.toList.drop (j + 1) := by
      rw [List.drop_eq_getElem_cons (by simpa using hj)] at hl
      simp only [List.cons.injEq] at hl
      exact ⟨by rw [List.getElem?_eq_getElem (by simpa using hj), ← hl.1], hl.2⟩
    obtain ⟨ho, hl'⟩ := hget
    have ho : ops[j]? = some o := by simpa using ho
    have hrange : List.range' j (ops.size - j) = j :: List.range' (j + 1) (ops.size - (j + 1)) := by
      have : ops.size - j = (ops.size - (j + 1)) + 1 := by omega
      rw [this, List.range'_succ]
    rw [hrange]
    show RegOut _ _ _ _ _ _ _ _ _ ((operC E cx ops.toList o ds _).run r s)
    unfold operC
    refine btC_ok (fun hok => ?_) (fun _ => trivial)
    have hat : OpAt P w0 C ρ ds ops j o s a a cs w := ⟨ho, h, rfl, fun _ _ => rfl, rfl, hc.kd, fun hrd => opOk_rd hok (by rw [hc.rd]; exact hrd)⟩
    have hg := op_ok (k := k) (rest := List.range' (j + 1) (ops.size - (j + 1))) hE D hr hat
    show RegOut _ _ _ _ _ _ _ _ _ (onOk ((gop E ops.toList ds o).run r s) _)
    generalize hx : (gop E ops.toList ds o).run r s = x at hg
    cases x with
    | bad_ c => trivial
    | ok s' =>
      obtain ⟨ρ', dfs, cs', w', v, u, h1, h2, h3, h4, h5, h6, h7, h8, h9⟩ := hg
      have hs' := h.next (fun t ht => by rw [← hc.nt]; exact opOk_dst hok ht) h1 h2 h3 h4 h5 h6 h7 h8
      exact RegOut.from h3 h9 (opsA_ok hE D hr hc l (psh o.dst ds) (j + 1) ρ' s' _ cs' w' hl' hs')
    | lv e s' =>
      obtain ⟨ρ', cs', w', v, v', h1, h2, h3, h4, h5, h6, h7, h8, h9⟩ := hg
      refine ⟨ρ', a, cs', w', v, v', _, h1, h3, h4, h5, ⟨h.fr.sz, fun t q x _ hx => by simp at hx, fun t x hp ht hx => ?_⟩, by rw [h2]; exact h.tk, h7, h8, h6, h9⟩
      rw [h2] at hx
      exact (h.fr.tm t x (pos_none.2 fun hm => (pos_none.1 hp) (mem_dsOf t (o :: l) ds hm)) ht hx).mono h3.le

/-! ### what is kept -/
theorem kept_lt {m t : Nat} (h : kept m t = true) : t < 256 := by
  unfold kept at h
  cases hb : bit m t with
  | false => rw [hb] at h; cases h
  | true => rw [hb, bt_true, Nat.blt_eq] at h; exact h
theorem flushC_get {m : Nat} {t : Nat} (ht : t < 256) : ∀ (ds : List Nat) (lo : List AV) (tm : TT AV 2), lo.length = ds.length →
    (acc AV 2 t).get ((flushC m ds).run lo tm) = if kept m t = true then (match pos ds t with | some j => lo[j]? | none => (acc AV 2 t).get tm) else (acc AV 2 t).get tm
  | [], lo, tm, _ => by
    show (acc AV 2 t).get tm = _
    have : pos [] t = none := rfl
    simp [this]
  | u :: ds, [], tm, h => by simp at h
  | u :: ds, v :: lo, tm, h => by
    have ih := flushC_get (m := m) ht ds lo tm (by simpa using h)
    cases hk : kept m u with
    | false =>
      have e : (flushC m (u :: ds)).run (v :: lo) tm = (flushC m ds).run lo tm := by
        show ((@Bool.rec (fun _ => Fl) _ _ (kept m u) : Fl)).run (v :: lo) tm = _
        rw [hk]; rfl
      rw [e, ih]
      by_cases hkt : kept m t = true
      · have hne : u ≠ t := fun e => by rw [e, hkt] at hk; cases hk
        rw [if_pos hkt, if_pos hkt, pos_cons_other ds hne]
        cases pos ds t <;> rfl
      · rw [if_neg hkt, if_neg hkt]
    | true =>
      have e : (flushC m (u :: ds)).run (v :: lo) tm = (acc AV 2 u).set ((flushC m ds).run lo tm) (some v) := by
        show ((@Bool.rec (fun _ => Fl) _ _ (kept m u) : Fl)).run (v :: lo) tm = _
        rw [hk]; rfl
      rw [e, acc_get_set 2 u t _ _ (by have := kept_lt hk; omega) (by omega)]
      by_cases hut : u = t
      · subst hut
        rw [if_pos rfl, if_pos hk, pos_cons_same]; rfl
      · rw [if_neg hut, ih, pos_cons_other ds hut]
        by_cases hkt : kept m t = true
        · rw [if_pos hkt, if_pos hkt]
          cases pos ds t <;> rfl
        · rw [if_neg hkt, if_neg hkt]
theorem flushK_eq (m : Nat) (ds : List Nat) (s : St) (h : s.lo.length = ds.length) : ∃ tm', (flushK m ds).run s = .ok ⟨[], tm', s.ds, s.h, s.pn⟩ ∧ ∀ t, t < 256 →
    (acc AV 2 t).get tm' = if kept m t = true then (match pos ds t with | some j => s.lo[j]? | none => (acc AV 2 t).get s.tm) else (acc AV 2 t).get s.tm := by
  obtain ⟨lo, tm, df, sh, pn⟩ := s
  cases ha : anyB (kept m) ds with
  | true =>
    refine ⟨(flushC m ds).run lo tm, ?_, fun t ht => flushC_get ht ds lo tm h⟩
    show ((@Bool.rec (fun _ => Kl) _ _ (anyB (kept m) ds) : Kl)).run _ = _
    rw [ha]; rfl
  | false =>
    refine ⟨tm, ?_, fun t ht => ?_⟩
    · show ((@Bool.rec (fun _ => Kl) _ _ (anyB (kept m) ds) : Kl)).run _ = _
      rw [ha]; rfl
    · by_cases hkt : kept m t = true
      · rw [if_pos hkt]
        have : pos ds t = none := by
          rw [pos_none]; intro hm
          rw [anyB_eq] at ha
          have := List.any_eq_true.2 ⟨t, hm, hkt⟩
          rw [ha] at this; cases this
        rw [this]
      · rw [if_neg hkt]
theorem clearT_get {t : Nat} (ht : t < 256) : ∀ (ds : List Nat) (tm : TT AV 2), (acc AV 2 t).get (clearT ds tm) = if t ∈ ds then none else (acc AV 2 t).get tm
  | [], tm => by simp; rfl
  | u :: ds, tm => by
    have ih := clearT_get ht ds tm
    show (acc AV 2 t).get (bt (Nat.blt u 256) ((acc AV 2 u).set (clearT ds tm) none) (clearT ds tm)) = _
    cases hb : Nat.blt u 256 with
    | false =>
      rw [bt_false, ih]
      have hne : ¬ t = u := fun e => by subst e; have : Nat.blt t 256 = true := by rw [Nat.blt_eq]; exact ht
                                        rw [this] at hb; cases hb
      simp [hne]
    | true =>
      rw [Nat.blt_eq] at hb
      rw [bt_true, acc_get_set 2 u t _ _ (by omega) (by omega)]
      by_cases e : u = t
      · subst e; simp
      · rw [if_neg e, ih]
        have hne : ¬ t = u := fun h => e h.symm
        simp [hne]
/-- a region's end: what is looked at later is kept -/
theorem reg_end {H : Hp} {DS : List Nat} {m : Machine} {x : Out} (h : RegOut P w0 C ρ H DS ops k m x) : OutOk P w0 C ρ H k m (onReg DS x (flushK C.ms DS).run) := by
  cases x with
  | bad_ c => trivial
  | ok s' =>
    obtain ⟨ρ1, a', cs', w', h1, h2, h3⟩ := h
    obtain ⟨tm', e1, e2⟩ := flushK_eq C.ms DS s' h2.len
    show OutOk _ _ _ _ _ _ _ ((flushK C.ms DS).run s')
    rw [e1]
    refine ⟨ρ1, a', cs', w', h1, ⟨h2.wr, h2.fresh, ⟨h2.fr.sz, fun t q x hp hx => by simp at hx, fun t v _ ht hv => ?_⟩, fun t v ht hv => ?_, h2.df, h2.cs, rfl⟩, h3.trans (.one stepR_region_end)⟩
    · change (acc AV 2 t).get tm' = some v at hv
      rw [e2 t ht] at hv
      by_cases hkt : kept C.ms t = true
      · rw [if_pos hkt] at hv
        cases hp : pos DS t with
        | none => rw [hp] at hv; exact h2.fr.tm t v hp ht hv
        | some j => rw [hp] at hv; exact h2.fr.lo t j v hp hv
      · rw [if_neg hkt] at hv
        exact absurd (h2.tk t v ht hv) hkt
    · change (acc AV 2 t).get tm' = some v at hv
      rw [e2 t ht] at hv
      by_cases hkt : kept C.ms t = true
      · exact hkt
      · rw [if_neg hkt] at hv
        exact h2.tk t v ht hv
  | lv e s' =>
    obtain ⟨ρ1, a', cs', w', v, v', todo, rfl, h2, h3, h4, h5, h6, h7, h8, h9, h10⟩ := h
    obtain ⟨lo, tm, df, sh, pn⟩ := s'
    refine ⟨ρ1, a', cs', w', h2, ⟨h3, h4, ⟨h5.sz, fun t q x hp hx => by simp at hx, fun t x _ ht hx => ?_⟩, fun t x ht hx => ?_, h7, h8, rfl⟩, todo, v', h9, h10⟩
    · change (acc AV 2 t).get (clearT DS tm) = some x at hx
      rw [clearT_get ht] at hx
      by_cases hm : t ∈ DS
      · rw [if_pos hm] at hx; cases hx
      · rw [if_neg hm] at hx; exact h5.tm t x (pos_none.2 hm) ht hx
    · change (acc AV 2 t).get (clearT DS tm) = some x at hx
      rw [clearT_get ht] at hx
      by_cases hm : t ∈ DS
      · rw [if_pos hm] at hx; cases hx
      · rw [if_neg hm] at hx; exact h6 t x ht hx
/-- a region in its text's order -/
theorem region_ok {r : Rec} {cx : Cx} (hE : EnvOk P E) (D : ∀ o, plainOp o.op = true → Does P E o) (hr : RecOk P E r) (hc : CtxOk P C cx) (h : SR P w0 C ρ [] s a cs w) (id : Nat) :
    OutOk P w0 C ρ s.h k (lone (C.b.atR a (.code (.region id ops false) :: k)) cs w) ((cdRegion id ops false E cx).run r s) := by
  have h1 := opsA_ok (k := k) (ops := ops) hE D hr hc ops.toList [] 0 ρ s a cs w (by simp) h
  have h2 : RegOut P w0 C ρ s.h (dsOf ops.toList []) ops k (lone (C.b.atR a (.code (.region id ops false) :: k)) cs w) ((opsA E cx ops.toList ops.toList []).run r s) := by
    refine RegOut.from Ext.refl (.one stepR_region) ?_
    rw [Nat.sub_zero, ← List.range_eq_range'] at h1
    exact h1
  have h3 := reg_end h2
  rw [← hc.ms] at h3
  exact h3
end Go.Ev
