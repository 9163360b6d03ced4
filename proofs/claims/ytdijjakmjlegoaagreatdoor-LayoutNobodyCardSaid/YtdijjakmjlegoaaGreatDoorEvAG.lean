/-
  REGIONS THAT DRAW THEIR ORDER, 3: whatever order is drawn.
-/
import Derived.Test.YtdijjakmjlegoaaGreatDoorEvAF
namespace Go.Ev
open Go.RowKit (Below)
variable {R : Rg} {D done dn : List Nat} {s : St} {ρ : Rho} {am : Act} {cs : List Frame} {w : World} {Φ : Out → Prop} {K : List Item}

theorem filterMap_get {f : Nat → Option Nat} : ∀ {dn : List Nat}, (∀ k ∈ dn, ∃ t, f k = some t) → (dn.filterMap f).length = dn.length ∧ ∀ (j t : Nat), (dn.filterMap f)[j]? = some t → ∃ k : Nat, dn[j]? = some k ∧ f k = some t
  | [], _ => by simp
  | k :: dn, h => by
    obtain ⟨t, ht⟩ := h k (by simp)
    obtain ⟨h1, h2⟩ := filterMap_get (f := f) (dn := dn) fun k hk => h k (by simp [hk])
    rw [List.filterMap_cons_some ht]
    refine ⟨by simp [h1], fun j u hj => ?_⟩
    cases j with
    | zero => simp at hj; subst hj; exact ⟨k, by simp, ht⟩
    | succ j => simpa using h2 j u (by simpa using hj)
theorem mem_dsAt (L : List Oper) (t : Nat) : ∀ (l : List Nat) (ds : List Nat), t ∈ ds → t ∈ dsAt L l ds
  | [], ds, h => h
  | i :: l, ds, h => by
    refine mem_dsAt L t l _ ?_
    cases nth L i with
    | none => exact h
    | some o => cases hd : o.dst <;> simp [psh_eq, hd, h]
theorem dsAt_cons {i : Nat} {o : Oper} (ho : R.ops[i]? = some o) (l : List Nat) (dn : List Nat) : dsAt R.ops.toList (i :: l) (dn.filterMap (dstN R.ops.toList)) = dsAt R.ops.toList l ((pshI o i dn).filterMap (dstN R.ops.toList)) := by
  show dsAt R.ops.toList l (ot (nth R.ops.toList i) _ fun o => psh o.dst _) = _
  have ho' : R.ops.toList[i]? = some o := by simpa using ho
  rw [nth_eq, ho', ot_some, pshI_eq, psh_eq]
  have hd := dstN_of ho
  cases hdst : o.dst with
  | none => rfl
  | some t => rw [hdst] at hd; rw [List.filterMap_cons_some hd]
/-- all is done -/
theorem DI.fini (H : RgOk R) (h : DI R D done dn s ρ am cs w) (hall : ∀ i, i < R.ops.size → i ∈ D) : SR R.P R.w0 R.C ρ (dn.filterMap (dstN R.ops.toList)) s am cs w := by
  obtain ⟨hl, hg⟩ := filterMap_get (f := dstN R.ops.toList) fun k hk => (h.dnok k hk).2
  refine ⟨h.wr, h.fresh, ⟨by rw [h.size]; exact H.fr0.sz, fun t j v hp hv => ?_, fun t v hp ht hv => ?_⟩, by rw [h.tm]; exact H.tk0, h.df, h.cs, by rw [hl]; exact h.len⟩
  · obtain ⟨h1, _⟩ := pos_get hp
    obtain ⟨k, h2, h3⟩ := hg j t h1
    exact h.val k v t ⟨j, h2, hv⟩ (hall k (h.lt k (h.dnok k (List.mem_of_getElem? h2)).1)) h3
  · rw [pos_none] at hp
    rw [h.tmps t fun k hk e => hp (List.mem_filterMap.2 ⟨k, h.dnall k (h.dsub k hk) t e, e⟩)]
    rw [h.tm] at hv
    exact (H.fr0.tm t v rfl ht hv).mono h.ext.le
/-- at the end of the evaluator's order: what is pending is done -/
theorem draw_end (H : RgOk R) (hcov : ∀ i, i < R.ops.size → i ∈ done) : ∀ (τ : List Nat) (D : List Nat) (ρ : Rho) (am : Act) (cs : List Frame) (w : World), Sched R.ops D τ → DI R D done dn s ρ am cs w →
    RegOut R.P R.w0 R.C R.ρ0 R.h0 (dn.filterMap (dstN R.ops.toList)) R.ops K (lone (R.C.b.atR am (.inRegion R.ops τ :: K)) cs w) (.ok s)
  | [], D, ρ, am, cs, w, hs, h => by
    cases hs with
    | nil _ hall => exact ⟨ρ, am, cs, w, h.ext, h.fini H hall, .refl _ _⟩
  | k :: τ, D, ρ, am, cs, w, hs, h => by
    cases hs with
    | cons _ _ _ o ho hi hp hs =>
      obtain ⟨ρ', am', w', hst, h'⟩ := h.run H (hcov k (Array.getElem?_eq_some_iff.1 ho).1) hi ho hp K τ
      exact RegOut.from Ext.refl (.one hst) (draw_end H hcov τ (k :: D) ρ' am' cs w' hs h')
theorem stand_later {l : List Nat} : ∀ {done : List Nat}, standF R.E R.ops.toList R.M l done = true → ∀ j ∈ l, ∀ k ∈ done, ∀ p, R.ops[k]? = some p → cls R.E p.op = 2 → bit (R.m j) k = true := by
  induction l with
  | nil => intro done _ j hj; simp at hj
  | cons i l ih =>
    intro done h j hj k hk p hp hc
    unfold standF at h
    cases ho : nth R.ops.toList i with
    | none => rw [ho] at h; cases h
    | some o =>
      rw [ho, ot_some] at h
      obtain ⟨h1, h2⟩ := bt_both h
      simp only [List.mem_cons] at hj
      rcases hj with rfl | hj
      · unfold mayStand at h1
        cases g1 : inB j done with
        | true => rw [g1] at h1; cases h1
        | false =>
          rw [g1, bt_false] at h1
          obtain ⟨g2, h1⟩ := bt_both h1
          obtain ⟨g3, h1⟩ := bt_both h1
          rw [allB_eq, List.all_eq_true] at g3
          have g := g3 k hk
          have hp' : R.ops.toList[k]? = some p := by simpa using hp
          rw [nth_eq, hp', ot_some, hc] at g
          exact g
      · exact ih h2 j hj k (by simp [hk]) p hp hc
theorem withLo_eq (s : St) (l : List AV) : withLo l s = ⟨l, s.tm, s.ds, s.h, s.pn⟩ := by cases s; rfl
theorem draw_sim (H : RgOk R) : ∀ (l done dn : List Nat) (s : St), standF R.E R.ops.toList R.M l done = true → (∀ i, i < R.ops.size → i ∈ done ∨ i ∈ l) →
    ∀ (τ D : List Nat) (ρ : Rho) (am : Act) (cs : List Frame) (w : World), Sched R.ops D τ → DI R D done dn s ρ am cs w →
      RegOut R.P R.w0 R.C R.ρ0 R.h0 (dsAt R.ops.toList l (dn.filterMap (dstN R.ops.toList))) R.ops K (lone (R.C.b.atR am (.inRegion R.ops τ :: K)) cs w) ((drawF R.E R.ops.toList R.M l done dn).run R.r s)
  | [], done, dn, s, _, hcov, τ, D, ρ, am, cs, w, hs, h => draw_end H (fun i hi => (hcov i hi).resolve_right (by simp)) τ D ρ am cs w hs h
  | i :: l, done, dn, s, hst, hcov, τ, D, ρ, am, cs, w, hs, h => by
    have hst0 := hst
    unfold standF at hst
    cases ho : nth R.ops.toList i with
    | none => rw [ho] at hst; cases hst
    | some o =>
      rw [ho, ot_some] at hst
      obtain ⟨hmay, hst'⟩ := bt_both hst
      have hms := mayStand_ms h.lt hmay
      have ho' : R.ops[i]? = some o := by rw [nth_eq] at ho; simpa using ho
      have hcov' : ∀ j, j < R.ops.size → j ∈ i :: done ∨ j ∈ l := by
        intro j hj
        rcases hcov j hj with h | h
        · exact .inl (by simp [h])
        · simp only [List.mem_cons] at h ⊢
          rcases h with h | h
          · exact .inl (.inl h)
          · exact .inr h
      rw [dsAt_cons ho']
      have hrun : (drawF R.E R.ops.toList R.M (i :: l) done dn).run R.r s =
        (bt (Nat.beq (cls R.E o.op) 2)
        (⟨fun r s => onOk ((oneOp R.E R.ops.toList (R.m i) dn o).run r s) fun s' => back o.dst s' s ((lookAll R.E R.ops.toList R.M (pshI o i dn) (again R.E R.ops.toList (R.m i) done) (drawF R.E R.ops.toList R.M l (i :: done) (pshI o i dn))).run r)⟩ : Cl)
        (bt (Nat.beq (cls R.E o.op) 1)
          (⟨fun r s => newOk s (onOkB ((oneOp R.E R.ops.toList (R.m i) dn o).run r s) fun s' => back1 s' s ((drawF R.E R.ops.toList R.M l (i :: done) (pshI o i dn)).run r))⟩ : Cl)
          (bt (Nat.beq (cls R.E o.op) 0)
            (⟨fun r s => onOkB ((oneOp R.E R.ops.toList (R.m i) dn o).run r s) fun s' => back0 s' s ((drawF R.E R.ops.toList R.M l (i :: done) (pshI o i dn)).run r)⟩ : Cl) (clB_ 0)))).run R.r s ∨ ∃ c, (drawF R.E R.ops.toList R.M (i :: l) done dn).run R.r s = .bad_ c := by
        have e : (drawF R.E R.ops.toList R.M (i :: l) done dn).run R.r s = (otC_ _ (nth R.ops.toList i) _).run R.r s := rfl
        rw [e, ho]
        rcases cls_cases R.E o.op with hc | hc | hc
        · left; show (bt (Nat.beq (cls R.E o.op) 2) _ _ : Cl).run R.r s = _
          rw [hc]; rfl
        · left; show (bt (Nat.beq (cls R.E o.op) 2) _ _ : Cl).run R.r s = _
          rw [hc]; rfl
        · left; show (bt (Nat.beq (cls R.E o.op) 2) _ _ : Cl).run R.r s = _
          rw [hc]; rfl
      rcases hrun.symm with ⟨c, hbad⟩ | hrun
      · rw [hbad]; trivial
      rcases cls_cases R.E o.op with hc | hc | hc
      · -- it reads at most
        rw [hrun, hc]
        obtain ⟨t, hdst⟩ := hms.dst.resolve_left (by rw [hc]; simp)
        have hp : pshI o i dn = i :: dn := by rw [pshI_eq, hdst]
        rw [hp]
        show RegOut _ _ _ _ _ _ _ _ _ (onOkB _ _)
        refine onOkB_ok (Φ := fun x => RegOut R.P R.w0 R.C R.ρ0 R.h0 _ R.ops K _ x) (fun _ => trivial) fun s1 hs1 => ?_
        obtain ⟨lo, tm, df, sh, pn⟩ := s
        refine pick_ok (Φ := fun x => RegOut R.P R.w0 R.C R.ρ0 R.h0 _ R.ops K _ x) (fun _ => trivial) fun v hv => ?_
        refine draw_sim H l (i :: done) (i :: dn) ⟨v :: lo, tm, df, sh, pn⟩ hst' hcov' τ D ρ am cs w hs ?_
        refine h.add H ho' hms hdst h.wr h.fresh (Nat.le_refl _) (Grow.refl _) ⟨sh, df, pn, s1, v, Grow.refl _, ?_, hv, .inl ⟨hc, rfl⟩⟩ (fun b x c hs' h1 => by rw [hc] at h1; cases h1)
        have hno : bit (R.m i) i = false := by
          cases hb : bit (R.m i) i with
          | false => rfl
          | true =>
            obtain ⟨e, h1, h2⟩ := H.msk i o ho' i (Array.getElem?_eq_some_iff.1 ho').1 hb
            rcases h2 with rfl | h2
            · exact absurd (hms.pre _ h1).2 hms.fresh
            · exact absurd (h.closed e (hms.pre _ h1).2 i (Array.getElem?_eq_some_iff.1 ho').1 h2) hms.fresh
        have htm : tm = R.tm0 := h.tm
        rw [dsel_cons, selC_cons, hno, ← htm]
        exact hs1
      · -- it makes a block
        rw [hrun, hc]
        obtain ⟨t, hdst⟩ := hms.dst.resolve_left (by rw [hc]; simp)
        have hp : pshI o i dn = i :: dn := by rw [pshI_eq, hdst]
        rw [hp]
        show RegOut _ _ _ _ _ _ _ _ _ (newOk s (onOkB _ _))
        have hno : bit (R.m i) i = false := by
          cases hb : bit (R.m i) i with
          | false => rfl
          | true =>
            obtain ⟨e, h1, h2⟩ := H.msk i o ho' i (Array.getElem?_eq_some_iff.1 ho').1 hb
            rcases h2 with rfl | h2
            · exact absurd (hms.pre _ h1).2 hms.fresh
            · exact absurd (h.closed e (hms.pre _ h1).2 i (Array.getElem?_eq_some_iff.1 ho').1 h2) hms.fresh
        unfold newOk
        cases hnew : s.h.get s.h.nx with
        | some y => trivial
        | none =>
          rw [ot_none]
          refine onOkB_ok (Φ := fun x => RegOut R.P R.w0 R.C R.ρ0 R.h0 _ R.ops K _ x) (fun _ => trivial) fun s1 hs1 => ?_
          obtain ⟨lo, tm, df, ⟨bl, nx⟩, pn⟩ := s
          have htm : tm = R.tm0 := h.tm
          refine pick_ok (Φ := fun x => RegOut R.P R.w0 R.C R.ρ0 R.h0 _ R.ops K _ x) (fun _ => trivial) fun v hv => ?_
          refine bt_ok (Φ := fun x => RegOut R.P R.w0 R.C R.ρ0 R.h0 _ R.ops K _ x) (fun ht0 => ?_) (fun ht0 => ?_)
          · have hv0 : v = .tup [] := by
              unfold isTup0 at ht0
              split at ht0
              · rfl
              · cases ht0
            refine draw_sim H l (i :: done) (i :: dn) ⟨v :: lo, tm, df, ⟨bl, nx⟩, pn⟩ hst' hcov' τ D ρ am cs w hs ?_
            refine h.add H ho' hms hdst h.wr h.fresh (Nat.le_refl _) (Grow.refl _) ⟨⟨bl, nx⟩, df, pn, s1, v, Grow.refl _, ?_, hv, .inr ⟨hc, .inl ⟨hv0, hv0⟩⟩⟩ (fun b x c hs' _ => absurd hv0 hs'.tup.1)
            rw [dsel_cons, selC_cons, hno, ← htm]
            exact hs1
          · refine bt_ok (Φ := fun x => RegOut R.P R.w0 R.C R.ρ0 R.h0 _ R.ops K _ x) (fun hnew1 => ?_) (fun _ => trivial)
            refine bt_ok (Φ := fun x => RegOut R.P R.w0 R.C R.ρ0 R.h0 _ R.ops K _ x) (fun hlt => ?_) (fun _ => trivial)
            rw [Nat.blt_eq] at hlt
            refine ot_ok (Φ := fun x => RegOut R.P R.w0 R.C R.ρ0 R.h0 _ R.ops K _ x) (fun _ => trivial) fun y hy => ?_
            rw [forceNat_eq]
            have hsh := newIs_shape hnew1
            have hgrow : Grow ⟨bl, nx⟩ ⟨(acc AB 4 nx).set bl (some y), nx + 1⟩ := Grow.new (Grow.refl ⟨bl, nx⟩) hlt hnew y (nx + 1)
            refine draw_sim H l (i :: done) (i :: dn) ⟨v :: lo, tm, df, ⟨(acc AB 4 nx).set bl (some y), nx + 1⟩, pn⟩ hst' hcov' τ D ρ am cs w hs ?_
            refine h.add H ho' hms hdst (h.wr.hide h.fresh hlt y (nx + 1)) (fun b hb => h.fresh b (by change nx + 1 ≤ b at hb; show nx ≤ b; omega)) (Nat.le_succ _) hgrow
              ⟨⟨bl, nx⟩, df, pn, s1, v, hgrow, ?_, hv, .inr ⟨hc, .inr ⟨nx, nx, y, hsh, ?_, hy, h.fresh nx (Nat.le_refl _), h.ext.nx, Nat.lt_succ_self _, hlt⟩⟩⟩ (fun b x c hs' _ => ?_)
            · rw [dsel_cons, selC_cons, hno, ← htm]
              exact hs1
            · show Hp.get ⟨(acc AB 4 nx).set bl (some y), nx + 1⟩ nx = some y
              rw [hp_get_set bl nx nx nx (some y) hlt hlt (nx + 1), if_pos rfl]
            · rw [hs'.left hsh]; exact Nat.le_refl _
      · -- an effect
        have inner : ∀ (τ D : List Nat) (ρ : Rho) (am : Act) (cs : List Frame) (w : World), Sched R.ops D τ → DI R D done dn s ρ am cs w →
            RegOut R.P R.w0 R.C R.ρ0 R.h0 (dsAt R.ops.toList l ((pshI o i dn).filterMap (dstN R.ops.toList))) R.ops K (lone (R.C.b.atR am (.inRegion R.ops τ :: K)) cs w) ((drawF R.E R.ops.toList R.M (i :: l) done dn).run R.r s) := by
          intro τ
          induction τ with
          | nil =>
            intro D ρ am cs w hs h
            cases hs with
            | nil _ hall => exact absurd (h.dsub i (hall i (Array.getElem?_eq_some_iff.1 ho').1)) hms.fresh
          | cons k τ ih =>
            intro D ρ am cs w hs h
            cases hs with
            | cons _ _ _ ok hok hk hp hs =>
            by_cases hki : k = i
            · subst hki
              rw [ho'] at hok; cases hok
              have hready := h.ready H ho' hk hp
              have hat : OpAt R.P R.w0 R.C ρ (dsel R.ops.toList (R.m k) dn) R.ops k o ⟨(selC (R.m k) dn).run s.lo, R.tm0, s.ds, s.h, s.pn⟩ (seen R am (dsel R.ops.toList (R.m k) dn)) am cs w :=
                ⟨ho', ⟨h.wr, h.fresh, hready.fr s.h s.ds s.pn, H.tk0, h.df, h.cs, sel_len h.len fun k hk => (h.dnok k hk).2⟩, rfl, hready.ev, hready.wa, H.hc.kd, fun hrd => opOk_rd (H.opok k o ho') (by rw [H.hc.rd]; exact hrd)⟩
              have hg := op_ok (k := K) (rest := τ) H.hE H.D H.hr hat
              rw [hrun, hc]
              show RegOut _ _ _ _ _ _ _ _ _ (onOk ((oneOp R.E R.ops.toList (R.m k) dn o).run R.r s) _)
              have hone : (oneOp R.E R.ops.toList (R.m k) dn o).run R.r s = (gop R.E R.ops.toList (dsel R.ops.toList (R.m k) dn) o).run R.r ⟨(selC (R.m k) dn).run s.lo, R.tm0, s.ds, s.h, s.pn⟩ := by
                show (gop R.E R.ops.toList (dsel R.ops.toList (R.m k) dn) o).run R.r (withLo _ s) = _
                rw [withLo_eq, h.tm]
              rw [hone]
              generalize (gop R.E R.ops.toList (dsel R.ops.toList (R.m k) dn) o).run R.r ⟨(selC (R.m k) dn).run s.lo, R.tm0, s.ds, s.h, s.pn⟩ = x at hg
              cases x with
              | bad_ c => trivial
              | lv e s' =>
                obtain ⟨ρ', cs', w', v, v', g1, g2, g3, g4, g5, g6, g7, g8, g9⟩ := hg
                refine ⟨ρ', am, cs', w', v, v', _, g1, h.ext.trans g3, g4, g5, ⟨by rw [h.size]; exact H.fr0.sz, fun t j v hp hv => by simp at hv, fun t v hp ht hv => ?_⟩, by rw [g2]; exact H.tk0, g7, g8, g6, g9⟩
                rw [g2] at hv
                rw [pos_none] at hp
                have hb := h.tmps t fun kk hkk e => hp (by
                  refine mem_dsAt _ t l _ ?_
                  rw [pshI_eq]
                  have hmem : t ∈ dn.filterMap (dstN R.ops.toList) := List.mem_filterMap.2 ⟨kk, h.dnall kk (h.dsub kk hkk) t e, e⟩
                  cases o.dst with
                  | none => exact hmem
                  | some t' =>
                    obtain ⟨a, h1, h2⟩ := List.mem_filterMap.1 hmem
                    exact List.mem_filterMap.2 ⟨a, by simp [h1], h2⟩)
                rw [hb]
                exact (H.fr0.tm t v rfl ht hv).mono (h.ext.le.trans g3.le)
              | ok s' =>
                obtain ⟨ρ', dfs, cs', w', v, u, g1, g2, g3, g4, g5, g6, g7, g8, g9⟩ := hg
                show RegOut _ _ _ _ _ _ _ _ _ (back o.dst s' s _)
                have hback : ∀ Kf : St → Out, back o.dst s' s Kf = Kf ⟨pushO o.dst v s.lo, s.tm, s'.ds, s'.h, s'.pn⟩ := by
                  intro Kf
                  obtain ⟨lo', tm', ds', h', pn'⟩ := s'
                  obtain ⟨lo, tm, ds, sh, pn⟩ := s
                  cases hd : o.dst with
                  | none => rfl
                  | some t =>
                    change lo' = pushO o.dst v _ at g1
                    rw [hd] at g1
                    subst g1
                    rfl
                rw [hback]
                refine lookAll_ok (Φ := fun x => RegOut R.P R.w0 R.C R.ρ0 R.h0 _ R.ops K _ x) (fun _ => trivial) fun hla => ?_
                exact RegOut.from Ext.refl g9 (draw_sim H l (k :: done) (pshI o k dn) _ hst' hcov' τ (k :: D) ρ' _ cs' w' hs (h.eff H ho' hms hready rfl rfl g3 g4 g5 g6 g7 g8 hla))
            · have hklt := (Array.getElem?_eq_some_iff.1 hok).1
              rcases hcov' k hklt with hkd | hkl
              · simp only [List.mem_cons, hki, false_or] at hkd
                obtain ⟨ρ', am', w', hst1, h'⟩ := h.run H hkd hk hok hp K τ
                exact RegOut.from Ext.refl (.one hst1) (ih (k :: D) ρ' am' cs w' hs h')
              · exfalso
                have hb := stand_later hst' k hkl i (by simp) o ho' hc
                obtain ⟨e, h1, h2⟩ := H.msk k ok hok i (Array.getElem?_eq_some_iff.1 ho').1 hb
                rcases h2 with rfl | h2
                · exact hms.fresh (h.dsub _ (hp _ h1))
                · exact hms.fresh (h.dsub i (h.dclosed e (hp e h1) i (Array.getElem?_eq_some_iff.1 ho').1 h2))
        exact inner τ D ρ am cs w hs h
end Go.Ev
