/-
  CONVERSIONS; bytes as a string.
-/
import Derived.Test.YtdijjakmjlegoaaGreatDoorEvAM
namespace Go.Ev
open Go.RowKit (Below)
variable {P : Program} {E : Env} {ρ ρ' : Rho} {w0 w w' : World} {Φ : Out → Prop}

theorem bt_inv2 {α : Type} {b : Bool} {x : Option α} {r : α} (h : bt b x none = some r) : b = true ∧ x = some r := by
  cases b with
  | false => cases h
  | true => exact ⟨rfl, h⟩
theorem isUe_ud {e : Nat} (h : isU8 E e = true) : ud E e = some (.int .u8) := by
  unfold isU8 at h
  split at h
  · assumption
  · cases h
theorem cells_of {H : Hp} (hw : WR P w0 ρ H w) {b : Nat} {x : Nat × Nat × Nat} (hx : ρ b = some x) {l : List AV} {t fl : Nat} (hg : H.get b = some (.cells l t fl)) {c : Array Value} {f : Nat × Nat} (h : w.heap[x.1]? = some (.cells c t f)) : FrzOk fl c.size f ∧ BR P ρ x (.cells l t fl) (.cells c t f) := by
  obtain ⟨o, ho, hr⟩ := hw.hr.live b _ x hg hx
  rw [h] at ho; cases ho
  refine ⟨?_, hr⟩
  cases hr; assumption
/-- a frozen range turned -/
theorem WR.frz {H : Hp} (hw : WR P w0 ρ H w) {b : Nat} {x : Nat × Nat × Nat} (hx : ρ b = some x) {l : List AV} {t fl : Nat} (hg : H.get b = some (.cells l t fl)) {c : Array Value} {f f' : Nat × Nat} (h : w.heap[x.1]? = some (.cells c t f)) {fl' : Nat}
    (hfl : fl' ≠ 0) (hf : FrzOk fl' c.size f') : WR P w0 ρ ⟨(acc AB 4 b).set H.bl (some (.cells l t fl')), H.nx⟩ { w with heap := w.heap.setIfInBounds x.1 (.cells c t f') } := by
  obtain ⟨_, hbr⟩ := cells_of hw hx hg h
  refine WR.up (o' := .cells c t f') (w' := { w with heap := w.heap.setIfInBounds x.1 (.cells c t f') }) hw hg hx ?_ rfl rfl rfl rfl H.nx
  cases hbr with
  | cells _ _ _ _ _ ht hs hl hc hx' hf' => exact .cells l t fl' c f' ht hs hl hc (fun e => absurd e hfl) hf
theorem freeze_eq {b o n : Nat} {c : Array Value} {t : TypeId} {f : Nat × Nat} (h : w.heap[b]? = some (.cells c t f)) (hn : n ≠ 0) :
    w.freeze { block := b, off := o } n = { w with heap := w.heap.setIfInBounds b (.cells c t (if f.1 == f.2 then (o, o + n) else (min f.1 o, max f.2 (o + n)))) } := by
  unfold World.freeze
  rw [if_neg hn]
  congr 1
  apply Array.ext_getElem?
  intro j
  have hlt : b < w.heap.size := (Array.getElem?_eq_some_iff.1 h).1
  rw [Array.getElem?_modify, Array.getElem?_setIfInBounds]
  by_cases e : b = j
  · subst e
    rw [if_pos rfl, if_pos rfl, if_pos hlt, h]; rfl
  · rw [if_neg e, if_neg e]
theorem shape_at {b : Nat} {c : Array Value} {t : TypeId} {f : Nat × Nat} (h : w.heap[b]? = some (.cells c t f)) : w.shape? b = some (t, c.size) := by
  unfold World.shape?; rw [h]
theorem frz_mark_ok {fl n : Nat} {f : Nat × Nat} (h : FrzOk fl n f) (h2 : fl ≠ 2) : FrzOk 1 n (if f.1 == f.2 then (n, n + 1) else (min f.1 n, max f.2 (n + 1))) := by
  by_cases e : f.1 = f.2
  · have hb : (f.1 == f.2) = true := by simpa using e
    rw [hb, if_pos rfl]
    exact ⟨Nat.le_succ n, fun h => absurd rfl h, fun _ o ho hh => by simp at hh; omega⟩
  · have hb : (f.1 == f.2) = false := by simpa using e
    rw [hb, if_neg (by simp)]
    have hle := h.1
    have hge : n ≤ f.1 := by
      rcases Nat.lt_or_ge f.1 n with k | k
      · exact absurd (⟨Nat.le_refl _, by omega⟩ : f.1 ≤ f.1 ∧ f.1 < f.2) (FrzOk.free h h2 k)
      · exact k
    refine ⟨?_, fun h => absurd rfl h, fun _ o ho hh => ?_⟩
    · show min f.1 n ≤ max f.2 (n + 1); omega
    · obtain ⟨h3, _⟩ := hh
      change min f.1 n ≤ o at h3
      omega
theorem rowAt_self {t n o c : Nat} (hc : P.cellsOf t = 1) (h : o + n ≤ c) : liesAt P P.depth t (c / P.cellsOf t) o t n = true := by
  have hd : ∃ d, P.depth = d + 1 := ⟨2 * (P.types.size + Made.depth) + 1, rfl⟩
  obtain ⟨d, hd⟩ := hd
  have hs : sameLayout P P.depth t t = true := by rw [hd]; simp [sameLayout]
  have hr : rowAt P (sameLayout P P.depth · t) P.depth t (c / P.cellsOf t) o n = true := by
    rw [hc, Nat.div_one]
    conv => lhs; rw [show P.depth = d + 1 from hd]
    unfold rowAt
    simp only [hc, Nat.div_one, Nat.mod_one]
    rw [show (d + 1) = P.depth from hd.symm, hs]
    simp [h]
  have gen : ∀ D, D = d + 1 → liesAt P D t (c / P.cellsOf t) o t n = (rowAt P (sameLayout P P.depth · t) P.depth t (c / P.cellsOf t) o n || (match P.underlying t with | some (.array m u') => liesAt P d t (c / P.cellsOf t) o u' (n * m) | _ => false)) := by
    intro D hD; subst hD; rfl
  rw [gen _ hd, hr]; rfl
theorem liesAt_whole {t : Nat} (hc : P.cellsOf t ≠ 0) : liesAt P P.depth t 1 0 t 1 = true := by
  have hd : ∃ d, P.depth = d + 1 := ⟨2 * (P.types.size + Made.depth) + 1, rfl⟩
  obtain ⟨d, hd⟩ := hd
  have hs : sameLayout P P.depth t t = true := by rw [hd]; simp [sameLayout]
  have hr : rowAt P (sameLayout P P.depth · t) P.depth t 1 0 1 = true := by
    conv => lhs; rw [show P.depth = d + 1 from hd]
    unfold rowAt
    simp only [Nat.zero_div, Nat.zero_mod]
    rw [show (d + 1) = P.depth from hd.symm, hs]
    simp [hc]
  have gen : ∀ D, D = d + 1 → liesAt P D t 1 0 t 1 = (rowAt P (sameLayout P P.depth · t) P.depth t 1 0 1 || (match P.underlying t with | some (.array m u') => liesAt P d t 1 0 u' (1 * m) | _ => false)) := by
    intro D hD; subst hD; rfl
  rw [gen _ hd, hr]; rfl
/-- a pointer to a whole variable -/
theorem ptrK_ok (hb : ∀ c, Φ (.bad_ c)) (hE : EnvOk P E) {t n : Nat} (hn : szOf E t = some n) {H : Hp} (hw : WR P w0 ρ H w) {x : AV} {u : Value} (hx : VR P ρ x u) {K : AV → Hp → Out}
    (h : ∀ b y c f, ρ b = some y → u = .pointer (some ⟨y.1, 0, none⟩) → w.heap[y.1]? = some (.cells c t f) → c.size = n ∧ 0 < n → Φ (K (.ptr b 0) H)) : Φ (ptrK t n x H K) := by
  refine AV.onPtr_ok hb fun b o e => ?_
  subst e
  cases hx with
  | ptr _ _ y hy =>
  cases o with
  | succ o => exact hb _
  | zero =>
    refine blk_ok hb fun ab hg => onCells_ok hb fun l u' fl e => ?_
    subst e
    cases fl with
    | succ fl => exact hb _
    | zero =>
      refine bt_ok (fun e1 => bt_ok (fun e2 => ?_) (fun _ => hb _)) (fun _ => hb _)
      have e1 := Nat.eq_of_beq_eq_true e1
      have e2 := Nat.eq_of_beq_eq_true e2
      subst e1
      rw [lenL_eq] at e2
      cases n with
      | zero => exact hb _
      | succ n =>
        obtain ⟨c, f, hh, _, _, _, _, hfull, _⟩ := hw.row hy hg
        exact h b y c f hy rfl hh ⟨by rw [← hfull rfl, e2], Nat.succ_pos n⟩

/-! ### the conversions -/
theorem does_conv (hE : EnvOk P E) {o : Oper} {a b : TypeId} {x : Operand} (ho : o.op = .convert a b x) : Does P E o := by
  intro Φ hb ρ w0 w nt ds s ac r hw hfr hf k
  rw [ho]
  refine otC_ok hb fun F hF => opd_ok hb hf fun v hv => ?_
  have hX : ∀ (w' : World) (q : Value), (convert a b (ac.eval x)).run P w = .ok q w' → (execOp ac.eval o).run P w = .ok (.value q) w' := by
    intro w' q h
    simp only [execOp, ho, Sem.run_bind, h, Result.andThen_ok, Sem.run_pure]
  generalize hx : ac.eval x = u at hv hX
  unfold convF at hF
  split at hF
  · next k1 k2 e1 e2 =>
    simp only [Option.some.injEq] at hF; subst hF
    refine AV.onInt_ok hb fun kk n e => ?_
    subst e
    cases hv with
    | int _ _ =>
    rw [wrapK_eq]
    refine k ρ w _ (.int k2 (k2.wrap n)) s.h Ext.refl hw hfr (.int _ _) (.inl (hX w _ ?_))
    simp only [convert, Sem.run_bind, hE.run_underlying w e1, hE.run_underlying w e2, Result.andThen_ok]
    rfl
  · next e1 e2 =>
    simp only [Option.some.injEq] at hF; subst hF
    refine AV.onStr_ok hb fun p e => ?_
    subst e
    obtain ⟨q, rfl, rfl⟩ := hv.str_inv
    refine k ρ w _ (.string q) s.h Ext.refl hw hfr (.str _) (.inl (hX w _ ?_))
    simp only [convert, Sem.run_bind, hE.run_underlying w e1, hE.run_underlying w e2, Result.andThen_ok, Sem.run_pure]
  · next e e1 e2 =>
    obtain ⟨h1, hF⟩ := bt_inv2 hF
    obtain ⟨n, hn, hF⟩ := ot_inv hF
    obtain ⟨h2, hF⟩ := bt_inv2 hF
    simp only [Option.some.injEq] at hF; subst hF
    have h2 := Nat.eq_of_beq_eq_true h2
    subst h2
    have hue := isUe_ud h1
    show Φ (toBytes e v s.h (fun r h => finH o.dst r h s))
    refine toBytes_ok hb hw hfr (hE.cellsOf hn) hv fun ρ' h' w' v q sb hu hle hw' hf' hv' hrun => ?_
    subst hu
    refine k ρ' w' v q h' hle hw' hf' hv' (.inl (hX w' q ?_))
    simp only [convert, Sem.run_bind, hE.run_underlying w e1, hE.run_underlying w e2, hE.run_underlying w hue, Result.andThen_ok]
    exact hrun
  · next e e1 e2 =>
    obtain ⟨h1, hF⟩ := bt_inv2 hF
    simp only [Option.some.injEq] at hF; subst hF
    have hue := isUe_ud h1
    show Φ (toStr v s.h (fun r h => finH o.dst r h s))
    refine toStr_ok hb hw hv fun v q hv' hsl hrun => ?_
    obtain ⟨ad, l, c, rfl⟩ := hsl
    refine k ρ w v q s.h Ext.refl hw hfr hv' (.inl (hX w q ?_))
    simp only [convert, Sem.run_bind, hE.run_underlying w e1, hE.run_underlying w e2, hE.run_underlying w hue, Result.andThen_ok]
    exact hrun
  · next e0 e e1 e2 =>
    obtain ⟨h0, hF⟩ := bt_inv2 hF
    obtain ⟨h1, hF⟩ := bt_inv2 hF
    simp only [Option.some.injEq] at hF; subst hF
    have h0 := Nat.eq_of_beq_eq_true h0
    subst h0
    have hee : e0 = e := by rw [e1] at e2; cases e2; rfl
    subst hee
    have hue := isUe_ud h1
    show Φ (markB v s.h (fun r h => finH o.dst r h s))
    unfold markB
    split
    · next bb oo n lo ex =>
      have hv0 := hv
      cases hv with
      | sl _ _ _ _ _ cap y hy _ _ _ _ =>
      refine blk_ok hb fun ab hg => onCells_ok hb fun l t fl eab => ?_
      subst eab
      refine bt_ok (fun _ => hb _) fun hfl => ?_
      have hfl2 : fl ≠ 2 := fun e => by subst e; cases hfl
      obtain ⟨c, f, hh, _⟩ := hw.row hy hg
      have hfz := (cells_of hw hy hg hh).1
      have hwr := hw.frz hy hg hh (fl' := 1) (by decide) (frz_mark_ok hfz hfl2)
      refine upB_ok fun H' hH' => ?_
      subst hH'
      refine k ρ _ _ _ _ (Ext.same rfl) hwr (hfr.nx rfl) hv0 (.inl (hX _ _ ?_))
      simp only [convert, Sem.run_bind, hE.run_underlying w e1, hE.run_underlying w hue, Result.andThen_ok, beq_self_eq_true, markStringish, run_shape, shape_at hh, run_freeze, Sem.run_pure]
      rw [freeze_eq hh (by decide)]
    · exact hb _
  · next t e1 e2 =>
    obtain ⟨n, hn, hF⟩ := ot_inv hF
    simp only [Option.some.injEq] at hF; subst hF
    show Φ (ptrK t n v s.h (fun r h => finH o.dst r h s))
    refine ptrK_ok hb hE hn hw hv (fun bb y c f hy hu hh hs => ?_)
    subst hu
    refine k ρ w _ _ s.h Ext.refl hw hfr (.ptr bb 0 y hy) (.inl (hX w _ ?_))
    have hsz : c.size ≠ 0 := by omega
    simp [convert, hE.run_underlying w e1, hE.run_underlying w e2, Conv.unsafePointer, Conv.seenAt, viewAt, cellsIn, shape_at hh, hE.run_sizeOf w hn, hsz]
    omega
  · next t e1 e2 =>
    obtain ⟨n, hn, hF⟩ := ot_inv hF
    simp only [Option.some.injEq] at hF; subst hF
    show Φ (ptrK t n v s.h (fun r h => finH o.dst r h s))
    refine ptrK_ok hb hE hn hw hv (fun bb y c f hy hu hh hs => ?_)
    subst hu
    refine k ρ w _ _ s.h Ext.refl hw hfr (.ptr bb 0 y hy) (.inl (hX w _ ?_))
    have hco := hE.cellsOf hn
    have hl := liesAt_whole (P := P) (t := t) (by omega)
    have hdiv : c.size / n = 1 := by rw [hs.1]; exact Nat.div_self hs.2
    simp [convert, hE.run_underlying w e1, hE.run_underlying w e2, Conv.unsafePointer, Conv.seenAt, viewAt, shape_at hh, hE.run_sizeOf w hn, variablesAt, hco, hdiv, hl]
  · cases hF
end Go.Ev
