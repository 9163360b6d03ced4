/-
  REGIONS THAT DRAW THEIR ORDER, 1: what holds in the midst of one; an operation done later than the evaluator did it.
-/
import Derived.Test.YtdijjakmjlegoaaGreatDoorEvAD
namespace Go.Ev
open Go.RowKit (Below)

structure Rg where
  P : Program
  E : Env
  w0 : World
  C : Ctx
  cx : Cx
  ops : Array Oper
  M : List Nat
  r : Rec
  ρ0 : Rho
  h0 : Hp
  tm0 : TT AV 2
  a0 : Act
noncomputable def Rg.m (R : Rg) (i : Nat) : Nat := nthD R.M i
structure RgOk (R : Rg) : Prop where
  hE : EnvOk R.P R.E
  D : ∀ o, plainOp o.op = true → Does R.P R.E o
  hr : RecOk R.P R.E R.r
  hc : CtxOk R.P R.C R.cx
  fr0 : Fr R.P R.ρ0 R.C.nt [] [] R.tm0 R.a0.tmps
  tk0 : ∀ t v, t < 256 → (acc AV 2 t).get R.tm0 = some v → kept R.C.ms t = true
  opok : ∀ (i : Nat) o, R.ops[i]? = some o → opOk R.cx o = true
  msk : ∀ (j : Nat) o, R.ops[j]? = some o → ∀ i, i < R.ops.size → bit (R.m j) i = true → ∃ e ∈ preds o, e = i ∨ bit (R.m e) i = true
  lks : ∀ (i : Nat) o, R.ops[i]? = some o → ∀ t ∈ looks R.ops.toList o, ∀ (k : Nat) p, R.ops[k]? = some p → p.dst = some t → k = i ∨ bit (R.m i) k = true ∨ bit (R.m k) i = true
def Val (dn : List Nat) (lo : List AV) (k : Nat) (v : AV) : Prop := ∃ q : Nat, dn[q]? = some k ∧ lo[q]? = some v
theorem Val.cons {dn : List Nat} {lo : List AV} {k : Nat} {v : AV} (i : Nat) (x : AV) (h : Val dn lo k v) : Val (i :: dn) (x :: lo) k v := by
  obtain ⟨q, h1, h2⟩ := h; exact ⟨q + 1, by simpa using h1, by simpa using h2⟩
theorem Val.head (dn : List Nat) (lo : List AV) (i : Nat) (x : AV) : Val (i :: dn) (x :: lo) i x := ⟨0, by simp, by simp⟩
theorem Val.mem {dn : List Nat} {lo : List AV} {k : Nat} {v : AV} (h : Val dn lo k v) : k ∈ dn := by
  obtain ⟨q, h1, _⟩ := h; exact List.mem_of_getElem? h1
theorem Val.uncons {dn : List Nat} {lo : List AV} {k i : Nat} {v x : AV} (h : Val (i :: dn) (x :: lo) k v) : (k = i ∧ v = x) ∨ Val dn lo k v := by
  obtain ⟨q, h1, h2⟩ := h
  cases q with
  | zero => simp at h1 h2; exact .inl ⟨h1.symm, h2.symm⟩
  | succ q => exact .inr ⟨q, by simpa using h1, by simpa using h2⟩
theorem Val.uniq {dn : List Nat} {lo : List AV} (hn : dn.Nodup) {k : Nat} {v x : AV} (h : Val dn lo k v) (h' : Val dn lo k x) : v = x := by
  obtain ⟨q, h1, h2⟩ := h
  obtain ⟨q', h3, h4⟩ := h'
  have hq : q < dn.length := (List.getElem?_eq_some_iff.1 h1).1
  have hq' : q' < dn.length := (List.getElem?_eq_some_iff.1 h3).1
  have : q = q' := by
    rw [List.getElem?_eq_getElem hq] at h1
    rw [List.getElem?_eq_getElem hq'] at h3
    simp at h1 h3
    rcases Nat.lt_trichotomy q q' with hlt | hlt | hlt
    · exact absurd (h1.trans h3.symm) (List.pairwise_iff_getElem.1 hn q q' hq hq' hlt)
    · exact hlt
    · exact absurd (h3.trans h1.symm) (List.pairwise_iff_getElem.1 hn q' q hq' hq hlt)
  subst this
  rw [h2] at h4; cases h4; rfl
theorem Val.exists {dn : List Nat} {lo : List AV} (hl : lo.length = dn.length) {k : Nat} (h : k ∈ dn) : ∃ v, Val dn lo k v := by
  obtain ⟨q, hq, hk⟩ := List.mem_iff_getElem.1 h
  exact ⟨lo[q], q, by rw [List.getElem?_eq_getElem hq, hk], List.getElem?_eq_getElem (by omega)⟩
/-- what is known of an operation that the evaluator has done and the world has not -/
def PF (R : Rg) (dn : List Nat) (s : St) (ρ : Rho) (k : Nat) (o : Oper) (v : AV) : Prop :=
  ∃ X dd pp s1 v', Grow X s.h ∧ (gop R.E R.ops.toList (dsel R.ops.toList (R.m k) dn) o).run R.r ⟨(selC (R.m k) dn).run s.lo, R.tm0, dd, X, pp⟩ = .ok s1 ∧ s1.lo[0]? = some v' ∧
    ((cls R.E o.op = 0 ∧ v' = v) ∨ (cls R.E o.op = 1 ∧ ((v = .tup [] ∧ v' = .tup []) ∨
      ∃ b c y, Shape v b v' c ∧ s.h.get b = some y ∧ s1.h.get c = some y ∧ ρ b = none ∧ R.h0.nx ≤ b ∧ b < s.h.nx ∧ b < 65536)))
/-- in the midst: done: what the evaluator has done (dn: those with a tmp), D: what the world has -/
structure DI (R : Rg) (D done dn : List Nat) (s : St) (ρ : Rho) (am : Act) (cs : List Frame) (w : World) : Prop where
  len : s.lo.length = dn.length
  nd : dn.Nodup
  dnok : ∀ k ∈ dn, k ∈ done ∧ ∃ t, dstN R.ops.toList k = some t
  dnall : ∀ k ∈ done, ∀ t, dstN R.ops.toList k = some t → k ∈ dn
  tm : s.tm = R.tm0
  lt : ∀ k ∈ done, k < R.ops.size
  dist : ∀ p ∈ done, ∀ q ∈ done, ∀ t, dstN R.ops.toList p = some t → dstN R.ops.toList q = some t → p = q
  closed : ∀ k ∈ done, ∀ e, e < R.ops.size → bit (R.m k) e = true → e ∈ done
  dsub : ∀ k ∈ D, k ∈ done
  dclosed : ∀ k ∈ D, ∀ e, e < R.ops.size → bit (R.m k) e = true → e ∈ D
  wr : WR R.P R.w0 ρ s.h w
  fresh : Fresh ρ s.h
  ext : Ext R.h0 R.ρ0 s.h ρ
  val : ∀ k v t, Val dn s.lo k v → k ∈ D → dstN R.ops.toList k = some t → VR R.P ρ v (am.tmps.getD t undef)
  tmps : ∀ t, (∀ k ∈ D, dstN R.ops.toList k ≠ some t) → am.tmps.getD t undef = R.a0.tmps.getD t undef
  size : am.tmps.size = R.a0.tmps.size
  df : DRs R.P ρ s.ds am.defers
  cs : Cs R.P R.C.b.kind R.C.pn0 R.C.cs0 ρ s.pn cs
  pend : ∀ k ∈ done, k ∉ D → ∃ o v t, R.ops[k]? = some o ∧ o.dst = some t ∧ Val dn s.lo k v ∧ PF R dn s ρ k o v
  apart : ∀ k1 ∈ done, ∀ k2 ∈ done, k1 ∉ D → k2 ∉ D → k1 ≠ k2 → ∀ v1 v2 b1 b2 x1 x2 c1 c2, Val dn s.lo k1 v1 → Val dn s.lo k2 v2 → (∃ o, R.ops[k1]? = some o ∧ cls R.E o.op = 1) → (∃ o, R.ops[k2]? = some o ∧ cls R.E o.op = 1) →
    Shape v1 b1 x1 c1 → Shape v2 b2 x2 c2 → b1 ≠ b2
variable {R : Rg} {D done dn : List Nat} {s : St} {ρ : Rho} {am : Act} {cs : List Frame} {w : World}

theorem Shape.left {u v x : AV} {b c d e : Nat} (h : Shape u b v c) (k : Shape u d x e) : b = d := by
  rcases h with ⟨o, rfl, rfl⟩ | ⟨o, n, lo, ex, rfl, rfl⟩ | ⟨rfl, rfl⟩ <;> rcases k with ⟨o', h1, h2⟩ | ⟨o', n', lo', ex', h1, h2⟩ | ⟨h1, h2⟩ <;> simp at h1 <;> first | exact h1.1 | exact h1
theorem Shape.symm {u v : AV} {b c : Nat} (h : Shape u b v c) : Shape v c u b := by
  rcases h with ⟨o, rfl, rfl⟩ | ⟨o, n, lo, ex, rfl, rfl⟩ | ⟨rfl, rfl⟩
  · exact .inl ⟨o, rfl, rfl⟩
  · exact .inr (.inl ⟨o, n, lo, ex, rfl, rfl⟩)
  · exact .inr (.inr ⟨rfl, rfl⟩)
/-- the act as an operation of a drawn region sees it: its own predecessors' tmps, else what was ahead of the region -/
def seen (R : Rg) (am : Act) (ds : List Nat) : Act := { tmps := (Array.range am.tmps.size).map fun t => if t ∈ ds then am.tmps.getD t undef else R.a0.tmps.getD t undef, defers := am.defers }
theorem seen_getD (hs : am.tmps.size = R.a0.tmps.size) (ds : List Nat) (t : Nat) : (seen R am ds).tmps.getD t undef = if t ∈ ds then am.tmps.getD t undef else R.a0.tmps.getD t undef := by
  unfold seen
  by_cases ht : t < am.tmps.size
  · simp [Array.getD_eq_getD_getElem?, Array.getElem?_map, ht]
  · have h1 : am.tmps[t]? = none := Array.getElem?_eq_none (by omega)
    have h2 : R.a0.tmps[t]? = none := Array.getElem?_eq_none (by omega)
    simp only [Array.getD_eq_getD_getElem?, h1, h2]
    rw [Array.getElem?_eq_none (by simp; omega)]
    simp
theorem seen_size (ds : List Nat) : (seen R am ds).tmps.size = am.tmps.size := by simp [seen]
theorem getD_get {x y : Array Value} (hs : x.size = y.size) {t : Nat} (h : x.getD t undef = y.getD t undef) : x[t]? = y[t]? := by
  by_cases ht : t < x.size
  · rw [Array.getElem?_eq_getElem ht, Array.getElem?_eq_getElem (by omega)]
    rw [Array.getD_eq_getD_getElem?, Array.getD_eq_getD_getElem?, Array.getElem?_eq_getElem ht, Array.getElem?_eq_getElem (by omega)] at h
    simpa using h
  · rw [Array.getElem?_eq_none (by omega), Array.getElem?_eq_none (by omega)]
/-- an operation whose predecessors are done in the world -/
structure Ready (R : Rg) (D done dn : List Nat) (s : St) (ρ : Rho) (am : Act) (k : Nat) (o : Oper) : Prop where
  ho : R.ops[k]? = some o
  mask : ∀ e, e < R.ops.size → bit (R.m k) e = true → e ∈ D
  fr : ∀ X dd pp, Fr R.P ρ R.C.nt (dsel R.ops.toList (R.m k) dn) (⟨(selC (R.m k) dn).run s.lo, R.tm0, dd, X, pp⟩ : St).lo (⟨(selC (R.m k) dn).run s.lo, R.tm0, dd, X, pp⟩ : St).tm (seen R am (dsel R.ops.toList (R.m k) dn)).tmps
  ev : ∀ x ∈ o.op.operands, am.eval x = (seen R am (dsel R.ops.toList (R.m k) dn)).eval x
  wa : Region.wanted o (yielded R.ops am.tmps) = Region.wanted o (yielded R.ops (seen R am (dsel R.ops.toList (R.m k) dn)).tmps)
theorem DI.ready (H : RgOk R) (h : DI R D done dn s ρ am cs w) {k : Nat} {o : Oper} (ho : R.ops[k]? = some o) (hkD : k ∉ D) (hp : ∀ e ∈ preds o, e ∈ D) : Ready R D done dn s ρ am k o := by
  have hm : ∀ e, e < R.ops.size → bit (R.m k) e = true → e ∈ D := by
    intro e he hb
    obtain ⟨e', h1, h2⟩ := H.msk k o ho e he hb
    rcases h2 with rfl | h2
    · exact hp _ h1
    · exact h.dclosed e' (hp _ h1) e he h2
  have hsz := seen_size (R := R) (am := am) (dsel R.ops.toList (R.m k) dn)
  have hlook : ∀ t ∈ looks R.ops.toList o, am.tmps.getD t undef = (seen R am (dsel R.ops.toList (R.m k) dn)).tmps.getD t undef := by
    intro t ht
    rw [seen_getD h.size]
    by_cases hd : t ∈ dsel R.ops.toList (R.m k) dn
    · rw [if_pos hd]
    · rw [if_neg hd]
      refine h.tmps t fun kk hkk e => ?_
      obtain ⟨p, hp1, hp2⟩ := dstN_some e
      rcases H.lks k o ho t ht kk p hp1 hp2 with rfl | h1 | h1
      · exact hkD hkk
      · exact hd (mem_dsel.2 ⟨kk, h.dnall kk (h.dsub kk hkk) t e, h1, e⟩)
      · exact hkD (h.dclosed kk hkk k (Array.getElem?_eq_some_iff.1 ho).1 h1)
  refine ⟨ho, hm, fun X dd pp => ⟨?_, ?_, ?_⟩, ?_, ?_⟩
  · rw [hsz, h.size]; exact H.fr0.sz
  · intro t j v hpos hv
    obtain ⟨q, kk, h1, h2, h3, h4⟩ := sel_get h.len (fun k hk => (h.dnok k hk).2) hpos hv
    rw [seen_getD h.size, if_pos (by rcases Classical.em (t ∈ dsel R.ops.toList (R.m k) dn) with hh | hh
                                     · exact hh
                                     · rw [pos_none.2 hh] at hpos; cases hpos)]
    have hkk := List.mem_of_getElem? h1
    exact h.val kk v t ⟨q, h1, h2⟩ (hm kk (h.lt kk (h.dnok kk hkk).1) h3) h4
  · intro t v hpos ht hv
    rw [seen_getD h.size, if_neg (pos_none.1 hpos)]
    exact (H.fr0.tm t v rfl ht hv).mono h.ext.le
  · intro x hx
    cases x with
    | tmp t =>
      refine hlook t ?_
      unfold looks tmpsOf
      exact List.mem_append.2 (.inr (List.mem_filterMap.2 ⟨.tmp t, by simpa using hx, rfl⟩))
    | _ => rfl
  · unfold Region.wanted
    cases hg : o.guard with
    | none => rfl
    | some jw =>
      obtain ⟨j, w1⟩ := jw
      simp only
      congr 1
      unfold yielded
      cases hj : R.ops[j]? with
      | none => rfl
      | some p =>
        simp only [Option.bind_some]
        cases hd : p.dst with
        | none => rfl
        | some d =>
          simp only [Option.bind_some]
          have : d ∈ looks R.ops.toList o := by
            unfold looks
            refine List.mem_append.2 (.inl ?_)
            rw [hg]
            simp [hj, hd]
          rw [getD_get (hsz.symm) (hlook d this)]
theorem put_getD_same {am : Act} {t : Nat} {u : Value} (h : t < am.tmps.size) : (am.put (some t) u).tmps.getD t undef = u := by simp [Act.put, Array.getD_eq_getD_getElem?, h]
theorem put_getD_other {am : Act} {t i : Nat} {u : Value} (h : t ≠ i) : (am.put (some t) u).tmps.getD i undef = am.tmps.getD i undef := by
  simp [Act.put, Array.getD_eq_getD_getElem?, Array.getElem?_setIfInBounds_ne h]
/-- a pending operation is done in the world -/
theorem DI.run (H : RgOk R) (h : DI R D done dn s ρ am cs w) {k : Nat} (hk : k ∈ done) (hkD : k ∉ D) {o : Oper} (ho : R.ops[k]? = some o) (hp : ∀ e ∈ preds o, e ∈ D) (K : List Item) (rest : List Nat) :
    ∃ ρ' am' w', step R.P (lone (R.C.b.atR am (.inRegion R.ops (k :: rest) :: K)) cs w) = .next (lone (R.C.b.atR am' (.inRegion R.ops rest :: K)) cs w') ∧ DI R (k :: D) done dn s ρ' am' cs w' := by
  have hready := h.ready H ho hkD hp
  obtain ⟨o', v, t, ho', hdst, hval, X, dd, pp, s1, v', hgrow, hrun, hv', hcls⟩ := h.pend k hk hkD
  rw [ho] at ho'; cases ho'
  have hkdn := hval.mem
  have hdstN : dstN R.ops.toList k = some t := by rw [dstN_of ho]; exact hdst
  have htlt : t < am.tmps.size := by
    have := opOk_dst (H.opok k o ho) hdst
    rw [H.hc.nt] at this
    exact Nat.lt_of_lt_of_le this (by rw [h.size]; exact H.fr0.sz)
  -- what is left to be shown: a step, and a value
  have done_ : ∀ ρ' u w', ρ.le ρ' → Ext R.h0 R.ρ0 s.h ρ' → WR R.P R.w0 ρ' s.h w' → Fresh ρ' s.h → VR R.P ρ' v u →
      (∀ kk ∈ done, kk ∉ k :: D → ∀ vv b x c, (∃ o, R.ops[kk]? = some o ∧ cls R.E o.op = 1) → Val dn s.lo kk vv → Shape vv b x c → ρ b = none → ρ' b = none) →
      DI R (k :: D) done dn s ρ' (am.put o.dst u) cs w' := by
    intro ρ' u w' hle hext hwr hfr hv hnone
    rw [hdst]
    refine ⟨h.len, h.nd, h.dnok, h.dnall, h.tm, h.lt, h.dist, h.closed, ?_, ?_, hwr, hfr, hext, ?_, ?_, ?_, ?_, ?_, ?_, ?_⟩
    · intro x hx
      simp only [List.mem_cons] at hx
      rcases hx with rfl | hx
      · exact hk
      · exact h.dsub x hx
    · intro x hx e he hb
      simp only [List.mem_cons] at hx ⊢
      rcases hx with rfl | hx
      · exact .inr (hready.mask e he hb)
      · exact .inr (h.dclosed x hx e he hb)
    · intro x vx tx hvx hx htx
      by_cases hxk : x = k
      · subst hxk
        rw [hdstN] at htx; cases htx
        rw [put_getD_same htlt, hvx.uniq h.nd hval]; exact hv
      · simp only [List.mem_cons, hxk, false_or] at hx
        have hne : t ≠ tx := fun e => hxk (h.dist x (h.dsub x hx) k hk t (by rw [htx, e]) hdstN)
        rw [put_getD_other hne]
        exact (h.val x vx tx hvx hx htx).mono hle
    · intro tx hx
      have hne : t ≠ tx := fun e => hx k (by simp) (by rw [hdstN, e])
      rw [put_getD_other hne]
      exact h.tmps tx fun x hxD => hx x (by simp [hxD])
    · simpa [Act.put] using h.size
    · exact h.df.mono hle
    · exact h.cs.mono hle
    · intro x hx hxD
      simp only [List.mem_cons, not_or] at hxD
      obtain ⟨ox, vx, tx, h1, h2, h3, X', dd', pp', s1', vx', h4, h5, h6, h7⟩ := h.pend x hx hxD.2
      refine ⟨ox, vx, tx, h1, h2, h3, X', dd', pp', s1', vx', h4, h5, h6, ?_⟩
      rcases h7 with h7 | ⟨h7, h8 | ⟨b, c, y, g1, g2, g3, g4, g5⟩⟩
      · exact .inl h7
      · exact .inr ⟨h7, .inl h8⟩
      · exact .inr ⟨h7, .inr ⟨b, c, y, g1, g2, g3, hnone x hx (by simp [hxD]) vx b vx' c ⟨ox, h1, h7⟩ h3 g1 g4, g5⟩⟩
    · intro k1 hk1 k2 hk2 hd1 hd2
      simp only [List.mem_cons, not_or] at hd1 hd2
      exact h.apart k1 hk1 k2 hk2 hd1.2 hd2.2
  have hsel : ∀ c b, o.op ≠ .select c b := by
    intro c b e
    rcases hcls with ⟨h1, _⟩ | ⟨h1, _⟩ <;> rw [e] at h1 <;> cases h1
  have hdef : ∀ c, o.op ≠ .defer c := by
    intro c e
    rcases hcls with ⟨h1, _⟩ | ⟨h1, _⟩ <;> rw [e] at h1 <;> cases h1
  have hexec := execOp_congr (ρ := am.eval) (ρ' := (seen R am (dsel R.ops.toList (R.m k) dn)).eval) o hsel hready.ev
  have hwrX := h.wr.sub hgrow
  revert hrun
  refine gop_cases (Φ := fun x => x = Out.ok s1 → ∃ ρ' am' w', step R.P (lone (R.C.b.atR am (.inRegion R.ops (k :: rest) :: K)) cs w) = .next (lone (R.C.b.atR am' (.inRegion R.ops rest :: K)) cs w') ∧ DI R (k :: D) done dn s ρ' am' cs w')
    (P := R.P) (ρ := ρ) (nt := R.C.nt) (a := seen R am (dsel R.ops.toList (R.m k) dn)) (fun c e => by cases e) (hready.fr X dd pp) (fun hw => ?_) (fun hw => ?_)
  · rw [← hready.wa] at hw
    rcases hcls with ⟨hc0, hvv⟩ | ⟨hc1, hvv⟩
    · refine reads_all H.hE hc0 (fun x => x = Out.ok s1 → _) (fun c e => by cases e) ρ R.w0 w R.C.nt _ _ (seen R am (dsel R.ops.toList (R.m k) dn)) R.r hwrX (hready.fr X dd pp) fun v1 u hv1 hr he => ?_
      rw [fin_eq, finH_eq, Out.ok.injEq] at he
      rw [← he, hdst] at hv'
      simp [pushO] at hv'
      subst hv'; subst hvv
      exact ⟨ρ, _, w, stepR_value ho hw hdef (by rw [hexec]; exact hr), done_ ρ u w (Rho.le.refl ρ) h.ext h.wr h.fresh hv1 (fun _ _ _ _ _ _ _ _ _ _ hn => hn)⟩
    · refine makes_all H.hE hc1 (fun x => x = Out.ok s1 → _) (fun c e => by cases e) ρ R.w0 w R.C.nt _ _ (seen R am (dsel R.ops.toList (R.m k) dn)) R.r hwrX (hready.fr X dd pp) fun v1 u y n tt ob m hnx hbr hsh hvr hr he => ?_
      rw [finH_eq, Out.ok.injEq] at he
      have hv'' := hv'
      rw [← he, hdst] at hv'
      simp [pushO] at hv'
      subst hv'
      rcases hvv with ⟨_, h2⟩ | ⟨b, c, y', g1, g2, g3, g4, g5, g6, g7⟩
      · exact absurd h2 hsh.tup.2
      · obtain ⟨hcx, _⟩ := g1.right hsh
        subst hcx
        have hy : y' = y := by
          rw [← he] at g3
          change Hp.get ⟨(acc AB 4 X.nx).set X.bl (some y), m⟩ X.nx = some y' at g3
          rw [hp_get_set X.bl X.nx X.nx X.nx (some y) hnx hnx m, if_pos rfl] at g3
          cases g3; rfl
        subst hy
        have hle : ρ.le (ρ.put b (w.heap.size, n, tt)) := Rho.le_put _ g4
        refine ⟨ρ.put b (w.heap.size, n, tt), _, _, stepR_value ho hw hdef (by rw [hexec]; exact hr), done_ _ u _ hle ⟨h.ext.le.trans hle, h.ext.nx, fun b' hb' => ?_⟩ (h.wr.there g7 g4 g2 rfl (hbr _ hle)) (fun b' hb' => ?_) (hvr _ b v (Rho.put_same _ _ _) g1.symm) (fun kk hkk hkkD vv b' x c' hcl hvk hshk hn => ?_)⟩
        · rw [Rho.put_other ρ _ (by omega)]; exact h.ext.old b' hb'
        · rw [Rho.put_other ρ _ (by omega)]; exact h.fresh b' hb'
        · simp only [List.mem_cons, not_or] at hkkD
          have := h.apart kk hkk k hk hkkD.2 hkD hkkD.1 vv v b' b x v1 c' X.nx hvk hval hcl ⟨o, ho, hc1⟩ hshk g1
          rw [Rho.put_other ρ _ this]; exact hn
  · rw [← hready.wa] at hw
    intro he
    rw [fin_eq, finH_eq, Out.ok.injEq] at he
    rw [← he, hdst] at hv'
    simp [pushO] at hv'
    subst hv'
    have hst := stepR_op_skip (P := R.P) (b := R.C.b) (a := am) (k := K) (cs := cs) (w := w) (ops := R.ops) (i := k) (rest := rest) (by rw [ho]; simpa using hw)
    rw [ho] at hst
    have hvt : v = .tup [] := by
      rcases hcls with ⟨_, h1⟩ | ⟨_, ⟨h1, _⟩ | ⟨b, c, y, g1, _⟩⟩
      · exact h1.symm
      · exact h1
      · exact absurd rfl g1.tup.2
    subst hvt
    exact ⟨ρ, _, w, hst, done_ ρ undef w (Rho.le.refl ρ) h.ext h.wr h.fresh (.tup [] #[] .nil) (fun _ _ _ _ _ _ _ _ _ _ hn => hn)⟩
end Go.Ev
