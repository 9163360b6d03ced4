/-
  REGIONS THAT DRAW THEIR ORDER, 2: the evaluator's own order; each order comes to what the evaluator says.
-/
import Derived.Test.YtdijjakmjlegoaaGreatDoorEvAE
namespace Go.Ev
open Go.RowKit (Below)
variable {R : Rg} {D done dn : List Nat} {s : St} {ρ : Rho} {am : Act} {cs : List Frame} {w : World} {Φ : Out → Prop}

structure MS (R : Rg) (done : List Nat) (i : Nat) (o : Oper) : Prop where
  fresh : i ∉ done
  pre : ∀ e ∈ preds o, e < i ∧ e ∈ done
  eff : ∀ k ∈ done, ∀ p, R.ops[k]? = some p → cls R.E p.op = 2 → bit (R.m i) k = true
  dist : ∀ k ∈ done, ∀ t, o.dst = some t → dstN R.ops.toList k ≠ some t
  dst : cls R.E o.op = 2 ∨ ∃ t, o.dst = some t
theorem mayStand_ms {i : Nat} {o : Oper} (hlt : ∀ k ∈ done, k < R.ops.size) (h : mayStand R.E R.ops.toList R.M done i o = true) : MS R done i o := by
  unfold mayStand at h
  cases h1 : inB i done with
  | true => rw [h1] at h; cases h
  | false =>
    rw [h1, bt_false] at h
    obtain ⟨h2, h⟩ := bt_both h
    obtain ⟨h3, h⟩ := bt_both h
    obtain ⟨h4, h5⟩ := bt_both h
    rw [allB_eq, List.all_eq_true] at h2 h3 h4
    refine ⟨fun hm => ?_, fun e he => ?_, fun k hk p hp hc => ?_, fun k hk t ht hd => ?_, ?_⟩
    · rw [inB_iff.2 hm] at h1; cases h1
    · obtain ⟨g1, g2⟩ := bt_both (h2 e he)
      rw [Nat.blt_eq] at g1
      exact ⟨g1, inB_iff.1 g2⟩
    · have g := h3 k hk
      have hp' : R.ops.toList[k]? = some p := by simpa using hp
      rw [nth_eq, hp', ot_some, hc] at g
      exact g
    · have g := h4 k hk
      obtain ⟨p, hp, hpd⟩ := dstN_some hd
      have hp' : R.ops.toList[k]? = some p := by simpa using hp
      rw [nth_eq, hp', ot_some, ht, ot_some, hpd, ot_some, Nat.beq_refl] at g
      cases g
    · cases hc : Nat.beq (cls R.E o.op) 2 with
      | true => exact .inl (Nat.eq_of_beq_eq_true hc)
      | false => rw [hc, bt_false] at h5; exact .inr (Option.isSome_iff_exists.1 h5)
theorem onOkB_ok (hb : ∀ c, Φ (.bad_ c)) {x : Out} {k : St → Out} (h : ∀ s, x = .ok s → Φ (k s)) : Φ (onOkB x k) := by
  cases x with
  | bad_ c => exact hb _
  | ok s => exact h s rfl
  | lv e s => exact hb _
/-- the masks of what is done do not bear a later one -/
theorem DI.nomask (h : DI R D done dn s ρ am cs w) {k i : Nat} (hk : k ∈ done) (hi : i ∉ done) (hlt : i < R.ops.size) : bit (R.m k) i = false := by
  cases hb : bit (R.m k) i with
  | false => rfl
  | true => exact absurd (h.closed k hk i hlt hb) hi
theorem PF.grow {h2 : Hp} {k i : Nat} {o : Oper} {v x : AV} (hp : PF R dn s ρ k o v) (hno : bit (R.m k) i = false) (hg : Grow s.h h2) (hnx : s.h.nx ≤ h2.nx) :
    PF R (i :: dn) ⟨x :: s.lo, s.tm, s.ds, h2, s.pn⟩ ρ k o v := by
  obtain ⟨X, dd, pp, s1, v', h1, h2', h3, h4⟩ := hp
  refine ⟨X, dd, pp, s1, v', fun b ab hb hx => hg b ab hb (h1 b ab hb hx), ?_, h3, ?_⟩
  · rw [dsel_cons, selC_cons, hno]; exact h2'
  · rcases h4 with h4 | ⟨h4, h5 | ⟨b, c, y, g1, g2, g3, g4, g5, g6, g7⟩⟩
    · exact .inl h4
    · exact .inr ⟨h4, .inl h5⟩
    · exact .inr ⟨h4, .inr ⟨b, c, y, g1, hg b y g7 g2, g3, g4, g5, Nat.lt_of_lt_of_le g6 hnx, g7⟩⟩
/-- one that is no effect, done by the evaluator -/
theorem DI.add (H : RgOk R) (h : DI R D done dn s ρ am cs w) {i : Nat} {o : Oper} (ho : R.ops[i]? = some o) (ms : MS R done i o) {t : Nat} (hdst : o.dst = some t) {h2 : Hp} {v : AV} (hwr : WR R.P R.w0 ρ h2 w) (hfr : Fresh ρ h2)
    (hnx : s.h.nx ≤ h2.nx) (hg : Grow s.h h2) (hpf : PF R (i :: dn) ⟨v :: s.lo, s.tm, s.ds, h2, s.pn⟩ ρ i o v) (hap : ∀ b x c, Shape v b x c → cls R.E o.op = 1 → s.h.nx ≤ b) :
    DI R D (i :: done) (i :: dn) ⟨v :: s.lo, s.tm, s.ds, h2, s.pn⟩ ρ am cs w := by
  have hlt : i < R.ops.size := (Array.getElem?_eq_some_iff.1 ho).1
  have hdN : dstN R.ops.toList i = some t := by rw [dstN_of ho]; exact hdst
  have hidn : i ∉ dn := fun hm => ms.fresh (h.dnok i hm).1
  have hiD : i ∉ D := fun hm => ms.fresh (h.dsub i hm)
  refine ⟨by simp [h.len], by simp [hidn, h.nd], ?_, ?_, h.tm, ?_, ?_, ?_, fun k hk => by simp [h.dsub k hk], h.dclosed, hwr, hfr, ⟨h.ext.le, Nat.le_trans h.ext.nx hnx, h.ext.old⟩, ?_, h.tmps, h.size, h.df, h.cs, ?_, ?_⟩
  · intro k hk
    simp only [List.mem_cons] at hk ⊢
    rcases hk with rfl | hk
    · exact ⟨.inl rfl, t, hdN⟩
    · exact ⟨.inr (h.dnok k hk).1, (h.dnok k hk).2⟩
  · intro k hk u hu
    simp only [List.mem_cons] at hk ⊢
    rcases hk with rfl | hk
    · exact .inl rfl
    · exact .inr (h.dnall k hk u hu)
  · intro k hk
    simp only [List.mem_cons] at hk
    rcases hk with rfl | hk
    · exact hlt
    · exact h.lt k hk
  · intro p hp q hq u hpu hqu
    simp only [List.mem_cons] at hp hq
    rcases hp with rfl | hp <;> rcases hq with rfl | hq
    · rfl
    · rw [hdN] at hpu; cases hpu; exact absurd hqu (ms.dist q hq t hdst)
    · rw [hdN] at hqu; cases hqu; exact absurd hpu (ms.dist p hp t hdst)
    · exact h.dist p hp q hq u hpu hqu
  · intro k hk e he hb
    simp only [List.mem_cons] at hk ⊢
    rcases hk with rfl | hk
    · obtain ⟨e', h1, h2⟩ := H.msk k o ho e he hb
      rcases h2 with rfl | h2
      · exact .inr (ms.pre _ h1).2
      · exact .inr (h.closed e' (ms.pre _ h1).2 e he h2)
    · exact .inr (h.closed k hk e he hb)
  · intro k x u hx hk hu
    rcases hx.uncons with ⟨rfl, _⟩ | hx
    · exact absurd hk hiD
    · exact h.val k x u hx hk hu
  · intro k hk hkD
    simp only [List.mem_cons] at hk
    rcases hk with rfl | hk
    · exact ⟨o, v, t, ho, hdst, Val.head _ _ _ _, hpf⟩
    · obtain ⟨ok, vk, tk, h1, h2, h3, h4⟩ := h.pend k hk hkD
      exact ⟨ok, vk, tk, h1, h2, h3.cons _ _, h4.grow (h.nomask hk ms.fresh hlt) hg hnx⟩
  · have old : ∀ k ∈ done, k ∉ D → ∀ vk b x c, Val dn s.lo k vk → (∃ o, R.ops[k]? = some o ∧ cls R.E o.op = 1) → Shape vk b x c → b < s.h.nx := by
      intro k hk hkD vk b x c hv hc hs
      obtain ⟨ok, vk', tk, h1, h2, h3, X, dd, pp, s1, v', g1, g2, g3, g4⟩ := h.pend k hk hkD
      obtain ⟨o', ho', hc⟩ := hc
      rw [h1] at ho'; cases ho'
      have := h3.uniq h.nd hv; subst this
      rcases g4 with ⟨g4, _⟩ | ⟨_, ⟨g5, _⟩ | ⟨b', c', y, g5, _, _, _, _, g6, _⟩⟩
      · rw [hc] at g4; cases g4
      · exact absurd g5 hs.tup.1
      · rw [hs.left g5]; exact g6
    intro k1 hk1 k2 hk2 hd1 hd2 hne v1 v2 b1 b2 x1 x2 c1 c2 hv1 hv2 hc1 hc2 hs1 hs2
    simp only [List.mem_cons] at hk1 hk2
    have val_old : ∀ k ∈ done, ∀ x, Val (i :: dn) (v :: s.lo) k x → Val dn s.lo k x := by
      intro k hk x hx
      rcases hx.uncons with ⟨rfl, _⟩ | hx
      · exact absurd hk ms.fresh
      · exact hx
    have val_new : ∀ x, Val (i :: dn) (v :: s.lo) i x → x = v := by
      intro x hx
      rcases hx.uncons with ⟨_, e⟩ | hx
      · exact e
      · exact absurd hx.mem hidn
    have cls_new : (∃ o, R.ops[i]? = some o ∧ cls R.E o.op = 1) → cls R.E o.op = 1 := fun ⟨o', h1, h2⟩ => by rw [ho] at h1; cases h1; exact h2
    rcases hk1 with rfl | hk1 <;> rcases hk2 with rfl | hk2
    · exact absurd rfl hne
    · have e := val_new v1 hv1; subst e
      have h1 := hap b1 x1 c1 hs1 (cls_new hc1)
      have h2 := old k2 hk2 hd2 v2 b2 x2 c2 (val_old k2 hk2 _ hv2) hc2 hs2
      omega
    · have e := val_new v2 hv2; subst e
      have h1 := hap b2 x2 c2 hs2 (cls_new hc2)
      have h2 := old k1 hk1 hd1 v1 b1 x1 c1 (val_old k1 hk1 _ hv1) hc1 hs1
      omega
    · exact h.apart k1 hk1 k2 hk2 hd1 hd2 hne v1 v2 b1 b2 x1 x2 c1 c2 (val_old k1 hk1 _ hv1) (val_old k2 hk2 _ hv2) hc1 hc2 hs1 hs2
/-- what the evaluator has looked at again, in s2 -/
def LA (R : Rg) (dn : List Nat) (s2 : St) (k : Nat) : Prop :=
  ∃ o s1 v' u j, R.ops[k]? = some o ∧ pos dn k = some j ∧ (oneOp R.E R.ops.toList (R.m k) dn o).run R.r s2 = .ok s1 ∧ s1.lo[0]? = some v' ∧ s2.lo[j]? = some u ∧
    ((cls R.E o.op = 0 ∧ u = v') ∨ (cls R.E o.op ≠ 0 ∧ ((u = .tup [] ∧ v' = .tup []) ∨ ∃ b c y, Shape u b v' c ∧ s2.h.get b = some y ∧ s1.h.get c = some y)))
theorem lookAll_ok (hb : ∀ c, Φ (.bad_ c)) {s2 : St} {rest : Cl} : ∀ {l : List Nat}, ((∀ k ∈ l, LA R dn s2 k) → Φ (rest.run R.r s2)) → Φ ((lookAll R.E R.ops.toList R.M dn l rest).run R.r s2)
  | [], h => h (by simp)
  | k :: l, h => by
    show Φ ((lookAgain R.E R.ops.toList R.M dn k (lookAll R.E R.ops.toList R.M dn l rest)).run R.r s2)
    unfold lookAgain
    refine otC_ok hb fun o ho => otC_ok hb fun j hj => ?_
    rw [nth_eq] at ho
    have ho' : R.ops[k]? = some o := by simpa using ho
    refine onOkB_ok hb fun s1 hs1 => pick_ok hb fun v' hv' => pick_ok hb fun u hu => ?_
    have go : ((cls R.E o.op = 0 ∧ u = v') ∨ (cls R.E o.op ≠ 0 ∧ ((u = .tup [] ∧ v' = .tup []) ∨ ∃ b c y, Shape u b v' c ∧ s2.h.get b = some y ∧ s1.h.get c = some y))) → Φ ((lookAll R.E R.ops.toList R.M dn l rest).run R.r s2) := by
      intro hx
      refine lookAll_ok hb fun hall => h fun k' hk' => ?_
      simp only [List.mem_cons] at hk'
      rcases hk' with rfl | hk'
      · exact ⟨o, s1, v', u, j, ho', hj, hs1, hv', hu, hx⟩
      · exact hall k' hk'
    refine bt_ok (fun hc => bt_ok (fun he => go (.inl ⟨Nat.eq_of_beq_eq_true hc, avEq_eq u v' he⟩)) (fun _ => hb _)) (fun hc => ?_)
    have hc0 := Nat.ne_of_beq_eq_false hc
    exact newCk_ok hb (fun h1 h2 => go (.inr ⟨hc0, .inl ⟨h1, h2⟩⟩)) (fun b c y h1 h2 h3 => go (.inr ⟨hc0, .inr ⟨b, c, y, h1, h2, h3⟩⟩))
theorem cls_cases (E : Env) (op : Op) : cls E op = 0 ∨ cls E op = 1 ∨ cls E op = 2 := by
  unfold cls
  split <;> first | exact .inl rfl | exact .inr (.inl rfl) | exact .inr (.inr rfl) | skip
  · cases isInt E _ <;> cases isInt E _ <;> simp
  · split
    · next b _ => cases b <;> simp [clsB]
    · exact .inr (.inr rfl)
theorem pshI_eq (o : Oper) (i : Nat) (dn : List Nat) : pshI o i dn = match o.dst with | none => dn | some _ => i :: dn := by
  unfold pshI; cases o.dst <;> rfl
/-- an effect, done by both -/
theorem DI.eff (H : RgOk R) (h : DI R D done dn s ρ am cs w) {i : Nat} {o : Oper} (ho : R.ops[i]? = some o) (ms : MS R done i o) (hready : Ready R D done dn s ρ am i o) {ρ' : Rho} {dfs : List Deferred} {cs' : List Frame} {w' : World} {v : AV} {u : Value}
    {s2 : St} (hlo : s2.lo = pushO o.dst v s.lo) (htm : s2.tm = s.tm) (hx : Ext s.h ρ s2.h ρ') (hwr : WR R.P R.w0 ρ' s2.h w') (hfr : Fresh ρ' s2.h) (hv : VR R.P ρ' v u) (hdf : DRs R.P ρ' s2.ds dfs) (hcs : Cs R.P R.C.b.kind R.C.pn0 R.C.cs0 ρ' s2.pn cs')
    (hla : ∀ k ∈ again R.E R.ops.toList (R.m i) done, LA R (pshI o i dn) s2 k) :
    DI R (i :: D) (i :: done) (pshI o i dn) s2 ρ' ({ am with defers := dfs }.put o.dst u) cs' w' := by
  have hlt : i < R.ops.size := (Array.getElem?_eq_some_iff.1 ho).1
  have hidn : i ∉ dn := fun hm => ms.fresh (h.dnok i hm).1
  have hiD : i ∉ D := fun hm => ms.fresh (h.dsub i hm)
  have hdN : dstN R.ops.toList i = o.dst := dstN_of ho
  have htlt : ∀ t, o.dst = some t → t < am.tmps.size := by
    intro t ht
    have := opOk_dst (H.opok i o ho) ht
    rw [H.hc.nt] at this
    exact Nat.lt_of_lt_of_le this (by rw [h.size]; exact H.fr0.sz)
  have hlen : s2.lo.length = (pshI o i dn).length := by
    rw [hlo, pshI_eq]; cases o.dst <;> simp [pushO, h.len]
  have hnd : (pshI o i dn).Nodup := by
    rw [pshI_eq]; cases o.dst <;> simp [h.nd, hidn]
  have valback : ∀ k ∈ done, ∀ x, Val (pshI o i dn) s2.lo k x → Val dn s.lo k x := by
    intro k hk x hx
    rw [hlo, pshI_eq] at hx
    cases hd : o.dst with
    | none => rw [hd] at hx; exact hx
    | some t =>
      rw [hd] at hx
      rcases hx.uncons with ⟨rfl, _⟩ | hx
      · exact absurd hk ms.fresh
      · exact hx
  have valon : ∀ k x, Val dn s.lo k x → Val (pshI o i dn) s2.lo k x := by
    intro k x hx
    rw [hlo, pshI_eq]
    cases hd : o.dst with
    | none => exact hx
    | some t => exact hx.cons _ _
  refine ⟨hlen, hnd, ?_, ?_, by rw [htm]; exact h.tm, ?_, ?_, ?_, ?_, ?_, hwr, hfr, h.ext.trans hx, ?_, ?_, ?_, ?_, hcs, ?_, ?_⟩
  · intro k hk
    rw [pshI_eq] at hk
    cases hd : o.dst with
    | none => rw [hd] at hk; exact ⟨by simp [(h.dnok k hk).1], (h.dnok k hk).2⟩
    | some t =>
      rw [hd] at hk
      simp only [List.mem_cons] at hk ⊢
      rcases hk with rfl | hk
      · exact ⟨.inl rfl, t, by rw [hdN]; exact hd⟩
      · exact ⟨.inr (h.dnok k hk).1, (h.dnok k hk).2⟩
  · intro k hk t ht
    rw [pshI_eq]
    simp only [List.mem_cons] at hk
    rcases hk with rfl | hk
    · rw [hdN] at ht; rw [ht]; simp
    · have := h.dnall k hk t ht
      cases o.dst <;> simp [this]
  · intro k hk
    simp only [List.mem_cons] at hk
    rcases hk with rfl | hk
    · exact hlt
    · exact h.lt k hk
  · intro p hp q hq t hpt hqt
    simp only [List.mem_cons] at hp hq
    rcases hp with rfl | hp <;> rcases hq with rfl | hq
    · rfl
    · rw [hdN] at hpt; exact absurd hqt (ms.dist q hq t hpt)
    · rw [hdN] at hqt; exact absurd hpt (ms.dist p hp t hqt)
    · exact h.dist p hp q hq t hpt hqt
  · intro k hk e he hb
    simp only [List.mem_cons] at hk ⊢
    rcases hk with rfl | hk
    · exact .inr (h.dsub e (hready.mask e he hb))
    · exact .inr (h.closed k hk e he hb)
  · intro k hk
    simp only [List.mem_cons] at hk ⊢
    rcases hk with rfl | hk
    · exact .inl rfl
    · exact .inr (h.dsub k hk)
  · intro k hk e he hb
    simp only [List.mem_cons] at hk ⊢
    rcases hk with rfl | hk
    · exact .inr (hready.mask e he hb)
    · exact .inr (h.dclosed k hk e he hb)
  · intro k x t hx' hk ht
    simp only [List.mem_cons] at hk
    rcases hk with rfl | hk
    · rw [hdN] at ht
      rw [hlo, pshI_eq, ht] at hx'
      rw [ht]
      rcases hx'.uncons with ⟨_, e⟩ | hx'
      · rw [e, put_getD_same (am := { am with defers := dfs }) (htlt t ht)]; exact hv
      · exact absurd hx'.mem hidn
    · have hb := (h.val k x t (valback k (h.dsub k hk) x hx') hk ht).mono hx.le
      cases hd : o.dst with
      | none => exact hb
      | some t' =>
        rw [put_getD_other (am := { am with defers := dfs }) (fun e => ms.dist k (h.dsub k hk) t' hd (by rw [ht, e]))]
        exact hb
  · intro t ht
    have h1 := h.tmps t fun k hk => ht k (by simp [hk])
    cases hd : o.dst with
    | none => exact h1
    | some t' =>
      rw [put_getD_other (am := { am with defers := dfs }) (fun e => ht i (by simp) (by rw [hdN, hd, e]))]
      exact h1
  · cases hd : o.dst with
    | none => exact h.size
    | some t' => simpa [Act.put] using h.size
  · cases hd : o.dst <;> exact hdf
  · intro k hk hkD
    simp only [List.mem_cons, not_or] at hkD
    simp only [List.mem_cons] at hk
    rcases hk with rfl | hk
    · exact absurd rfl hkD.1
    · obtain ⟨ok, vk, tk, h1, h2, h3, hpf⟩ := h.pend k hk hkD.2
      refine ⟨ok, vk, tk, h1, h2, valon k vk h3, ?_⟩
      have hnb : bit (R.m i) k = false := by
        cases hb : bit (R.m i) k with
        | false => rfl
        | true => exact absurd (hready.mask k (h.lt k hk) hb) hkD.2
      obtain ⟨X, dd, pp, s1o, v'o, g1, g2, g3, g4⟩ := hpf
      have hcne : Nat.beq (cls R.E ok.op) 2 = false := by
        rcases g4 with ⟨g4, _⟩ | ⟨g4, _⟩ <;> rw [g4] <;> rfl
      have hin : k ∈ again R.E R.ops.toList (R.m i) done := by
        unfold again
        rw [List.mem_filter]
        refine ⟨hk, ?_⟩
        have hok : R.ops.toList[k]? = some ok := by simpa using h1
        rw [hnb, bt_false, nth_eq, hok, ot_some, hcne, bt_false]
      obtain ⟨o2, s1, v', u2, j, e1, e2, e3, e4, e5, e6⟩ := hla k hin
      rw [h1] at e1; cases e1
      obtain ⟨hj, _⟩ := pos_get e2
      have hu2 : u2 = vk := (show Val (pshI o i dn) s2.lo k u2 from ⟨j, hj, e5⟩).uniq hnd (valon k vk h3)
      subst hu2
      obtain ⟨lo2, tm2, ds2, hh2, pn2⟩ := s2
      have htm2 : tm2 = R.tm0 := by change tm2 = s.tm at htm; rw [htm]; exact h.tm
      subst htm2
      refine ⟨hh2, ds2, pn2, s1, v', Grow.refl _, e3, e4, ?_⟩
      rcases e6 with ⟨e6, e7⟩ | ⟨e6, e7⟩
      · exact .inl ⟨e6, e7.symm⟩
      · rcases g4 with ⟨g4, _⟩ | ⟨g4, g5⟩
        · exact absurd g4 e6
        · refine .inr ⟨g4, ?_⟩
          rcases e7 with e7 | ⟨b, c, y, f1, f2, f3⟩
          · exact .inl e7
          · rcases g5 with ⟨g5, _⟩ | ⟨b', c', y', g5, g6, g7, g8, g9, g10, g11⟩
            · exact absurd g5 f1.tup.1
            · have := f1.left g5
              subst this
              exact .inr ⟨b, c, y, f1, f2, f3, by rw [hx.old b g10]; exact g8, g9, Nat.lt_of_lt_of_le g10 hx.nx, g11⟩
  · intro k1 hk1 k2 hk2 hd1 hd2 hne v1 v2 b1 b2 x1 x2 c1 c2 hv1 hv2
    simp only [List.mem_cons, not_or] at hd1 hd2
    simp only [List.mem_cons] at hk1 hk2
    have hk1 := hk1.resolve_left hd1.1
    have hk2 := hk2.resolve_left hd2.1
    exact h.apart k1 hk1 k2 hk2 hd1.2 hd2.2 hne v1 v2 b1 b2 x1 x2 c1 c2 (valback k1 hk1 _ hv1) (valback k2 hk2 _ hv2)
end Go.Ev
