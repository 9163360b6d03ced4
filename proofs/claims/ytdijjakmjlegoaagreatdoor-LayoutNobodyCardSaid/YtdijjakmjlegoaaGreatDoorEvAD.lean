/-
  ORDERS: every order that a region may draw lists each operation once, behind those that it stands behind; what an operation of such a region sees.
-/
import Derived.Test.YtdijjakmjlegoaaGreatDoorEvAC
namespace Go.Ev
open Go.RowKit (Below)
variable {P : Program} {E : Env} {ρ ρ' : Rho} {w0 w w' : World} {Φ : Out → Prop}

inductive Sched (ops : Array Oper) : List Nat → List Nat → Prop
  | nil (D : List Nat) (h : ∀ i, i < ops.size → i ∈ D) : Sched ops D []
  | cons (D : List Nat) (i : Nat) (τ : List Nat) (o : Oper) (ho : ops[i]? = some o) (hi : i ∉ D) (hp : ∀ e ∈ preds o, e ∈ D) (h : Sched ops (i :: D) τ) : Sched ops D (i :: τ)
theorem mem_preds {o : Oper} {e : Nat} : e ∈ preds o ↔ ∃ x ∈ o.after, Region.binds .any x = true ∧ x.on = e := by
  simp [preds, List.mem_filter, and_assoc]
theorem countP_set {f g : Nat → Bool} {i : Nat} (hf : f i = true) (hg : g i = false) (h : ∀ j, j ≠ i → g j = f j) : ∀ n, i < n → (List.range n).countP g + 1 = (List.range n).countP f
  | 0, hn => by omega
  | n + 1, hn => by
    rw [List.range_succ, List.countP_append, List.countP_append]
    by_cases hin : i = n
    · subst hin
      have e : (List.range i).countP g = (List.range i).countP f := by
        apply List.countP_congr
        intro j hj
        rw [List.mem_range] at hj
        rw [h j (by omega)]
      simp [List.countP_cons, hf, hg, e]
    · have := countP_set hf hg h n (by omega)
      simp only [List.countP_cons, List.countP_nil, h n (fun e => hin e.symm)]
      omega
theorem sched_go {ops : Array Oper} (hpre : ∀ (i : Nat) (o : Oper), ops[i]? = some o → ∀ e ∈ preds o, e < i) : ∀ (fuel t : Nat) (listed : Array Bool) (D : List Nat), listed.size = ops.size →
    (∀ i, i < ops.size → (listed.getD i true = true ↔ i ∈ D)) → (List.range ops.size).countP (fun i => !listed.getD i true) ≤ fuel → Sched ops D (Region.linearise.go .any ops fuel t listed [])
  | 0, t, listed, D, hs, hD, hc => by
    refine .nil D fun i hi => ?_
    have : (List.range ops.size).countP (fun i => !listed.getD i true) = 0 := by omega
    rw [List.countP_eq_zero] at this
    have := this i (by simpa using hi)
    simp only [Bool.not_eq_true', Bool.not_eq_false] at this
    exact (hD i hi).1 (by simpa using this)
  | fuel + 1, t, listed, D, hs, hD, hc => by
    simp only [Region.linearise.go]
    change Sched ops D (match (Region.ready .any ops listed)[t % (Region.ready .any ops listed).length]? with
      | some i => Region.linearise.go .any ops fuel (t / (Region.ready .any ops listed).length) (listed.setIfInBounds i true) [i]
      | none => [].reverse)
    have hgd : ∀ i, i < ops.size → listed.getD i true = listed.getD i false := by
      intro i hi
      rw [Array.getD_eq_getD_getElem?, Array.getD_eq_getD_getElem?, Array.getElem?_eq_getElem (by omega)]; rfl
    cases hi : (Region.ready .any ops listed)[t % (Region.ready .any ops listed).length]? with
    | none =>
      have hnil : Region.ready .any ops listed = [] := by
        cases hr : Region.ready .any ops listed with
        | nil => rfl
        | cons x xs =>
          rw [hr] at hi
          have hlt : t % (x :: xs).length < (x :: xs).length := Nat.mod_lt _ (by simp)
          simp at hi
          simp at hlt
          omega
      refine .nil D fun i hi => ?_
      have all : ∀ m i, i < m → i < ops.size → listed.getD i true = true := by
        intro m
        induction m with
        | zero => intro i h; omega
        | succ m ih =>
          intro i him hin
          by_cases hl : listed.getD i true = true
          · exact hl
          · exfalso
            have : i ∈ Region.ready .any ops listed := by
              rw [mem_ready]
              refine ⟨by simpa using hl, ops[i], Array.getElem?_eq_getElem hin, fun e he hb => ?_⟩
              have hlt : e.on < i := hpre i ops[i] (Array.getElem?_eq_getElem hin) e.on (mem_preds.2 ⟨e, he, hb, rfl⟩)
              rw [← hgd _ (by omega)]
              exact ih e.on (by omega) (by omega)
            rw [hnil] at this; cases this
      exact (hD i hi).1 (all (i + 1) i (by omega) hi)
    | some i =>
      simp only []
      rw [linearise_go_acc, List.reverse_singleton, List.singleton_append]
      have hm := mem_ready.1 (List.mem_of_getElem? hi)
      obtain ⟨h1, o, ho, h2⟩ := hm
      have hlt : i < ops.size := (Array.getElem?_eq_some_iff.1 ho).1
      refine .cons D i _ o ho (fun hmem => ?_) (fun e he => ?_) (sched_go hpre fuel _ _ (i :: D) (by simpa using hs) (fun j hj => ?_) ?_)
      · rw [(hD i hlt).2 hmem] at h1; cases h1
      · obtain ⟨x, hx, hb, rfl⟩ := mem_preds.1 he
        have hlt2 : x.on < i := hpre i o ho x.on he
        exact (hD x.on (by omega)).1 (by rw [hgd _ (by omega)]; exact h2 x hx hb)
      · by_cases hji : i = j
        · subst hji
          simp [Array.getD_eq_getD_getElem?, hs, hlt]
        · rw [getD_set_ne true hji, hD j hj]
          rw [List.mem_cons]
          exact ⟨.inr, fun h => h.resolve_left fun e => hji e.symm⟩
      · have hcnt := countP_set (f := fun i => !listed.getD i true) (g := fun j => !(listed.setIfInBounds i true).getD j true) (i := i) (by simp only [h1]; rfl) (by simp [Array.getD_eq_getD_getElem?, hs, hlt]) (fun j hj => by simp only [getD_set_ne true (fun e => hj e.symm)]) ops.size hlt
        omega
theorem sched_lin {ops : Array Oper} (hpre : ∀ (i : Nat) (o : Oper), ops[i]? = some o → ∀ e ∈ preds o, e < i) (t : Nat) : Sched ops [] (Region.linearise .any ops t) := by
  unfold Region.linearise
  refine sched_go hpre ops.size t _ [] (by simp) (fun i hi => ?_) ?_
  · simp [Array.getD_eq_getD_getElem?, hi]
  · have := List.countP_le_length (p := fun i => !(Array.replicate ops.size false).getD i true) (l := List.range ops.size)
    simpa using this

/-! ### what an operation sees -/
theorem selC_cons (m k : Nat) (dn : List Nat) (v : AV) (lo : List AV) : (selC m (k :: dn)).run (v :: lo) = bt (bit m k) (v :: (selC m dn).run lo) ((selC m dn).run lo) := by
  show ((@Bool.rec (fun _ => Sel) _ _ (bit m k) : Sel)).run (v :: lo) = _
  cases bit m k <;> rfl
theorem dsel_cons (L : List Oper) (m k : Nat) (dn : List Nat) : dsel L m (k :: dn) = bt (bit m k) (ot (dstN L k) (dsel L m dn) fun t => t :: dsel L m dn) (dsel L m dn) := rfl
theorem sel_len {L : List Oper} {m : Nat} : ∀ {dn : List Nat} {lo : List AV}, lo.length = dn.length → (∀ k ∈ dn, ∃ t, dstN L k = some t) → ((selC m dn).run lo).length = (dsel L m dn).length
  | [], [], _, _ => rfl
  | [], _ :: _, h, _ => by simp at h
  | _ :: _, [], h, _ => by simp at h
  | k :: dn, v :: lo, h, hd => by
    have ih := sel_len (L := L) (m := m) (dn := dn) (lo := lo) (by simpa using h) fun k hk => hd k (by simp [hk])
    obtain ⟨t, ht⟩ := hd k (by simp)
    rw [selC_cons, dsel_cons, ht]
    cases bit m k <;> simp [ih]
theorem sel_get {L : List Oper} {m t : Nat} {v : AV} : ∀ {dn : List Nat} {lo : List AV} {j : Nat}, lo.length = dn.length → (∀ k ∈ dn, ∃ t, dstN L k = some t) → pos (dsel L m dn) t = some j → ((selC m dn).run lo)[j]? = some v →
    ∃ q k : Nat, dn[q]? = some k ∧ lo[q]? = some v ∧ bit m k = true ∧ dstN L k = some t
  | [], [], j, _, _, h, _ => by cases h
  | [], _ :: _, _, h, _, _, _ => by simp at h
  | _ :: _, [], _, h, _, _, _ => by simp at h
  | k :: dn, x :: lo, j, h, hd, hp, hv => by
    obtain ⟨u, hu⟩ := hd k (by simp)
    rw [selC_cons] at hv
    rw [dsel_cons, hu] at hp
    have go : ∀ j', pos (dsel L m dn) t = some j' → ((selC m dn).run lo)[j']? = some v → ∃ q k' : Nat, (k :: dn)[q]? = some k' ∧ (x :: lo)[q]? = some v ∧ bit m k' = true ∧ dstN L k' = some t := by
      intro j' h1 h2
      obtain ⟨q, k', h3, h4, h5, h6⟩ := sel_get (L := L) (m := m) (by simpa using h) (fun k hk => hd k (by simp [hk])) h1 h2
      exact ⟨q + 1, k', by simpa using h3, by simpa using h4, h5, h6⟩
    cases hb : bit m k with
    | false => rw [hb, bt_false] at hv hp; exact go j hp hv
    | true =>
      rw [hb, bt_true] at hv hp
      rw [ot_some] at hp
      rw [pos_cons] at hp
      by_cases e : u = t
      · rw [if_pos e] at hp
        cases hp
        exact ⟨0, k, by simp, by simpa using hv, hb, by rw [hu, e]⟩
      · rw [if_neg e] at hp
        cases hq : pos (dsel L m dn) t with
        | none => rw [hq] at hp; cases hp
        | some q =>
          rw [hq] at hp; simp at hp; subst hp
          exact go q hq (by simpa using hv)
theorem mem_dsel {L : List Oper} {m t : Nat} : ∀ {dn : List Nat}, t ∈ dsel L m dn ↔ ∃ k ∈ dn, bit m k = true ∧ dstN L k = some t
  | [] => by simp; rw [show dsel L m [] = [] from rfl]; simp
  | k :: dn => by
    rw [dsel_cons]
    have ih := mem_dsel (L := L) (m := m) (t := t) (dn := dn)
    cases hb : bit m k with
    | false => rw [bt_false, ih]; simp [hb]
    | true =>
      rw [bt_true]
      cases hd : dstN L k with
      | none => rw [ot_none, ih]; simp [hd]
      | some u =>
        rw [ot_some, List.mem_cons, ih]
        constructor
        · rintro (rfl | ⟨k', h1, h2⟩)
          · exact ⟨k, by simp, hb, hd⟩
          · exact ⟨k', by simp [h1], h2⟩
        · rintro ⟨k', h1, h2, h3⟩
          simp only [List.mem_cons] at h1
          rcases h1 with rfl | h1
          · rw [hd] at h3; simp at h3; exact .inl h3.symm
          · exact .inr ⟨k', h1, h2, h3⟩
theorem dstN_of {ops : Array Oper} {k : Nat} {o : Oper} (h : ops[k]? = some o) : dstN ops.toList k = o.dst := by
  have h' : ops.toList[k]? = some o := by simpa using h
  unfold dstN; rw [nth_eq, h']; rfl
theorem dstN_some {ops : Array Oper} {k t : Nat} (h : dstN ops.toList k = some t) : ∃ o, ops[k]? = some o ∧ o.dst = some t := by
  unfold dstN at h
  rw [nth_eq] at h
  cases ho : ops.toList[k]? with
  | none => rw [ho] at h; cases h
  | some o => rw [ho] at h; exact ⟨o, by simpa using ho, h⟩

/-- the guard, in whatever state is known -/
theorem gop_cases (hb : ∀ c, Φ (.bad_ c)) {nt : Nat} {ds : List Nat} {s : St} {a : Act} (hfr : Fr P ρ nt ds s.lo s.tm a.tmps) {ops : Array Oper} {o : Oper} {r : Rec}
    (hop : Region.wanted o (yielded ops a.tmps) = true → Φ ((opA o.op E ds o.dst).run r s)) (hno : Region.wanted o (yielded ops a.tmps) = false → Φ (fin o.dst (.tup []) s)) :
    Φ ((gop E ops.toList ds o).run r s) := by
  unfold gop guardC
  cases hg : o.guard with
  | none => exact hop (by simp [Region.wanted, hg])
  | some jw =>
    obtain ⟨j, w1⟩ := jw
    simp only
    split
    · next p hp =>
      rw [nth_eq] at hp
      have hp' : ops[j]? = some p := by simpa using hp
      split
      · next d hd =>
        have hy : yielded ops a.tmps j = (match a.tmps[d]? with | some (.bool b) => some b | _ => none) := by
          simp only [yielded, hp', Option.bind_some, hd]
          rfl
        have hwant : Region.wanted o (yielded ops a.tmps) = (yielded ops a.tmps j == some w1) := by simp [Region.wanted, hg]
        have hbool : ∀ b, a.tmps.getD d undef = .bool b → yielded ops a.tmps j = some b := by
          intro b e
          rw [hy]
          cases hq : a.tmps[d]? with
          | none => rw [Array.getD_eq_getD_getElem?, hq] at e; cases e
          | some u => rw [Array.getD_eq_getD_getElem?, hq] at e; simp at e; subst e; rfl
        have hnot : (∀ b, a.tmps.getD d undef ≠ .bool b) → yielded ops a.tmps j = none := by
          intro e
          rw [hy]
          cases hq : a.tmps[d]? with
          | none => rfl
          | some u =>
            have e := fun b => e b
            rw [Array.getD_eq_getD_getElem?, hq] at e
            cases u <;> first | rfl | exact absurd rfl (e _)
        cases w1 with
        | true =>
          refine opT_ok hb hfr fun v hv => ?_
          generalize hu : a.tmps.getD d undef = u at hv
          cases hv with
          | bool b =>
            cases b with
            | true => exact hop (by rw [hwant, hbool true hu]; rfl)
            | false => exact hno (by rw [hwant, hbool false hu]; rfl)
          | unk => exact hb _
          | _ => exact hno (by rw [hwant, hnot (fun b e => by rw [hu] at e; cases e)]; rfl)
        | false =>
          refine opT_ok hb hfr fun v hv => ?_
          generalize hu : a.tmps.getD d undef = u at hv
          cases hv with
          | bool b =>
            cases b with
            | true => exact hno (by rw [hwant, hbool true hu]; rfl)
            | false => exact hop (by rw [hwant, hbool false hu]; rfl)
          | unk => exact hb _
          | _ => exact hno (by rw [hwant, hnot (fun b e => by rw [hu] at e; cases e)]; rfl)
      · exact hb _
    · exact hb _
end Go.Ev
