/-
  MAPS WRITTEN; bytes seen as a string; all plain operations.
-/
import Derived.Test.YtdijjakmjlegoaaGreatDoorEvAO
namespace Go.Ev
open Go.RowKit (Below)
variable {P : Program} {E : Env} {ρ ρ' : Rho} {w0 w w' : World} {Φ : Out → Prop}

theorem ground_same {v : AV} {u u' : Value} (h : VR P ρ v u) (h' : VR P ρ v u') (hg : ground v = true) (n : Nat) : Instr.sameBits (n + 1) u u' = true := by
  have atom : ∀ (n : Nat) {v : AV} {u u' : Value}, VR P ρ v u → VR P ρ v u' → gAtom v = true → Instr.sameBits n u u' = true := by
    intro n v u u' h h' hg
    cases h <;> try (cases hg; done)
    · cases h'; cases n <;> simp [Instr.sameBits]
    · cases h'; cases n <;> simp [Instr.sameBits]
    · next s =>
      obtain ⟨s', rfl, hs⟩ := h'.str_inv
      have e : s.data.toList = s'.data.toList := (List.map_inj_right fun a b h => UInt8.toNat_inj.1 h).1 hs
      have e2 : s = s' := by
        cases s; cases s'
        congr 1
        exact Array.toList_inj.1 e
      subst e2
      have hs : (s == s) = true := by show (s.data == s.data) = true; simp
      cases n <;> simp [Instr.sameBits, hs]
  cases v with
  | agg l =>
    cases h with
    | agg _ l1 h1 =>
    cases h' with
    | agg _ l2 h2 =>
    have e1 := h1.length
    have e2 := h2.length
    have hsz : l1.size = l2.size := by
      have : l1.toList.length = l2.toList.length := by omega
      simpa using this
    have hall : ∀ (l : List AV) (a b : List Value), VRs P ρ l a → VRs P ρ l b → allB gAtom l = true → ((a.zip b).all fun (x, y) => Instr.sameBits n x y) = true := by
      intro l
      induction l with
      | nil => intro a b ha hb _; cases ha; simp
      | cons v l ih =>
        intro a b ha hb hl
        cases ha with
        | cons _ _ x a hx ha =>
        cases hb with
        | cons _ _ y b hy hb =>
        have hl' : bt (gAtom v) (allB gAtom l) false = true := hl
        obtain ⟨h3, h4⟩ := bt_both hl'
        simp only [List.zip_cons_cons, List.all_cons, Bool.and_eq_true]
        exact ⟨atom n hx hy h3, ih a b ha hb h4⟩
    simp only [Instr.sameBits, Bool.and_eq_true]
    exact ⟨by simpa using hsz, hall l _ _ h1 h2 hg⟩
  | _ => exact atom (n + 1) h h' hg
/-- a search: with which entry it ends -/
inductive FindAt (tst : Value → Bool → Prop) : List MapEntry → Nat → Option (Nat × Value) → Prop
  | nil (i : Nat) : FindAt tst [] i none
  | hit (e : MapEntry) (es : List MapEntry) (i : Nat) (h : tst e.key true) : FindAt tst (e :: es) i (some (i, e.val))
  | miss (e : MapEntry) (es : List MapEntry) (i : Nat) (r : Option (Nat × Value)) (h : tst e.key false) (hr : FindAt tst es (i + 1) r) : FindAt tst (e :: es) i r
theorem FindAt.now {d : TypeDesc} {u : Value} : ∀ {en : List MapEntry} {i : Nat} {r : Option (Nat × Value)}, FindAt (fun m b => Instr.sameNow d u m = some b) en i r → Instr.findNow d u en i = some r
  | _, _, _, .nil i => rfl
  | _, _, _, .hit e es i h => by simp [Instr.findNow, h]
  | _, _, _, .miss e es i r h hr => by simp [Instr.findNow, h, FindAt.now hr]
theorem FindAt.ask {t : Nat} {u : Value} {w : World} : ∀ {en : List MapEntry} {i : Nat} {r : Option (Nat × Value)}, FindAt (fun m b => (Op.equal t u m).run P w = .ok b w) en i r → (Instr.findAsking t u en i).run P w = .ok r w
  | _, _, _, .nil i => by simp [Instr.findAsking]
  | _, _, _, .hit e es i h => by simp [Instr.findAsking, h]
  | _, _, _, .miss e es i r h hr => by simp [Instr.findAsking, h, FindAt.ask hr]
theorem key_find (hE : EnvOk P E) {t : Nat} {q : Eqf} (h : keyF E t = some q) {x : AV} {u : Value} (hx : VR P ρ x u) (w : World) :
    ∃ tst : Value → Bool → Prop, (∀ y m b, VR P ρ y m → q.run x y = some b → tst m b) ∧ ∀ en r, FindAt tst en 0 r → (Instr.findKey t u en).run P w = .ok r w := by
  unfold keyF at h
  split at h
  · next k e =>
    simp only [Option.some.injEq] at h; subst h
    refine ⟨fun m b => Instr.sameNow (.int k) u m = some b, fun y m b hy hb => same_ok (.inr (.inl ⟨⟨k, rfl⟩, rfl⟩)) (by omega) hx hy hb, fun en r hr => ?_⟩
    simp [Instr.findKey, hE.run_underlying w e, hr.now]
  · next e =>
    simp only [Option.some.injEq] at h; subst h
    refine ⟨fun m b => Instr.sameNow .string u m = some b, fun y m b hy hb => same_ok (.inr (.inr ⟨rfl, rfl⟩)) (by omega) hx hy hb, fun en r hr => ?_⟩
    simp [Instr.findKey, hE.run_underlying w e, hr.now]
  · next fs e =>
    cases hl : plan E t with
    | none => rw [hl] at h; cases h
    | some l =>
      cases hn : szOf E t with
      | none => rw [hl, hn] at h; cases h
      | some n =>
        rw [hl, hn] at h
        simp only [ot_some] at h
        cases n with
        | zero => cases h
        | succ n =>
        simp only [nt_succ, Option.some.injEq] at h; subst h
        have hF : eqOf E t false = some ⟨rowEq (n + 1) l⟩ := by simp [eqOf, e, hl, hn]
        refine ⟨fun m b => (Op.equal t u m).run P w = .ok b w, fun y v b hy hb => (eqOf_ok hE hF (by simp [isStr, e]) (by simp [isInt, e]) hx hy hb (X := .tmp 0) (Y := .tmp 0) (by simp) w).eq, fun en r hr => ?_⟩
        cases hr with
        | nil => simp [Instr.findKey, hE.run_underlying w e, Instr.findNow]
        | hit m es i hh =>
          have hnow : Instr.findNow (.struct fs) u (m :: es) 0 = none := by
            unfold Instr.findNow
            have : Instr.sameNow (.struct fs) u m.key = none := by cases u <;> rfl
            rw [this]
          have := (FindAt.hit m es 0 hh).ask
          simp [Instr.findKey, hE.run_underlying w e, hnow, this]
        | miss m es i r hh hr =>
          have hnow : Instr.findNow (.struct fs) u (m :: es) 0 = none := by
            unfold Instr.findNow
            have : Instr.sameNow (.struct fs) u m.key = none := by cases u <;> rfl
            rw [this]
          have := (FindAt.miss m es 0 r hh hr).ask
          simp [Instr.findKey, hE.run_underlying w e, hnow, this]
  · cases h
theorem updE_at {q : Eqf} {tst : Value → Bool → Prop} {x v : AV} {u vv : Value} {c : Nat} (hq : ∀ y m b, VR P ρ y m → q.run x y = some b → tst m b) (hx : VR P ρ x u) (hv : VR P ρ v vv) : ∀ {es : List (AV × AV × Nat)} {en : List MapEntry}, ERs P ρ es en → ∀ {es' : List (AV × AV × Nat)} {c' : Nat} (i : Nat), updE q x v c es = some (es', c') →
    ∃ r, FindAt tst en i r ∧ match r with
      | none => c' = c + 1 ∧ ERs P ρ es' (en ++ [{ key := u, val := vv, born := c }])
      | some (j, _) => c' = c ∧ i ≤ j ∧ ∃ m, en[j - i]? = some m ∧ (∀ n, Instr.sameBits (n + 1) m.key u = true) ∧ ERs P ρ es' (en.set (j - i) { m with key := u, val := vv })
  | _, _, .nil, es', c', i, h => by
    change some ([(x, v, c)], c + 1) = some (es', c') at h
    simp at h
    obtain ⟨rfl, rfl⟩ := h
    exact ⟨none, .nil i, rfl, .cons _ _ _ _ ⟨hx, hv, rfl⟩ .nil⟩
  | _, _, .cons e m l l' he hl, es', c', i, h => by
    obtain ⟨k', v', n⟩ := e
    obtain ⟨hk', hv', hn'⟩ := he
    simp only at hk' hv' hn'
    unfold updE at h
    cases hb : q.run x k' with
    | none => rw [hb] at h; cases h
    | some b =>
      rw [hb] at h
      have ht := hq k' m.key b hk' hb
      cases b with
      | true =>
        obtain ⟨h1, h2⟩ := bt_inv2 h
        obtain ⟨h3, h4⟩ := bt_both h1
        have hkk := avEq_eq x k' h4
        subst hkk
        simp only [Option.some.injEq, Prod.mk.injEq] at h2
        obtain ⟨rfl, rfl⟩ := h2
        refine ⟨_, .hit m l' i ht, rfl, Nat.le_refl i, m, by simp, fun n => ground_same hk' hx h3 n, ?_⟩
        rw [Nat.sub_self, List.set_cons_zero]
        exact .cons _ _ _ _ ⟨hx, hv, hn'⟩ hl
      | false =>
        simp only at h
        cases hu : updE q x v c l with
        | none => rw [hu] at h; cases h
        | some p =>
          rw [hu] at h
          simp only [Option.some.injEq, Prod.mk.injEq] at h
          obtain ⟨rfl, rfl⟩ := h
          obtain ⟨r, h1, h2⟩ := updE_at hq hx hv hl (i + 1) hu
          refine ⟨r, .miss m l' i r ht h1, ?_⟩
          cases r with
          | none => exact ⟨h2.1, .cons _ _ _ _ ⟨hk', hv', hn'⟩ h2.2⟩
          | some jv =>
            obtain ⟨j, vj⟩ := jv
            obtain ⟨h3, h4, m', h5, h6, h7⟩ := h2
            have hj : j - i = (j - (i + 1)) + 1 := by omega
            refine ⟨h3, by omega, m', by rw [hj, List.getElem?_cons_succ]; exact h5, h6, ?_⟩
            rw [hj, List.set_cons_succ]
            exact .cons _ _ _ _ ⟨hk', hv', hn'⟩ h7
theorem delE_at {q : Eqf} {tst : Value → Bool → Prop} {x : AV} (hq : ∀ y m b, VR P ρ y m → q.run x y = some b → tst m b) : ∀ {es : List (AV × AV × Nat)} {en : List MapEntry}, ERs P ρ es en → ∀ {es' : List (AV × AV × Nat)} (i : Nat), delE q x es = some es' →
    ∃ r, FindAt tst en i r ∧ match r with
      | none => ERs P ρ es' en
      | some (j, _) => i ≤ j ∧ ERs P ρ es' (en.eraseIdx (j - i))
  | _, _, .nil, es', i, h => by
    change some [] = some es' at h
    simp at h; subst h
    exact ⟨none, .nil i, .nil⟩
  | _, _, .cons e m l l' he hl, es', i, h => by
    obtain ⟨k', v', n⟩ := e
    obtain ⟨hk', hv', hn'⟩ := he
    simp only at hk' hv' hn'
    unfold delE at h
    cases hb : q.run x k' with
    | none => rw [hb] at h; cases h
    | some b =>
      rw [hb] at h
      have ht := hq k' m.key b hk' hb
      cases b with
      | true =>
        simp only [Option.some.injEq] at h; subst h
        refine ⟨_, .hit m l' i ht, Nat.le_refl i, ?_⟩
        rw [Nat.sub_self, List.eraseIdx_cons_zero]; exact hl
      | false =>
        simp only at h
        cases hu : delE q x l with
        | none => rw [hu] at h; cases h
        | some p =>
          rw [hu] at h
          simp only [Option.some.injEq] at h; subst h
          obtain ⟨r, h1, h2⟩ := delE_at hq hl (i + 1) hu
          refine ⟨r, .miss m l' i r ht h1, ?_⟩
          cases r with
          | none => exact .cons _ _ _ _ ⟨hk', hv', hn'⟩ h2
          | some jv =>
            obtain ⟨j, vj⟩ := jv
            have hj : j - i = (j - (i + 1)) + 1 := by omega
            refine ⟨by omega, ?_⟩
            rw [hj, List.eraseIdx_cons_succ]
            exact .cons _ _ _ _ ⟨hk', hv', hn'⟩ h2.2
theorem mapOf_ud {t : Nat} {p : Nat × Nat} (h : mapOf E t = some p) : ud E t = some (.map p.1 p.2) := by
  unfold mapOf at h
  split at h
  · next k e q => simp at h; subst h; exact q
  · cases h
theorem WR.mapAt {H : Hp} (hw : WR P w0 ρ H w) {b : Nat} {x : Nat × Nat × Nat} (hx : ρ b = some x) {es : List (AV × AV × Nat)} {c : Nat} (hg : H.get b = some (.map es c)) : ∃ en, w.heap[x.1]? = some (.map en c) ∧ ERs P ρ es en.toList := by
  obtain ⟨o, ho, hr⟩ := hw.hr.live b _ x hg hx
  cases hr with
  | map _ _ en h => exact ⟨en, ho, h⟩
def mapNew (rr : Option (Nat × Value)) (en : Array MapEntry) (ku xu : Value) (c : Nat) : Array MapEntry := match rr with | none => en.push { key := ku, val := xu, born := c } | some (j, _) => en.modify j fun e => { e with key := ku, val := xu }
def mapClk (rr : Option (Nat × Value)) (c : Nat) : Nat := match rr with | none => c + 1 | some _ => c
def mapDel (rr : Option (Nat × Value)) (en : Array MapEntry) : Array MapEntry := match rr with | none => en | some (j, _) => en.eraseIdxIfInBounds j
theorem does_mapUpdate (hE : EnvOk P E) {o : Oper} {t : TypeId} {m k x : Operand} (ho : o.op = .mapUpdate t m k x) : Does P E o := by
  intro Φ hb ρ w0 w nt ds s a r hw hfr hf kk
  rw [ho]
  refine otC_ok hb fun p hp => otC_ok hb fun q hq => opd_ok hb hf fun mv hm => opd_ok hb hf fun kv hk => opd_ok hb hf fun xv hx => ot_ok hb fun c0 hself => AV.onMap_ok hb fun b e => ?_
  subst e
  generalize hmu : a.eval m = mu at hm
  generalize hku : a.eval k = ku at hk
  generalize hxu : a.eval x = xu at hx
  cases hm with
  | map _ y hy =>
  refine blk_ok hb fun ab hg => onMapB_ok hb fun es c eab => ot_ok hb fun p' hp' => upB_ok fun H' hH' => ?_
  subst eab
  obtain ⟨en, hh, hers⟩ := hw.mapAt hy hg
  have hpud := mapOf_ud hp
  obtain ⟨tst, ht1, ht2⟩ := key_find hE hq hk w
  obtain ⟨es', c'⟩ := p'
  obtain ⟨rr, hfind, hrr⟩ := updE_at ht1 hk hx hers 0 hp'
  have hkey := ht2 en.toList rr hfind
  have hck := (key_ok hE hq hk w hself).1
  have hrun : ∀ en', (en' : Array MapEntry) = mapNew rr en ku xu c →
      c' = mapClk rr c → (execOp a.eval o).run P w = .ok .skip { w with heap := w.heap.setIfInBounds y.1 (.map en' c') } := by
    intro en' he hc
    subst he
    have hset := fun o' => run_setObj' (P := P) (o' := o') hh (by intro c t f e; cases e)
    simp only [execOp, ho, hmu, hku, hxu, Instr.mapUpdate, Sem.run_bind, hE.run_underlying w hpud, Result.andThen_ok, run_getObj' hh (by intro c t f e; cases e), hck, hkey]
    cases rr with
    | none =>
      simp only [hset, Result.andThen_ok, Sem.run_pure, hc]
      rfl
    | some jv =>
      obtain ⟨j, vj⟩ := jv
      obtain ⟨_, _, mm, hmj, hsame, _⟩ := hrr
      have hmj' : en[j]? = some mm := by simpa using hmj
      have hkt : (Instr.keyThatStays (((en[j]?).map (·.key)).getD ku) ku).run P w = .ok ku w := by
        rw [hmj']
        simp [Instr.keyThatStays, hsame 9999]
      simp only [Sem.run_bind, hkt, Result.andThen_ok, hset, Sem.run_pure, hc]
      rfl
  have hwr : ∀ en', ERs P ρ es' en'.toList → WR P w0 ρ ⟨(acc AB 4 b).set s.h.bl (some (.map es' c')), s.h.nx⟩ { w with heap := w.heap.setIfInBounds y.1 (.map en' c') } := fun en' he =>
    WR.up (o' := .map en' c') (w' := { w with heap := w.heap.setIfInBounds y.1 (.map en' c') }) hw hg hy (.map es' c' en' he) rfl rfl rfl rfl s.h.nx
  have fin_ : ∀ en', (en' : Array MapEntry) = mapNew rr en ku xu c →
      c' = mapClk rr c → ERs P ρ es' en'.toList → Φ (finH o.dst (.tup []) H' s) := by
    intro en' he hc hers'
    have := hwr en' hers'
    rw [← hH'] at this
    exact kk ρ _ _ _ H' (Ext.same (by rw [hH'])) this (hfr.nx (by rw [hH'])) (.tup [] #[] .nil) (.inr ⟨hrun en' he hc, rfl⟩)
  cases rr with
  | none =>
    refine fin_ _ rfl hrr.1 ?_
    show ERs P ρ es' (en.push _).toList
    rw [Array.toList_push]; exact hrr.2
  | some jv =>
    obtain ⟨j, vj⟩ := jv
    obtain ⟨hc, _, mm, hmj, _, hers'⟩ := hrr
    refine fin_ _ rfl hc ?_
    have hmj' : en[j]? = some mm := by simpa using hmj
    have hjlt : j < en.size := (Array.getElem?_eq_some_iff.1 hmj').1
    have : (en.modify j fun e => { e with key := ku, val := xu }).toList = en.toList.set (j - 0) { mm with key := ku, val := xu } := by
      apply List.ext_getElem?
      intro i
      rw [Array.getElem?_toList, Array.getElem?_modify, List.getElem?_set, Nat.sub_zero]
      by_cases e : j = i
      · subst e
        rw [if_pos rfl, if_pos rfl, if_pos (by simpa using hjlt), hmj']; rfl
      · rw [if_neg e, if_neg e, Array.getElem?_toList]
    show ERs P ρ es' (en.modify j fun e => { e with key := ku, val := xu }).toList
    rw [this]; exact hers'
theorem does_delete (hE : EnvOk P E) {o : Oper} {c : Call} (ho : o.op = .call c) (hc : c.callee = .builtin .delete) : Does P E o := by
  intro Φ hb ρ w0 w nt ds s a r hw hfr hf k
  rw [ho]
  show Φ (((@Callee.rec (fun _ => Cl) _ _ _ c.callee : Cl)).run r s)
  rw [hc]
  refine otC_ok hb fun F hF => opds_ok hb hf fun args hargs => ?_
  change biDelete E c.argTypes.toList = some F at hF
  unfold biDelete at hF
  split at hF
  · next t rest hats =>
    obtain ⟨p, hp, hF⟩ := ot_inv hF
    obtain ⟨q, hq, hF⟩ := ot_inv hF
    simp only [Option.some.injEq] at hF; subst hF
    refine twob_ok hb fun x y hxy => ?_
    subst hxy
    obtain ⟨mu, ku, huv, hm, hk⟩ := hargs.two_inv
    have h0 : c.argTypes[0]? = some t := by rw [← Array.getElem?_toList, hats]; rfl
    refine ot_ok hb fun c0 hself => AV.onMap_ok hb fun b e => ?_
    subst e
    cases hm with
    | map _ z hz =>
    refine blk_ok hb fun ab hg => onMapB_ok hb fun es cl eab => ot_ok hb fun es' hp' => upB_ok fun H' hH' => ?_
    subst eab
    obtain ⟨en, hh, hers⟩ := hw.mapAt hz hg
    have hpud := mapOf_ud hp
    obtain ⟨tst, ht1, ht2⟩ := key_find hE hq hk w
    obtain ⟨rr, hfind, hrr⟩ := delE_at ht1 hers 0 hp'
    have hkey := ht2 en.toList rr hfind
    have hck := (key_ok hE hq hk w hself).1
    have fin_ : ∀ en', (en' : Array MapEntry) = mapDel rr en → ERs P ρ es' en'.toList → Φ (finH o.dst (.tup []) H' s) := by
      intro en' he hers'
      have hwr : WR P w0 ρ ⟨(acc AB 4 b).set s.h.bl (some (.map es' cl)), s.h.nx⟩ { w with heap := w.heap.setIfInBounds z.1 (.map en' cl) } :=
        WR.up (o' := .map en' cl) (w' := { w with heap := w.heap.setIfInBounds z.1 (.map en' cl) }) hw hg hz (.map es' cl en' hers') rfl rfl rfl rfl s.h.nx
      rw [← hH'] at hwr
      refine k ρ _ _ undef H' (Ext.same (by rw [hH'])) hwr (hfr.nx (by rw [hH'])) (.tup [] #[] .nil) (.inl ?_)
      rw [run_call_builtin ho hc, arr_two huv]
      have hset := fun o' => run_setObj' (P := P) (o' := o') hh (by intro c t f e; cases e)
      simp only [builtin, Builtin.delete_, h0, List.getElem?_toArray, List.getElem?_cons_zero, List.getElem?_cons_succ, Sem.run_bind, hE.run_underlying w hpud, Result.andThen_ok, run_getObj' hh (by intro c t f e; cases e), hck, hkey]
      subst he
      cases rr with
      | none => simp only [Sem.run_bind, hset, Result.andThen_ok, Sem.run_pure]; rfl
      | some jv => obtain ⟨j, vj⟩ := jv; simp only [Sem.run_bind, hset, Result.andThen_ok, Sem.run_pure]; rfl
    cases rr with
    | none => exact fin_ _ rfl hrr
    | some jv =>
      obtain ⟨j, vj⟩ := jv
      refine fin_ _ rfl ?_
      have : (en.eraseIdxIfInBounds j).toList = en.toList.eraseIdx (j - 0) := by
        rw [Nat.sub_zero]
        unfold Array.eraseIdxIfInBounds
        split
        · simp
        · next hge => rw [List.eraseIdx_of_length_le (by simpa using hge)]
      show ERs P ρ es' (en.eraseIdxIfInBounds j).toList
      rw [this]; exact hrr.2
  · cases hF
end Go.Ev
