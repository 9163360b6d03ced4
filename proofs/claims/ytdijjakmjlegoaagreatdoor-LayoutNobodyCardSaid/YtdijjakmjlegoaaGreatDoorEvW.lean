/-
  LOOKUPS, LENGTHS, AGGREGATES BUILT.
-/
import Derived.Test.YtdijjakmjlegoaaGreatDoorEvV
namespace Go.Ev
open Go.RowKit (Below)
variable {P : Program} {E : Env} {ρ ρ' : Rho} {w0 w : World} {Φ : Out → Prop}

theorem run_getObj' {r : Nat} {o : Obj} (h : w.heap[r]? = some o) (hn : ∀ c t f, o ≠ .cells c t f) : (getObj r).run P w = .ok o w := by
  simp only [getObj, Sem.run, h]
/-! ### keys -/
theorem keyFields_eq (e : Bool) (d : Nat) (xs : Array Value) (fs : Array Field) (t : Nat) (w : World) (hu : P.underlying t = some (.struct fs))
    (h : ∀ f ∈ fs.toList, f.name ≠ "_" → ∃ u, (part f.type xs f.offset).run P w = .ok u w ∧ (Instr.checkKey e d f.type u).run P w = .ok () w) : (Instr.checkKey e (d + 1) t (.agg xs)).run P w = .ok () w := by
  have hr : (underlying t).run P w = .ok (.struct fs) w := by simp [underlying, hu]
  simp only [Instr.checkKey, Sem.run_bind, hr, Result.andThen_ok]
  rw [← Array.forIn_toList]
  generalize fs.toList = l at h
  induction l with
  | nil => simp
  | cons f l ih =>
    rw [List.forIn_cons]
    have ih := ih fun g hg => h g (by simp [hg])
    by_cases hn : f.name ≠ "_"
    · obtain ⟨u, h1, h2⟩ := h f (by simp) hn
      rw [if_pos hn]
      simp only [Sem.run_bind, h1, h2, Result.andThen_ok, Sem.run_pure]
      simpa using ih
    · rw [if_neg hn]
      simpa using ih
theorem planL_mem (rc : Nat → Nat → Option (List (Nat × Nat))) (n o : Nat) : ∀ (fs : List Field) (l : List (Nat × Nat)), planL E rc n o fs = some l → ∀ f ∈ fs, f.name ≠ "_" →
    ∃ m g k, szOf E f.type = some m ∧ isA E f.type = some g ∧ 0 < m ∧ f.offset + m ≤ n ∧ rc f.type (o + f.offset) = some k
  | [], l, h, f, hf, _ => by simp at hf
  | x :: fs, l, h, f, hf, hn => by
    change ot (szOf E x.type) none (fun m => ot (isA E x.type) none fun _ => ot (planL E rc n o fs) none fun k =>
      if x.name ≠ "_" then nt m none fun _ => bt (Nat.ble (Nat.add x.offset m) n) (ot (rc x.type (Nat.add o x.offset)) none fun l => some (app l k)) none else some k) = some l at h
    cases h1 : szOf E x.type with
    | none => rw [h1] at h; cases h
    | some m =>
      cases h2 : isA E x.type with
      | none => rw [h1, h2] at h; cases h
      | some g =>
        cases h3 : planL E rc n o fs with
        | none => rw [h1, h2, h3] at h; cases h
        | some k =>
          rw [h1, h2, h3] at h
          simp only [ot_some] at h
          simp only [List.mem_cons] at hf
          rcases hf with rfl | hf
          · rw [if_pos hn] at h
            cases m with
            | zero => cases h
            | succ m =>
              rw [nt_succ] at h
              cases h4 : Nat.ble (Nat.add f.offset (m + 1)) n with
              | false => rw [h4] at h; cases h
              | true =>
                rw [h4, bt_true] at h
                cases h5 : rc f.type (Nat.add o f.offset) with
                | none => rw [h5] at h; cases h
                | some l1 => exact ⟨m + 1, g, l1, h1, h2, Nat.succ_pos m, Nat.le_of_ble_eq_true h4, rfl⟩
          · exact planL_mem rc n o fs k h3 f hf hn
theorem planF_key (hE : EnvOk P E) {xs : Array Value} (e : Bool) (w : World) :
    ∀ (f t o : Nat) (l : List (Nat × Nat)), planF E f t o = some l → ∀ d, f ≤ d → ∀ n, szOf E t = some n → 0 < n → o + n ≤ xs.size → ∃ u, (part t xs o).run P w = .ok u w ∧ (Instr.checkKey e d t u).run P w = .ok () w
  | 0, t, o, l, h => by cases h
  | f + 1, t, o, l, h => by
    intro d hd n hn hn0 hxs
    obtain ⟨d, rfl⟩ : ∃ e, d = e + 1 := ⟨d - 1, by omega⟩
    have hxo : ∃ u, xs[o]? = some u := ⟨xs[o], Array.getElem?_eq_getElem (by omega)⟩
    obtain ⟨u, hu⟩ := hxo
    unfold planF at h
    split at h
    · next e => exact ⟨u, run_part_atom hE (by simp [isA, e]) hu w, by simp [Instr.checkKey, hE.run_underlying w e]⟩
    · next k e => exact ⟨u, run_part_atom hE (by simp [isA, e]) hu w, by simp [Instr.checkKey, hE.run_underlying w e]⟩
    · next e => exact ⟨u, run_part_atom hE (by simp [isA, e]) hu w, by simp [Instr.checkKey, hE.run_underlying w e]⟩
    · next fs q =>
      cases hq : inB t E.eqs with
      | false => rw [hq] at h; cases h
      | true =>
        rw [hq, bt_true, hn, ot_some] at h
        refine ⟨_, run_part_agg hE (by simp [isA, q]) hn w, keyFields_eq e d _ fs t w (hE.ud q) fun x hx hxn => ?_⟩
        obtain ⟨m, g, k, h1, h2, h3, h4, h5⟩ := planL_mem (planF E f) n o fs.toList l h x hx hxn
        obtain ⟨u, hu1, hu2⟩ := planF_key hE (xs := xs) e w f x.type (o + x.offset) k h5 d (by omega) m h1 h3 (by omega)
        exact ⟨u, by rw [part_extract hE h1 h2 h4 hxs (fun _ => .inr (by omega)) w]; exact hu1, hu2⟩
    · cases h
theorem same_ok {d : TypeDesc} {q : Nat} (hk : KdOf d q) (h1 : 0 < q) {x y : AV} {u v : Value} (hx : VR P ρ x u) (hy : VR P ρ y v) {b : Bool} (h : eqKd q x y = some b) : Instr.sameNow d u v = some b := by
  rcases hk with ⟨rfl, rfl⟩ | ⟨⟨k, rfl⟩, rfl⟩ | ⟨rfl, rfl⟩
  · omega
  · cases hx <;> cases hy <;> try (cases h; done)
    next k n' k' m =>
    change bt (eqK k k') (some (eqI n' m)) none = some b at h
    rw [eqK_eq, eqI_eq] at h
    by_cases e : k = k'
    · subst e; simp at h; subst h
      simp [Instr.sameNow]; rw [Bool.eq_iff_iff]; simp
    · simp [e] at h
  · cases hx <;> cases hy <;> try (cases h; done)
    next s s' =>
    change some (eqL _ _) = some b at h
    rw [eqL_eq] at h; simp only [Option.some.injEq] at h; subst h
    simp only [Instr.sameNow]
    congr 1
    have hbeq : (s == s') = (s.data == s'.data) := rfl
    rw [hbeq, Bool.eq_iff_iff, beq_iff_eq, decide_eq_true_eq]
    constructor
    · intro e; rw [e]
    · intro e
      exact Array.toList_inj.1 ((List.map_inj_right fun a b h => UInt8.toNat_inj.1 h).1 e)
/-- a search and the model's own -/
def FR (P : Program) (ρ : Rho) : Option AV → Option (Nat × Value) → Prop
  | none, none => True
  | some v, some (_, u) => VR P ρ v u
  | _, _ => False
theorem findE_now {d : TypeDesc} {q : Nat} (hk : KdOf d q) (h1 : 0 < q) {x : AV} {u : Value} (hx : VR P ρ x u) : ∀ {es : List (AV × AV × Nat)} {en : List MapEntry}, ERs P ρ es en → ∀ {r : Option AV} (i : Nat), findE ⟨eqKd q⟩ x es = some r →
    ∃ r', Instr.findNow d u en i = some r' ∧ FR P ρ r r'
  | _, _, .nil, r, i, h => by
    change some none = some r at h
    simp at h; subst h; exact ⟨none, rfl, trivial⟩
  | _, _, .cons e m l l' he hl, r, i, h => by
    obtain ⟨k', v', n⟩ := e
    obtain ⟨hk', hv', hn'⟩ := he
    unfold findE at h
    simp only at hk' hv' h
    cases hb : eqKd q x k' with
    | none => rw [hb] at h; cases h
    | some b =>
      rw [hb] at h
      have hs := same_ok hk h1 hx hk' hb
      cases b with
      | true => simp at h; subst h; exact ⟨some (i, m.val), by simp [Instr.findNow, hs], hv'⟩
      | false =>
        obtain ⟨r', h2, h3⟩ := findE_now hk h1 hx hl (i + 1) h
        exact ⟨r', by simp [Instr.findNow, hs, h2], h3⟩
theorem findE_ask {q : Eqf} {t : Nat} (w : World) {x : AV} {u : Value} (hq : ∀ y v b, VR P ρ y v → q.run x y = some b → (Op.equal t u v).run P w = .ok b w) : ∀ {es : List (AV × AV × Nat)} {en : List MapEntry}, ERs P ρ es en → ∀ {r : Option AV} (i : Nat), findE q x es = some r →
    ∃ r', (Instr.findAsking t u en i).run P w = .ok r' w ∧ FR P ρ r r'
  | _, _, .nil, r, i, h => by
    change some none = some r at h
    simp at h; subst h; exact ⟨none, rfl, trivial⟩
  | _, _, .cons e m l l' he hl, r, i, h => by
    obtain ⟨k', v', n⟩ := e
    obtain ⟨hk', hv', hn'⟩ := he
    unfold findE at h
    simp only at hk' hv' h
    cases hb : q.run x k' with
    | none => rw [hb] at h; cases h
    | some b =>
      rw [hb] at h
      have hs := hq k' m.key b hk' hb
      cases b with
      | true => simp at h; subst h; exact ⟨some (i, m.val), by simp [Instr.findAsking, hs], hv'⟩
      | false =>
        obtain ⟨r', h2, h3⟩ := findE_ask w hq hl (i + 1) h
        exact ⟨r', by simp [Instr.findAsking, hs, h2], h3⟩
theorem checkKey_at {e : Bool} {t : Nat} {u : Value} {w : World} (h : ∀ d, 6 ≤ d → (Instr.checkKey e d t u).run P w = .ok () w) : (Instr.checkKey e 10000 t u).run P w = .ok () w := h 10000 (by omega)
/-- a key and a map's entries -/
theorem key_ok (hE : EnvOk P E) {t : Nat} {q : Eqf} (h : keyF E t = some q) {x : AV} {u : Value} (hx : VR P ρ x u) (w : World) {c : Bool} (hself : q.run x x = some c) :
    (∀ e, (Instr.checkKey e 10000 t u).run P w = .ok () w) ∧ ∀ {es : List (AV × AV × Nat)} {en : List MapEntry} {r : Option AV}, ERs P ρ es en → findE q x es = some r → ∃ r', (Instr.findKey t u en).run P w = .ok r' w ∧ FR P ρ r r' := by
  have ck0 : ∀ {d : TypeDesc}, ud E t = some d → (d = .string ∨ ∃ k, d = .int k) → ∀ e, (Instr.checkKey e 10000 t u).run P w = .ok () w := by
    intro d hd hk e
    refine checkKey_at fun m hm => ?_
    obtain ⟨m, rfl⟩ : ∃ e, m = e + 1 := ⟨m - 1, by omega⟩
    rcases hk with rfl | ⟨k, rfl⟩ <;> simp [Instr.checkKey, hE.run_underlying w hd]
  unfold keyF at h
  split at h
  · next k e =>
    simp only [Option.some.injEq] at h; subst h
    refine ⟨ck0 e (.inr ⟨k, rfl⟩), fun hes hr => ?_⟩
    obtain ⟨r', h1, h2⟩ := findE_now (.inr (.inl ⟨⟨k, rfl⟩, rfl⟩)) (by omega) hx hes 0 hr
    exact ⟨r', by simp [Instr.findKey, hE.run_underlying w e, h1], h2⟩
  · next e =>
    simp only [Option.some.injEq] at h; subst h
    refine ⟨ck0 e (.inl rfl), fun hes hr => ?_⟩
    obtain ⟨r', h1, h2⟩ := findE_now (.inr (.inr ⟨rfl, rfl⟩)) (by omega) hx hes 0 hr
    exact ⟨r', by simp [Instr.findKey, hE.run_underlying w e, h1], h2⟩
  · next fs e =>
    cases hl : plan E t with
    | none => rw [hl] at h; cases h
    | some l =>
      cases hn : szOf E t with
      | none => rw [hl, hn] at h; cases h
      | some n =>
        rw [hl, hn] at h
        simp only [ot_some] at h
        cases n with
        | zero => cases h
        | succ n =>
        simp only [nt_succ, Option.some.injEq] at h; subst h
        have hF : eqOf E t false = some ⟨rowEq (n + 1) l⟩ := by simp [eqOf, e, hl, hn]
        refine ⟨fun em => ?_, fun hes hr => ?_⟩
        · cases hx <;> try (cases hself; done)
          next A xs hA =>
          change bt (Nat.beq (lenL A) (n + 1)) _ none = some c at hself
          rw [lenL_eq] at hself
          cases h1 : Nat.beq A.length (n + 1) with
          | false => rw [h1] at hself; cases hself
          | true =>
            have l1 := Nat.eq_of_beq_eq_true h1
            have hA' := hA.length
            have hsz : xs.size = n + 1 := by simpa using hA'.symm.trans l1
            refine checkKey_at fun d hd => ?_
            obtain ⟨u, hu, h2⟩ := planF_key hE (xs := xs) em w 6 t 0 l hl d hd (n + 1) hn (Nat.succ_pos n) (by omega)
            rw [run_part_agg hE (by simp [isA, e]) hn w] at hu
            cases hu
            have e1 : xs.extract 0 (0 + (n + 1)) = xs := by rw [← hsz, Nat.zero_add]; exact Array.extract_size
            rw [e1] at h2; exact h2
        · obtain ⟨r', h1, h2⟩ := findE_ask (u := u) (t := t) w (fun y v b hy hb => (eqOf_ok hE hF (by simp [isStr, e]) (by simp [isInt, e]) hx hy hb (X := .tmp 0) (Y := .tmp 0) (by simp) w).eq) hes 0 hr
          cases hes with
          | nil => exact ⟨none, by simp [Instr.findKey, hE.run_underlying w e, Instr.findNow], by simp [findE] at hr; subst hr; trivial⟩
          | cons e' m l l' he hl' =>
            have hnow : Instr.findNow (.struct fs) u (m :: l') 0 = none := by
              unfold Instr.findNow
              have : Instr.sameNow (.struct fs) u m.key = none := by cases u <;> rfl
              rw [this]
            exact ⟨r', by simp [Instr.findKey, hE.run_underlying w e, hnow, h1], h2⟩
  · cases h
theorem reads_lookup (hE : EnvOk P E) {o : Oper} {t : TypeId} {x i : Operand} {ok : Bool} (ho : o.op = .lookup t x i ok) : Reads P E o := by
  intro Φ hb ρ w0 w nt ds s a r hw hf h
  rw [ho]
  refine otC_ok hb fun p hp => otC_ok hb fun q hq => otC_ok hb fun z hz => opd_ok hb hf fun m hm => opd_ok hb hf fun k hk => ot_ok hb fun c hself => ?_
  obtain ⟨zv, hzr, hzv⟩ := hE.zero hz w ρ
  have two : ∀ {p : AV} {q : Value} (c : Bool), VR P ρ p q → VR P ρ (.tup [p, .bool c]) (.tuple #[q, .bool c]) := fun c h => .tup _ _ (.cons _ _ _ _ h (.cons _ _ _ _ (.bool c) .nil))
  obtain ⟨hck, hfind⟩ := key_ok hE hq hk w hself
  generalize hu : a.eval x = u at hm
  generalize hui : a.eval i = ui at hk hck hfind
  have hp' : ud E t = some (.map p.1 p.2) := by
    unfold mapOf at hp
    split at hp
    · next k e h => simp at hp; subst hp; exact h
    · cases hp
  have last : ∀ (es : List (AV × AV × Nat)) (en : Array MapEntry), ERs P ρ es en.toList → (∀ r', (Instr.findKey p.1 ui en.toList).run P w = .ok r' w →
      (Instr.lookup t u ui ok).run P w = .ok (match (match r' with | some (_, v) => (v, true) | none => (zv, false)) with | (v, c) => if ok then .tuple #[v, .bool c] else v) w) →
      ∀ n, Φ (ot (findE q k es) (.bad_ n) fun r => ot r (fin o.dst (bt ok (.tup [z, .bool false]) z) s) fun v => fin o.dst (bt ok (.tup [v, .bool true]) v) s) := by
    intro es en hes hX n
    refine ot_ok hb fun r hr => ?_
    obtain ⟨r', h1, h2⟩ := hfind hes hr
    have hX := hX r' h1
    cases r' with
    | none =>
      cases r with
      | some v => cases h2
      | none =>
        cases ok with
        | true => exact h _ _ (two false hzv) (by simp [execOp, ho, hu, hui, hX])
        | false => exact h _ _ hzv (by simp [execOp, ho, hu, hui, hX])
    | some iv =>
      obtain ⟨i', v'⟩ := iv
      cases r with
      | none => cases h2
      | some v =>
        cases ok with
        | true => exact h _ _ (two true h2) (by simp [execOp, ho, hu, hui, hX])
        | false => exact h _ _ h2 (by simp [execOp, ho, hu, hui, hX])
  unfold mapEs
  cases hm with
  | nilmap =>
    refine last [] #[] .nil (fun r' hr' => ?_) _
    simp only [Instr.lookup, Sem.run_bind, hE.run_underlying w hp', Result.andThen_ok, Sem.run_pure, hck, hr']
    cases r' with
    | none => simp [hzr]
    | some iv => simp
  | map b y hy =>
    refine blk_ok hb fun ab hg => onMapB_ok hb fun es cl e => ?_
    subst e
    obtain ⟨ob, hob, hbr⟩ := hw.hr.live b _ y hg hy
    cases hbr with
    | map es cl en hes =>
    refine last es en hes (fun r' hr' => ?_) _
    simp only [Instr.lookup, Sem.run_bind, hE.run_underlying w hp', Result.andThen_ok, Sem.run_pure, run_getObj' hob (by simp), hck, hr']
    cases r' with
    | none => simp [hzr]
    | some iv => simp
  | _ => exact hb _

/-! ### builtins that read -/
theorem run_call_builtin {o : Oper} {c : Call} {b : Builtin} (ho : o.op = .call c) (hc : c.callee = .builtin b) (a : Act) (w : World) :
    (execOp a.eval o).run P w = (builtin b c.argTypes o.type (c.args.map fun | .const _ => true | _ => false) (c.args.map a.eval)).run P w := by
  simp [execOp, ho, resolve, hc, invoke]
  rfl
theorem oneb_ok (hb : ∀ c, Φ (.bad_ c)) {args : List AV} {K : AV → Out} (h : ∀ x, args = [x] → Φ (K x)) : Φ (one1 args K) := by
  unfold one1
  split
  · exact h _ rfl
  · exact hb _
theorem VRs.one_inv {x : AV} {m : List Value} (h : VRs P ρ [x] m) : ∃ u, m = [u] ∧ VR P ρ x u := by
  cases h with
  | cons _ _ v' l' h hl => cases hl; exact ⟨v', rfl, h⟩
theorem arr_one {f : Operand → Value} {a : Array Operand} {u : Value} (h : a.toList.map f = [u]) : a.map f = #[u] := by
  apply Array.toList_inj.1; rw [Array.toList_map]; exact h
theorem ats_one {a : Array TypeId} {t : TypeId} (h : a.toList = [t]) : a = #[t] := Array.toList_inj.1 h
theorem reads_len (hE : EnvOk P E) {o : Oper} {c : Call} (ho : o.op = .call c) (hc : c.callee = .builtin .len) : Reads P E o := by
  intro Φ hb ρ w0 w nt ds s a r hw hf h
  have hk : ∀ u (n : Int), (builtin .len c.argTypes o.type (c.args.map fun | .const _ => true | _ => false) (c.args.map a.eval)).run P w = .ok (.value u) w → VR P ρ (.int .i64 n) u → Φ (finH o.dst (.int .i64 n) s.h s) := by
    intro u n hr hv
    rw [← fin_eq]
    exact h _ _ hv (by rw [run_call_builtin ho hc]; exact hr)
  rw [ho]
  show Φ (((@Callee.rec (fun _ => Cl) _ _ _ c.callee : Cl)).run r s)
  rw [hc]
  refine otC_ok hb fun F hF => opds_ok hb hf fun args hargs => ?_
  change biLen E c.argTypes.toList = some F at hF
  unfold biLen at hF
  split at hF
  · next t ht =>
    have ht := ats_one ht
    have str : ud E t = some .string → Φ (one1 args fun x => AV.onStr x fun s' => forceNat (lenL s') fun n => finH o.dst (.int .i64 (.ofNat n)) s.h s) := by
      intro e
      refine oneb_ok hb fun x hx => AV.onStr_ok hb fun p e' => ?_
      subst hx; subst e'
      obtain ⟨u, hu, hr⟩ := hargs.one_inv
      obtain ⟨s', rfl, rfl⟩ := hr.str_inv
      rw [forceNat_eq, lenL_eq]
      refine hk (.int .i64 (s'.size : Int)) _ ?_ ?_
      · rw [arr_one hu, ht]
        simp [builtin, Builtin.len_, hE.run_underlying w e, goInt]
      · have : (List.map UInt8.toNat s'.data.toList).length = s'.size := by simp
        rw [this]; exact .int _ _
    have sl : ∀ el, ud E t = some (.slice el) → Φ (one1 args fun x => lenS x s.h fun v h => finH o.dst v h s) := by
      intro el e
      refine oneb_ok hb fun x hx => ?_
      subst hx
      obtain ⟨u, hu, hr⟩ := hargs.one_inv
      cases hr with
      | sl b off n lo ex cap y hy =>
        refine hk (.int .i64 (n : Int)) _ ?_ (.int _ _)
        rw [arr_one hu, ht]
        simp [builtin, Builtin.len_, hE.run_underlying w e, goInt]
      | esl ad cap =>
        refine hk (.int .i64 (0 : Int)) _ ?_ (.int _ _)
        rw [arr_one hu, ht]
        simp [builtin, Builtin.len_, hE.run_underlying w e, goInt]
      | nilsl =>
        refine hk (.int .i64 (0 : Int)) _ ?_ (.int _ _)
        rw [arr_one hu, ht]
        simp [builtin, Builtin.len_, hE.run_underlying w e, goInt]
      | _ => exact hb _
    have mp : ∀ k el, ud E t = some (.map k el) → Φ (one1 args fun x => lenM x s.h fun v h => finH o.dst v h s) := by
      intro k el e
      refine oneb_ok hb fun x hx => ?_
      subst hx
      obtain ⟨u, hu, hr⟩ := hargs.one_inv
      cases hr with
      | map b y hy =>
        refine blk_ok hb fun ab hg => onMapB_ok hb fun es cl e' => ?_
        subst e'
        obtain ⟨ob, hob, hbr⟩ := hw.hr.live b _ y hg hy
        cases hbr with
        | map es cl en hes =>
        rw [forceNat_eq, lenL_eq]
        have hlen : es.length = en.size := by
          have : ∀ {l : List (AV × AV × Nat)} {m : List MapEntry}, ERs P ρ l m → l.length = m.length := by
            intro l m h
            induction h with
            | nil => rfl
            | cons _ _ _ _ _ _ ih => simp [ih]
          simpa using this hes
        refine hk (.int .i64 (en.size : Int)) _ ?_ (by rw [hlen]; exact .int _ _)
        rw [arr_one hu, ht]
        simp [builtin, Builtin.len_, hE.run_underlying w e, goInt, run_getObj' hob (by simp)]
      | nilmap =>
        refine hk (.int .i64 (0 : Int)) _ ?_ (.int _ _)
        rw [arr_one hu, ht]
        simp [builtin, Builtin.len_, hE.run_underlying w e, goInt]
      | _ => exact hb _
    have ar : ∀ n el, ud E t = some (.array n el) → Φ (one1 args fun _ => finH o.dst (.int .i64 (.ofNat n)) s.h s) := by
      intro n el e
      refine oneb_ok hb fun x hx => ?_
      subst hx
      obtain ⟨u, hu, hr⟩ := hargs.one_inv
      refine hk (.int .i64 (n : Int)) _ ?_ (.int _ _)
      rw [arr_one hu, ht]
      simp [builtin, Builtin.len_, hE.run_underlying w e, goInt]
    split at hF
    · next e => simp only [Option.some.injEq] at hF; subst hF; exact str e
    · next el e => simp only [Option.some.injEq] at hF; subst hF; exact sl el e
    · next k el e => simp only [Option.some.injEq] at hF; subst hF; exact mp k el e
    · next n el e => simp only [Option.some.injEq] at hF; subst hF; exact ar n el e
    · cases hF
  · cases hF

theorem reads_cap (hE : EnvOk P E) {o : Oper} {c : Call} (ho : o.op = .call c) (hc : c.callee = .builtin .cap) : Reads P E o := by
  intro Φ hb ρ w0 w nt ds s a r hw hf h
  have hk : ∀ u (n : Int), (builtin .cap c.argTypes o.type (c.args.map fun | .const _ => true | _ => false) (c.args.map a.eval)).run P w = .ok (.value u) w → VR P ρ (.int .i64 n) u → Φ (finH o.dst (.int .i64 n) s.h s) := by
    intro u n hr hv
    rw [← fin_eq]
    exact h _ _ hv (by rw [run_call_builtin ho hc]; exact hr)
  rw [ho]
  show Φ (((@Callee.rec (fun _ => Cl) _ _ _ c.callee : Cl)).run r s)
  rw [hc]
  refine otC_ok hb fun F hF => opds_ok hb hf fun args hargs => ?_
  change biCap E c.argTypes.toList = some F at hF
  unfold biCap at hF
  split at hF
  · next t ht =>
    have ht := ats_one ht
    split at hF
    · next el e =>
      simp only [Option.some.injEq] at hF; subst hF
      refine oneb_ok hb fun x hx => ?_
      subst hx
      obtain ⟨u, hu, hr⟩ := hargs.one_inv
      cases hr with
      | nilsl =>
        refine hk _ (0 : Int) ?_ (.int _ _)
        rw [arr_one hu, ht]
        simp [builtin, Builtin.cap_, hE.run_underlying w e, goInt]
      | sl b off n lo ex cap y hy h1 h2 h3 =>
        cases ex with
        | false => exact hb _
        | true =>
          have := h3 rfl
          subst this
          refine hk _ (cap : Int) ?_ (.int _ _)
          rw [arr_one hu, ht]
          simp [builtin, Builtin.cap_, hE.run_underlying w e, goInt]
      | _ => exact hb _
    · cases hF
  · cases hF
theorem foldK_ok (hb : ∀ c, Φ (.bad_ c)) {f : AV → AV → (AV → Out) → Out} {g : Value → Value → Sem Value} (w : World) (hfg : ∀ (Φ : Out → Prop) (_ : ∀ c, Φ (.bad_ c)) x y u v K, VR P ρ x u → VR P ρ y v → (∀ r q, VR P ρ r q → (g u v).run P w = .ok q w → Φ (K r)) → Φ (f x y K)) :
    ∀ {l : List AV} {m : List Value} {x : AV} {u : Value} {K : AV → Out}, VRs P ρ l m → VR P ρ x u → (∀ r q, VR P ρ r q → (m.foldlM g u).run P w = .ok q w → Φ (K r)) → Φ (foldK f x l K)
  | _, _, x, u, K, .nil, hx, h => h x u hx (by simp)
  | _, _, x, u, K, .cons v l v' l' hv hl, hx, h => hfg Φ hb x v u v' _ hx hv fun r q hr hq => foldK_ok hb w hfg hl hr fun r' q' hr' hq' => h r' q' hr' (by simp [hq, hq'])
theorem reads_min {o : Oper} {c : Call} (ho : o.op = .call c) (hc : c.callee = .builtin .min) : Reads P E o := by
  intro Φ hb ρ w0 w nt ds s a r hw hf h
  rw [ho]
  show Φ (((@Callee.rec (fun _ => Cl) _ _ _ c.callee : Cl)).run r s)
  rw [hc]
  show Φ ((otC_ 0 (builtinF E .min c.argTypes.toList) (fun f => ⟨fun _ s => (opds ds c.args.toList).run s fun args => f.run args s.h fun v h => finH o.dst v h s⟩ : Bcf → Cl)).run r s)
  refine otC_ok hb fun F hF => opds_ok hb hf fun args hargs => ?_
  change some _ = some F at hF
  simp only [Option.some.injEq] at hF; subst hF
  cases args with
  | nil => exact hb _
  | cons x l =>
    generalize hm : c.args.toList.map a.eval = m at hargs
    cases hargs with
    | cons _ _ u m' hx hl =>
    refine foldK_ok (g := Builtin.min2) hb w ?_ hl hx fun r' q hr hq => ?_
    · intro Φ hb x y u v K hx hy h
      refine AV.onInt_ok hb fun k n e => AV.onInt_ok hb fun k' n' e' => ?_
      subst e; subst e'
      cases hx; cases hy
      exact h _ _ (.int _ _) (by simp [Builtin.min2, ltI_eq, bt_eq])
    · show Φ (finH o.dst _ s.h s); rw [← fin_eq]
      refine h _ _ hr ?_
      rw [run_call_builtin ho hc]
      simp [builtin, Builtin.min_, hm, hq]
theorem reads_max {o : Oper} {c : Call} (ho : o.op = .call c) (hc : c.callee = .builtin .max) : Reads P E o := by
  intro Φ hb ρ w0 w nt ds s a r hw hf h
  rw [ho]
  show Φ (((@Callee.rec (fun _ => Cl) _ _ _ c.callee : Cl)).run r s)
  rw [hc]
  show Φ ((otC_ 0 (builtinF E .max c.argTypes.toList) (fun f => ⟨fun _ s => (opds ds c.args.toList).run s fun args => f.run args s.h fun v h => finH o.dst v h s⟩ : Bcf → Cl)).run r s)
  refine otC_ok hb fun F hF => opds_ok hb hf fun args hargs => ?_
  change some _ = some F at hF
  simp only [Option.some.injEq] at hF; subst hF
  cases args with
  | nil => exact hb _
  | cons x l =>
    generalize hm : c.args.toList.map a.eval = m at hargs
    cases hargs with
    | cons _ _ u m' hx hl =>
    refine foldK_ok (g := Builtin.max2) hb w ?_ hl hx fun r' q hr hq => ?_
    · intro Φ hb x y u v K hx hy h
      refine AV.onInt_ok hb fun k n e => AV.onInt_ok hb fun k' n' e' => ?_
      subst e; subst e'
      cases hx; cases hy
      exact h _ _ (.int _ _) (by simp [Builtin.max2, ltI_eq, bt_eq])
    · show Φ (finH o.dst _ s.h s); rw [← fin_eq]
      refine h _ _ hr ?_
      rw [run_call_builtin ho hc]
      simp [builtin, Builtin.max_, hm, hq]
theorem uData_none (ats : Array TypeId) (ty : TypeId) (n c : Nat) (w : World) : (Builtin.unsafeSliceData_ ats ty #[.slice none n c]).run P w = .ok (.pointer none) w := rfl
theorem uData_some (ats : Array TypeId) (ty : TypeId) (a : Addr) (n c : Nat) (w : World) (h : c ≠ 0) : (Builtin.unsafeSliceData_ ats ty #[.slice (some a) n c]).run P w = .ok (.pointer (some a)) w := by
  show Sem.run P (if c ≠ 0 then pure (.pointer (some a)) else _ : Sem Value) w = _
  rw [if_pos h]; rfl
theorem reads_uData {o : Oper} {c : Call} (ho : o.op = .call c) (hc : c.callee = .builtin .unsafeSliceData) : Reads P E o := by
  intro Φ hb ρ w0 w nt ds s a r hw hf h
  rw [ho]
  show Φ (((@Callee.rec (fun _ => Cl) _ _ _ c.callee : Cl)).run r s)
  rw [hc]
  show Φ ((otC_ 0 (builtinF E .unsafeSliceData c.argTypes.toList) (fun f => ⟨fun _ s => (opds ds c.args.toList).run s fun args => f.run args s.h fun v h => finH o.dst v h s⟩ : Bcf → Cl)).run r s)
  refine otC_ok hb fun F hF => opds_ok hb hf fun args hargs => ?_
  change some _ = some F at hF
  simp only [Option.some.injEq] at hF; subst hF
  refine oneb_ok hb fun x hx => ?_
  subst hx
  obtain ⟨u, hu, hr⟩ := hargs.one_inv
  cases hr with
  | nilsl =>
    show Φ (finH o.dst _ s.h s); rw [← fin_eq]
    refine h _ _ .nilp ?_
    rw [run_call_builtin ho hc, arr_one hu]
    simp only [builtin, Sem.run_bind, uData_none, Result.andThen_ok, Sem.run_pure]
  | sl b off n lo ex cap y hy h1 h2 h3 =>
    cases lo with
    | zero => exact hb _
    | succ lo =>
      show Φ (finH o.dst _ s.h s); rw [← fin_eq]
      refine h _ _ (.ptr b off y hy) ?_
      rw [run_call_builtin ho hc, arr_one hu]
      simp only [builtin, Sem.run_bind, uData_some _ _ _ _ _ w (show cap ≠ 0 by omega), Result.andThen_ok, Sem.run_pure]
  | _ => exact hb _
end Go.Ev
