/-
  OPERATIONS THAT READ AT MOST, THE LAST: unary, indexes, type assertions, lengths, aggregates built.
-/
import Derived.Test.YtdijjakmjlegoaaGreatDoorEvU
namespace Go.Ev
open Go.RowKit (Below)
variable {P : Program} {E : Env} {ρ ρ' : Rho} {w0 w : World} {Φ : Out → Prop}

theorem VR.str_inv {p : List Nat} {u : Value} (h : VR P ρ (.str p) u) : ∃ s : ByteArray, u = .string s ∧ p = s.data.toList.map UInt8.toNat := by
  generalize hq : AV.str p = X at h
  cases h <;> cases hq
  exact ⟨_, rfl, rfl⟩
theorem reads_un {o : Oper} {op : UnOp} {t : TypeId} {x : Operand} (ho : o.op = .unOp op t x) : Reads P E o := by
  intro Φ hb ρ w0 w nt ds s a r hw hf h
  rw [ho]
  refine opd_ok hb hf fun v hv => ?_
  generalize hu : a.eval x = u at hv
  have hk : ∀ v q, VR P ρ v q → (Op.unary op u).run P w = .ok q w → Φ (fin o.dst v s) := fun v q hr hq => h v q hr (by simp only [execOp, ho, Sem.run_bind, hu, hq, Result.andThen_ok, Sem.run_pure])
  cases op with
  | neg =>
    refine AV.onInt_ok hb fun k n e => ?_
    subst e; cases hv
    rw [wrapK_eq]
    exact hk _ _ (.int _ _) (by simp [Op.unary, Op.intArith])
  | not =>
    refine AV.onBool_ok hb fun b e => ?_
    subst e; cases hv
    exact hk _ _ (.bool _) (by cases b <;> simp [Op.unary, bt])
  | xor =>
    refine AV.onInt_ok hb fun k n e => ?_
    subst e; cases hv
    rw [xorS, wrapS_eq]
    exact hk _ _ (.int _ _) (by simp [Op.unary, Op.intBits])
  | plus => exact hb _
theorem reads_convInt (hE : EnvOk P E) {o : Oper} {t t' : TypeId} {x : Operand} (ho : o.op = .convert t t' x) (h1 : isInt E t = true) (h2 : isInt E t' = true) : Reads P E o := by
  intro Φ hb ρ w0 w nt ds s a r hw hf h
  rw [ho]
  refine otC_ok hb fun F hF => opd_ok hb hf fun v hv => ?_
  unfold isInt at h1 h2
  unfold convF at hF
  split at h1
  · next k1 e1 =>
    split at h2
    · next k2 e2 =>
      rw [e1, e2] at hF
      simp only [Option.some.injEq] at hF; subst hF
      refine AV.onInt_ok hb fun k n e => ?_
      subst e
      rw [wrapK_eq]
      generalize hu : a.eval x = u at hv
      cases hv
      refine h _ _ (.int _ _) ?_
      simp [execOp, ho, hu, convert, hE.run_underlying w e1, hE.run_underlying w e2, Conv.intToInt]
    · cases h2
  · cases h1
theorem reads_indexAddr (hE : EnvOk P E) {o : Oper} {t : TypeId} {x i : Operand} (ho : o.op = .indexAddr t x i) : Reads P E o := by
  intro Φ hb ρ w0 w nt ds s a r hw hf h
  rw [ho]
  refine otC_ok hb fun F hF => opd_ok hb hf fun v hv => opd_ok hb hf fun iv hi => AV.onInt_ok hb fun k n e => natK_ok hb fun m e' => ?_
  subst e; subst e'
  generalize hu : a.eval x = u at hv
  generalize hui : a.eval i = ui at hi
  cases hi
  unfold idxC at hF
  split at hF
  · next el e =>
    cases hs : szOf E el with
    | none => rw [hs] at hF; cases hF
    | some es =>
      rw [hs, ot_some, Option.some.injEq] at hF; subst hF
      refine AV.onSl_ok hb fun b off n lo ex e' => bt_ok (fun q => ?_) (fun _ => hb _)
      subst e'
      rw [Nat.blt_eq] at q
      rw [forceNat_eq]
      cases hv with
      | sl b off n lo ex cap y hy =>
        refine h _ _ (.ptr b (off + m * es) y hy) ?_
        simp [execOp, ho, hu, hui, Instr.indexAt, asIntOf, hE.run_underlying w e, hE.run_sizeOf w hs, q, addr_add]
  · next N el e =>
    cases hs : szOf E el with
    | none => rw [hs] at hF; cases hF
    | some es =>
      rw [hs, ot_some, Option.some.injEq] at hF; subst hF
      refine AV.onPtr_ok hb fun b off e' => bt_ok (fun q => ?_) (fun _ => hb _)
      subst e'
      rw [Nat.blt_eq] at q
      rw [forceNat_eq]
      cases hv with
      | ptr b off y hy =>
        refine h _ _ (.ptr b (off + m * es) y hy) ?_
        simp [execOp, ho, hu, hui, Instr.indexAt, Instr.sureAddr, asIntOf, hE.run_underlying w e, hE.run_sizeOf w hs, q, addr_add]
  · cases hF
theorem reads_index (hE : EnvOk P E) {o : Oper} {t : TypeId} {x i : Operand} (ho : o.op = .index t x i) : Reads P E o := by
  intro Φ hb ρ w0 w nt ds s a r hw hf h
  rw [ho]
  refine otC_ok hb fun F hF => opd_ok hb hf fun v hv => opd_ok hb hf fun iv hi => AV.onInt_ok hb fun k n e => natK_ok hb fun m e' => ?_
  subst e; subst e'
  generalize hu : a.eval x = u at hv
  generalize hui : a.eval i = ui at hi
  cases hi
  unfold idxV at hF
  split at hF
  · next e =>
    simp only [Option.some.injEq] at hF; subst hF
    refine AV.onStr_ok hb fun p e' => ot_ok hb fun c hc => ?_
    subst e'
    obtain ⟨s', rfl, rfl⟩ := hv.str_inv
    rw [nth_eq, List.getElem?_map] at hc
    cases hg : s'.data.toList[m]? with
    | none => rw [hg] at hc; cases hc
    | some c' =>
      rw [hg] at hc; simp at hc; subst hc
      have hg' : s'[m]? = some c' := by
        have hlt : m < s'.data.toList.length := by
          rcases Nat.lt_or_ge m s'.data.toList.length with k | k
          · exact k
          · rw [List.getElem?_eq_none k] at hg; cases hg
        rw [List.getElem?_eq_getElem hlt] at hg
        have hlt' : m < s'.size := by simpa using hlt
        rw [getElem?_pos s' m hlt']
        have e1 : s'.data[m] = c' := by simpa using hg
        exact congrArg some e1
      refine h _ _ (.int .u8 _) ?_
      simp [execOp, ho, hu, hui, Instr.index, asIntOf, hE.run_underlying w e, hg']
  · next N el e =>
    cases hs : szOf E el with
    | none => rw [hs] at hF; cases hF
    | some es =>
      cases hg : isA E el with
      | none => rw [hs, hg] at hF; cases hF
      | some g =>
        rw [hs, hg, ot_some, ot_some, Option.some.injEq] at hF; subst hF
        refine AV.onAgg_ok hb fun l e' => bt_ok (fun q => ?_) (fun _ => hb _)
        subst e'
        rw [Nat.blt_eq] at q
        cases hv with
        | agg l c hl =>
          refine partK_ok (w := w) hE hb hl hs hg fun v u' hu' hr => h v u' hr ?_
          have hu'' : (part el c (m * es)).run P w = .ok u' w := hu'
          simp [execOp, ho, hu, hui, Instr.index, asIntOf, hE.run_underlying w e, hE.run_sizeOf w hs, q, hu'']
  · cases hF
theorem reads_typeAssert (hE : EnvOk P E) {o : Oper} {t t' : TypeId} {x : Operand} {ok : Bool} (ho : o.op = .typeAssert x t' t ok) : Reads P E o := by
  intro Φ hb ρ w0 w nt ds s a r hw hf h
  rw [ho]
  refine otC_ok hb fun d hd => btC_ok (fun _ => hb _) fun hni => otC_ok hb fun z hz => opd_ok hb hf fun v hv => ?_
  have hu := hE.run_underlying w hd
  have hni : ∀ ms, d ≠ .interface ms := by intro ms e; subst e; cases hni
  obtain ⟨zv, hzr, hzv⟩ := hE.zero hz w ρ
  generalize hx : a.eval x = u at hv
  have two : ∀ {p : AV} {q : Value} (c : Bool), VR P ρ p q → VR P ρ (.tup [p, .bool c]) (.tuple #[q, .bool c]) := fun c h => .tup _ _ (.cons _ _ _ _ h (.cons _ _ _ _ (.bool c) .nil))
  unfold tasK
  cases hv with
  | ifc t1 v v' hv =>
    refine bt_ok (fun q => ?_) (fun q => ?_)
    · have q := Nat.eq_of_beq_eq_true q
      subst q
      cases ok with
      | true => exact h _ _ (two true hv) (by simp only [execOp, ho, hx, Instr.typeAssert, Sem.run_bind, hu, Result.andThen_ok]; cases d <;> first | (exfalso; exact hni _ rfl) | simp)
      | false => exact h _ _ hv (by simp only [execOp, ho, hx, Instr.typeAssert, Sem.run_bind, hu, Result.andThen_ok]; cases d <;> first | (exfalso; exact hni _ rfl) | simp)
    · have q : t1 ≠ t := fun e => by subst e; rw [Nat.beq_refl] at q; cases q
      refine bt_ok (fun e => ?_) (fun _ => hb _)
      subst e
      exact h _ _ (two false hzv) (by simp only [execOp, ho, hx, Instr.typeAssert, Sem.run_bind, hu, Result.andThen_ok]; cases d <;> first | (exfalso; exact hni _ rfl) | simp [q, hzr])
  | nilifc =>
    refine bt_ok (fun e => ?_) (fun _ => hb _)
    subst e
    exact h _ _ (two false hzv) (by simp only [execOp, ho, hx, Instr.typeAssert, Sem.run_bind, hu, Result.andThen_ok]; cases d <;> first | (exfalso; exact hni _ rfl) | simp [hzr])
  | _ => exact hb _
end Go.Ev
