/-
  OPERATIONS THAT READ AT MOST: what the evaluator answers, the model's own operation answers.
-/
import Derived.Test.YtdijjakmjlegoaaGreatDoorEvE
namespace Go.Ev
open Go.RowKit (Below)
variable {P : Program} {E : Env} {ρ ρ' : Rho} {w0 w : World} {Φ : Out → Prop}

theorem otC_ok {α : Type} {n : Nat} {o : Option α} {f : α → Cl} {r : Rec} {s : St} (hb : ∀ c, Φ (.bad_ c)) (h : ∀ x, o = some x → Φ ((f x).run r s)) : Φ ((otC_ n o f).run r s) := by
  cases o with
  | none => exact hb _
  | some x => exact h x rfl
theorem ot_ok {α : Type} {n : Nat} {o : Option α} {f : α → Out} (hb : ∀ c, Φ (.bad_ c)) (h : ∀ x, o = some x → Φ (f x)) : Φ (ot o (.bad_ n) f) := by
  cases o with
  | none => exact hb _
  | some x => exact h x rfl
theorem bt_ok {b : Bool} {x y : Out} (h : b = true → Φ x) (k : b = false → Φ y) : Φ (bt b x y) := by
  cases b with
  | true => exact h rfl
  | false => exact k rfl
theorem btC_ok {b : Bool} {x y : Cl} {r : Rec} {s : St} (h : b = true → Φ (x.run r s)) (k : b = false → Φ (y.run r s)) : Φ ((bt b x y).run r s) := by
  cases b with
  | true => exact h rfl
  | false => exact k rfl
theorem ntC_ok {n c : Nat} {f : Nat → Cl} {r : Rec} {s : St} (hb : ∀ c, Φ (.bad_ c)) (h : ∀ m, n = m + 1 → Φ ((f m).run r s)) : Φ ((nt n (clB_ c) f).run r s) := by
  cases n with
  | zero => exact hb _
  | succ m => exact h m rfl
theorem nt_ok {n c : Nat} {f : Nat → Out} (hb : ∀ c, Φ (.bad_ c)) (h : ∀ m, n = m + 1 → Φ (f m)) : Φ (nt n (.bad_ c) f) := by
  cases n with
  | zero => exact hb _
  | succ m => exact h m rfl
theorem natK_ok {n : Int} {K : Nat → Out} (hb : ∀ c, Φ (.bad_ c)) (h : ∀ m : Nat, n = (m : Int) → Φ (K m)) : Φ (natK n K) := by
  cases n with
  | ofNat m => exact h m rfl
  | negSucc m => exact hb _
theorem blk_ok {H : Hp} {b : Nat} {k : AB → Out} (hb : ∀ c, Φ (.bad_ c)) (h : ∀ ab, H.get b = some ab → Φ (k ab)) : Φ (blk H b k) := by
  show Φ (@Option.rec AB (fun _ => Out) _ k (H.get b))
  cases hg : H.get b with
  | none => exact hb _
  | some ab => exact h ab hg
theorem onCells_ok {b : AB} {k : List AV → Nat → Nat → Out} (hb : ∀ c, Φ (.bad_ c)) (h : ∀ l t f, b = .cells l t f → Φ (k l t f)) : Φ (onCells b k) := by
  cases b with
  | cells l t f => exact h l t f rfl
  | _ => exact hb _
theorem onMapB_ok {b : AB} {k : List (AV × AV × Nat) → Nat → Out} (hb : ∀ c, Φ (.bad_ c)) (h : ∀ l t, b = .map l t → Φ (k l t)) : Φ (onMapB b k) := by
  cases b with
  | map l t => exact h l t rfl
  | _ => exact hb _
theorem fin_eq (d : Option Tmp) (v : AV) (s : St) : fin d v s = finH d v s.h s := rfl

/-- a row of cells, as the evaluator knows it -/
theorem WR.row {H : Hp} (hw : WR P w0 ρ H w) {b : Nat} {x : Nat × Nat × Nat} (hx : ρ b = some x) {l : List AV} {t fl : Nat} (hg : H.get b = some (.cells l t fl)) :
    ∃ c f, w.heap[x.1]? = some (.cells c t f) ∧ x.2.2 = t ∧ x.2.1 = c.size ∧ l.length ≤ c.size ∧ (∀ (i : Nat) (v : AV), l[i]? = some v → ∃ u, c[i]? = some u ∧ VR P ρ v u) ∧ (fl = 0 → l.length = c.size) ∧ FrzOk fl c.size f := by
  obtain ⟨o, ho, hr⟩ := hw.hr.live b _ x hg hx
  cases hr with
  | cells l t fl c f ht hs hl hc hx hf => exact ⟨c, f, ho, ht, hs, hl, hc, hx, hf⟩
/-- a piece of a row that the evaluator knows -/
theorem slc_rel {l m : List AV} {c : Array Value} {o n : Nat} (hl : l.length ≤ c.size) (hc : ∀ (i : Nat) (v : AV), l[i]? = some v → ∃ u, c[i]? = some u ∧ VR P ρ v u) (h : slc l o n = some m) :
    o + n ≤ c.size ∧ VRs P ρ m (c.extract o (o + n)).toList := by
  obtain ⟨h1, _⟩ := slc_some h
  obtain ⟨h2, h3⟩ := slc_get h
  have hsz : (c.extract o (o + n)).size = n := by simp; omega
  refine ⟨by omega, VRs.of_get (by simp; omega) fun i v u hv hu => ?_⟩
  have hi : i < n := by
    rcases Nat.lt_or_ge i n with k | k
    · exact k
    · rw [List.getElem?_eq_none (by omega)] at hv; cases hv
  rw [h3 i hi] at hv
  obtain ⟨u', hu', hr⟩ := hc _ _ hv
  have : (c.extract o (o + n))[i]? = some u' := by
    rw [Array.getElem?_extract, if_pos (by omega)]; exact hu'
  rw [Array.getElem?_toList] at hu
  rw [this] at hu; cases hu; exact hr
theorem ldN_ok {H : Hp} (hb : ∀ c, Φ (.bad_ c)) (hw : WR P w0 ρ H w) {b o n : Nat} {x : Nat × Nat × Nat} (hx : ρ b = some x) {K : List AV → Out}
    (h : ∀ l c t f, w.heap[x.1]? = some (.cells c t f) → o + n ≤ c.size → VRs P ρ l (c.extract o (o + n)).toList → Φ (K l)) : Φ (ldN H b o n K) := by
  refine blk_ok hb fun ab hg => onCells_ok hb fun l t f e => ?_
  subst e
  obtain ⟨c, fz, hh, _, _, hl, hc, _, _⟩ := hw.row hx hg
  cases hs : slc l o n with
  | none => exact hb _
  | some m =>
    obtain ⟨h1, h2⟩ := slc_rel hl hc hs
    exact h m c t fz hh h1 h2
theorem ldo_ok {H : Hp} (hb : ∀ c, Φ (.bad_ c)) (hw : WR P w0 ρ H w) {b o : Nat} {x : Nat × Nat × Nat} (hx : ρ b = some x) {K : AV → Out}
    (h : ∀ v u, w.cell? ⟨x.1, o, none⟩ = some u → VR P ρ v u → Φ (K v)) : Φ (ld1 H b o K) := by
  refine blk_ok hb fun ab hg => onCells_ok hb fun l t f e => ?_
  subst e
  obtain ⟨c, fz, hh, _, _, hl, hc, _, _⟩ := hw.row hx hg
  cases hs : nth l o with
  | none => exact hb _
  | some m =>
    rw [nth_eq] at hs
    obtain ⟨u, hu, hr⟩ := hc _ _ hs
    exact h m u (by rw [cell_at rfl hh]; exact hu) hr
theorem partK_ok (hE : EnvOk P E) (hb : ∀ c, Φ (.bad_ c)) {l : List AV} {c : Array Value} (hl : VRs P ρ l c.toList) {t o n : Nat} {a : Bool} (hn : szOf E t = some n) (ha : isA E t = some a) {K : AV → Out}
    (h : ∀ v u, (part t c o).run P w = .ok u w → VR P ρ v u → Φ (K v)) : Φ (partK l o n a K) := by
  unfold partK
  refine bt_ok (fun e => ?_) (fun e => ?_)
  · subst e
    refine ot_ok hb fun m hm => ?_
    have hlen := hl.length
    obtain ⟨h1, h2⟩ := slc_rel (P := P) (ρ := ρ) (c := c) (by simpa using Nat.le_of_eq hlen) (fun i v hv => by obtain ⟨u, hu, hr⟩ := hl.get hv; exact ⟨u, by simpa using hu, hr⟩) hm
    refine h _ (.agg (c.extract o (o + n))) ?_ (.agg _ _ h2)
    simp [part, hE.run_isAgg w ha, hE.run_sizeOf w hn]
  · subst e
    refine ot_ok hb fun v hv => ?_
    rw [nth_eq] at hv
    obtain ⟨u, hu, hr⟩ := hl.get hv
    refine h v u ?_ hr
    have hu' : c[o]? = some u := by simpa using hu
    simp [part, hE.run_isAgg w ha, hu']

/-- an operation that reads at most -/
def Reads (P : Program) (E : Env) (o : Oper) : Prop :=
  ∀ (Φ : Out → Prop) (_ : ∀ c, Φ (.bad_ c)) (ρ : Rho) (w0 w : World) (nt : Nat) (ds : List Nat) (s : St) (a : Act) (r : Rec), WR P w0 ρ s.h w → Fr P ρ nt ds s.lo s.tm a.tmps →
    (∀ v u, VR P ρ v u → (execOp a.eval o).run P w = .ok (.value u) w → Φ (fin o.dst v s)) → Φ ((opA o.op E ds o.dst).run r s)
section
variable (hE : EnvOk P E) {o : Oper}
theorem reads_move {x : Operand} (ho : o.op = .move x ∨ o.op = .assign x) : Reads P E o := by
  intro Φ hb ρ w0 w nt ds s a r hw hf h
  rcases ho with ho | ho <;> rw [ho] <;> exact opd_ok hb hf fun v hv => h v _ hv (by simp [execOp, ho])
theorem reads_pick {c x y : Operand} (ho : o.op = .pick c x y) : Reads P E o := by
  intro Φ hb ρ w0 w nt ds s a r hw hf h
  rw [ho]
  refine opd_ok hb hf fun v hv => AV.onBool_ok hb fun t e => ?_
  subst e
  generalize hc : a.eval c = u at hv
  cases hv
  refine bt_ok (fun e => ?_) (fun e => ?_) <;> subst e
  · exact opd_ok hb hf fun v hv => h v _ hv (by simp [execOp, ho, hc, asBool])
  · exact opd_ok hb hf fun v hv => h v _ hv (by simp [execOp, ho, hc, asBool])
include hE
theorem reads_load {t : TypeId} {x : Operand} (ho : o.op = .load t x) : Reads P E o := by
  intro Φ hb ρ w0 w nt ds s a r hw hf h
  rw [ho]
  refine otC_ok hb fun g hg => otC_ok hb fun n hn => btC_ok (fun e => ?_) (fun e => ?_)
  · subst e
    refine opd_ok hb hf fun v hv => AV.onPtr_ok hb fun b off e => ?_
    subst e
    generalize hx : a.eval x = u at hv
    cases hv with
    | ptr b off y hy =>
      refine ldN_ok hb hw hy fun l c t' f hh hs hl => h _ (.agg (c.extract off (off + n))) (.agg _ _ hl) ?_
      simp [execOp, ho, hx, Instr.loadAt, Instr.sureAddr, loadVar, hE.run_isAgg w hg, hE.run_sizeOf w hn, run_loadCells_row hh hs]
  · subst e
    refine opd_ok hb hf fun v hv => AV.onPtr_ok hb fun b off e => ?_
    subst e
    generalize hx : a.eval x = u at hv
    cases hv with
    | ptr b off y hy =>
      refine ldo_ok hb hw hy fun v u hu hr => h v u hr ?_
      simp [execOp, ho, hx, Instr.loadAt, Instr.sureAddr, loadVar, hE.run_isAgg w hg, hu]
theorem reads_fieldAddr {t : TypeId} {x : Operand} {f : Nat} (ho : o.op = .fieldAddr t x f) : Reads P E o := by
  intro Φ hb ρ w0 w nt ds s a r hw hf h
  rw [ho]
  refine otC_ok hb fun p hp => ntC_ok hb fun m hm => ?_
  rw [forceNat_eq]
  refine opd_ok hb hf fun v hv => AV.onPtr_ok hb fun b off e => ?_
  subst e
  rw [forceNat_eq]
  generalize hx : a.eval x = u at hv
  cases hv with
  | ptr b off y hy =>
    unfold fieldAt at hp
    split at hp
    · next fs hfs =>
      split at hp
      · next fd hfd =>
        split at hp
        · next n ag h1 h2 =>
          simp at hp; subst hp
          simp only at hm
          unfold fieldsOf at hfs
          split at hfs
          · next fs' hud =>
            simp at hfs; subst hfs
            rw [nth_eq] at hfd
            have hfd' : fs'[f]? = some fd := by simpa using hfd
            refine h _ _ (.ptr b (off + fd.offset) y hy) ?_
            simp [execOp, ho, hx, Instr.fieldAt, hE.run_underlying w hud, hfd', Instr.sureAddr, fieldPlace, hE.run_sizeOf w h1, hm, addr_add]
          · cases hfs
        · cases hp
      · cases hp
    · cases hp
theorem reads_field {t : TypeId} {x : Operand} {f : Nat} (ho : o.op = .field t x f) : Reads P E o := by
  intro Φ hb ρ w0 w nt ds s a r hw hf h
  rw [ho]
  refine otC_ok hb fun p hp => opd_ok hb hf fun v hv => AV.onAgg_ok hb fun l e => ?_
  subst e
  generalize hx : a.eval x = u at hv
  cases hv with
  | agg l c hl =>
    unfold fieldAt at hp
    split at hp
    · next fs hfs =>
      split at hp
      · next fd hfd =>
        split at hp
        · next n ag h1 h2 =>
          simp at hp; subst hp
          unfold fieldsOf at hfs
          split at hfs
          · next fs' hud =>
            simp at hfs; subst hfs
            rw [nth_eq] at hfd
            have hfd' : fs'[f]? = some fd := by simpa using hfd
            refine partK_ok (w := w) hE hb hl h1 h2 fun v u hu hr => h v u hr ?_
            simp [execOp, ho, hx, Instr.field, hE.run_underlying w hud, hfd', asAgg, hu]
          · cases hfs
        · cases hp
      · cases hp
    · cases hp
omit hE in
theorem reads_extract {x : Operand} {i : Nat} (ho : o.op = .extract x i) : Reads P E o := by
  intro Φ hb ρ w0 w nt ds s a r hw hf h
  rw [ho]
  refine opd_ok hb hf fun v hv => AV.onTup_ok hb fun l e => ?_
  subst e
  generalize hx : a.eval x = u at hv
  cases hv with
  | tup l c hl =>
    refine ot_ok hb fun v hv => ?_
    rw [nth_eq] at hv
    obtain ⟨u, hu, hr⟩ := hl.get hv
    have hu' : c[i]? = some u := by simpa using hu
    exact h v u hr (by simp [execOp, ho, hx, Instr.extract, hu'])
omit hE in
theorem reads_nilCheck {x : Operand} (ho : o.op = .nilCheck x) : Reads P E o := by
  intro Φ hb ρ w0 w nt ds s a r hw hf h
  rw [ho]
  refine opd_ok hb hf fun v hv => ?_
  generalize hx : a.eval x = u at hv
  cases hv with
  | ptr b off y hy => exact h _ _ (.ptr b off y hy) (by simp [execOp, ho, hx])
  | fn g fa fc fa' fc' h1 h2 => exact h _ _ (.fn g fa fc fa' fc' h1 h2) (by simp [execOp, ho, hx])
  | yld l y hy => exact h _ _ (.yld l y hy) (by simp [execOp, ho, hx])
  | ifc t v v' hv => exact h _ _ (.ifc t v v' hv) (by simp [execOp, ho, hx])
  | _ => exact hb _
theorem reads_makeInterface {t : TypeId} {x : Operand} (ho : o.op = .makeInterface t x) : Reads P E o := by
  intro Φ hb ρ w0 w nt ds s a r hw hf h
  rw [ho]
  refine otC_ok hb fun d hd => ?_
  have hu := hE.run_underlying w hd
  cases d with
  | interface ms => exact hb _
  | _ => exact opd_ok hb hf fun v hv => h _ _ (.ifc t v _ hv) (by simp [execOp, ho, Instr.makeInterface, hu])
omit hE in
theorem reads_makeFunc {f : Fn} {xs ys : Array Operand} (ho : o.op = .makeFunc f xs ys) : Reads P E o := by
  intro Φ hb ρ w0 w nt ds s a r hw hf h
  rw [ho]
  cases f with
  | func g =>
    refine opds_ok hb hf fun m hm => opds_ok hb hf fun k hk => h _ _ (.fn g m k (xs.map a.eval) (ys.map a.eval) (by simpa using hm) (by simpa using hk)) ?_
    simp [execOp, ho, Instr.makeFunc]
  | _ => exact hb _
end
end Go.Ev
