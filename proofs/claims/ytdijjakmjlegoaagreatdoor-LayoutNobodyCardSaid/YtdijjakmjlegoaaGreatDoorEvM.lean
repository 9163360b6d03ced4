/-
  OPERATIONS THAT MAKE A BLOCK.
-/
import Derived.Test.YtdijjakmjlegoaaGreatDoorEvX
import Derived.Laws.NewFold
import Derived.Laws.MakeOwn
namespace Go.Ev
open Go.RowKit (Below)
variable {P : Program} {E : Env} {ρ ρ' : Rho} {w0 w : World} {Φ : Out → Prop}

/-- an operation that may change the heap -/
def Does (P : Program) (E : Env) (o : Oper) : Prop :=
  ∀ (Φ : Out → Prop) (_ : ∀ c, Φ (.bad_ c)) (ρ : Rho) (w0 w : World) (nt : Nat) (ds : List Nat) (s : St) (a : Act) (r : Rec), WR P w0 ρ s.h w → Fresh ρ s.h → Fr P ρ nt ds s.lo s.tm a.tmps →
    (∀ ρ' w' v u h', Ext s.h ρ h' ρ' → WR P w0 ρ' h' w' → Fresh ρ' h' → VR P ρ' v u → ((execOp a.eval o).run P w = .ok (.value u) w' ∨ ((execOp a.eval o).run P w = .ok .skip w' ∧ u = undef)) → Φ (finH o.dst v h' s)) →
      Φ ((opA o.op E ds o.dst).run r s)
theorem Reads.does {o : Oper} (h : Reads P E o) : Does P E o := fun Φ hb ρ w0 w nt ds s a r hw hfr hf k =>
  h Φ hb ρ w0 w nt ds s a r hw hf fun v u hv hr => by rw [fin_eq]; exact k ρ w v u s.h Ext.refl hw hfr hv (.inl hr)
theorem newB_ok (hb : ∀ c, Φ (.bad_ c)) {H : Hp} (hw : WR P w0 ρ H w) (hf : Fresh ρ H) {ab : AB} {ob : Obj} {n t : Nat} {K : Nat → Hp → Out} (hbr : ∀ ρ', ρ.le ρ' → BR P ρ' (w.heap.size, n, t) ab ob)
    (h : ∀ ρ' h' b, Ext H ρ h' ρ' → ρ' b = some (w.heap.size, n, t) → WR P w0 ρ' h' (w.alloc ob) → Fresh ρ' h' → h'.get b = some ab → Φ (K b h')) : Φ (newB H ab K) := by
  obtain ⟨bl, nx⟩ := H
  show Φ (forceNat nx fun n => bt (Nat.blt n 65536) (forceNat (Nat.succ n) fun m => K n ⟨(acc AB 4 n).set bl (some ab), m⟩) _)
  rw [forceNat_eq]
  refine bt_ok (fun e => ?_) (fun _ => hb _)
  rw [forceNat_eq]
  rw [Nat.blt_eq] at e
  have hle : ρ.le (ρ.put nx (w.heap.size, n, t)) := Rho.le_put _ (hf _ (Nat.le_refl _))
  obtain ⟨h1, h2, h3⟩ := WR.new (H := ⟨bl, nx⟩) hw hf e (ab := ab) (o := ob) (x := (w.heap.size, n, t)) rfl (hbr _ hle)
  refine h _ _ nx (Ext.put (H := ⟨bl, nx⟩) hf rfl) (Rho.put_same _ _ _) h1 h2 ?_
  rw [hp_get_set bl nx nx nx (some ab) e e, if_pos rfl]
/-- a row of cells that is known whole -/
theorem BR.whole {L : List AV} {c : Array Value} {b t fl : Nat} (h : VRs P ρ L c.toList) : BR P ρ (b, c.size, t) (.cells L t fl) (.cells c t) := by
  have hl := h.length
  refine .cells L t fl c (0, 0) rfl rfl (by simpa using Nat.le_of_eq hl) (fun i v hv => ?_) (fun _ => by simpa using hl) ⟨Nat.le_refl _, fun _ _ o => by simp, fun _ o _ => by simp⟩
  obtain ⟨u, hu, hr⟩ := h.get hv
  exact ⟨u, by simpa using hu, hr⟩
theorem newC_ok (hb : ∀ c, Φ (.bad_ c)) {H : Hp} (hw : WR P w0 ρ H w) (hf : Fresh ρ H) {L : List AV} {c : Array Value} {t fl : Nat} {K : Nat → Hp → Out} (hL : VRs P ρ L c.toList)
    (h : ∀ ρ' h' b, Ext H ρ h' ρ' → ρ' b = some (w.heap.size, c.size, t) → WR P w0 ρ' h' (w.alloc (.cells c t)) → Fresh ρ' h' → Φ (K b h')) : Φ (newC H L t fl K) :=
  newB_ok hb hw hf (fun _ hle => BR.whole (hL.mono hle)) fun ρ' h' b h1 h2 h3 h4 _ => h ρ' h' b h1 h2 h3 h4
section
variable (hE : EnvOk P E) {o : Oper}
theorem does_box {t : TypeId} {x : Operand} (ho : o.op = .box t x) : Does P E o := by
  intro Φ hb ρ w0 w nt ds s a r hw hfr hf k
  rw [ho]
  refine opd_ok hb hf fun v hv => newC_ok hb hw hfr hv.cells fun ρ' h' b hle hx hw' hf' => k ρ' _ _ _ h' hle hw' hf' (.ptr b 0 _ hx) (.inl ?_)
  simp [execOp, ho, Instr.box, newVar, newRow]
theorem does_makeMap {t : TypeId} {x : Option Operand} (ho : o.op = .makeMap t x) : Does P E o := by
  intro Φ hb ρ w0 w nt ds s a r hw hfr hf k
  rw [ho]
  cases x with
  | some x => exact hb _
  | none =>
    refine newB_ok (ob := .map #[] 0) (n := 0) (t := 0) hb hw hfr (fun ρ' _ => .map [] 0 #[] .nil) fun ρ' h' b hle hx hw' hf' _ => k ρ' _ _ _ h' hle hw' hf' (.map b _ hx) (.inl ?_)
    simp [execOp, ho, Instr.makeMap]
include hE
theorem does_alloc {t : TypeId} (ho : o.op = .alloc t) : Does P E o := by
  intro Φ hb ρ w0 w nt ds s a r hw hfr hf k
  rw [ho]
  refine otC_ok hb fun z hz => ?_
  obtain ⟨zv, hzr, hzv⟩ := hE.zero hz w ρ
  refine newC_ok hb hw hfr hzv.cells fun ρ' h' b hle hx hw' hf' => k ρ' _ _ _ h' hle hw' hf' (.ptr b 0 _ hx) (.inl ?_)
  simp [execOp, ho, Instr.alloc, newVar, newRow, hzr]
end
/-! ### rows of zeros -/
theorem rep_get {α : Type} (l : List α) : ∀ (n i : Nat), i < n * l.length → (rep n l)[i]? = l[i % l.length]?
  | 0, i, h => by simp at h
  | n + 1, i, h => by
    show (app l (rep n l))[i]? = _
    rw [app_eq]
    rcases Nat.lt_or_ge i l.length with h1 | h1
    · rw [List.getElem?_append_left h1, Nat.mod_eq_of_lt h1]
    · rw [List.getElem?_append_right h1, rep_get l n (i - l.length) (by rw [Nat.add_mul] at h; omega), ← Nat.mod_eq_sub_mod h1]
theorem zeros_rel {L : List AV} {z : Array Value} (h : VRs P ρ L z.toList) {n m : Nat} (hm : m = n * L.length) :
    VRs P ρ (rep n L) ((Array.range m).map (fun i => z[i % z.size]!)).toList := by
  have hl := h.length
  have hs : z.toList.length = z.size := by simp
  refine VRs.of_get (by simp [rep_len, hm]) fun i v u hv hu => ?_
  have hi : i < n * L.length := by
    rcases Nat.lt_or_ge i (n * L.length) with h1 | h1
    · exact h1
    · rw [List.getElem?_eq_none (by rw [rep_len]; exact h1)] at hv; cases hv
  rw [rep_get L n i hi] at hv
  obtain ⟨u', hu', hr⟩ := h.get hv
  have : i % L.length = i % z.size := by rw [hl, hs]
  rw [this] at hu'
  rw [Array.getElem?_toList] at hu
  have hlt : i % z.size < z.size := Nat.mod_lt _ (by rw [hl, hs] at hi; rcases Nat.eq_zero_or_pos z.size with e | e; · rw [e] at hi; omega
                                                     · exact e)
  have hu2 : ((Array.range m).map (fun i => z[i % z.size]!))[i]? = some (z[i % z.size]!) := by
    rw [Array.getElem?_map, Array.getElem?_range, if_pos (by omega)]; rfl
  rw [hu2] at hu
  cases hu
  rw [Array.getElem?_toList, Array.getElem?_eq_getElem hlt] at hu'
  cases hu'
  rw [getElem!_pos z (i % z.size) hlt]
  exact hr
theorem fits_of {need bytes : Nat} (h : fits need bytes = true) : (2 * need + 1024) * (bytes + 1) ≤ 281474976710656 := Nat.le_of_ble_eq_true h
theorem wrap64 {n : Nat} (h : n ≤ 281474976710656) : IntKind.i64.wrap (n : Int) = n := wrap_in .i64 n (by simp only [lim]; omega)
theorem VR.zeros (hE : EnvOk P E) {e es : Nat} {zv : Value} {z : AV} (h : VR P ρ z zv) (hz : (zeroValue e).run P w = .ok zv w) (hl : Nat.beq (lenL z.cells) es = true) (n : Nat) :
    VRs P ρ (rep n z.cells) ((Array.range (n * es)).map (fun i => zv.cells[i % zv.cells.size]!)).toList := by
  have hl := Nat.eq_of_beq_eq_true hl
  rw [lenL_eq] at hl
  exact zeros_rel h.cells (by rw [hl])
section
variable (hE : EnvOk P E) {o : Oper}
omit hE in
theorem elemOf_ud {t e : Nat} (h : Ev.elemOf E t = some e) : ud E t = some (.slice e) := by
  unfold Ev.elemOf at h
  split at h
  · next e' q => simp at h; subst h; exact q
  · cases h
include hE in
theorem does_makeSlice {t : TypeId} {x y : Operand} (ho : o.op = .makeSlice t x y) : Does P E o := by
  intro Φ hb ρ w0 w nt ds s a r hw hfr hf k
  rw [ho]
  refine otC_ok hb fun e he => otC_ok hb fun es hes => otC_ok hb fun bytes hbytes => otC_ok hb fun z hz => btC_ok (fun hlen => ?_) (fun _ => hb _)
  refine opd_ok hb hf fun l hl => AV.onInt_ok hb fun k1 n1 e1 => natK_ok hb fun l e1' => opd_ok hb hf fun c hc => AV.onInt_ok hb fun k2 n2 e2 => natK_ok hb fun c e2' => bt_ok (fun hlc => bt_ok (fun hfits => ?_) (fun _ => hb _)) (fun _ => hb _)
  subst e1; subst e1'; subst e2; subst e2'
  rw [forceNat_eq, forceNat_eq]
  obtain ⟨zv, hzr, hzv⟩ := hE.zero hz w ρ
  have hud := elemOf_ud he
  obtain ⟨inf, hinf, hbi⟩ := hE.bytesOf hbytes
  have hlc := Nat.le_of_ble_eq_true hlc
  have hfits := fits_of hfits
  generalize hx : a.eval x = ux at hl
  generalize hy : a.eval y = uy at hc
  cases hl; cases hc
  have hb1 : 1 ≤ bytes + 1 := by omega
  have hc48 : c ≤ 281474976710656 := by
    have : (2 * c + 1024) * 1 ≤ (2 * c + 1024) * (bytes + 1) := Nat.mul_le_mul_left _ hb1
    omega
  have hcb : c * bytes ≤ 281474976710656 := by
    have : c * bytes ≤ (2 * c + 1024) * (bytes + 1) := Nat.mul_le_mul (by omega) (by omega)
    exact Nat.le_trans this hfits
  have hrel := hzv.zeros (w := w) hE hzr hlen c
  have hcb' : ((inf.bytes : Int)) * (c : Int) ≤ 281474976710656 := by
    rw [hbi, ← Int.natCast_mul, Nat.mul_comm]
    exact Int.ofNat_le.2 hcb
  obtain ⟨i', hi', hsz⟩ := hE.szOf hes
  have hii : i' = inf := by rw [hinf] at hi'; cases hi'; rfl
  subst hii
  have hzz : i'.zero = some zv := by
    have := hzr
    simp only [zeroValue, Sem.run_bind, run_typeInfo' w hinf, Result.andThen_ok] at this
    cases hq : i'.zero with
    | none => rw [hq] at this; simp [unsupported, Sem.run] at this
    | some v => rw [hq] at this; simp at this; rw [this]
  have hrun := run_make w t e i' zv (hE.ud hud) hinf hzz k1 k2 l c (by omega) (by omega) hcb' (by omega)
  rw [hsz] at hrun
  refine newC_ok hb hw hfr hrel fun ρ' h' b hle hbx hw' hf' => ?_
  refine k ρ' _ _ (.slice (some ⟨w.heap.size, 0, none⟩) l c) h' hle hw' hf' ?_ (.inl ?_)
  · exact .sl b 0 l c true c _ hbx hlc (Nat.le_refl _) (fun _ => rfl) (by simp)
  · simp only [execOp, ho, hx, hy, Sem.run_bind, hrun, Result.andThen_ok, Sem.run_pure]
    rfl
include hE in
theorem does_buildSlice {t : TypeId} {n : Nat} {ps : Array (Nat × Operand)} (ho : o.op = .buildSlice t n ps) : Does P E o := by
  intro Φ hb ρ w0 w nt ds s a r hw hfr hf k
  rw [ho]
  refine otC_ok hb fun e he => otC_ok hb fun es hes => otC_ok hb fun z hz => btC_ok (fun hlen => btC_ok (fun hsm => ?_) (fun _ => hb _)) (fun _ => hb _)
  obtain ⟨zv, hzr, hzv⟩ := hE.zero hz w ρ
  have hud := elemOf_ud he
  have hsm := Nat.le_of_ble_eq_true hsm
  refine opdps_ok hb hf fun vs hvs => ?_
  have hrel := hzv.zeros (w := w) hE hzr hlen n
  refine fillK_ok (place' := fun i => some (i * es, es)) hb (fun i x hx => hx) hvs hrel fun N d hN hd => newC_ok hb hw hfr hN fun ρ' h' b hle hbx hw' hf' => ?_
  refine k ρ' _ _ (.slice (some ⟨w.heap.size, 0, none⟩) n n) h' hle hw' hf' (.sl b 0 n n true n _ hbx (Nat.le_refl _) (Nat.le_refl _) (fun _ => rfl) (by simp)) (.inl ?_)
  have hd' : Instr.fill (fun i => some (i * es, es)) ((Array.range (n * es)).map (fun i => zv.cells[i % zv.cells.size]!)) (ps.toList.map fun x => (x.1, a.eval x.2)) = some d := hd
  have hsm' : ¬ (n * es > 2 ^ 24) := by
    have : (2 : Nat) ^ 24 = 16777216 := by decide
    rw [this]; exact Nat.not_lt.2 hsm
  by_cases h0 : n * es = 0
  · rw [h0] at hd' hsm'
    have e0 : (Array.range 0).map (fun i => zv.cells[i % zv.cells.size]!) = #[] := by simp
    rw [e0] at hd'
    have e1 : ∀ z : Array Value, (Array.range 0).map (fun i => z[i % z.size]!) = #[] := fun _ => by simp
    simp only [execOp, ho, Instr.buildSlice, Sem.run_bind, hE.run_underlying w hud, hE.run_sizeOf w hes, h0, Result.andThen_ok, if_true, Sem.run_pure, Array.toList_map, e1, hd', newRow, run_newObj_alloc]
    rw [if_neg (by decide)]
    simp
  · simp [execOp, ho, Instr.buildSlice, hE.run_underlying w hud, hE.run_sizeOf w hes, h0, hsm', hzr, hd', newRow]
end
end Go.Ev
