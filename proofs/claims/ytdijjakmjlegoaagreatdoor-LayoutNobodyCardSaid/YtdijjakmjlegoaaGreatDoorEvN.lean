/-
  OPERATIONS THAT WRITE: store, copy, append.
-/
import Derived.Test.YtdijjakmjlegoaaGreatDoorEvM
namespace Go.Ev
open Go.RowKit (Below)
variable {P : Program} {E : Env} {ρ ρ' : Rho} {w0 w : World} {Φ : Out → Prop}

theorem upB_ok {H : Hp} {b : Nat} {ab : AB} {k : Hp → Out} (h : ∀ H', H' = (⟨(acc AB 4 b).set H.bl (some ab), H.nx⟩ : Hp) → Φ (k H')) : Φ (upB H b ab k) := h _ rfl
theorem Fresh.nx {H H' : Hp} (h : Fresh ρ H) (e : H'.nx = H.nx) : Fresh ρ H' := fun b hb => h b (by rw [← e]; exact hb)
/-- a row with a piece written -/
theorem BR.written {x : Nat × Nat × Nat} {l l' vs : List AV} {t fl o : Nat} {c : Array Value} {f : Nat × Nat} {us : List Value} (h : BR P ρ x (.cells l t fl) (.cells c t f)) (hv : VRs P ρ vs us) (hl : lay vs o l = some l') :
    o + us.length ≤ c.size ∧ BR P ρ x (.cells l' t fl) (.cells (writeC c o us) t f) := by
  cases h with
  | cells _ _ _ _ _ ht hs hlen hc hx hf =>
  have h1 := (lay_some _ _ _ _ hl).1
  have hm := hv.length
  obtain ⟨h2, h3⟩ := lay_get hl
  refine ⟨by omega, .cells l' t fl _ f ht (by rw [writeC_size]; exact hs) (by rw [writeC_size]; omega) (fun i v hi => ?_) (fun e => by rw [writeC_size, h2]; exact hx e) (by rw [writeC_size]; exact hf)⟩
  rw [writeC_get _ _ _ (by omega)]
  rw [h3] at hi
  split at hi
  · rw [if_pos (by omega)]; exact hv.get hi
  · rw [if_neg (by omega)]; exact hc i v hi
theorem FrzOk.free {fl n : Nat} {f : Nat × Nat} (h : FrzOk fl n f) (h2 : fl ≠ 2) {j : Nat} (hj : j < n) : ¬ (f.1 ≤ j ∧ j < f.2) := by
  by_cases e : fl = 1
  · exact h.2.2 e j hj
  · exact h.2.1 e h2 j
theorem stN_ok (hb : ∀ c, Φ (.bad_ c)) {H : Hp} (hw : WR P w0 ρ H w) (hf : Fresh ρ H) {b o : Nat} {x : Nat × Nat × Nat} (hx : ρ b = some x) {vs : List AV} {us : List Value} (hv : VRs P ρ vs us) (h1 : allOne vs = true) {k : Hp → Out}
    (h : ∀ H' w', H'.nx = H.nx → WR P w0 ρ H' w' → Fresh ρ H' → (storeCells ⟨x.1, o, none⟩ us).run P w = .ok () w' → Φ (k H')) : Φ (stN H b o vs k) := by
  refine blk_ok hb fun ab hg => onCells_ok hb fun l t fl e => ?_
  subst e
  refine bt_ok (fun _ => hb _) fun e2 => ot_ok hb fun l' hl => upB_ok fun H' hH' => ?_
  obtain ⟨ob, hob, hbr⟩ := hw.hr.live b _ x hg hx
  have hbr0 := hbr
  cases hbr with
  | cells _ _ _ c f ht hs hlen hc hxx hfz =>
  obtain ⟨hle, hbr'⟩ := hbr0.written hv hl
  have hfl : fl ≠ 2 := fun e => by subst e; cases e2
  have hone := hv.one h1
  obtain ⟨w', hr, e3, e4, e5, e6⟩ := run_storeCells_row us w c o 0 hob (by omega) hone (fun j hj hj' => hfz.free hfl (by omega))
  have hwr := WR.up hw hg hx hbr' e3 e4 e5 e6 H.nx
  rw [← hH'] at hwr
  exact h H' w' (by rw [hH']) hwr (hf.nx (by rw [hH'])) hr
theorem does_store (hE : EnvOk P E) {o : Oper} {t : TypeId} {x y : Operand} (ho : o.op = .store t x y) : Does P E o := by
  intro Φ hb ρ w0 w nt ds s a r hw hfr hf k
  rw [ho]
  refine otC_ok hb fun n hn => opd_ok hb hf fun p hp => AV.onPtr_ok hb fun b off e => opd_ok hb hf fun v hv => bt_ok (fun hlen => bt_ok (fun hone => ?_) (fun _ => hb _)) (fun _ => hb _)
  subst e
  generalize hx : a.eval x = ux at hp
  generalize hy : a.eval y = uy at hv
  cases hp with
  | ptr b off z hz =>
  refine stN_ok hb hw hfr hz hv.cells hone fun H' w' hnx hw' hf' hr => k ρ w' _ _ H' (Ext.same hnx) hw' hf' (.tup [] #[] .nil) (.inr ⟨?_, rfl⟩)
  have hl := Nat.eq_of_beq_eq_true hlen
  rw [lenL_eq] at hl
  have hl2 := hv.cells.length
  have hsz : uy.cells.size = n := by have : uy.cells.toList.length = uy.cells.size := by simp
                                     omega
  simp [execOp, ho, hx, hy, Instr.storeAt, Instr.sureAddr, storeVar, hE.run_sizeOf w hn, hsz, hr]
end Go.Ev
