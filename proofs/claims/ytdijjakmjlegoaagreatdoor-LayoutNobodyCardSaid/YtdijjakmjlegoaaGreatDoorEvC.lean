/-
  COPY, maps written.
-/
import Derived.Test.YtdijjakmjlegoaaGreatDoorEvA
import Derived.MapKept
namespace Go.Ev
open Go.RowKit (Below)
variable {P : Program} {E : Env} {ρ ρ' : Rho} {w0 w : World} {Φ : Out → Prop}

theorem copyLen_rel {x : AV} {u : Value} {n : Nat} (h : VR P ρ x u) (e : copyLen x = some n) (W : World) : (Builtin.lenOf u).run P W = .ok n W := by
  cases h <;> simp [copyLen] at e <;> subst e <;> first | rfl | simp [Builtin.lenOf]
theorem does_copy (hE : EnvOk P E) {o : Oper} {c : Call} (ho : o.op = .call c) (hc : c.callee = .builtin .copy) : Does P E o := by
  intro Φ hb ρ w0 w nt ds s a r hw hfr hf k
  rw [ho]
  show Φ (((@Callee.rec (fun _ => Cl) _ _ _ c.callee : Cl)).run r s)
  rw [hc]
  refine otC_ok hb fun F hF => opds_ok hb hf fun args hargs => ?_
  change biCopy E c.argTypes.toList = some F at hF
  unfold biCopy at hF
  split at hF
  · next t rest hats =>
    obtain ⟨e, he, hF⟩ := ot_inv hF
    obtain ⟨es, hes, hF⟩ := ot_inv hF
    simp only [Option.some.injEq] at hF; subst hF
    refine twob_ok hb fun x y hxy => ?_
    subst hxy
    obtain ⟨u, v, huv, hx, hy⟩ := hargs.two_inv
    have h0 : c.argTypes[0]? = some t := by rw [← Array.getElem?_toList, hats]; rfl
    refine ot_ok hb fun dn hdn => ot_ok hb fun sn hsn => ?_
    rw [forceNat_eq]
    have hls := copyLen_rel hy hsn
    have hud := elemOf_ud he
    have hmin : bt (Nat.ble sn dn) sn dn = Nat.min sn dn := by
      rw [bt_eq]
      show _ = min sn dn
      rw [Nat.min_def]
      by_cases h : sn ≤ dn
      · rw [if_pos h, if_pos (Nat.ble_eq_true_of_le h)]
      · rw [if_neg h, if_neg (fun e => h (Nat.le_of_ble_eq_true e))]
    rw [hmin]
    generalize hn : Nat.min sn dn = n
    have hmin2 : sn.min dn = n := hn
    have fin_ : ∀ (base : Option Addr) (len cap : Nat) (us : Array Value) (w' : World) H', u = .slice base len cap → len = dn → H'.nx = s.h.nx → WR P w0 ρ H' w' → Fresh ρ H' → (Builtin.firstCells es n v).run P w = .ok us w →
        ((match base with | some a => storeCells a us.toList | none => pure () : Sem Unit).run P w = .ok () w') → Φ (finH o.dst (.int .i64 (n : Int)) H' s) := by
      intro base len cap us w' H' hu hlen hnx hw' hf' h1 h2
      subst hu; subst hlen
      refine k ρ w' _ (.int .i64 (n : Int)) H' (Ext.same hnx) hw' hf' (.int _ _) (.inl ?_)
      rw [run_call_builtin ho hc, arr_two huv]
      cases base with
      | none =>
        simp only [Sem.run_pure, Result.ok.injEq, true_and] at h2; subst h2
        simp only [builtin, Builtin.copy_, h0, List.getElem?_toArray, List.getElem?_cons_zero, List.getElem?_cons_succ, Sem.run_bind, hE.run_underlying w hud, Result.andThen_ok, hls, hmin2, hE.run_sizeOf w hes, h1, goInt, Sem.run_pure]
      | some ad =>
        simp only at h2
        simp only [builtin, Builtin.copy_, h0, List.getElem?_toArray, List.getElem?_cons_zero, List.getElem?_cons_succ, Sem.run_bind, hE.run_underlying w hud, Result.andThen_ok, hls, hmin2, hE.run_sizeOf w hes, h1, goInt, Sem.run_pure, h2]
    have zero_ : (Builtin.firstCells es 0 v).run P w = .ok #[] w := by
      cases hy <;> simp [copyLen] at hsn
      · simp [Builtin.firstCells]
      · simp only [Builtin.firstCells, Nat.zero_mul, loadCells, loadCellsFrom, Sem.run_pure]
      · simp only [Builtin.firstCells, Nat.zero_mul, loadCells, loadCellsFrom, Sem.run_pure]
      · simp only [Builtin.firstCells, Sem.run_pure]
    cases n with
    | zero =>
      show Φ (finH o.dst (.int .i64 ((0 : Nat) : Int)) s.h s)
      cases hx <;> simp [copyDst] at hdn <;> subst hdn
      · exact fin_ _ _ _ #[] w s.h rfl rfl rfl hw hfr zero_ rfl
      · exact fin_ _ _ _ #[] w s.h rfl rfl rfl hw hfr zero_ rfl
      · exact fin_ _ _ _ #[] w s.h rfl rfl rfl hw hfr zero_ rfl
    | succ n =>
      have to_ : ∀ (cs : List AV) (us : Array Value), VRs P ρ cs us.toList → (Builtin.firstCells es (n + 1) v).run P w = .ok us w → Φ (copyTo x cs (n + 1) s.h fun v h => finH o.dst v h s) := by
        intro cs us hcs h1
        cases hx <;> try exact hb _
        next b off len lo ex cap z hz g1 g2 g3 g4 =>
        refine bt_ok (fun hone => stN_ok hb hw hfr hz hcs hone fun H' w' hnx hw' hf' hr => ?_) (fun _ => hb _)
        simp [copyDst] at hdn; subst hdn
        exact fin_ _ _ _ us w' H' rfl rfl hnx hw' hf' h1 hr
      show Φ (copySrc es y (n + 1) s.h _)
      cases hy with
      | sl b off len lo ex cap z hz =>
        exact ldN_any hb hw hz fun l us hl hs hr => to_ l us hl (by simp only [Builtin.firstCells]; exact hr w rfl)
      | str t =>
        refine ot_ok hb fun m hm => ?_
        rw [takeN_eq] at hm
        split at hm
        · next hle =>
          simp only [Option.some.injEq] at hm; subst hm
          have hsl := slice_string t 0 (n + 1) (by omega) (by simpa using hle)
          have hby := bytesA_rel (P := P) (ρ := ρ) (t.extract 0 (n + 1))
          rw [hsl] at hby
          exact to_ _ _ hby (by simp only [Builtin.firstCells, Sem.run_pure])
        · cases hm
      | _ => exact hb _
  · cases hF
end Go.Ev
