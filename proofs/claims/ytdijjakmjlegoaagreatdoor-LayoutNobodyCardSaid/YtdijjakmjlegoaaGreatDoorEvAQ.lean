/-
  BYTES SEEN AS A STRING; all plain operations.
-/
import Derived.Test.YtdijjakmjlegoaaGreatDoorEvAP
namespace Go.Ev
open Go.RowKit (Below)
variable {P : Program} {E : Env} {ρ ρ' : Rho} {w0 w w' : World} {Φ : Out → Prop}

theorem run_loadBytes {b : Nat} {c : Array Value} {t : TypeId} {f : Nat × Nat} (h : w.heap[b]? = some (.cells c t f)) : ∀ (ns : List Nat) (o : Nat) (acc : ByteArray), (∀ i, i < ns.length → c[o + i]? = some (.int .u8 ((ns.getD i 0 : Nat) : Int))) →
    (loadBytes ⟨b, o, none⟩ acc ns.length).run P w = .ok ((ns.map fun c : Nat => (c : Int)).foldl (fun r n => r.push (UInt8.ofNat n.toNat)) acc) w
  | [], o, acc, _ => by simp [loadBytes]
  | n :: ns, o, acc, hc => by
    have h0 := hc 0 (by simp)
    simp only [Nat.add_zero, List.getD_cons_zero] at h0
    have hcell : w.cell? ⟨b, o, none⟩ = some (.int .u8 (n : Int)) := by rw [cell_at rfl h]; exact h0
    have ih := run_loadBytes h ns (o + 1) (acc.push (n : Int).toNat.toUInt8) fun i hi => by
      have := hc (i + 1) (by simp; omega)
      rw [List.getD_cons_succ] at this
      rw [← this]; congr 1; omega
    show (loadBytes ⟨b, o, none⟩ acc (ns.length + 1)).run P w = _
    simp only [loadBytes, Sem.run_bind, run_load, hcell, Result.andThen_ok, addr_add]
    rw [ih]
    rfl
theorem frz_any {n o m : Nat} {f : Nat × Nat} (h : f.1 ≤ f.2) : FrzOk 2 n (if f.1 == f.2 then (o, o + m) else (min f.1 o, max f.2 (o + m))) := by
  refine ⟨?_, fun _ h => absurd rfl h, fun h => by cases h⟩
  split
  · exact Nat.le_add_right _ _
  · show min f.1 o ≤ max f.2 (o + m); omega
theorem run_ue_elem (hE : EnvOk P E) {pt e : Nat} (h : ud E pt = some (.pointer e)) (w : World) : (Go.elemOf pt).run P w = .ok e w := by
  simp only [Go.elemOf, Sem.run_bind, hE.run_underlying w h, Result.andThen_ok]
  rfl
theorem szIs_of {t n : Nat} (h : szIs E t n = true) : szOf E t = some n := by
  unfold szIs at h
  split at h
  · next m e => rw [e, Nat.eq_of_beq_eq_true h]
  · cases h
theorem does_uStr (hE : EnvOk P E) {o : Oper} {c : Call} (ho : o.op = .call c) (hc : c.callee = .builtin .unsafeString) : Does P E o := by
  intro Φ hb ρ w0 w nt ds s a r hw hfr hf k
  rw [ho]
  show Φ (((@Callee.rec (fun _ => Cl) _ _ _ c.callee : Cl)).run r s)
  rw [hc]
  refine otC_ok hb fun F hF => opds_ok hb hf fun args hargs => ?_
  change biUStr E c.argTypes.toList = some F at hF
  unfold biUStr at hF
  split at hF
  · next pt rest hats =>
    split at hF
    · next e hpt =>
      obtain ⟨h1, hF⟩ := bt_inv2 hF
      simp only [Option.some.injEq] at hF; subst hF
      refine twob_ok hb fun x y hxy => ?_
      subst hxy
      obtain ⟨pu, nu, huv, hp, hn⟩ := hargs.two_inv
      have h0 : c.argTypes[0]? = some pt := by rw [← Array.getElem?_toList, hats]; rfl
      refine AV.onInt_ok hb fun kk n e2 => natK_ok hb fun m e3 => ?_
      subst e2; subst e3
      cases hn with
      | int _ _ =>
      have hat : c.argTypes = (pt :: rest).toArray := by rw [← hats]
      have hempty : ∀ q, pu = .pointer q → m = 0 → (execOp a.eval o).run P w = .ok (.value (.string .empty)) w := by
        intro q hq hm
        subst hm
        rw [run_call_builtin ho hc, arr_two huv, hq, hat]
        cases q <;> rfl
      cases m with
      | zero =>
        cases hp with
        | nilp => exact k ρ w _ _ s.h Ext.refl hw hfr (.str ByteArray.empty) (.inl (hempty none rfl rfl))
        | ptr b o z hz => exact k ρ w _ _ s.h Ext.refl hw hfr (.str ByteArray.empty) (.inl (hempty _ rfl rfl))
        | _ => exact hb _
      | succ m =>
        refine AV.onPtr_ok hb fun b off e4 => blk_ok hb fun ab hg => onCells_ok hb fun l t fl eab => bt_ok (fun h2 => ot_ok hb fun cs hcs => ot_ok hb fun bs hbs => upB_ok fun H' hH' => ?_) (fun _ => hb _)
        subst e4; subst eab
        obtain ⟨h2, h3⟩ := bt_both h2
        obtain ⟨h3, h4⟩ := bt_both h3
        have h4 := szIs_of h4
        have h2 := Nat.eq_of_beq_eq_true h2
        have h3 := Nat.le_of_ble_eq_true h3
        subst h2
        cases hp with
        | ptr _ _ z hz =>
        obtain ⟨cc, f, hh, _, _, hl, hcc, _, hfz⟩ := hw.row hz hg
        obtain ⟨g1, g2⟩ := slc_rel (P := P) (ρ := ρ) hl hcc hcs
        obtain ⟨g3, g4⟩ := unbytes_rel g2 hbs
        have hlen : bs.length = m + 1 := by
          have h5 := congrArg List.length g4
          simp at h5; omega
        have hue := isUe_ud h1
        have hrow : liesAt P P.depth t (cc.size / P.cellsOf t) off t (m + 1) = true := rowAt_self (hE.cellsOf h4) g1
        have hbytes : ∀ i, i < bs.length → cc[off + i]? = some (.int .u8 ((bs.getD i 0 : Nat) : Int)) := by
          intro i hi
          have : (cc.extract off (off + (m + 1))).toList[i]? = some (.int .u8 ((bs.getD i 0 : Nat) : Int)) := by
            rw [g4, List.getElem?_map, List.getElem?_eq_getElem hi]
            simp [List.getD_eq_getElem?_getD, hi]
          rw [Array.getElem?_toList, Array.getElem?_extract, if_pos (by omega)] at this
          exact this
        have hld := run_loadBytes (P := P) hh bs off .empty hbytes
        rw [hlen] at hld
        have hfr2 := freeze_eq (o := off) (n := m + 1) hh (by omega)
        have hwr := hw.frz hz hg hh (fl' := 2) (by decide) (frz_any (o := off) (m := m + 1) hfz.1)
        rw [← hfr2] at hwr
        have hv := VR.str (P := P) (ρ := ρ) ((bs.map fun c : Nat => (c : Int)).foldl (fun r n => r.push (UInt8.ofNat n.toNat)) ByteArray.empty)
        rw [push_bytes bs _ g3] at hv
        rw [← hH'] at hwr
        refine k ρ _ _ _ H' (Ext.same (by rw [hH'])) hwr (hfr.nx (by rw [hH'])) hv (.inl ?_)
        rw [run_call_builtin ho hc, arr_two huv]
        have hn0 : ¬ (((m + 1 : Nat) : Int) < 0) := by omega
        have hmx : ¬ (((m + 1 : Nat) : Int) > IntKind.i64.max) := by
          have : IntKind.i64.max = 9223372036854775807 := by decide
          rw [this]; omega
        have hne : ¬ (((m + 1 : Nat) : Int) = 0) := by omega
        have hva : (variablesAt ⟨z.1, off, none⟩ t (m + 1)).run P w = .ok true w := by
          simp only [variablesAt, Sem.run_bind, run_program, run_shape, shape_at hh, Result.andThen_ok, Sem.run_pure, hrow]
        have hus : (Builtin.unsafeString_ c.argTypes o.type #[.pointer (some ⟨z.1, off, none⟩), .int kk ((m + 1 : Nat) : Int)]).run P w = .ok (.string ((bs.map fun c : Nat => (c : Int)).foldl (fun r n => r.push (UInt8.ofNat n.toNat)) ByteArray.empty)) (w.freeze ⟨z.1, off, none⟩ (m + 1)) := by
          show Sem.run P (asInt (.int kk ((m + 1 : Nat) : Int)) >>= _) w = _
          simp only [asInt, asIntOf, Sem.run_bind, Sem.run_pure, Result.andThen_ok, h0, hn0, hmx, hne, if_false, run_ue_elem hE hpt w, Int.toNat_natCast, hva, if_true, hld, run_freeze]
        simp only [builtin, Sem.run_bind, hus, Result.andThen_ok, Sem.run_pure]
    · cases hF
  · cases hF
end Go.Ev
