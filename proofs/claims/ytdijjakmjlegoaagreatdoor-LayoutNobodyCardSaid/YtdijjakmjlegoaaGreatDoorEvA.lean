/-
  APPEND.
-/
import Derived.Test.YtdijjakmjlegoaaGreatDoorEvN
import Derived.Laws.Append
namespace Go.Ev
open Go.RowKit (Below)
variable {P : Program} {E : Env} {ρ ρ' : Rho} {w0 w : World} {Φ : Out → Prop}

theorem bytesA_rel (s : ByteArray) : VRs P ρ (bytesA (s.data.toList.map UInt8.toNat)) (s.data.map fun b => Value.int .u8 b.toNat).toList := by
  unfold bytesA
  rw [Array.toList_map, List.map_map]
  generalize s.data.toList = l
  induction l with
  | nil => exact .nil
  | cons b l ih => exact .cons _ _ _ _ (.int _ _) ih
/-- the row of a slice, loaded in any world with this heap -/
theorem ldN_any {H : Hp} (hb : ∀ c, Φ (.bad_ c)) (hw : WR P w0 ρ H w) {b o n : Nat} {x : Nat × Nat × Nat} (hx : ρ b = some x) {K : List AV → Out}
    (h : ∀ l (us : Array Value), VRs P ρ l us.toList → us.size = n → (∀ W : World, W.heap = w.heap → (loadCells ⟨x.1, o, none⟩ n).run P W = .ok us W) → Φ (K l)) : Φ (ldN H b o n K) := by
  refine ldN_ok hb hw hx fun l c t f hh hs hl => h l _ hl (by simp; omega) fun W hW => ?_
  exact run_loadCells_row (by rw [hW]; exact hh) hs
theorem appendSrc_ok {H : Hp} (hb : ∀ c, Φ (.bad_ c)) (hw : WR P w0 ρ H w) {es : Nat} {x : AV} {u : Value} (hx : VR P ρ x u) {K : List AV → Nat → Out}
    (h : ∀ new n (us : Array Value), VRs P ρ new us.toList → us.size = n * es → (∀ W, (Builtin.lenOf u).run P W = .ok n W) → (∀ W : World, W.heap = w.heap → (Builtin.firstCells es n u).run P W = .ok us W) → Φ (K new n)) :
    Φ (appendSrc es x H K) := by
  cases hx with
  | str s =>
    refine bt_ok (fun e => ?_) (fun _ => hb _)
    have e := Nat.eq_of_beq_eq_true e
    subst e
    rw [forceNat_eq, lenL_eq]
    have hlen : (List.map UInt8.toNat s.data.toList).length = s.size := by simp
    rw [hlen]
    refine h _ s.size _ (bytesA_rel s) (by simp) (fun W => rfl) fun W _ => ?_
    have hs : s.extract 0 s.size = s := by
      apply ByteArray.ext
      rw [ByteArray.data_extract]
      exact Array.extract_size
    simp only [Builtin.firstCells, hs, Sem.run_pure]
  | nilsl => exact h [] 0 #[] .nil (by simp) (fun W => rfl) fun W _ => rfl
  | esl a cap =>
    refine h [] 0 #[] .nil (by simp) (fun W => rfl) fun W _ => ?_
    simp only [Builtin.firstCells, Nat.zero_mul, loadCells, loadCellsFrom, Sem.run_pure]
  | sl b o n lo ex cap y hy =>
    refine ldN_any hb hw hy fun l us hl hs hr => h l n us hl hs (fun W => rfl) fun W hW => ?_
    simp only [Builtin.firstCells]
    exact hr W hW
  | _ => exact hb _
structure AppArgs (P : Program) (E : Env) (w : World) (ats : Array TypeId) (e es bytes : Nat) (s x : Value) (n : Nat) (us : Array Value) : Prop where
  t : ∃ t, ats[0]? = some t ∧ ud E t = some (.slice e)
  u : ∃ u d, ats[1]? = some u ∧ ud E u = some d ∧ isInt E u = false
  hes : szOf E e = some es
  hbytes : bytesOf E e = some bytes
  len : ∀ W, (Builtin.lenOf x).run P W = .ok n W
  new : ∀ W : World, W.heap = w.heap → (Builtin.firstCells es n x).run P W = .ok us W
theorem run_append_at (hE : EnvOk P E) {ats : Array TypeId} {ty : TypeId} {e es bytes n : Nat} {base : Option Addr} {sLen sCap : Nat} {x : Value} {us : Array Value} (h : AppArgs P E w ats e es bytes (.slice base sLen sCap) x n us)
    (hfit : sLen + n ≤ sCap) : (Builtin.append_ ats ty #[.slice base sLen sCap, x]).run P w =
      (match base with | some a => (storeCells (a.add (sLen * es)) us.toList).run P w | none => .ok () w).andThen fun _ w' => .ok (.slice base (sLen + n) sCap) w' := by
  obtain ⟨t, ht, hd⟩ := h.t
  obtain ⟨u, d, hu, hdu, hint⟩ := h.u
  have hni : ∀ k, d ≠ .int k := by
    intro k e; subst e; unfold isInt at hint; rw [hdu] at hint; cases hint
  have hru := hE.run_underlying w hdu
  cases base with
  | none =>
    simp only [Builtin.append_, ht, hu, Sem.run_bind, hE.run_underlying w hd, Result.andThen_ok, hE.run_sizeOf w h.hes, hru, Sem.run_pure, List.getElem?_toArray, List.getElem?_cons_zero, List.getElem?_cons_succ,
      Bool.false_eq_true, if_false, h.len, hfit, if_true, Bool.not_false, h.new w rfl]
  | some a =>
    simp only [Builtin.append_, ht, hu, Sem.run_bind, hE.run_underlying w hd, Result.andThen_ok, hE.run_sizeOf w h.hes, hru, Sem.run_pure, List.getElem?_toArray, List.getElem?_cons_zero, List.getElem?_cons_succ,
      Bool.false_eq_true, if_false, h.len, hfit, if_true, Bool.not_false, h.new w rfl]
theorem run_append_more (hE : EnvOk P E) {ats : Array TypeId} {ty : TypeId} {e es bytes n : Nat} {base : Option Addr} {sLen sCap : Nat} {x : Value} {us os : Array Value} (h : AppArgs P E w ats e es bytes (.slice base sLen sCap) x n us)
    (hmore : sCap < sLen + n) (hfits : fits (sLen + n) bytes = true) (ho : (Builtin.firstCells es sLen (.slice base sLen sCap)).run P w.drew = .ok os w.drew) {zv : Value} (hz : (zeroValue e).run P w.drew = .ok zv w.drew) :
    (Builtin.append_ ats ty #[.slice base sLen sCap, x]).run P w =
      .ok (.slice (some ⟨w.heap.size, 0, none⟩) (sLen + n) (grownCap w (sLen + n) sCap e)) (w.drew.alloc (.cells (os ++ us ++ Builtin.zeroCells zv.cells (grownCap w (sLen + n) sCap e - (sLen + n))) e)) := by
  obtain ⟨t, ht, hd⟩ := h.t
  obtain ⟨u, d, hu, hdu, hint⟩ := h.u
  have hni : ∀ k, d ≠ .int k := by
    intro k e; subst e; unfold isInt at hint; rw [hdu] at hint; cases hint
  have hru := hE.run_underlying w hdu
  obtain ⟨inf, hinf, hbi⟩ := hE.bytesOf h.hbytes
  have hfits := fits_of hfits
  have hn : ¬ (sLen + n ≤ sCap) := by omega
  have h63 : ¬ (((sLen + n : Nat) : Int) > IntKind.i64.max) := by
    have e1 : IntKind.i64.max = 9223372036854775807 := by decide
    have e2 : (2 * (sLen + n) + 1024) * 1 ≤ (2 * (sLen + n) + 1024) * (bytes + 1) := Nat.mul_le_mul_left _ (by omega)
    have e3 := Nat.le_trans e2 hfits
    rw [e1]; omega
  have h48 : ¬ (Builtin.nextslicecap (sLen + n) sCap * inf.bytes > 2 ^ 48) := by
    have e1 := nextslicecap_le hmore
    have e2 : Builtin.nextslicecap (sLen + n) sCap * inf.bytes ≤ (2 * (sLen + n) + 1024) * (bytes + 1) := Nat.mul_le_mul (by omega) (by omega)
    have e3 := Nat.le_trans e2 hfits
    exact Nat.not_lt.2 e3
  have ti := run_typeInfo' (P := P) w hinf
  have ti' := run_typeInfo' (P := P) w.drew hinf
  simp only [Builtin.append_, ht, hu, Sem.run_bind, hE.run_underlying w hd, Result.andThen_ok, hE.run_sizeOf w h.hes, hru, Sem.run_pure, List.getElem?_toArray, List.getElem?_cons_zero, List.getElem?_cons_succ,
      Bool.false_eq_true, if_false, h.len, hn, if_true, Bool.not_false, h.new w.drew rfl, ti, ti', h63, h48, false_and, false_or, run_choose_drew, Question.forced, run_askRoom, ho, hz, newRow, run_newObj_alloc, grownCap]
  rfl

theorem BR.grown {L : List AV} {c d : Array Value} {b t fl : Nat} (h : VRs P ρ L c.toList) (hfl : fl ≠ 0) : BR P ρ (b, (c ++ d).size, t) (.cells L t fl) (.cells (c ++ d) t) := by
  have hl := h.length
  have hs : c.toList.length = c.size := by simp
  refine .cells L t fl (c ++ d) (0, 0) rfl rfl (by rw [Array.size_append]; omega) (fun i v hv => ?_) (fun e => absurd e hfl) ⟨Nat.le_refl _, fun _ _ o => by simp, fun _ o _ => by simp⟩
  obtain ⟨u, hu, hr⟩ := h.get hv
  have hi : i < c.size := by
    rcases Nat.lt_or_ge i c.size with k | k
    · exact k
    · rw [Array.getElem?_toList, Array.getElem?_eq_none k] at hu; cases hu
  exact ⟨u, by rw [Array.getElem?_append_left hi]; simpa using hu, hr⟩
theorem grownCap_ge (w : World) (need old : Nat) (e : TypeId) : need ≤ grownCap w need old e := by
  show need ≤ need + _
  omega
theorem zeroCells_size (z : Array Value) (n : Nat) : (Builtin.zeroCells z n).size = n * z.size := by simp [Builtin.zeroCells]
/-- append that makes a new row -/
theorem grow_ok {H : Hp} (hb : ∀ c, Φ (.bad_ c)) (hw : WR P w0 ρ H w) (hf : Fresh ρ H) {L : List AV} {os us : Array Value} {zc : Array Value} {e es need newCap fl : Nat} (hL : VRs P ρ L (os ++ us).toList) (hfl : fl ≠ 0)
    (hsz : (os ++ us).size = need * es) (hz : zc.size = es) (hcap : need ≤ newCap) (hE : P.cellsOf e = es) {K : AV → Hp → Out}
    (h : ∀ ρ' h', Ext H ρ h' ρ' → ∀ v, WR P w0 ρ' h' (w.alloc (.cells (os ++ us ++ Builtin.zeroCells zc (newCap - need)) e)) → Fresh ρ' h' → VR P ρ' v (.slice (some ⟨w.heap.size, 0, none⟩) need newCap) → Φ (K v h')) :
    Φ (newC H L e fl fun b' h => K (.sl b' (nat_lit 0) need need false) h) := by
  refine newB_ok hb hw hf (fun _ hle => BR.grown (hL.mono hle) hfl) fun ρ' h' b h1 h2 h3 h4 _ => h ρ' h' h1 _ h3 h4 ?_
  refine .sl b 0 need need false newCap _ h2 (Nat.le_refl _) hcap (by simp) fun _ _ => ?_
  show newCap * P.cellsOf e ≤ (os ++ us ++ Builtin.zeroCells zc (newCap - need)).size
  rw [Array.size_append, hsz, zeroCells_size, hz, hE, ← Nat.add_mul, show need + (newCap - need) = newCap by omega]
  exact Nat.le_refl _
theorem newB_raw (hb : ∀ c, Φ (.bad_ c)) {H : Hp} {ab : AB} {K : Nat → Hp → Out} (h : H.nx < 65536 → Φ (K H.nx ⟨(acc AB 4 H.nx).set H.bl (some ab), H.nx + 1⟩)) : Φ (newB H ab K) := by
  obtain ⟨bl, nx⟩ := H
  show Φ (forceNat nx fun n => bt (Nat.blt n 65536) (forceNat (Nat.succ n) fun m => K n ⟨(acc AB 4 n).set bl (some ab), m⟩) _)
  rw [forceNat_eq]
  refine bt_ok (fun e => ?_) (fun _ => hb _)
  rw [forceNat_eq]
  rw [Nat.blt_eq] at e
  exact h e
theorem frz_mark {fl n m : Nat} {f : Nat × Nat} (h : FrzOk fl n f) (h2 : fl ≠ 2) (hm : m = n) : FrzOk (bt (Nat.beq fl 1) 1 3) m f := by
  subst hm
  cases e : Nat.beq fl 1 with
  | true => have e := Nat.eq_of_beq_eq_true e; subst e; exact ⟨h.1, fun e => absurd rfl e, fun _ => h.2.2 rfl⟩
  | false =>
    have e : fl ≠ 1 := fun e' => by subst e'; cases e
    exact ⟨h.1, fun _ _ => h.2.1 e h2, fun e => absurd e (by decide)⟩
theorem fl_mark (fl : Nat) : bt (Nat.beq fl 1) 1 3 ≠ 0 := by cases Nat.beq fl 1 <;> decide
theorem appendA_ok {H : Hp} (hb : ∀ c, Φ (.bad_ c)) (hE : EnvOk P E) (hw : WR P w0 ρ H w) (hf : Fresh ρ H) {ats : Array TypeId} {ty : TypeId} {e es bytes n : Nat} {s : AV} {sv x : Value} {us : Array Value} {new : List AV} (ha : AppArgs P E w ats e es bytes sv x n us) (hes0 : 0 < es)
    (hnew : VRs P ρ new us.toList) (hsz : us.size = n * es) (hone : allOne new = true) (hs : VR P ρ s sv) {zv : Value} (hz : ∀ W : World, (zeroValue e).run P W = .ok zv W) (hzs : zv.cells.size = es) {K : AV → Hp → Out}
    (h : ∀ ρ' h' w' v q, Ext H ρ h' ρ' → WR P w0 ρ' h' w' → Fresh ρ' h' → VR P ρ' v q → (Builtin.append_ ats ty #[sv, x]).run P w = .ok q w' → Φ (K v h')) : Φ (appendA e es bytes s new n H K) := by
  have hwd : WR P w0 ρ H w.drew := hw.drew
  have hcell := hE.cellsOf ha.hes
  unfold appendA
  cases hs with
  | nilsl =>
    cases n with
    | zero => exact h ρ H w _ _ Ext.refl hw hf .nilsl (by rw [run_append_at hE ha (by omega)]; rfl)
    | succ n =>
      simp only [nt_succ]
      refine bt_ok (fun hfit => ?_) (fun _ => hb _)
      have hrun := run_append_more hE (ty := ty) (os := #[]) ha (by omega) (by rw [Nat.zero_add]; exact hfit) rfl (hz _)
      rw [Nat.zero_add] at hrun
      refine grow_ok (w := w.drew) (os := #[]) (us := us) (es := es) (zc := zv.cells) hb hwd hf (by simpa using hnew) (by decide) (by simpa using hsz) hzs (grownCap_ge w (n + 1) 0 e) hcell fun ρ' h' hle v hw' hf' hv => h ρ' h' _ v _ hle hw' hf' hv hrun
  | esl a cap =>
    cases n with
    | zero =>
      refine h ρ H w _ _ Ext.refl hw hf (.esl a cap) ?_
      rw [run_append_at hE ha (by omega)]
      have : us.toList = [] := by have : us.size = 0 := by simpa using hsz
                                  simpa using this
      rw [this]; rfl
    | succ n => exact hb _
  | sl b o len lo ex cap y hy h1 h2 h3 h4 =>
    refine bt_ok (fun hle => ?_) (fun hgt => ?_)
    · have hle := Nat.le_of_ble_eq_true hle
      refine stN_ok hb hw hf hy hnew hone fun H' w' hnx hw' hf' hr => ?_
      rw [forceNat_eq]
      refine h ρ H' w' _ _ (Ext.same hnx) hw' hf' (.sl b o (len + n) lo ex cap y hy hle h2 h3 h4) ?_
      rw [run_append_at hE ha (Nat.le_trans hle h2)]
      simp only [addr_add]
      have hr' : (storeCells ⟨y.1, o + len * es, none⟩ us.toList).run P w = .ok () w' := hr
      rw [hr']; rfl
    · have hgt : lo < len + n := by
        rcases Nat.lt_or_ge lo (len + n) with k | k
        · exact k
        · have : Nat.ble (Nat.add len n) lo = true := Nat.ble_eq_true_of_le k
          rw [this] at hgt; cases hgt
      refine bt_ok (fun hcase => bt_ok (fun hfit => ?_) (fun _ => hb _)) (fun _ => hb _)
      refine ldN_any hb hw hy fun old os hold hos hro => ?_
      have hos' : os.size = len * es := hos
      have hoi : (Builtin.firstCells es len (.slice (some ⟨y.1, o, none⟩) len cap)).run P w.drew = .ok os w.drew := by
        simp only [Builtin.firstCells]; exact hro _ rfl
      have hall : VRs P ρ (old ++ new) (os ++ us).toList := by rw [Array.toList_append]; exact hold.append hnew
      have hsize : (os ++ us).size = (len + n) * es := by rw [Array.size_append, hos', hsz, Nat.add_mul]
      unfold growA
      rw [forceNat_eq, app_eq]
      cases ex with
      | true =>
        have hc := h3 rfl
        subst hc
        have hrun := run_append_more hE (ty := ty) ha hgt hfit hoi (hz _)
        exact grow_ok (w := w.drew) (zc := zv.cells) hb hwd hf hall (by decide) hsize hzs (grownCap_ge w (len + n) cap e) hcell fun ρ' h' hle v hw' hf' hv => h ρ' h' _ v _ hle hw' hf' hv hrun
      | false =>
        have ho : o = 0 := by simpa [bt_eq] using hcase
        subst ho
        refine blk_ok hb fun ab hg => onCells_ok hb fun l t fl eab => ?_
        subst eab
        refine bt_ok (fun hte => bt_ok (fun _ => hb _) fun hfl2 => ?_) (fun _ => hb _)
        have hte := Nat.eq_of_beq_eq_true hte
        subst hte
        have hfl2 : fl ≠ 2 := fun e => by subst e; cases hfl2
        obtain ⟨ob, hob, hbr⟩ := hw.hr.live b _ y hg hy
        cases hbr with
        | cells _ _ _ c f ht hs hlen hc hxx hfz =>
        by_cases hcap : len + n ≤ cap
        · -- there is room
          have hin := h4 rfl rfl
          rw [ht, hcell, hs] at hin
          have hroom : (len + n) * es ≤ c.size := Nat.le_trans (Nat.mul_le_mul_right _ hcap) hin
          rw [Nat.add_mul] at hroom
          have hosc : os = c.extract 0 (0 + len * es) := by
            have e1 : (loadCells ⟨y.1, 0, none⟩ (len * es)).run P w = .ok os w := hro w rfl
            have e2 := run_loadCells_row (P := P) (o := 0) (n := len * es) hob (by omega)
            rw [e1] at e2; cases e2; rfl
          have hul : us.toList.length = us.size := by simp
          obtain ⟨w', hr, e3, e4, e5, e6⟩ := run_storeCells_row us.toList w c (len * es) 0 hob (by omega) (hnew.one hone) (fun j hj hj' => hfz.free hfl2 (by omega))
          have hrel : ∀ ρ', ρ.le ρ' → BR P ρ' y (.cells (old ++ new) t (bt (Nat.beq fl 1) 1 3)) (.cells (writeC c (len * es) us.toList) t f) := by
            intro ρ' hle
            have hal := hall.length
            have hal2 : (os ++ us).toList.length = (os ++ us).size := by simp
            refine .cells _ _ _ _ _ ht (by rw [writeC_size]; exact hs) (by rw [writeC_size, hal, hal2, hsize, Nat.add_mul]; exact hroom) (fun i v hv => ?_) (fun e => absurd e (fl_mark fl)) (frz_mark hfz hfl2 (writeC_size _ _ _))
            obtain ⟨u, hu, hru⟩ := hall.get hv
            refine ⟨u, ?_, hru.mono hle⟩
            rw [writeC_get _ _ _ (by omega)]
            rw [Array.getElem?_toList] at hu
            rcases Nat.lt_or_ge i (len * es) with hi | hi
            · rw [if_neg (by omega)]
              rw [Array.getElem?_append_left (by omega), hosc, Array.getElem?_extract, if_pos (by omega)] at hu
              simpa using hu
            · have hi2 : i < (os ++ us).size := by
                rcases Nat.lt_or_ge i (os ++ us).size with k | k
                · exact k
                · rw [Array.getElem?_eq_none k] at hu; cases hu
              rw [if_pos (by rw [hsize, Nat.add_mul] at hi2; omega)]
              rw [Array.getElem?_append_right (by omega), hos'] at hu
              rw [Array.getElem?_toList]; exact hu
          obtain ⟨bl, nx⟩ := H
          refine newB_raw hb fun hn => ?_
          obtain ⟨m1, m2, m3⟩ := WR.move hw hf hn hg hy (hrel ρ (Rho.le.refl ρ)) e3 e4 e5 e6
          refine h _ _ w' _ (.slice (some ⟨y.1, 0, none⟩) (len + n) cap) (Ext.put (H := ⟨bl, nx⟩) hf rfl) m1 m2 (.sl nx 0 (len + n) (len + n) false cap y (Rho.put_same _ _ _) (Nat.le_refl _) hcap (by simp) (fun _ _ => h4 rfl rfl)) ?_
          rw [run_append_at hE ha hcap]
          simp only [addr_add]
          have hr' : (storeCells ⟨y.1, 0 + len * es, none⟩ us.toList).run P w = .ok () w' := by rw [Nat.zero_add]; exact hr
          rw [hr']; rfl
        · -- there is none
          have hrun := run_append_more hE (ty := ty) ha (by omega) hfit hoi (hz _)
          obtain ⟨bl, nx⟩ := H
          have hdel := hwd.del b (hw.hr.dom b y hy) nx
          exact grow_ok (w := w.drew) (zc := zv.cells) hb hdel (hf.nx rfl) hall (fl_mark fl) hsize hzs (grownCap_ge w (len + n) cap t) hcell fun ρ' h' hle v hw' hf' hv => h ρ' h' _ v _ (hle.from rfl) hw' hf' hv hrun
  | _ => exact hb _
theorem VRs.two_inv {x y : AV} {m : List Value} (h : VRs P ρ [x, y] m) : ∃ u v, m = [u, v] ∧ VR P ρ x u ∧ VR P ρ y v := by
  cases h with
  | cons _ _ v' l' h hl =>
    obtain ⟨u, rfl, hu⟩ := hl.one_inv
    exact ⟨v', u, rfl, h, hu⟩
theorem arr_two {f : Operand → Value} {a : Array Operand} {u v : Value} (h : a.toList.map f = [u, v]) : a.map f = #[u, v] := by
  apply Array.toList_inj.1; rw [Array.toList_map]; exact h
theorem twob_ok (hb : ∀ c, Φ (.bad_ c)) {args : List AV} {K : AV → AV → Out} (h : ∀ x y, args = [x, y] → Φ (K x y)) : Φ (two2 args K) := by
  unfold two2
  split
  · exact h _ _ rfl
  · exact hb _
theorem ot_inv {α β : Type} {o : Option α} {f : α → Option β} {r : β} (h : ot o none f = some r) : ∃ x, o = some x ∧ f x = some r := by
  cases o with
  | none => cases h
  | some x => exact ⟨x, rfl, h⟩
theorem nt_inv {β : Type} {n : Nat} {f : Nat → Option β} {r : β} (h : nt n none f = some r) : ∃ m, n = m + 1 ∧ f m = some r := by
  cases n with
  | zero => cases h
  | succ m => exact ⟨m, rfl, h⟩
theorem bt_inv {β : Type} {b : Bool} {x : Option β} {r : β} (h : bt b x none = some r) : b = true ∧ x = some r := by
  cases b with
  | false => cases h
  | true => exact ⟨rfl, h⟩
theorem bt_inv' {β : Type} {b : Bool} {x : Option β} {r : β} (h : bt b none x = some r) : b = false ∧ x = some r := by
  cases b with
  | true => cases h
  | false => exact ⟨rfl, h⟩
theorem does_append (hE : EnvOk P E) {o : Oper} {c : Call} (ho : o.op = .call c) (hc : c.callee = .builtin .append) : Does P E o := by
  intro Φ hb ρ w0 w nt ds s a r hw hfr hf k
  rw [ho]
  show Φ (((@Callee.rec (fun _ => Cl) _ _ _ c.callee : Cl)).run r s)
  rw [hc]
  refine otC_ok hb fun F hF => opds_ok hb hf fun args hargs => ?_
  change biAppend E c.argTypes.toList = some F at hF
  unfold biAppend at hF
  split at hF
  · next t t2 rest hats =>
    obtain ⟨e, he, hF⟩ := ot_inv hF
    obtain ⟨es', hes, hF⟩ := ot_inv hF
    obtain ⟨es, rfl, hF⟩ := nt_inv hF
    obtain ⟨bytes, hby, hF⟩ := ot_inv hF
    obtain ⟨hi, hF⟩ := bt_inv' hF
    obtain ⟨d, hu, hF⟩ := ot_inv hF
    obtain ⟨z, hz, hF⟩ := ot_inv hF
    obtain ⟨hlen, hF⟩ := bt_inv hF
    simp only [Option.some.injEq] at hF; subst hF
    refine twob_ok hb fun x y hxy => ?_
    subst hxy
    obtain ⟨u, v, huv, hx, hy⟩ := hargs.two_inv
    have h0 : c.argTypes[0]? = some t := by rw [← Array.getElem?_toList, hats]; rfl
    have h1 : c.argTypes[1]? = some t2 := by rw [← Array.getElem?_toList, hats]; rfl
    refine appendSrc_ok (w := w) hb hw hy fun new n us hnew hsz hl hfc => bt_ok (fun hone => ?_) (fun _ => hb _)
    have hlen' := Nat.eq_of_beq_eq_true hlen
    rw [lenL_eq] at hlen'
    obtain ⟨zv, hzr, hzv⟩ := hE.zero hz w ρ
    have hzW : ∀ W : World, (zeroValue e).run P W = .ok zv W := by
      intro W
      obtain ⟨zv', hzr', _⟩ := hE.zero hz W ρ
      obtain ⟨inf, hinf, hq⟩ := hE.infoK hz (by simp)
      have e1 := hzr
      have e2 := hzr'
      simp only [zeroValue, Sem.run_bind, run_typeInfo' w hinf, run_typeInfo' W hinf, Result.andThen_ok] at e1 e2
      cases hq : inf.zero with
      | none => rw [hq] at e1; simp [unsupported, Sem.run] at e1
      | some q => rw [hq] at e1 e2; simp at e1 e2; subst e1; subst e2; exact hzr'
    have hzs : zv.cells.size = es + 1 := by
      have := hzv.cells.length
      have h2 : zv.cells.toList.length = zv.cells.size := by simp
      omega
    refine appendA_ok (ty := o.type) hb hE hw hfr ⟨⟨t, h0, elemOf_ud he⟩, ⟨t2, d, h1, hu, hi⟩, hes, hby, hl, hfc⟩ (Nat.succ_pos es) hnew hsz hone hx hzW hzs fun ρ' h' w' v' q hle hw' hf' hv' hq => ?_
    refine k ρ' w' v' q h' hle hw' hf' hv' (.inl ?_)
    rw [run_call_builtin ho hc, arr_two huv]
    simp only [builtin, Sem.run_bind, hq, Result.andThen_ok, Sem.run_pure]
  · cases hF
end Go.Ev
