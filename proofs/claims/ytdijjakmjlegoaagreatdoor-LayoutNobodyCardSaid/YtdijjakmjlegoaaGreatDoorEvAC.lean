/-
  ANEW AND THE SAME: what is looked at again; makers, said whole; a heap in a heap.
-/
import Derived.Test.YtdijjakmjlegoaaGreatDoorEvAB
namespace Go.Ev
open Go.RowKit (Below)
variable {P : Program} {E : Env} {ρ ρ' : Rho} {w0 w w' : World} {Φ : Out → Prop}

theorem bt_both {a b : Bool} (h : bt a b false = true) : a = true ∧ b = true := by
  cases a with
  | false => cases h
  | true => exact ⟨rfl, h⟩
mutual
theorem avEq_eq (a b : AV) (h : avEq a b = true) : a = b := by
  unfold avEq at h
  split at h
  · next x y => cases x <;> cases y <;> simp at h ⊢
  · next k x k' y =>
    obtain ⟨h1, h2⟩ := bt_both h
    rw [eqK_eq] at h1; rw [eqI_eq] at h2
    simp only [decide_eq_true_eq] at h1 h2
    rw [h1, h2]
  · next x y => rw [eqL_eq] at h; simp only [decide_eq_true_eq] at h; rw [h]
  · next x y x' y' =>
    obtain ⟨h1, h2⟩ := bt_both h
    rw [Nat.eq_of_beq_eq_true h1, Nat.eq_of_beq_eq_true h2]
  · rfl
  · next b o n lo ex b' o' n' lo' ex' =>
    obtain ⟨h1, h2⟩ := bt_both h
    obtain ⟨h2, h3⟩ := bt_both h2
    obtain ⟨h3, h4⟩ := bt_both h3
    obtain ⟨h4, h5⟩ := bt_both h4
    rw [Nat.eq_of_beq_eq_true h1, Nat.eq_of_beq_eq_true h2, Nat.eq_of_beq_eq_true h3, Nat.eq_of_beq_eq_true h4]
    cases ex <;> cases ex' <;> simp at h5 ⊢
  · rfl
  · next x y => rw [Nat.eq_of_beq_eq_true h]
  · rfl
  · next f a1 c g b1 d =>
    obtain ⟨h1, h2⟩ := bt_both h
    obtain ⟨h2, h3⟩ := bt_both h2
    rw [Nat.eq_of_beq_eq_true h1, avEqs_eq a1 b1 h2, avEqs_eq c d h3]
  · rfl
  · next t v u x =>
    obtain ⟨h1, h2⟩ := bt_both h
    rw [Nat.eq_of_beq_eq_true h1, avEq_eq v x h2]
  · rfl
  · next l m => rw [avEqs_eq l m h]
  · next l m => rw [avEqs_eq l m h]
  · cases h
termination_by SizeOf.sizeOf a
theorem avEqs_eq (a b : List AV) (h : avEqs a b = true) : a = b := by
  unfold avEqs at h
  split at h
  · rfl
  · next x l y m =>
    obtain ⟨h1, h2⟩ := bt_both h
    rw [avEq_eq x y h1, avEqs_eq l m h2]
  · cases h
termination_by SizeOf.sizeOf a
end
theorem sameAB_eq {x y : AB} (h : sameAB x y = true) : x = y := by
  unfold sameAB at h
  split at h
  · next l t f m u g =>
    obtain ⟨h1, h2⟩ := bt_both h
    obtain ⟨h2, h3⟩ := bt_both h2
    rw [Nat.eq_of_beq_eq_true h1, Nat.eq_of_beq_eq_true h2, avEqs_eq l m h3]
  · next c d => rw [Nat.eq_of_beq_eq_true h]
  · cases h
/-- u, at block b, and v, at block c, are one but for the block -/
def Shape (u : AV) (b : Nat) (v : AV) (c : Nat) : Prop :=
  (∃ o, u = .ptr b o ∧ v = .ptr c o) ∨ (∃ o n lo ex, u = .sl b o n lo ex ∧ v = .sl c o n lo ex) ∨ (u = .map b ∧ v = .map c)
theorem newIs_shape {v : AV} {n : Nat} (h : newIs v n = true) : Shape v n v n := by
  unfold newIs at h
  split at h
  · rw [Nat.eq_of_beq_eq_true h]; exact .inl ⟨_, rfl, rfl⟩
  · rw [Nat.eq_of_beq_eq_true h]; exact .inr (.inl ⟨_, _, _, _, rfl, rfl⟩)
  · rw [Nat.eq_of_beq_eq_true h]; exact .inr (.inr ⟨rfl, rfl⟩)
  · cases h
theorem Shape.tup {u v : AV} {b c : Nat} (h : Shape u b v c) : u ≠ .tup [] ∧ v ≠ .tup [] := by
  rcases h with ⟨o, rfl, rfl⟩ | ⟨o, n, lo, ex, rfl, rfl⟩ | ⟨rfl, rfl⟩ <;> simp
theorem Shape.right {u v : AV} {b c d e : Nat} (h : Shape u b v c) (k : Shape v d v e) : c = d ∧ d = e := by
  rcases h with ⟨o, rfl, rfl⟩ | ⟨o, n, lo, ex, rfl, rfl⟩ | ⟨rfl, rfl⟩ <;> rcases k with ⟨o', h1, h2⟩ | ⟨o', n', lo', ex', h1, h2⟩ | ⟨h1, h2⟩ <;> simp at h1 h2 <;> first | exact ⟨h1.1, h1.1.symm.trans h2.1⟩ | exact ⟨h1, h1.symm.trans h2⟩
theorem newCk_ok (hb : ∀ c, Φ (.bad_ c)) {u v : AV} {h h' : Hp} {k : Out} (h1 : u = .tup [] → v = .tup [] → Φ k) (h2 : ∀ b c y, Shape u b v c → h.get b = some y → h'.get c = some y → Φ k) : Φ (newCk u v h h' k) := by
  have ck : ∀ b c, Shape u b v c → Φ (blkCk h h' b c k) := fun b c hs =>
    blk_ok hb fun x hx => blk_ok hb fun y hy => bt_ok (fun e => h2 b c y hs (by rw [hx, sameAB_eq e]) hy) (fun _ => hb _)
  unfold newCk
  split
  · exact h1 rfl rfl
  · next b o c p =>
    refine bt_ok (fun e => ck b c (.inl ⟨o, rfl, ?_⟩)) (fun _ => hb _)
    rw [Nat.eq_of_beq_eq_true e]
  · next b o n lo ex c p n' lo' ex' =>
    refine bt_ok (fun e1 => bt_ok (fun e2 => bt_ok (fun e3 => bt_ok (fun e4 => ck b c (.inr (.inl ⟨o, n, lo, ex, rfl, ?_⟩))) (fun _ => hb _)) (fun _ => hb _)) (fun _ => hb _)) (fun _ => hb _)
    rw [Nat.eq_of_beq_eq_true e1, Nat.eq_of_beq_eq_true e2, Nat.eq_of_beq_eq_true e3]
    cases ex <;> cases ex' <;> simp at e4 ⊢
  · next b c => exact ck b c (.inr (.inr ⟨rfl, rfl⟩))
  · exact hb _

/-! ### a heap in a heap -/
def Grow (X H : Hp) : Prop := ∀ b ab, b < 65536 → X.get b = some ab → H.get b = some ab
theorem Grow.refl (X : Hp) : Grow X X := fun _ _ _ h => h
theorem Grow.new {X H : Hp} (h : Grow X H) (hn : H.nx < 65536) (h0 : H.get H.nx = none) (y : AB) (m : Nat) : Grow X ⟨(acc AB 4 H.nx).set H.bl (some y), m⟩ := by
  intro b ab hb hx
  have h1 := h b ab hb hx
  rw [hp_get_set H.bl H.nx H.nx b (some y) hn hb m]
  by_cases e : H.nx = b
  · rw [← e, h0] at h1; cases h1
  · rw [if_neg e]; exact h1
theorem WR.sub {X H : Hp} (h : WR P w0 ρ H w) (hs : Grow X H) : WR P w0 ρ X w :=
  ⟨⟨fun b ab x hb hx => h.hr.live b ab x (hs b ab (h.hr.dom b x hx) hb) hx, fun b b' ab ab' x x' hb hb' hx hx' e => h.hr.inj b b' ab ab' x x' (hs b ab (h.hr.dom b x hx) hb) (hs b' ab' (h.hr.dom b' x' hx') hb') hx hx' e, h.hr.dom⟩, h.base, h.below⟩
/-- a block that no world bears is another's -/
theorem WR.hide {H : Hp} (h : WR P w0 ρ H w) (hf : Fresh ρ H) (hn : H.nx < 65536) (y : AB) (m : Nat) : WR P w0 ρ ⟨(acc AB 4 H.nx).set H.bl (some y), m⟩ w := by
  have key : ∀ b ab x, Hp.get ⟨(acc AB 4 H.nx).set H.bl (some y), m⟩ b = some ab → ρ b = some x → H.get b = some ab := by
    intro b ab x hb hx
    rw [hp_get_set H.bl H.nx H.nx b (some y) hn (h.hr.dom b x hx) m] at hb
    by_cases e : H.nx = b
    · rw [← e, hf _ (Nat.le_refl _)] at hx; cases hx
    · rw [if_neg e] at hb; exact hb
  exact ⟨⟨fun b ab x hb hx => h.hr.live b ab x (key b ab x hb hx) hx, fun b b' ab ab' x x' hb hb' hx hx' e => h.hr.inj b b' ab ab' x x' (key b ab x hb hx) (key b' ab' x' hb' hx') hx hx' e, h.hr.dom⟩, h.base, h.below⟩
/-- a block that the evaluator knows already comes to lie in the world -/
theorem WR.there {H : Hp} (h : WR P w0 ρ H w) {b : Nat} (hb : b < 65536) (hr : ρ b = none) {ab : AB} (hg : H.get b = some ab) {x : Nat × Nat × Nat} (hx : x.1 = w.heap.size) {ob : Obj} (hbr : BR P (ρ.put b x) x ab ob) :
    WR P w0 (ρ.put b x) H (w.alloc ob) := by
  have hle : ρ.le (ρ.put b x) := Rho.le_put x hr
  refine ⟨⟨?_, ?_, ?_⟩, ?_, ?_⟩
  · intro c a y e ey
    by_cases hc : c = b
    · rw [hc, Rho.put_same] at ey; cases ey
      rw [hc, hg] at e; cases e
      exact ⟨ob, by show (w.heap.push ob)[x.1]? = some ob; rw [hx]; simp, hbr⟩
    · rw [Rho.put_other ρ x hc] at ey
      obtain ⟨o, ho, hr'⟩ := h.hr.live c a y e ey
      have hlt := h.hr.lt e ey
      exact ⟨o, by show (w.heap.push ob)[y.1]? = some o; rw [Array.getElem?_push, if_neg (Nat.ne_of_lt hlt)]; exact ho, hr'.mono hle⟩
  · intro c c' a a' y y' e e' ey ey' hyy
    by_cases h1 : c = b <;> by_cases h2 : c' = b
    · rw [h1, h2]
    · rw [h1, Rho.put_same] at ey; cases ey
      rw [Rho.put_other ρ x h2] at ey'
      have := h.hr.lt e' ey'; omega
    · rw [h2, Rho.put_same] at ey'; cases ey'
      rw [Rho.put_other ρ x h1] at ey
      have := h.hr.lt e ey; omega
    · rw [Rho.put_other ρ x h1] at ey
      rw [Rho.put_other ρ x h2] at ey'
      exact h.hr.inj c c' a a' y y' e e' ey ey' hyy
  · intro c y e
    by_cases hc : c = b
    · rw [hc]; exact hb
    · rw [Rho.put_other ρ x hc] at e; exact h.hr.dom c y e
  · intro c y e
    by_cases hc : c = b
    · rw [hc, Rho.put_same] at e; cases e; rw [hx]; exact h.below.size
    · rw [Rho.put_other ρ x hc] at e; exact h.base c y e
  · exact h.below.alloc h.below.size ob

/-! ### makers, said whole -/
/-- an operation that makes one block: the block's number is the next; its cells are known by what was there -/
def Makes (P : Program) (E : Env) (o : Oper) : Prop :=
  ∀ (Φ : Out → Prop) (_ : ∀ c, Φ (.bad_ c)) (ρ : Rho) (w0 w : World) (nt : Nat) (ds : List Nat) (s : St) (a : Act) (r : Rec), WR P w0 ρ s.h w → Fr P ρ nt ds s.lo s.tm a.tmps →
    (∀ v u y (n t : Nat) ob m, s.h.nx < 65536 → (∀ ρ', ρ.le ρ' → BR P ρ' (w.heap.size, n, t) y ob) → Shape v s.h.nx v s.h.nx → (∀ ρ' b v2, ρ' b = some (w.heap.size, n, t) → Shape v s.h.nx v2 b → VR P ρ' v2 u) →
      (execOp a.eval o).run P w = .ok (.value u) (w.alloc ob) → Φ (finH o.dst v ⟨(acc AB 4 s.h.nx).set s.h.bl (some y), m⟩ s)) →
      Φ ((opA o.op E ds o.dst).run r s)
theorem newB_whole (hb : ∀ c, Φ (.bad_ c)) {H : Hp} {ab : AB} {K : Nat → Hp → Out} (h : ∀ m, H.nx < 65536 → Φ (K H.nx ⟨(acc AB 4 H.nx).set H.bl (some ab), m⟩)) : Φ (newB H ab K) := by
  obtain ⟨bl, nx⟩ := H
  show Φ (forceNat nx fun n => bt (Nat.blt n 65536) (forceNat (Nat.succ n) fun m => K n ⟨(acc AB 4 n).set bl (some ab), m⟩) _)
  rw [forceNat_eq]
  refine bt_ok (fun e => ?_) (fun _ => hb _)
  rw [forceNat_eq]
  rw [Nat.blt_eq] at e
  exact h _ e
section
variable (hE : EnvOk P E) {o : Oper}
theorem ptr_shape {v2 : AV} {n b : Nat} {x : Nat × Nat × Nat} (hx : ρ b = some x) (h : Shape (.ptr n 0) n v2 b) : VR P ρ v2 (.pointer (some ⟨x.1, 0, none⟩)) := by
  rcases h with ⟨o, h1, rfl⟩ | ⟨o, n', lo, ex, h1, rfl⟩ | ⟨h1, rfl⟩ <;> simp at h1
  subst h1; exact .ptr b 0 _ hx
theorem makes_box {t : TypeId} {x : Operand} (ho : o.op = .box t x) : Makes P E o := by
  intro Φ hb ρ w0 w nt ds s a r hw hf k
  rw [ho]
  refine opd_ok hb hf fun v hv => newB_whole hb fun m hn => k _ _ _ _ _ _ m hn (fun ρ' hle => BR.whole (c := (a.eval x).cells) (hv.cells.mono hle)) (.inl ⟨0, rfl, rfl⟩) (fun ρ' b v2 hx hs => ptr_shape hx hs) ?_
  simp [execOp, ho, Instr.box, newVar, newRow]
theorem makes_makeMap {t : TypeId} {x : Option Operand} (ho : o.op = .makeMap t x) : Makes P E o := by
  intro Φ hb ρ w0 w nt ds s a r hw hf k
  rw [ho]
  cases x with
  | some x => exact hb _
  | none =>
    refine newB_whole (H := s.h) (ab := .map [] 0) (K := fun b h => finH o.dst (.map b) h s) hb fun m hn => k _ (.map (some w.heap.size)) _ 0 0 (.map #[] 0) m hn (fun ρ' hle => .map [] 0 #[] .nil) (.inr (.inr ⟨rfl, rfl⟩)) (fun ρ' b v2 hx hs => ?_) ?_
    · rcases hs with ⟨o, h1, rfl⟩ | ⟨o, n', lo, ex, h1, rfl⟩ | ⟨h1, rfl⟩ <;> simp at h1
      exact .map b _ hx
    · simp [execOp, ho, Instr.makeMap]
include hE
theorem makes_alloc {t : TypeId} (ho : o.op = .alloc t) : Makes P E o := by
  intro Φ hb ρ w0 w nt ds s a r hw hf k
  rw [ho]
  refine otC_ok hb fun z hz => ?_
  obtain ⟨zv, hzr, hzv⟩ := hE.zero hz w ρ
  refine newB_whole (H := s.h) (ab := .cells z.cells t 0) (K := fun b h => finH o.dst (.ptr b 0) h s) hb fun m hn => k _ _ _ _ _ _ m hn (fun ρ' hle => BR.whole (c := zv.cells) (hzv.cells.mono hle)) (.inl ⟨0, rfl, rfl⟩) (fun ρ' b v2 hx hs => ptr_shape hx hs) ?_
  simp [execOp, ho, Instr.alloc, newVar, newRow, hzr]
theorem makes_makeSlice {t : TypeId} {x y : Operand} (ho : o.op = .makeSlice t x y) : Makes P E o := by
  intro Φ hb ρ w0 w nt ds s a r hw hf k
  rw [ho]
  refine otC_ok hb fun e he => otC_ok hb fun es hes => otC_ok hb fun bytes hbytes => otC_ok hb fun z hz => btC_ok (fun hlen => ?_) (fun _ => hb _)
  refine opd_ok hb hf fun l hl => AV.onInt_ok hb fun k1 n1 e1 => natK_ok hb fun l e1' => opd_ok hb hf fun c hc => AV.onInt_ok hb fun k2 n2 e2 => natK_ok hb fun c e2' => bt_ok (fun hlc => bt_ok (fun hfits => ?_) (fun _ => hb _)) (fun _ => hb _)
  subst e1; subst e1'; subst e2; subst e2'
  rw [forceNat_eq, forceNat_eq]
  obtain ⟨zv, hzr, hzv⟩ := hE.zero hz w ρ
  have hud := elemOf_ud he
  obtain ⟨inf, hinf, hbi⟩ := hE.bytesOf hbytes
  have hlc := Nat.le_of_ble_eq_true hlc
  have hfits := fits_of hfits
  generalize hx : a.eval x = ux at hl
  generalize hy : a.eval y = uy at hc
  cases hl; cases hc
  have hb1 : 1 ≤ bytes + 1 := by omega
  have hc48 : c ≤ 281474976710656 := by
    have : (2 * c + 1024) * 1 ≤ (2 * c + 1024) * (bytes + 1) := Nat.mul_le_mul_left _ hb1
    omega
  have hcb : c * bytes ≤ 281474976710656 := by
    have : c * bytes ≤ (2 * c + 1024) * (bytes + 1) := Nat.mul_le_mul (by omega) (by omega)
    exact Nat.le_trans this hfits
  have hrel := hzv.zeros (w := w) hE hzr hlen c
  have hcb' : ((inf.bytes : Int)) * (c : Int) ≤ 281474976710656 := by
    rw [hbi, ← Int.natCast_mul, Nat.mul_comm]
    exact Int.ofNat_le.2 hcb
  obtain ⟨i', hi', hsz⟩ := hE.szOf hes
  have hii : i' = inf := by rw [hinf] at hi'; cases hi'; rfl
  subst hii
  have hzz : i'.zero = some zv := by
    have := hzr
    simp only [zeroValue, Sem.run_bind, run_typeInfo' w hinf, Result.andThen_ok] at this
    cases hq : i'.zero with
    | none => rw [hq] at this; simp [unsupported, Sem.run] at this
    | some v => rw [hq] at this; simp at this; rw [this]
  have hrun := run_make w t e i' zv (hE.ud hud) hinf hzz k1 k2 l c (by omega) (by omega) hcb' (by omega)
  rw [hsz] at hrun
  refine newB_whole hb fun m hn => k _ (.slice (some ⟨w.heap.size, 0, none⟩) l c) _ _ _ _ m hn (fun ρ' hle => BR.whole (hrel.mono hle)) (.inr (.inl ⟨_, _, _, _, rfl, rfl⟩)) (fun ρ' b v2 hbx hs => ?_) ?_
  · rcases hs with ⟨o, h1, rfl⟩ | ⟨o, n', lo, ex, h1, rfl⟩ | ⟨h1, rfl⟩ <;> simp at h1
    obtain ⟨rfl, rfl, rfl, rfl⟩ := h1
    exact .sl b 0 l c true c _ hbx hlc (Nat.le_refl _) (fun _ => rfl) (by simp)
  · simp only [execOp, ho, hx, hy, Sem.run_bind, hrun, Result.andThen_ok, Sem.run_pure]
    rfl
theorem makes_buildSlice {t : TypeId} {n : Nat} {ps : Array (Nat × Operand)} (ho : o.op = .buildSlice t n ps) : Makes P E o := by
  intro Φ hb ρ w0 w nt ds s a r hw hf k
  rw [ho]
  refine otC_ok hb fun e he => otC_ok hb fun es hes => otC_ok hb fun z hz => btC_ok (fun hlen => btC_ok (fun hsm => ?_) (fun _ => hb _)) (fun _ => hb _)
  obtain ⟨zv, hzr, hzv⟩ := hE.zero hz w ρ
  have hud := elemOf_ud he
  have hsm := Nat.le_of_ble_eq_true hsm
  refine opdps_ok hb hf fun vs hvs => ?_
  have hrel := hzv.zeros (w := w) hE hzr hlen n
  refine fillK_ok (place' := fun i => some (i * es, es)) hb (fun i x hx => hx) hvs hrel fun N d hN hd => newB_whole hb fun m hn => k _ (.slice (some ⟨w.heap.size, 0, none⟩) n n) _ _ _ _ m hn (fun ρ' hle => BR.whole (hN.mono hle)) (.inr (.inl ⟨_, _, _, _, rfl, rfl⟩))
    (fun ρ' b v2 hbx hs => ?_) ?_
  · rcases hs with ⟨o, h1, rfl⟩ | ⟨o, n', lo, ex, h1, rfl⟩ | ⟨h1, rfl⟩ <;> simp at h1
    obtain ⟨rfl, rfl, rfl, rfl⟩ := h1
    exact .sl b 0 n n true n _ hbx (Nat.le_refl _) (Nat.le_refl _) (fun _ => rfl) (by simp)
  have hd' : Instr.fill (fun i => some (i * es, es)) ((Array.range (n * es)).map (fun i => zv.cells[i % zv.cells.size]!)) (ps.toList.map fun x => (x.1, a.eval x.2)) = some d := hd
  have hsm' : ¬ (n * es > 2 ^ 24) := by
    have : (2 : Nat) ^ 24 = 16777216 := by decide
    rw [this]; exact Nat.not_lt.2 hsm
  by_cases h0 : n * es = 0
  · rw [h0] at hd' hsm'
    have e0 : (Array.range 0).map (fun i => zv.cells[i % zv.cells.size]!) = #[] := by simp
    rw [e0] at hd'
    have e1 : ∀ z : Array Value, (Array.range 0).map (fun i => z[i % z.size]!) = #[] := fun _ => by simp
    simp only [execOp, ho, Instr.buildSlice, Sem.run_bind, hE.run_underlying w hud, hE.run_sizeOf w hes, h0, Result.andThen_ok, if_true, Sem.run_pure, Array.toList_map, e1, hd', newRow, run_newObj_alloc]
    rw [if_neg (by decide)]
    simp
  · simp [execOp, ho, Instr.buildSlice, hE.run_underlying w hud, hE.run_sizeOf w hes, h0, hsm', hzr, hd', newRow]
theorem makes_all (hc : cls E o.op = 1) : Makes P E o := by
  cases ho : o.op <;> rw [ho] at hc <;> try (cases hc; done)
  · exact makes_alloc hE ho
  · exact makes_box ho
  · exact makes_buildSlice hE ho
  · next a b x =>
    change bt (isInt E a) (bt (isInt E b) 0 2) 2 = 1 at hc
    cases h1 : isInt E a <;> cases h2 : isInt E b <;> rw [h1, h2] at hc <;> cases hc
  · exact makes_makeMap ho
  · exact makes_makeSlice hE ho
  · next c =>
    cases hcl : c.callee with
    | value f => simp [cls, hcl] at hc
    | invoke r n => simp [cls, hcl] at hc
    | builtin b => cases b <;> simp [cls, hcl, clsB] at hc
end
end Go.Ev
