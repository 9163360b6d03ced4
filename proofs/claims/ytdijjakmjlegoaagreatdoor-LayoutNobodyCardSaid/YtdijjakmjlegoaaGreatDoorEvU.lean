/-
  OPERATIONS THAT READ AT MOST, THE REST: slices, indexes, lookups, type assertions, lengths.
-/
import Derived.Test.YtdijjakmjlegoaaGreatDoorEvT
namespace Go.Ev
open Go.RowKit (Below)
variable {P : Program} {E : Env} {ρ ρ' : Rho} {w0 w : World} {Φ : Out → Prop}

inductive OR (P : Program) (ρ : Rho) : Option AV → Option Value → Prop
  | none : OR P ρ none none
  | some (v : AV) (u : Value) (h : VR P ρ v u) : OR P ρ (some v) (some u)
theorem opdo_or (hb : ∀ c, Φ (.bad_ c)) {nt : Nat} {ds : List Nat} {s : St} {a : Act} (hf : Fr P ρ nt ds s.lo s.tm a.tmps) {x : Option Operand} {K : Option AV → Out} (h : ∀ q, OR P ρ q (x.map a.eval) → (q = none ↔ x = none) → Φ (K q)) : Φ ((opdo ds x).run s K) := by
  refine opdo_ok hb hf (fun e => ?_) (fun y v e hv => ?_)
  · subst e; exact h _ .none (by simp)
  · subst e; exact h _ (.some v _ hv) (by simp)
theorem bnd_ok (hb : ∀ c, Φ (.bad_ c)) {x : Option AV} {xv : Option Value} (hx : OR P ρ x xv) {d most : Nat} {K : Nat → Out} (w : World) (h0 : x = none → xv = none → Φ (K d))
    (h1 : ∀ u i, x ≠ none → xv = some u → i ≤ most → (∀ c most', i ≤ most' → (Instr.sliceBound u most' c).run P w = .ok i w) → Φ (K i)) : Φ (bnd x d most K) := by
  cases hx with
  | none => exact h0 rfl rfl
  | some v u hv =>
    refine AV.onInt_ok hb fun k n e => natK_ok hb fun m e' => bt_ok (fun e'' => ?_) (fun _ => hb _)
    subst e; subst e'
    rw [forceNat_eq]
    have hm := Nat.le_of_ble_eq_true e''
    cases hv
    refine h1 _ m (by simp) rfl hm fun c most' hm' => ?_
    have h1 : (0 : Int) ≤ (m : Int) ∧ (m : Int) ≤ (most' : Int) := by omega
    simp [Instr.sliceBound, asIntOf, h1]
theorem bnds_ok (hb : ∀ c, Φ (.bad_ c)) {low high mx : Option AV} {low' high' mx' : Option Value} (hl : OR P ρ low low') (hh : OR P ρ high high') (hm : OR P ρ mx mx') {n lo cap : Nat} (h1 : n ≤ lo) (h2 : lo ≤ cap)
    (hmx : mx ≠ none → high ≠ none) (w : World) {K : Nat → Nat → Nat → Out}
    (h : ∀ l h m m', l ≤ h → h ≤ m → m ≤ m' → m ≤ lo → (mx = none → m = lo ∧ m' = cap) → (mx ≠ none → m' = m) → (∀ isS, (Instr.sliceBounds isS n cap low' high' mx').run P w = .ok (l, h, m') w) → Φ (K l h m)) :
    Φ (bnd mx lo lo fun m => bnd high n m fun h => bnd low (nat_lit 0) h fun l => K l h m) := by
  refine bnd_ok hb hm w (fun e e' => ?_) (fun u m hne e hle hrun => ?_)
  · refine bnd_ok hb hh w (fun f f' => ?_) (fun u' h' fne f fle frun => ?_)
    · refine bnd_ok hb hl w (fun g g' => ?_) (fun u'' l' gne g gle grun => ?_)
      · exact h 0 n lo cap (by omega) h1 h2 (Nat.le_refl _) (fun _ => ⟨rfl, rfl⟩) (fun k => absurd e k) fun isS => by subst e'; subst f'; subst g'; simp [Instr.sliceBounds]
      · exact h l' n lo cap gle h1 h2 (Nat.le_refl _) (fun _ => ⟨rfl, rfl⟩) (fun k => absurd e k) fun isS => by subst e'; subst f'; subst g; simp [Instr.sliceBounds, grun _ n gle]
    · refine bnd_ok hb hl w (fun g g' => ?_) (fun u'' l' gne g gle grun => ?_)
      · exact h 0 h' lo cap (by omega) fle h2 (Nat.le_refl _) (fun _ => ⟨rfl, rfl⟩) (fun k => absurd e k) fun isS => by subst e'; subst f; subst g'; simp [Instr.sliceBounds, frun _ cap (by omega)]
      · exact h l' h' lo cap gle fle h2 (Nat.le_refl _) (fun _ => ⟨rfl, rfl⟩) (fun k => absurd e k) fun isS => by subst e'; subst f; subst g; simp [Instr.sliceBounds, frun _ cap (by omega), grun _ h' gle]
  · refine bnd_ok hb hh w (fun f f' => ?_) (fun u' h' fne f fle frun => ?_)
    · exact absurd f (hmx hne)
    · refine bnd_ok hb hl w (fun g g' => ?_) (fun u'' l' gne g gle grun => ?_)
      · exact h 0 h' m m (by omega) fle (Nat.le_refl _) hle (fun k => absurd k hne) (fun _ => rfl) fun isS => by subst e; subst f; subst g'; simp [Instr.sliceBounds, hrun _ cap (by omega), frun _ m fle]
      · exact h l' h' m m gle fle (Nat.le_refl _) hle (fun k => absurd k hne) (fun _ => rfl) fun isS => by subst e; subst f; subst g; simp [Instr.sliceBounds, hrun _ cap (by omega), frun _ m fle, grun _ h' gle]

theorem addr_zero (a : Addr) : a.add 0 = a := by cases a; rfl
theorem slRow_ok (hb : ∀ c, Φ (.bad_ c)) {low high mx : Option AV} {low' high' mx' : Option Value} (hl : OR P ρ low low') (hh : OR P ρ high high') (hm : OR P ρ mx mx') {es b o n lo cap : Nat} {ex : Bool} {x : Nat × Nat × Nat}
    (hes : 0 < es) (hx : ρ b = some x) (h1 : n ≤ lo) (h2 : lo ≤ cap) (hex : ex = true → cap = lo) (hin : ex = false → o = 0 → cap * P.cellsOf x.2.2 ≤ x.2.1)
    (hmx : mx ≠ none → high ≠ none) (w : World) {K : AV → Out}
    (h : ∀ v l h m, (∀ isS, (Instr.sliceBounds isS n cap low' high' mx').run P w = .ok (l, h, m) w) → VR P ρ v (.slice (some (if m = l then ⟨x.1, o, none⟩ else (⟨x.1, o, none⟩ : Addr).add (l * es))) (h - l) (m - l)) → Φ (K v)) :
    Φ (slRow es b o n lo ex low high mx K) := by
  refine bnds_ok hb hl hh hm h1 h2 hmx w fun l hi m m' e1 e2 e3 e7 e4 e5 e6 => ?_
  refine bt_ok (fun e => ?_) (fun e => ?_)
  · have hmm : m' = m := by
      by_cases hq : mx = none
      · subst hq
        have := e4 rfl
        cases ex with
        | true => have := hex rfl; omega
        | false => simp [bt_eq] at e
      · exact e5 hq
    subst hmm
    rw [forceNat_eq, forceNat_eq]
    refine bt_ok (fun q => ?_) (fun q => ?_)
    · have q := Nat.eq_of_beq_eq_true q
      refine h _ l hi m' e6 ?_
      rw [if_pos q]
      exact .sl b o (hi - l) (m' - l) true (m' - l) x hx (by omega) (Nat.le_refl _) (fun _ => rfl) (by simp)
    · have q : m' ≠ l := fun e => by subst e; rw [Nat.beq_refl] at q; cases q
      rw [forceNat_eq]
      refine h _ l hi m' e6 ?_
      rw [if_neg q, addr_add]
      exact .sl b (o + l * es) (hi - l) (m' - l) true (m' - l) x hx (by omega) (Nat.le_refl _) (fun _ => rfl) (by simp)
  · have hex' : ex = false := by cases ex with | true => simp at e | false => rfl
    subst hex'
    have hmn : mx = none := by
      cases mx with
      | none => rfl
      | some v => simp [bt_eq] at e
    obtain ⟨rfl, rfl⟩ := e4 hmn
    cases l with
    | zero =>
      refine h _ 0 hi m' e6 ?_
      simp only [Nat.zero_mul, addr_zero, ite_self, Nat.sub_zero]
      exact .sl b o hi m false m' x hx e2 h2 (by simp) hin
    | succ l =>
      refine bt_ok (fun q => ?_) (fun q => ?_)
      · have q := Nat.eq_of_beq_eq_true q
        refine h _ (l + 1) hi m' e6 ?_
        have : hi - (l + 1) = 0 := by omega
        rw [this]
        exact .esl _ _
      · have q : m ≠ l + 1 := fun e => by subst e; rw [Nat.beq_refl] at q; cases q
        rw [forceNat_eq, forceNat_eq, forceNat_eq]
        refine h _ (l + 1) hi m' e6 ?_
        rw [if_neg (by omega), addr_add]
        refine .sl b (o + (l + 1) * es) (hi - (l + 1)) (m - (l + 1)) false (m' - (l + 1)) x hx (by omega) (by omega) (by simp) fun _ e => ?_
        have : 0 < (l + 1) * es := Nat.mul_pos (by omega) hes
        omega
theorem sliceNil_ok (hb : ∀ c, Φ (.bad_ c)) {low high mx : Option AV} {low' high' mx' : Option Value} (hl : OR P ρ low low') (hh : OR P ρ high high') (hm : OR P ρ mx mx') {r : AV} (hmx : mx ≠ none → high ≠ none) (w : World) {K : AV → Out} {cap : Nat}
    (h : ∀ m', (mx = none → m' = cap) → (mx ≠ none → m' = 0) → (∀ isS, (Instr.sliceBounds isS 0 cap low' high' mx').run P w = .ok (0, 0, m') w) → Φ (K r)) : Φ (sliceNil low high mx r K) := by
  refine bnds_ok (n := 0) (lo := 0) (cap := cap) hb hl hh hm (Nat.le_refl _) (Nat.zero_le _) hmx w fun l hi m m' e1 e2 e3 e7 e4 e5 e6 => ?_
  obtain rfl : m = 0 := by omega
  obtain rfl : hi = 0 := by omega
  obtain rfl : l = 0 := by omega
  exact h m' (fun k => (e4 k).2) e5 e6
theorem slS_ok (hb : ∀ c, Φ (.bad_ c)) {low high mx : Option AV} {low' high' mx' : Option Value} (hl : OR P ρ low low') (hh : OR P ρ high high') (hm : OR P ρ mx mx') {t es e : Nat} (hE : EnvOk P E) (hd : ud E t = some (.slice e)) (hs : szOf E e = some es)
    (hes : 0 < es) {v : AV} {u : Value} (hv : VR P ρ v u) (hmx : mx ≠ none → high ≠ none) (w : World) {K : AV → Out}
    (h : ∀ r q, VR P ρ r q → (Instr.sliceAt t u low' high' mx').run P w = .ok q w → Φ (K r)) : Φ (slS es v low high mx K) := by
  have hu := hE.run_underlying w hd
  have hz := hE.run_sizeOf w hs
  unfold slS
  cases hv with
  | sl b o n lo ex cap x hx h1 h2 h3 h4 =>
    refine slRow_ok hb hl hh hm hes hx h1 h2 h3 h4 hmx w fun r l hi m hr hq => h r _ hq ?_
    simp [Instr.sliceAt, Instr.slice, hu, hr, hz]
    split <;> rfl
  | nilsl =>
    refine sliceNil_ok (cap := 0) hb hl hh hm hmx w fun m' e1 e2 hr => ?_
    obtain rfl : m' = 0 := by
      by_cases hq : mx = none
      · exact e1 hq
      · exact e2 hq
    refine h _ _ .nilsl ?_
    simp [Instr.sliceAt, Instr.slice, hu, hr, hz]
  | esl a cap =>
    cases hm with
    | some => exact hb _
    | none =>
      refine sliceNil_ok (cap := cap) hb hl hh .none hmx w fun m' e1 e2 hr => ?_
      obtain rfl := e1 rfl
      refine h _ _ (.esl a m') ?_
      simp [Instr.sliceAt, Instr.slice, hu, hr, hz, addr_zero]
  | _ => exact hb _
theorem slice_string (s : ByteArray) (l h : Nat) (h1 : l ≤ h) (h2 : h ≤ s.size) : (s.extract l h).data.toList.map UInt8.toNat = ((s.data.toList.map UInt8.toNat).drop l).take (h - l) := by
  rw [ByteArray.data_extract]
  simp [List.map_take, List.map_drop, Array.toList_extract, List.extract_eq_take_drop]
theorem sliceStr_ok (hb : ∀ c, Φ (.bad_ c)) {low high : Option AV} {low' high' : Option Value} (hl : OR P ρ low low') (hh : OR P ρ high high') {t : Nat} (hE : EnvOk P E) (hd : ud E t = some .string) {s : ByteArray} (w : World) {K : AV → Out}
    (h : ∀ r q, VR P ρ r q → (Instr.sliceAt t (.string s) low' high' none).run P w = .ok q w → Φ (K r)) : Φ (sliceStr (s.data.toList.map UInt8.toNat) low high K) := by
  have hu := hE.run_underlying w hd
  unfold sliceStr
  rw [forceNat_eq, lenL_eq]
  have hlen : (s.data.toList.map UInt8.toNat).length = s.size := by simp
  rw [hlen]
  show Φ (bnd none s.size s.size fun m => bnd high s.size m fun h => bnd low (nat_lit 0) h fun l => ot (slc (List.map UInt8.toNat s.data.toList) l (h.sub l)) _ fun r => K (AV.str r))
  refine bnds_ok hb hl hh .none (Nat.le_refl _) (Nat.le_refl _) (by simp) w fun l hi m m' e1 e2 e3 e7 e4 e5 e6 => ?_
  obtain ⟨rfl, rfl⟩ := e4 rfl
  refine ot_ok hb fun r hr => ?_
  rw [slc_eq] at hr
  split at hr
  · simp only [Option.some.injEq] at hr
    have hv := VR.str (P := P) (ρ := ρ) (s.extract l hi)
    rw [slice_string s l hi e1 e2] at hv
    rw [← hr]
    refine h _ _ hv ?_
    simp [Instr.sliceAt, Instr.slice, hu, e6]
  · cases hr
theorem reads_slice (hE : EnvOk P E) {o : Oper} {t : TypeId} {x : Operand} {lo hi mx : Option Operand} (ho : o.op = .slice t x lo hi mx) : Reads P E o := by
  intro Φ hb ρ w0 w nt ds s a r hw hf h
  rw [ho]
  refine btC_ok (fun _ => hb _) fun e => otC_ok hb fun F hF => opd_ok hb hf fun v hv => opdo_or hb hf fun lo' hlo elo => opdo_or hb hf fun hi' hhi ehi => opdo_or hb hf fun mx' hmx emx => ?_
  have hmh : mx' ≠ none → hi' ≠ none := by
    intro h1 h2
    rw [ehi] at h2
    cases mx with
    | none => exact h1 (emx.2 rfl)
    | some y => subst h2; simp at e
  have hk : ∀ r q, VR P ρ r q → (Instr.sliceAt t (a.eval x) (lo.map a.eval) (hi.map a.eval) (mx.map a.eval)).run P w = .ok q w → Φ (fin o.dst r s) := fun r q hr hq => h r q hr (by simp only [execOp, ho, Sem.run_bind, hq, Result.andThen_ok, Sem.run_pure])
  unfold sliceF at hF
  split at hF
  · next e =>
    simp only [Option.some.injEq] at hF; subst hF
    refine AV.onStr_ok hb fun q e' => ?_
    subst e'
    generalize hq : AV.str q = X1 at hv
    generalize hu : a.eval x = u at hv hk
    cases hv <;> cases hq
    generalize hm' : mx.map a.eval = mxv at hmx hk
    cases hmx with
    | some => exact hb _
    | none => exact sliceStr_ok hb hlo hhi hE e w hk
  · next el e =>
    cases hs : szOf E el with
    | none => rw [hs] at hF; cases hF
    | some es =>
      rw [hs, ot_some] at hF
      cases es with
      | zero => cases hF
      | succ es =>
        simp only [nt_succ, Option.some.injEq] at hF; subst hF
        exact slS_ok hb hlo hhi hmx hE e hs (by omega) hv hmh w hk
  · next n el e =>
    cases hs : szOf E el with
    | none => rw [hs] at hF; cases hF
    | some es =>
      rw [hs, ot_some] at hF
      cases es with
      | zero => cases hF
      | succ es =>
        simp only [nt_succ, Option.some.injEq] at hF; subst hF
        refine AV.onPtr_ok hb fun b off e' => ?_
        subst e'
        generalize hu : a.eval x = u at hv hk
        cases hv with
        | ptr b off y hy =>
          refine slRow_ok hb hlo hhi hmx (cap := n) (Nat.succ_pos es) hy (Nat.le_refl _) (Nat.le_refl _) (fun _ => rfl) (by simp) hmh w fun r l hi m hr hq => hk r _ hq ?_
          simp [Instr.sliceAt, hE.run_underlying w e, Instr.sureAddr, hr, hE.run_sizeOf w hs]
  · cases hF
end Go.Ev
