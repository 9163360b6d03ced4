/-
  WHAT THE EVALUATOR's TABLES SAY OF THE PROGRAM; operands.
-/
import Derived.Test.YtdijjakmjlegoaaGreatDoorEvS
namespace Go.Ev
open Go.RowKit (Below)

structure EnvOk (P : Program) (E : Env) : Prop where
  fs : ∀ f fn, f < 4096 → (acc Func 3 f).get E.fs = some fn → P.funcs[f]? = some fn ∧ (fn.name == "runtime.NumGoroutine") = false
  ty : ∀ t i, t < 4096 → info E t = some i → P.info? t = some i
  eqs : ∀ t, t ∈ E.eqs → P.stoodInHeld t = false ∧ P.eqGuardType P.depth t = false
  noesc : ∀ x w, (callFunc E.noesc #[x]).run P w = .ok (.value x) w
  idxb : ∀ (s : ByteArray) (c : Nat) (w : World), c < 256 → (callFunc E.idxb #[.string s, .int .u8 c]).run P w = .ok (.value (.int .i64 (idxOf c (s.data.toList.map UInt8.toNat) 0))) w
  mixed : P.follows .mixedOrders = true

variable {P : Program} {E : Env} {ρ ρ' : Rho} {w0 w : World}

theorem EnvOk.infoK (hE : EnvOk P E) {β : Type} {t : Nat} {n : β} {k : TypeInfo → β} {r : β} (h : infoK E t n k = r) (hn : n ≠ r) : ∃ i, P.info? t = some i ∧ k i = r := by
  change bt (Nat.blt t 4096) (ot (info E t) n k) n = r at h
  cases hb : Nat.blt t 4096 with
  | false => rw [hb] at h; exact absurd h hn
  | true =>
    rw [hb, bt_true] at h
    rw [Nat.blt_eq] at hb
    cases hi : info E t with
    | none => rw [hi] at h; exact absurd h hn
    | some i => rw [hi] at h; exact ⟨i, hE.ty t i hb hi, h⟩
theorem EnvOk.ud (hE : EnvOk P E) {t : Nat} {d : TypeDesc} (h : ud E t = some d) : P.underlying t = some d := by
  obtain ⟨i, hi, h⟩ := hE.infoK h (by simp)
  unfold Program.underlying
  rw [hi]
  split at h
  · next u e =>
    obtain ⟨j, hj, h⟩ := hE.infoK h (by simp)
    cases i with
    | mk desc str size bytes hp al fa z cm ms =>
      change desc = _ at e
      subst e
      simp only [hj, Option.map_some]; exact h
  · next e =>
    simp at h
    cases i with
    | mk desc str size bytes hp al fa z cm ms =>
      simp only at h e; subst h
      cases desc <;> first | rfl | (exfalso; exact e _ _ rfl)
theorem EnvOk.szOf (hE : EnvOk P E) {t n : Nat} (h : szOf E t = some n) : ∃ i, P.info? t = some i ∧ i.size = n := by
  obtain ⟨i, hi, h⟩ := hE.infoK h (by simp)
  exact ⟨i, hi, by simpa using h⟩
theorem EnvOk.bytesOf (hE : EnvOk P E) {t n : Nat} (h : bytesOf E t = some n) : ∃ i, P.info? t = some i ∧ i.bytes = n := by
  obtain ⟨i, hi, h⟩ := hE.infoK h (by simp)
  exact ⟨i, hi, by simpa using h⟩
theorem EnvOk.cellsOf (hE : EnvOk P E) {t n : Nat} (h : Ev.szOf E t = some n) : P.cellsOf t = n := by
  obtain ⟨i, hi, h⟩ := hE.szOf h
  simp [Program.cellsOf, hi, h]
section
variable (w : World)
theorem run_typeInfo' {t : Nat} {i : TypeInfo} (h : P.info? t = some i) : (typeInfo t).run P w = .ok i w := by simp [typeInfo, h]
theorem EnvOk.run_underlying (hE : EnvOk P E) {t : Nat} {d : TypeDesc} (h : Ev.ud E t = some d) : (underlying t).run P w = .ok d w := by simp [underlying, hE.ud h]
theorem EnvOk.run_sizeOf (hE : EnvOk P E) {t n : Nat} (h : Ev.szOf E t = some n) : (sizeOf t).run P w = .ok n w := by
  obtain ⟨i, hi, h⟩ := hE.szOf h
  simp [Go.sizeOf, run_typeInfo' w hi, h]
theorem EnvOk.run_isAgg (hE : EnvOk P E) {t : Nat} {a : Bool} (h : isA E t = some a) : (isAgg t).run P w = .ok a w := by
  unfold isA at h
  unfold isAgg
  split at h
  · next e => simp at h; subst h; simp [hE.run_underlying w e]
  · next e => simp at h; subst h; simp [hE.run_underlying w e]
  · next d e1 e2 e => 
    simp at h; subst h
    simp only [Sem.run_bind, hE.run_underlying w e, Result.andThen_ok]
    cases d <;> first | rfl | (exfalso; exact e1 _ rfl) | (exfalso; exact e2 _ _ rfl)
  · cases h
end

/-! ### constants -/
theorem atom_rel {v : Value} {a : AV} (h : atom v = some a) : VR P ρ a v := by
  unfold atom at h
  split at h <;> simp at h <;> try subst h
  · exact .bool _
  · exact .int _ _
  · exact .flt _ _
  · exact .str _
  · exact .nilp
  · exact .nilsl
  · exact .nilmap
  · exact .nilfn
  · exact .nilifc
theorem atoms_rel : ∀ {l : List Value} {m : List AV}, atoms l = some m → VRs P ρ m l
  | [], m, h => by simp [atoms] at h; subst h; exact .nil
  | v :: l, m, h => by
    simp only [atoms] at h
    split at h
    · next a m' h1 h2 => simp at h; subst h; exact .cons _ _ _ _ (atom_rel h1) (atoms_rel h2)
    · cases h
theorem toAV_rel {v : Value} {a : AV} (h : toAV v = some a) : VR P ρ a v := by
  unfold toAV at h
  split at h
  · next cs =>
    cases h' : atoms cs.toList with
    | none => rw [h'] at h; cases h
    | some m => rw [h'] at h; simp at h; subst h; exact .agg _ _ (atoms_rel h')
  · next cs =>
    cases h' : atoms cs.toList with
    | none => rw [h'] at h; cases h
    | some m => rw [h'] at h; simp at h; subst h; exact .tup _ _ (atoms_rel h')
  · exact atom_rel h
theorem EnvOk.zero (hE : EnvOk P E) {t : Nat} {z : AV} (h : zero E t = some z) (w : World) (ρ : Rho) : ∃ v, (zeroValue t).run P w = .ok v w ∧ VR P ρ z v := by
  obtain ⟨i, hi, h⟩ := hE.infoK h (by simp)
  split at h
  · next v e => exact ⟨v, by simp [zeroValue, run_typeInfo' w hi, e], toAV_rel h⟩
  · cases h

/-! ### cells -/
theorem VR.cells {v : AV} {u : Value} (h : VR P ρ v u) : VRs P ρ v.cells u.cells.toList := by
  cases h with
  | agg l l' h => exact h
  | unk _ hv => cases u <;> first | exact .cons _ _ _ _ (.unk _ hv) .nil | simp [Value.oneCell'] at hv
  | bool b => exact .cons _ _ _ _ (.bool b) .nil
  | int k n => exact .cons _ _ _ _ (.int k n) .nil
  | flt k n => exact .cons _ _ _ _ (.flt k n) .nil
  | str s => exact .cons _ _ _ _ (.str s) .nil
  | ptr b o x h => exact .cons _ _ _ _ (.ptr b o x h) .nil
  | nilp => exact .cons _ _ _ _ .nilp .nil
  | sl b o n lo ex cap x h hn hlo hex hin => exact .cons _ _ _ _ (.sl b o n lo ex cap x h hn hlo hex hin) .nil
  | esl a cap => exact .cons _ _ _ _ (.esl a cap) .nil
  | nilsl => exact .cons _ _ _ _ .nilsl .nil
  | map r x h => exact .cons _ _ _ _ (.map r x h) .nil
  | nilmap => exact .cons _ _ _ _ .nilmap .nil
  | fn g a c a' c' ha hc => exact .cons _ _ _ _ (.fn g a c a' c' ha hc) .nil
  | yld l x h => exact .cons _ _ _ _ (.yld l x h) .nil
  | nilfn => exact .cons _ _ _ _ .nilfn .nil
  | ifc t v v' h => exact .cons _ _ _ _ (.ifc t v v' h) .nil
  | nilifc => exact .cons _ _ _ _ .nilifc .nil
  | tup l l' h => exact .cons _ _ _ _ (.tup l l' h) .nil
theorem VR.one {v : AV} {u : Value} (h : VR P ρ v u) (ho : oneA v = true) : u.oneCell' = true := by
  cases h with
  | unk v hv => exact hv
  | agg l l' h => cases ho
  | tup l l' h => cases ho
  | _ => rfl
theorem VRs.one : ∀ {l : List AV} {m : List Value}, VRs P ρ l m → allOne l = true → ∀ u ∈ m, u.oneCell' = true
  | _, _, .nil, _, u, hu => by simp at hu
  | _, _, .cons v l v' l' h hl, ho, u, hu => by
    change bt (oneA v) (allOne l) false = true at ho
    cases hv : oneA v with
    | false => rw [hv] at ho; cases ho
    | true =>
      rw [hv, bt_true] at ho
      simp at hu
      rcases hu with rfl | hu
      · exact h.one hv
      · exact hl.one ho u hu

/-! ### a frame -/
inductive DR (P : Program) (ρ : Rho) : ADef → Deferred → Prop
  | fn (f : AV) (args : List AV) (fn : Fn) (fst cap : Array Value) (args' : List Value) (hf : VR P ρ f (.func fn fst cap)) (ha : VRs P ρ args args') : DR P ρ (.fn f args) { target := .fn fn cap, args := fst ++ args'.toArray }
  | coll (b : Nat) (x : Nat × Nat × Nat) (h : ρ b = some x) : DR P ρ (.coll b) { target := .collected x.1, args := #[] }
inductive DRs (P : Program) (ρ : Rho) : List ADef → List Deferred → Prop
  | nil : DRs P ρ [] []
  | cons (a : ADef) (d : Deferred) (l : List ADef) (m : List Deferred) (h : DR P ρ a d) (hl : DRs P ρ l m) : DRs P ρ (a :: l) (d :: m)
theorem DR.mono (h : ρ.le ρ') {a : ADef} {d : Deferred} (k : DR P ρ a d) : DR P ρ' a d := by
  cases k with
  | fn f args fn fst cap args' hf ha => exact .fn f args fn fst cap args' (hf.mono h) (ha.mono h)
  | coll b x e => exact .coll b x (h _ _ e)
theorem DRs.mono (h : ρ.le ρ') : ∀ {l : List ADef} {m : List Deferred}, DRs P ρ l m → DRs P ρ' l m
  | _, _, .nil => .nil
  | _, _, .cons a d l m k kl => .cons a d l m (k.mono h) (DRs.mono h kl)

/-- what a state knows of a frame: by place of those that the region has set (ds), else by number -/
structure Fr (P : Program) (ρ : Rho) (nt : Nat) (ds : List Nat) (lo : List AV) (tm : TT AV 2) (a : Array Value) : Prop where
  sz : nt ≤ a.size
  lo : ∀ t k v, pos ds t = some k → lo[k]? = some v → VR P ρ v (a.getD t undef)
  tm : ∀ t v, pos ds t = none → t < 256 → (acc AV 2 t).get tm = some v → VR P ρ v (a.getD t undef)
theorem Fr.mono {nt : Nat} {ds : List Nat} {lo : List AV} {tm : TT AV 2} {a : Array Value} (h : ρ.le ρ') (k : Fr P ρ nt ds lo tm a) : Fr P ρ' nt ds lo tm a :=
  ⟨k.sz, fun t i v e e' => (k.lo t i v e e').mono h, fun t v e ht e' => (k.tm t v e ht e').mono h⟩
theorem pos_cons_same (t : Nat) (ds : List Nat) : pos (t :: ds) t = some 0 := by
  show @Bool.rec (fun _ => Option Nat) _ (some 0) (Nat.beq t t) = _
  rw [Nat.beq_refl]
theorem pos_cons_other {t u : Nat} (ds : List Nat) (h : u ≠ t) : pos (u :: ds) t = (pos ds t).map Nat.succ := by
  show @Bool.rec (fun _ => Option Nat) _ (some 0) (Nat.beq u t) = _
  have : Nat.beq u t = false := by
    cases hb : Nat.beq u t with
    | false => rfl
    | true => exact absurd (Nat.eq_of_beq_eq_true hb) h
  rw [this]
  show ot (pos ds t) none (fun k => some (Nat.succ k)) = _
  cases pos ds t <;> rfl
/-- a value into a tmp -/
theorem Fr.put {nt : Nat} {ds : List Nat} {lo : List AV} {tm : TT AV 2} {a : Act} (k : Fr P ρ nt ds lo tm a.tmps) {t : Nat} (ht : t < nt) {v : AV} {u : Value} (h : VR P ρ v u) :
    Fr P ρ nt (t :: ds) (v :: lo) tm (a.put (some t) u).tmps := by
  have hs : t < a.tmps.size := Nat.lt_of_lt_of_le ht k.sz
  have e1 : (a.put (some t) u).tmps = a.tmps.setIfInBounds t u := rfl
  have same : (a.tmps.setIfInBounds t u).getD t undef = u := by simp [Array.getD_eq_getD_getElem?, hs]
  have other : ∀ i, i ≠ t → (a.tmps.setIfInBounds t u).getD i undef = a.tmps.getD i undef := by
    intro i hi; simp [Array.getD_eq_getD_getElem?, Array.getElem?_setIfInBounds_ne (fun e => hi e.symm)]
  rw [e1]
  refine ⟨by simpa using k.sz, ?_, ?_⟩
  · intro i j x hp hx
    by_cases hi : t = i
    · subst hi; rw [pos_cons_same] at hp; cases hp
      simp at hx; subst hx; rw [same]; exact h
    · rw [pos_cons_other ds hi] at hp
      rw [other i (fun e => hi e.symm)]
      cases hq : pos ds i with
      | none => rw [hq] at hp; cases hp
      | some q =>
        rw [hq] at hp; simp at hp; subst hp
        exact k.lo i q x hq (by simpa using hx)
  · intro i x hp hi hx
    by_cases he : t = i
    · subst he; rw [pos_cons_same] at hp; cases hp
    · rw [pos_cons_other ds he] at hp
      rw [other i (fun e => he e.symm)]
      exact k.tm i x (by cases hq : pos ds i with | none => rfl | some q => rw [hq] at hp; cases hp) hi hx

/-! ### operands -/
section
variable {Φ : Out → Prop} (hb : ∀ c, Φ (.bad_ c)) {nt : Nat} {ds : List Nat} {s : St} {a : Act}
include hb
theorem pick_ok : ∀ {k : Nat} {l : List AV} {K : AV → Out}, (∀ v, l[k]? = some v → Φ (K v)) → Φ ((pick k).run l K)
  | 0, [], _, _ => hb _
  | 0, v :: _, _, h => h v (by simp)
  | _ + 1, [], _, _ => hb _
  | k + 1, _ :: l, _, h => pick_ok (k := k) (l := l) fun u hu => h u (by simpa using hu)
theorem opT_ok (hf : Fr P ρ nt ds s.lo s.tm a.tmps) {t : Nat} {K : AV → Out} (h : ∀ v, VR P ρ v (a.tmps.getD t undef) → Φ (K v)) : Φ ((opT ds t).run s K) := by
  unfold opT
  cases hp : pos ds t with
  | none =>
    show Φ ((@Bool.rec (fun _ => Opd) _ _ (Nat.blt t 256)).run s K)
    cases ht : Nat.blt t 256 with
    | false => exact hb _
    | true =>
      rw [Nat.blt_eq] at ht
      show Φ (@Option.rec AV (fun _ => Out) _ K ((acc AV 2 t).get s.tm))
      cases hg : (acc AV 2 t).get s.tm with
      | none => exact hb _
      | some v => exact h v (hf.tm t v hp ht hg)
  | some k => exact pick_ok hb fun v hv => h v (hf.lo t k v hp hv)
theorem opd_ok (hf : Fr P ρ nt ds s.lo s.tm a.tmps) {x : Operand} {K : AV → Out} (h : ∀ v, VR P ρ v (a.eval x) → Φ (K v)) : Φ ((opd ds x).run s K) := by
  cases x with
  | tmp t => exact opT_ok hb hf h
  | const v =>
    show Φ ((@Option.rec AV (fun _ => Opd) _ _ (toAV v)).run s K)
    cases hv : toAV v with
    | none => exact hb _
    | some u => exact h u (toAV_rel hv)
  | global g => exact hb _
  | func f => exact h _ (.fn f [] [] #[] #[] .nil .nil)
theorem opds_ok (hf : Fr P ρ nt ds s.lo s.tm a.tmps) : ∀ {l : List Operand} {K : List AV → Out}, (∀ m, VRs P ρ m (l.map a.eval) → Φ (K m)) → Φ ((opds ds l).run s K)
  | [], _, h => h [] .nil
  | _ :: _, _, h => opd_ok hb hf fun v hv => opds_ok hf fun m hm => h (v :: m) (.cons _ _ _ _ hv hm)
theorem opdo_ok (hf : Fr P ρ nt ds s.lo s.tm a.tmps) {x : Option Operand} {K : Option AV → Out} (hn : x = none → Φ (K none)) (hs : ∀ y v, x = some y → VR P ρ v (a.eval y) → Φ (K (some v))) : Φ ((opdo ds x).run s K) := by
  cases x with
  | none => exact hn rfl
  | some y => exact opd_ok hb hf fun v hv => hs y v rfl hv
end
end Go.Ev
