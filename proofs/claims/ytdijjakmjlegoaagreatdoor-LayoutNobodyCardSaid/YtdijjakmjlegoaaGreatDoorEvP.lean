/-
  OPERATIONS THAT READ AT MOST, MORE: arithmetic, comparisons, indexes.
-/
import Derived.Test.YtdijjakmjlegoaaGreatDoorEvO
import Derived.Lib.Strings
namespace Go.Ev
open Go.RowKit (Below)
variable {P : Program} {E : Env} {ρ ρ' : Rho} {w0 w : World} {Φ : Out → Prop}

/-! ### equality -/
/-- of what kind of atoms a type is -/
def KdOf (d : TypeDesc) (q : Nat) : Prop := (d = .bool ∧ q = 0) ∨ ((∃ k, d = .int k) ∧ q = 1) ∨ (d = .string ∧ q = 2)
/-- two atoms, and the model's own comparison at their type -/
theorem eqKd_ok (hE : EnvOk P E) {t : Nat} {d : TypeDesc} (hd : ud E t = some d) {q : Nat} (ha : KdOf d q) {x y : AV} {u v : Value} (hx : VR P ρ x u) (hy : VR P ρ y v) {b : Bool}
    (h : eqKd q x y = some b) (w : World) (n : Nat) : (Op.equalIn (n + 1) t u v).run P w = .ok b w := by
  have hu := hE.run_underlying w hd
  rcases ha with ⟨rfl, rfl⟩ | ⟨⟨k, rfl⟩, rfl⟩ | ⟨rfl, rfl⟩
  · cases hx <;> cases hy <;> try (cases h; done)
    next p q =>
    change some (bt p q (bt q false true)) = some b at h
    simp only [Op.equalIn, Sem.run_bind, hu, Result.andThen_ok]
    cases p <;> cases q <;> simp at h <;> subst h <;> rfl
  · cases hx <;> cases hy <;> try (cases h; done)
    next k n' k' m =>
    change bt (eqK k k') (some (eqI n' m)) none = some b at h
    rw [eqK_eq, eqI_eq] at h
    by_cases e : k = k'
    · subst e; simp at h; subst h
      simp only [Op.equalIn, Sem.run_bind, hu, Result.andThen_ok]
      simp; rw [Bool.eq_iff_iff]; simp
    · simp [e] at h
  · cases hx <;> cases hy <;> try (cases h; done)
    next s s' =>
    change some (eqL _ _) = some b at h
    rw [eqL_eq] at h; simp only [Option.some.injEq] at h; subst h
    simp only [Op.equalIn, Sem.run_bind, hu, Result.andThen_ok]
    simp only [Sem.run_pure]
    congr 1
    have hbeq : (s == s') = (s.data == s'.data) := rfl
    rw [hbeq, Bool.eq_iff_iff, beq_iff_eq, decide_eq_true_eq]
    constructor
    · intro e; rw [e]
    · intro e
      exact Array.toList_inj.1 ((List.map_inj_right fun a b h => UInt8.toNat_inj.1 h).1 e)

/-! ### arithmetic -/
theorem intOp_ok (hb : ∀ c, Φ (.bad_ c)) {op : BinOp} {k : IntKind} {m n : Int} {K : AV → Out} {t : TypeId} {X Y : Operand} (w : World)
    (h : ∀ v u, VR P ρ v u → (do eqGuard op t X Y (.int k m) (.int k n); binOp op t (.int k m) (.int k n) : Sem Value).run P w = .ok u w → Φ (K v)) : Φ (intOp op k m n K) := by
  have g : ∀ op, (eqGuard op t X Y (.int k m) (.int k n)).run P w = .ok () w := by intro op; unfold eqGuard; cases op <;> rfl
  cases op with
  | add => show Φ (wrapK k (addI m n) K); rw [wrapK_eq, addI_eq]; exact h _ _ (.int _ _) (by simp [g, binOp, Op.intArith])
  | sub => show Φ (wrapK k (m - n) K); rw [wrapK_eq]; exact h _ _ (.int _ _) (by simp [g, binOp, Op.intArith])
  | mul => show Φ (wrapK k (m * n) K); rw [wrapK_eq]; exact h _ _ (.int _ _) (by simp [g, binOp, Op.intArith])
  | quo =>
    show Φ (bt (eqI n (.ofNat 0)) _ (wrapK k (m.tdiv n) K))
    refine bt_ok (fun _ => hb _) (fun e => ?_)
    rw [eqI_eq] at e
    have hn : n ≠ 0 := by simpa using e
    rw [wrapK_eq]; exact h _ _ (.int _ _) (by simp [g, binOp, Op.intDiv, hn])
  | rem =>
    show Φ (bt (eqI n (.ofNat 0)) _ (rawK k (m.tmod n) K))
    refine bt_ok (fun _ => hb _) (fun e => ?_)
    rw [eqI_eq] at e
    have hn : n ≠ 0 := by simpa using e
    rw [rawK_eq]; exact h _ _ (.int _ _) (by simp [g, binOp, Op.intDiv, hn])
  | and => show Φ (andS k m n K); rw [andS, wrapS_eq]; exact h _ _ (.int _ _) (by simp [g, binOp, Op.intBits])
  | or => show Φ (orS k m n K); rw [orS, wrapS_eq]; exact h _ _ (.int _ _) (by simp [g, binOp, Op.intBits])
  | xor => show Φ (xorS k m n K); rw [xorS, wrapS_eq]; exact h _ _ (.int _ _) (by simp [g, binOp, Op.intBits])
  | shl => exact hb _
  | shr => exact hb _
  | andNot => show Φ (andNotS k m n K); rw [andNotS, wrapS_eq]; exact h _ _ (.int _ _) (by simp [g, binOp, Op.intBits])
  | eql => show Φ (K (.bool (eqI m n))); exact h _ _ (.bool _) (by simp [g, binOp, Op.intCmp, eqI_eq]; rw [Bool.eq_iff_iff]; simp)
  | neq => show Φ (K (.bool (bt (eqI m n) false true))); exact h _ _ (.bool _) (by simp [g, binOp, Op.intCmp, eqI_eq, bt_eq]; rw [Bool.eq_iff_iff]; simp)
  | lss => show Φ (K (.bool (ltI m n))); exact h _ _ (.bool _) (by simp [g, binOp, Op.intCmp, ltI_eq])
  | leq => show Φ (K (.bool (bt (ltI n m) false true))); exact h _ _ (.bool _) (by simp [g, binOp, Op.intCmp, ltI_eq, bt_eq]; rw [Bool.eq_iff_iff]; simp)
  | gtr => show Φ (K (.bool (ltI n m))); exact h _ _ (.bool _) (by simp [g, binOp, Op.intCmp, ltI_eq])
  | geq => show Φ (K (.bool (bt (ltI m n) false true))); exact h _ _ (.bool _) (by simp [g, binOp, Op.intCmp, ltI_eq, bt_eq]; rw [Bool.eq_iff_iff]; simp)
theorem shS_ok (hb : ∀ c, Φ (.bad_ c)) {op : BinOp} {k k' : IntKind} {m n : Int} {K : AV → Out} {t : TypeId} {X Y : Operand} (w : World) (ho : op = .shl ∨ op = .shr)
    (h : ∀ v u, VR P ρ v u → (do eqGuard op t X Y (.int k m) (.int k' n); binOp op t (.int k m) (.int k' n) : Sem Value).run P w = .ok u w → Φ (K v)) : Φ (shS op k m n K) := by
  have g : ∀ op, (eqGuard op t X Y (.int k m) (.int k' n)).run P w = .ok () w := by intro op; unfold eqGuard; cases op <;> rfl
  refine natK_ok hb fun y e => ?_
  subst e
  rcases ho with rfl | rfl
  · show Φ (wrapS k _ K); rw [wrapS_eq]; exact h _ _ (.int _ _) (by simp [g, binOp, Op.shift, show ¬ ((y : Int) < 0) by omega])
  · show Φ (rawK k _ K); rw [rawK_eq]; exact h _ _ (.int _ _) (by simp [g, binOp, Op.shift, show ¬ ((y : Int) < 0) by omega])
theorem bytes_map_inj {a b : ByteArray} : a.data.toList.map UInt8.toNat = b.data.toList.map UInt8.toNat ↔ a.data.toList = b.data.toList :=
  List.map_inj_right fun x y h => UInt8.toNat_inj.1 h
theorem strS_ok (hb : ∀ c, Φ (.bad_ c)) {op : BinOp} {p q : ByteArray} {K : AV → Out} {t : TypeId} {X Y : Operand} (w : World)
    (h : ∀ v u, VR P ρ v u → (do eqGuard op t X Y (.string p) (.string q); binOp op t (.string p) (.string q) : Sem Value).run P w = .ok u w → Φ (K v)) :
    Φ (strS op (p.data.toList.map UInt8.toNat) (q.data.toList.map UInt8.toNat) K) := by
  have g : ∀ op, (eqGuard op t X Y (.string p) (.string q)).run P w = .ok () w := by intro op; unfold eqGuard; cases op <;> rfl
  have e1 : eqL (p.data.toList.map UInt8.toNat) (q.data.toList.map UInt8.toNat) = (p.toList == q.toList) := by
    rw [eqL_eq, Lib.toList_data, Lib.toList_data, Bool.eq_iff_iff]; simp only [decide_eq_true_eq, beq_iff_eq]; exact bytes_map_inj
  have e2 : ∀ p q : ByteArray, ltL (p.data.toList.map UInt8.toNat) (q.data.toList.map UInt8.toNat) = Op.bytesLess p.toList q.toList := by
    intro p q; rw [ltL_eq, Lib.toList_data, Lib.toList_data]
  have tri : ∀ x y : List UInt8, (Op.bytesLess x y || x == y) = !Op.bytesLess y x := by
    intro x
    induction x with
    | nil => intro y; cases y <;> simp [Op.bytesLess]
    | cons c x ih =>
      intro y
      cases y with
      | nil => simp [Op.bytesLess]
      | cons d y =>
        have := ih y
        simp only [Op.bytesLess]
        by_cases h1 : c < d
        · have h2 : ¬ d < c := by rw [UInt8.lt_iff_toNat_lt] at *; omega
          have h3 : ¬ d = c := by intro e; subst e; rw [UInt8.lt_iff_toNat_lt] at h1; omega
          simp [h1, h2, h3]
        · by_cases h2 : d < c
          · have h3 : ¬ c = d := by intro e; subst e; rw [UInt8.lt_iff_toNat_lt] at h2; omega
            simp [h1, h2, h3]
          · have h3 : c = d := by
              apply UInt8.toNat_inj.1; rw [UInt8.lt_iff_toNat_lt] at h1 h2; omega
            subst h3
            simp [h1, ← this]
  cases op with
  | add =>
    show Φ (bt (small _ _) (K (.str (app _ _))) _)
    refine bt_ok (fun e => ?_) (fun _ => hb _)
    have hs : p.size + q.size ≤ 9223372036854775807 := by
      unfold small at e
      rw [lenL_eq, lenL_eq] at e
      have := Nat.le_of_ble_eq_true e
      rw [Lib.size_eq, Lib.size_eq]; simpa using this
    have hv : VR P ρ (.str (app (p.data.toList.map UInt8.toNat) (q.data.toList.map UInt8.toNat))) (.string (p ++ q)) := by
      have := VR.str (P := P) (ρ := ρ) (p ++ q)
      rw [app_eq, ← List.map_append]
      have hd : (p ++ q).data.toList = p.data.toList ++ q.data.toList := by simp [ByteArray.data_append]
      rw [← hd]; exact this
    refine h _ _ hv ?_
    have hn : ¬ (((p.size + q.size : Nat) : Int) > IntKind.i64.max) := by
      have : IntKind.i64.max = 9223372036854775807 := by decide
      rw [this]; omega
    simp [g, binOp, Op.stringOp]
    omega
  | eql => exact h _ _ (.bool _) (by simp [g, binOp, Op.stringOp, e1])
  | neq => exact h _ _ (.bool _) (by simp only [Sem.run_bind, g, Result.andThen_ok, binOp, Op.stringOp, e1, bt_eq]; cases (p.toList == q.toList) <;> rfl)
  | lss => exact h _ _ (.bool _) (by simp [g, binOp, Op.stringOp, e2])
  | leq => exact h _ _ (.bool _) (by simp only [Sem.run_bind, g, Result.andThen_ok, binOp, Op.stringOp, e2, bt_eq, tri]; cases Op.bytesLess q.toList p.toList <;> rfl)
  | gtr => exact h _ _ (.bool _) (by simp only [Sem.run_bind, g, Result.andThen_ok, binOp, Op.stringOp, e2, tri]; cases Op.bytesLess q.toList p.toList <;> rfl)
  | geq => exact h _ _ (.bool _) (by simp only [Sem.run_bind, g, Result.andThen_ok, binOp, Op.stringOp, e2, bt_eq]; cases Op.bytesLess p.toList q.toList <;> rfl)
  | _ => exact hb _
end Go.Ev
