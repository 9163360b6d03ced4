/-
  ONE OPERATION OF A REGION, its guard asked first: what the evaluator answers, the machine does.
-/
import Derived.Test.YtdijjakmjlegoaaGreatDoorEvY
namespace Go.Ev
open Go.RowKit (Below)
variable {P : Program} {E : Env} {ρ ρ' : Rho} {w0 w w' : World}

/-- what is neither a call of a function, nor recover, defer, panic -/
def plainOp (op : Op) : Bool :=
  match op with
  | .defer _ => false
  | .panic _ => false
  | .call c => (match c.callee with | .value _ => false | .builtin .recover => false | _ => true)
  | _ => true
def pushO (d : Option Tmp) (v : AV) (l : List AV) : List AV := match d with | none => l | some _ => v :: l
theorem finH_eq (d : Option Tmp) (v : AV) (h : Hp) (s : St) : finH d v h s = .ok ⟨pushO d v s.lo, s.tm, s.ds, h, s.pn⟩ := by
  cases s; cases d <;> rfl

def GOut (P : Program) (w0 : World) (C : Ctx) (ρ : Rho) (d : Option Tmp) (s : St) (am : Act) (m : Machine) (fr0 : Frame) (nxt : Act → Frame) : Out → Prop
  | .bad_ _ => True
  | .ok s' => ∃ ρ' dfs cs' w' v u, s'.lo = pushO d v s.lo ∧ s'.tm = s.tm ∧ Ext s.h ρ s'.h ρ' ∧ WR P w0 ρ' s'.h w' ∧ Fresh ρ' s'.h ∧ VR P ρ' v u ∧ DRs P ρ' s'.ds dfs ∧ Cs P C.b.kind C.pn0 C.cs0 ρ' s'.pn cs' ∧
      Steps P m (lone (nxt ({ am with defers := dfs }.put d u)) cs' w')
  | .lv e s' => ∃ ρ' cs' w' v v', e = .panic v ∧ s'.tm = s.tm ∧ Ext s.h ρ s'.h ρ' ∧ WR P w0 ρ' s'.h w' ∧ Fresh ρ' s'.h ∧ VR P ρ' v v' ∧ DRs P ρ' s'.ds am.defers ∧ Cs P C.b.kind C.pn0 C.cs0 ρ' s'.pn cs' ∧
      Steps P m (lone { fr0 with mode := pan v' } cs' w')
/-- the frame, the operation, its act as the machine has it (am) and as the operation sees it (a) -/
structure OpAt (P : Program) (w0 : World) (C : Ctx) (ρ : Rho) (ds : List Nat) (ops : Array Oper) (i : Nat) (o : Oper) (s : St) (a am : Act) (cs : List Frame) (w : World) : Prop where
  ho : ops[i]? = some o
  sr : SR P w0 C ρ ds s a cs w
  df : am.defers = a.defers
  ev : ∀ x ∈ o.op.operands, am.eval x = a.eval x
  wa : Region.wanted o (yielded ops am.tmps) = Region.wanted o (yielded ops a.tmps)
  kd : C.b.kind = .normal ∨ C.b.kind = .deferred
  rd : C.b.roundOf.isSome = true → isDefer o.op = false
variable {C : Ctx} {ds : List Nat} {ops : Array Oper} {i : Nat} {o : Oper} {s : St} {a am : Act} {cs : List Frame} {k : List Item} {rest : List Nat}

theorem OpAt.exec (h : OpAt P w0 C ρ ds ops i o s a am cs w) (hs : ∀ c b, o.op ≠ .select c b) : execOp am.eval o = execOp a.eval o := execOp_congr o hs h.ev
theorem act_df (h : am.defers = a.defers) : ({ am with defers := a.defers } : Act) = am := by rw [← h]

/-- the plain ones -/
theorem plain_ok (D : Does P E o) (hp : plainOp o.op = true) (hs : ∀ c b, o.op ≠ .select c b) (h : OpAt P w0 C ρ ds ops i o s a am cs w) (hw : Region.wanted o (yielded ops am.tmps) = true) (r : Rec) :
    GOut P w0 C ρ o.dst s am (lone (C.b.atR am (.inRegion ops (i :: rest) :: k)) cs w) (C.b.atR am (.inRegion ops (i :: rest) :: k)) (fun a' => C.b.atR a' (.inRegion ops rest :: k)) ((opA o.op E ds o.dst).run r s) := by
  refine D (GOut P w0 C ρ o.dst s am _ _ _) (fun _ => trivial) ρ w0 w C.nt ds s a r h.sr.wr h.sr.fresh h.sr.fr fun ρ' w' v u h' hx hwr hf hv hrun => ?_
  rw [finH_eq]
  have hd : ∀ c, o.op ≠ .defer c := fun c e => by rw [e] at hp; cases hp
  refine ⟨ρ', a.defers, cs, w', v, u, rfl, rfl, hx, hwr, hf, hv, h.sr.df.mono hx.le, h.sr.cs.mono hx.le, ?_⟩
  rw [act_df h.df]
  rcases hrun with hr | ⟨hr, hu⟩
  · exact .one (stepR_value h.ho hw hd (by rw [h.exec hs]; exact hr))
  · subst hu
    exact .one (stepR_skipped h.ho hw hd (by rw [h.exec hs]; exact hr))
/-- the guard -/
theorem gop_ok (h : OpAt P w0 C ρ ds ops i o s a am cs w) (r : Rec)
    (hop : Region.wanted o (yielded ops am.tmps) = true →
      GOut P w0 C ρ o.dst s am (lone (C.b.atR am (.inRegion ops (i :: rest) :: k)) cs w) (C.b.atR am (.inRegion ops (i :: rest) :: k)) (fun a' => C.b.atR a' (.inRegion ops rest :: k)) ((opA o.op E ds o.dst).run r s)) :
    GOut P w0 C ρ o.dst s am (lone (C.b.atR am (.inRegion ops (i :: rest) :: k)) cs w) (C.b.atR am (.inRegion ops (i :: rest) :: k)) (fun a' => C.b.atR a' (.inRegion ops rest :: k)) ((gop E ops.toList ds o).run r s) := by
  have hno : Region.wanted o (yielded ops am.tmps) = false →
      GOut P w0 C ρ o.dst s am (lone (C.b.atR am (.inRegion ops (i :: rest) :: k)) cs w) (C.b.atR am (.inRegion ops (i :: rest) :: k)) (fun a' => C.b.atR a' (.inRegion ops rest :: k)) (fin o.dst (.tup []) s) := by
    intro hw
    rw [fin_eq, finH_eq]
    refine ⟨ρ, a.defers, cs, w, .tup [], undef, rfl, rfl, Ext.refl, h.sr.wr, h.sr.fresh, .tup [] #[] .nil, h.sr.df, h.sr.cs, ?_⟩
    rw [act_df h.df]
    have := stepR_op_skip (P := P) (b := C.b) (a := am) (k := k) (cs := cs) (w := w) (ops := ops) (i := i) (rest := rest) (by rw [h.ho]; simpa using hw)
    rw [h.ho] at this
    exact .one this
  unfold gop guardC
  cases hg : o.guard with
  | none => exact hop (by simp [Region.wanted, hg])
  | some jw =>
    obtain ⟨j, w1⟩ := jw
    simp only
    split
    · next p hp =>
      rw [nth_eq] at hp
      have hp' : ops[j]? = some p := by simpa using hp
      split
      · next d hd =>
        have hy : yielded ops a.tmps j = (match a.tmps[d]? with | some (.bool b) => some b | _ => none) := by
          simp only [yielded, hp', Option.bind_some, hd]
          rfl
        have hwant : Region.wanted o (yielded ops am.tmps) = (yielded ops a.tmps j == some w1) := by rw [h.wa]; simp [Region.wanted, hg]
        have hbool : ∀ b, a.tmps.getD d undef = .bool b → yielded ops a.tmps j = some b := by
          intro b e
          rw [hy]
          cases hq : a.tmps[d]? with
          | none => rw [Array.getD_eq_getD_getElem?, hq] at e; cases e
          | some u => rw [Array.getD_eq_getD_getElem?, hq] at e; simp at e; subst e; rfl
        have hnot : (∀ b, a.tmps.getD d undef ≠ .bool b) → yielded ops a.tmps j = none := by
          intro e
          rw [hy]
          cases hq : a.tmps[d]? with
          | none => rfl
          | some u =>
            have e := fun b => e b
            rw [Array.getD_eq_getD_getElem?, hq] at e
            cases u <;> first | rfl | exact absurd rfl (e _)
        cases w1 with
        | true =>
          refine opT_ok (Φ := GOut P w0 C ρ o.dst s am _ _ _) (fun _ => trivial) h.sr.fr fun v hv => ?_
          generalize hu : a.tmps.getD d undef = u at hv
          cases hv with
          | bool b =>
            cases b with
            | true => exact hop (by rw [hwant, hbool true hu]; rfl)
            | false => exact hno (by rw [hwant, hbool false hu]; rfl)
          | unk => trivial
          | _ => exact hno (by rw [hwant, hnot (fun b e => by rw [hu] at e; cases e)]; rfl)
        | false =>
          refine opT_ok (Φ := GOut P w0 C ρ o.dst s am _ _ _) (fun _ => trivial) h.sr.fr fun v hv => ?_
          generalize hu : a.tmps.getD d undef = u at hv
          cases hv with
          | bool b =>
            cases b with
            | true => exact hno (by rw [hwant, hbool true hu]; rfl)
            | false => exact hop (by rw [hwant, hbool false hu]; rfl)
          | unk => trivial
          | _ => exact hno (by rw [hwant, hnot (fun b e => by rw [hu] at e; cases e)]; rfl)
      · trivial
    · trivial
end Go.Ev
