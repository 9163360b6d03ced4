/-
  THE EVALUATOR: a big-step evaluator over the model's own code, on abstract values: it is run by the kernel; what it answers is shown of every world elsewhere.
-/
import GoSem.Step
namespace Go.Ev
noncomputable section

/-- A value: blocks by the evaluator's own numbers; of a slice: block, offset, length, capacity (just lo: ex; else at least lo). esl: a slice of no element, somewhere. unk: one cell that holds whatever. -/
inductive AV where
  | bool (b : Bool) | int (k : IntKind) (n : Int) | flt (k : FloatKind) (b : Nat) | str (s : List Nat)
  | ptr (b o : Nat) | nilp | sl (b o n lo : Nat) (ex : Bool) | esl | nilsl | map (r : Nat) | nilmap
  | fn (f : Fn) (first cap : List AV) | nilfn | ifc (t : Nat) (v : AV) | nilifc | agg (l : List AV) | tup (l : List AV) | unk
  deriving Inhabited

def bt {β : Type} (b : Bool) (t e : β) : β := @Bool.rec (fun _ => β) e t b
def nt {β : Type} (n : Nat) (z : β) (s : Nat → β) : β := @Nat.rec (fun _ => β) z (fun j _ => s j) n
def ot {α β : Type} (o : Option α) (n : β) (s : α → β) : β := @Option.rec α (fun _ => β) n s o
def forceNat {β : Type} (m : Nat) (k : Nat → β) : β := @Nat.rec (fun _ => β) (k (nat_lit 0)) (fun j _ => k (Nat.succ j)) m

structure N16 (α : Type) where
  (a0 a1 a2 a3 a4 a5 a6 a7 a8 a9 a10 a11 a12 a13 a14 a15 : α)
/-- a perfect tree of depth d, 16 ways a node -/
def TT (α : Type) (d : Nat) : Type := @Nat.rec (fun _ => Type) (Option α) (fun _ t => N16 t) d
structure Acc (α : Type) (d : Nat) where
  get : TT α d → Option α
  set : TT α d → Option α → TT α d
def emp (α : Type) (d : Nat) : TT α d := @Nat.rec (TT α) (none : Option α) (fun _ t => ⟨t, t, t, t, t, t, t, t, t, t, t, t, t, t, t, t⟩) d
def ac0 (α : Type) (d : Nat) (a : Acc α d) : Acc α (d + 1) := ⟨fun t => a.get t.a0, fun t x => @N16.rec (TT α d) (fun _ => N16 (TT α d)) (fun a0 a1 a2 a3 a4 a5 a6 a7 a8 a9 a10 a11 a12 a13 a14 a15 => ⟨a.set a0 x, a1, a2, a3, a4, a5, a6, a7, a8, a9, a10, a11, a12, a13, a14, a15⟩) t⟩
def ac1 (α : Type) (d : Nat) (a : Acc α d) : Acc α (d + 1) := ⟨fun t => a.get t.a1, fun t x => @N16.rec (TT α d) (fun _ => N16 (TT α d)) (fun a0 a1 a2 a3 a4 a5 a6 a7 a8 a9 a10 a11 a12 a13 a14 a15 => ⟨a0, a.set a1 x, a2, a3, a4, a5, a6, a7, a8, a9, a10, a11, a12, a13, a14, a15⟩) t⟩
def ac2 (α : Type) (d : Nat) (a : Acc α d) : Acc α (d + 1) := ⟨fun t => a.get t.a2, fun t x => @N16.rec (TT α d) (fun _ => N16 (TT α d)) (fun a0 a1 a2 a3 a4 a5 a6 a7 a8 a9 a10 a11 a12 a13 a14 a15 => ⟨a0, a1, a.set a2 x, a3, a4, a5, a6, a7, a8, a9, a10, a11, a12, a13, a14, a15⟩) t⟩
def ac3 (α : Type) (d : Nat) (a : Acc α d) : Acc α (d + 1) := ⟨fun t => a.get t.a3, fun t x => @N16.rec (TT α d) (fun _ => N16 (TT α d)) (fun a0 a1 a2 a3 a4 a5 a6 a7 a8 a9 a10 a11 a12 a13 a14 a15 => ⟨a0, a1, a2, a.set a3 x, a4, a5, a6, a7, a8, a9, a10, a11, a12, a13, a14, a15⟩) t⟩
def ac4 (α : Type) (d : Nat) (a : Acc α d) : Acc α (d + 1) := ⟨fun t => a.get t.a4, fun t x => @N16.rec (TT α d) (fun _ => N16 (TT α d)) (fun a0 a1 a2 a3 a4 a5 a6 a7 a8 a9 a10 a11 a12 a13 a14 a15 => ⟨a0, a1, a2, a3, a.set a4 x, a5, a6, a7, a8, a9, a10, a11, a12, a13, a14, a15⟩) t⟩
def ac5 (α : Type) (d : Nat) (a : Acc α d) : Acc α (d + 1) := ⟨fun t => a.get t.a5, fun t x => @N16.rec (TT α d) (fun _ => N16 (TT α d)) (fun a0 a1 a2 a3 a4 a5 a6 a7 a8 a9 a10 a11 a12 a13 a14 a15 => ⟨a0, a1, a2, a3, a4, a.set a5 x, a6, a7, a8, a9, a10, a11, a12, a13, a14, a15⟩) t⟩
def ac6 (α : Type) (d : Nat) (a : Acc α d) : Acc α (d + 1) := ⟨fun t => a.get t.a6, fun t x => @N16.rec (TT α d) (fun _ => N16 (TT α d)) (fun a0 a1 a2 a3 a4 a5 a6 a7 a8 a9 a10 a11 a12 a13 a14 a15 => ⟨a0, a1, a2, a3, a4, a5, a.set a6 x, a7, a8, a9, a10, a11, a12, a13, a14, a15⟩) t⟩
def ac7 (α : Type) (d : Nat) (a : Acc α d) : Acc α (d + 1) := ⟨fun t => a.get t.a7, fun t x => @N16.rec (TT α d) (fun _ => N16 (TT α d)) (fun a0 a1 a2 a3 a4 a5 a6 a7 a8 a9 a10 a11 a12 a13 a14 a15 => ⟨a0, a1, a2, a3, a4, a5, a6, a.set a7 x, a8, a9, a10, a11, a12, a13, a14, a15⟩) t⟩
def ac8 (α : Type) (d : Nat) (a : Acc α d) : Acc α (d + 1) := ⟨fun t => a.get t.a8, fun t x => @N16.rec (TT α d) (fun _ => N16 (TT α d)) (fun a0 a1 a2 a3 a4 a5 a6 a7 a8 a9 a10 a11 a12 a13 a14 a15 => ⟨a0, a1, a2, a3, a4, a5, a6, a7, a.set a8 x, a9, a10, a11, a12, a13, a14, a15⟩) t⟩
def ac9 (α : Type) (d : Nat) (a : Acc α d) : Acc α (d + 1) := ⟨fun t => a.get t.a9, fun t x => @N16.rec (TT α d) (fun _ => N16 (TT α d)) (fun a0 a1 a2 a3 a4 a5 a6 a7 a8 a9 a10 a11 a12 a13 a14 a15 => ⟨a0, a1, a2, a3, a4, a5, a6, a7, a8, a.set a9 x, a10, a11, a12, a13, a14, a15⟩) t⟩
def ac10 (α : Type) (d : Nat) (a : Acc α d) : Acc α (d + 1) := ⟨fun t => a.get t.a10, fun t x => @N16.rec (TT α d) (fun _ => N16 (TT α d)) (fun a0 a1 a2 a3 a4 a5 a6 a7 a8 a9 a10 a11 a12 a13 a14 a15 => ⟨a0, a1, a2, a3, a4, a5, a6, a7, a8, a9, a.set a10 x, a11, a12, a13, a14, a15⟩) t⟩
def ac11 (α : Type) (d : Nat) (a : Acc α d) : Acc α (d + 1) := ⟨fun t => a.get t.a11, fun t x => @N16.rec (TT α d) (fun _ => N16 (TT α d)) (fun a0 a1 a2 a3 a4 a5 a6 a7 a8 a9 a10 a11 a12 a13 a14 a15 => ⟨a0, a1, a2, a3, a4, a5, a6, a7, a8, a9, a10, a.set a11 x, a12, a13, a14, a15⟩) t⟩
def ac12 (α : Type) (d : Nat) (a : Acc α d) : Acc α (d + 1) := ⟨fun t => a.get t.a12, fun t x => @N16.rec (TT α d) (fun _ => N16 (TT α d)) (fun a0 a1 a2 a3 a4 a5 a6 a7 a8 a9 a10 a11 a12 a13 a14 a15 => ⟨a0, a1, a2, a3, a4, a5, a6, a7, a8, a9, a10, a11, a.set a12 x, a13, a14, a15⟩) t⟩
def ac13 (α : Type) (d : Nat) (a : Acc α d) : Acc α (d + 1) := ⟨fun t => a.get t.a13, fun t x => @N16.rec (TT α d) (fun _ => N16 (TT α d)) (fun a0 a1 a2 a3 a4 a5 a6 a7 a8 a9 a10 a11 a12 a13 a14 a15 => ⟨a0, a1, a2, a3, a4, a5, a6, a7, a8, a9, a10, a11, a12, a.set a13 x, a14, a15⟩) t⟩
def ac14 (α : Type) (d : Nat) (a : Acc α d) : Acc α (d + 1) := ⟨fun t => a.get t.a14, fun t x => @N16.rec (TT α d) (fun _ => N16 (TT α d)) (fun a0 a1 a2 a3 a4 a5 a6 a7 a8 a9 a10 a11 a12 a13 a14 a15 => ⟨a0, a1, a2, a3, a4, a5, a6, a7, a8, a9, a10, a11, a12, a13, a.set a14 x, a15⟩) t⟩
def ac15 (α : Type) (d : Nat) (a : Acc α d) : Acc α (d + 1) := ⟨fun t => a.get t.a15, fun t x => @N16.rec (TT α d) (fun _ => N16 (TT α d)) (fun a0 a1 a2 a3 a4 a5 a6 a7 a8 a9 a10 a11 a12 a13 a14 a15 => ⟨a0, a1, a2, a3, a4, a5, a6, a7, a8, a9, a10, a11, a12, a13, a14, a.set a15 x⟩) t⟩
/-- the place i (its lowest digits) of a tree of depth d -/
def accS (α : Type) (d : Nat) (ih : Nat → Acc α d) (i : Nat) : Acc α (d + 1) := forceNat (Nat.div i (nat_lit 16)) fun j => (fun g0 => (nt g0 (ac0 α d (ih j)) fun g1 => (nt g1 (ac1 α d (ih j)) fun g2 => (nt g2 (ac2 α d (ih j)) fun g3 => (nt g3 (ac3 α d (ih j)) fun g4 => (nt g4 (ac4 α d (ih j)) fun g5 => (nt g5 (ac5 α d (ih j)) fun g6 => (nt g6 (ac6 α d (ih j)) fun g7 => (nt g7 (ac7 α d (ih j)) fun g8 => (nt g8 (ac8 α d (ih j)) fun g9 => (nt g9 (ac9 α d (ih j)) fun g10 => (nt g10 (ac10 α d (ih j)) fun g11 => (nt g11 (ac11 α d (ih j)) fun g12 => (nt g12 (ac12 α d (ih j)) fun g13 => (nt g13 (ac13 α d (ih j)) fun g14 => (nt g14 (ac14 α d (ih j)) fun _ => (ac15 α d (ih j)))))))))))))))))) (Nat.mod i (nat_lit 16))
def acc (α : Type) (d : Nat) (i : Nat) : Acc α d := @Nat.rec (fun d => Nat → Acc α d) (fun _ => ⟨fun t => t, fun _ x => x⟩) (accS α) d i
def ofListF {α : Type} (d : Nat) : List α → Nat → TT α d → TT α d
  | [], _, t => t
  | x :: l, i, t => ofListF d l (i + 1) ((acc α d i).set t (some x))
def ofList {α : Type} (d : Nat) (l : List α) : TT α d := ofListF d l 0 (emp α d)

structure Cx where
  ms : Nat
  nt : Nat
  rd : Bool

inductive ADef where
  | fn (f : AV) (args : List AV)
  | coll (b : Nat)

inductive AB where
  | cells (l : List AV) (t : Nat) (fl : Nat)
  | map (es : List (AV × AV × Nat)) (clock : Nat)
  | loop (st : LoopState) (pend : Option Code) (cx : Cx) (tm : TT AV 2) (ps : List Nat) (assign body : Code)
  | dfr (taken : Bool)

structure Hp where
  bl : TT AB 4
  nx : Nat

structure St where
  lo : List AV
  tm : TT AV 2
  ds : List ADef
  h : Hp
  pn : Option AV

inductive Ex where
  | exit (i : Nat) | ret | panic (v : AV)

inductive Out where
  | bad_ (c : Nat) | ok (s : St) | lv (e : Ex) (s : St)

inductive CRes where
  | bad_ (c : Nat) | ret (v : AV) (h : Hp) (pn : Option AV) | panic (v : AV) (h : Hp) (pn : Option AV)

structure Env where
  fs : TT Func 3
  ty : TT TypeInfo 3
  /-- the structs that may be compared -/
  eqs : List Nat
  /-- the functions without a body: NoEscape, IndexByteString -/
  noesc : Nat
  idxb : Nat

structure Rec where
  code : Code → Cx → St → Out
  call : FuncId → List AV → Option AV → Hp → CRes
  round : Nat → List AV → Hp → CRes
  unw : Func → Option AV → St → CRes

def AV.onBool (v : AV) (k : Bool → Out) : Out := @AV.rec (fun _ => (Bool → Out) → Out) (fun _ => PUnit)
  (fun x0 k => k x0)
  (fun _ _ _ => (.bad_ 104))
  (fun _ _ _ => (.bad_ 105))
  (fun _ _ => (.bad_ 106))
  (fun _ _ _ => (.bad_ 107))
  (fun _ => (.bad_ 108))
  (fun _ _ _ _ _ _ => (.bad_ 109))
  (fun _ => (.bad_ 110))
  (fun _ => (.bad_ 111))
  (fun _ _ => (.bad_ 112))
  (fun _ => (.bad_ 113))
  (fun _ _ _ _ _ _ => (.bad_ 114))
  (fun _ => (.bad_ 115))
  (fun _ _ _ _ => (.bad_ 116))
  (fun _ => (.bad_ 117))
  (fun _ _ _ => (.bad_ 118))
  (fun _ _ _ => (.bad_ 119))
  (fun _ => (.bad_ 120))
  ⟨⟩ (fun _ _ _ _ => ⟨⟩) v k
theorem AV.onBool_ok {Φ : Out → Prop} (hb : ∀ c, Φ (.bad_ c)) {v : AV} {k : Bool → Out} (h : ∀ x0, v = .bool x0 → Φ (k x0)) : Φ (v.onBool k) := by
  cases v <;> first | exact h _ rfl | exact hb _

def AV.onInt (v : AV) (k : IntKind → Int → Out) : Out := @AV.rec (fun _ => (IntKind → Int → Out) → Out) (fun _ => PUnit)
  (fun _ _ => (.bad_ 126))
  (fun x0 x1 k => k x0 x1)
  (fun _ _ _ => (.bad_ 128))
  (fun _ _ => (.bad_ 129))
  (fun _ _ _ => (.bad_ 130))
  (fun _ => (.bad_ 131))
  (fun _ _ _ _ _ _ => (.bad_ 132))
  (fun _ => (.bad_ 133))
  (fun _ => (.bad_ 134))
  (fun _ _ => (.bad_ 135))
  (fun _ => (.bad_ 136))
  (fun _ _ _ _ _ _ => (.bad_ 137))
  (fun _ => (.bad_ 138))
  (fun _ _ _ _ => (.bad_ 139))
  (fun _ => (.bad_ 140))
  (fun _ _ _ => (.bad_ 141))
  (fun _ _ _ => (.bad_ 142))
  (fun _ => (.bad_ 143))
  ⟨⟩ (fun _ _ _ _ => ⟨⟩) v k
theorem AV.onInt_ok {Φ : Out → Prop} (hb : ∀ c, Φ (.bad_ c)) {v : AV} {k : IntKind → Int → Out} (h : ∀ x0 x1, v = .int x0 x1 → Φ (k x0 x1)) : Φ (v.onInt k) := by
  cases v <;> first | exact h _ _ rfl | exact hb _

def AV.onPtr (v : AV) (k : Nat → Nat → Out) : Out := @AV.rec (fun _ => (Nat → Nat → Out) → Out) (fun _ => PUnit)
  (fun _ _ => (.bad_ 149))
  (fun _ _ _ => (.bad_ 150))
  (fun _ _ _ => (.bad_ 151))
  (fun _ _ => (.bad_ 152))
  (fun x0 x1 k => k x0 x1)
  (fun _ => (.bad_ 154))
  (fun _ _ _ _ _ _ => (.bad_ 155))
  (fun _ => (.bad_ 156))
  (fun _ => (.bad_ 157))
  (fun _ _ => (.bad_ 158))
  (fun _ => (.bad_ 159))
  (fun _ _ _ _ _ _ => (.bad_ 160))
  (fun _ => (.bad_ 161))
  (fun _ _ _ _ => (.bad_ 162))
  (fun _ => (.bad_ 163))
  (fun _ _ _ => (.bad_ 164))
  (fun _ _ _ => (.bad_ 165))
  (fun _ => (.bad_ 166))
  ⟨⟩ (fun _ _ _ _ => ⟨⟩) v k
theorem AV.onPtr_ok {Φ : Out → Prop} (hb : ∀ c, Φ (.bad_ c)) {v : AV} {k : Nat → Nat → Out} (h : ∀ x0 x1, v = .ptr x0 x1 → Φ (k x0 x1)) : Φ (v.onPtr k) := by
  cases v <;> first | exact h _ _ rfl | exact hb _

def AV.onStr (v : AV) (k : List Nat → Out) : Out := @AV.rec (fun _ => (List Nat → Out) → Out) (fun _ => PUnit)
  (fun _ _ => (.bad_ 172))
  (fun _ _ _ => (.bad_ 173))
  (fun _ _ _ => (.bad_ 174))
  (fun x0 k => k x0)
  (fun _ _ _ => (.bad_ 176))
  (fun _ => (.bad_ 177))
  (fun _ _ _ _ _ _ => (.bad_ 178))
  (fun _ => (.bad_ 179))
  (fun _ => (.bad_ 180))
  (fun _ _ => (.bad_ 181))
  (fun _ => (.bad_ 182))
  (fun _ _ _ _ _ _ => (.bad_ 183))
  (fun _ => (.bad_ 184))
  (fun _ _ _ _ => (.bad_ 185))
  (fun _ => (.bad_ 186))
  (fun _ _ _ => (.bad_ 187))
  (fun _ _ _ => (.bad_ 188))
  (fun _ => (.bad_ 189))
  ⟨⟩ (fun _ _ _ _ => ⟨⟩) v k
theorem AV.onStr_ok {Φ : Out → Prop} (hb : ∀ c, Φ (.bad_ c)) {v : AV} {k : List Nat → Out} (h : ∀ x0, v = .str x0 → Φ (k x0)) : Φ (v.onStr k) := by
  cases v <;> first | exact h _ rfl | exact hb _

def AV.onAgg (v : AV) (k : List AV → Out) : Out := @AV.rec (fun _ => (List AV → Out) → Out) (fun _ => PUnit)
  (fun _ _ => (.bad_ 195))
  (fun _ _ _ => (.bad_ 196))
  (fun _ _ _ => (.bad_ 197))
  (fun _ _ => (.bad_ 198))
  (fun _ _ _ => (.bad_ 199))
  (fun _ => (.bad_ 200))
  (fun _ _ _ _ _ _ => (.bad_ 201))
  (fun _ => (.bad_ 202))
  (fun _ => (.bad_ 203))
  (fun _ _ => (.bad_ 204))
  (fun _ => (.bad_ 205))
  (fun _ _ _ _ _ _ => (.bad_ 206))
  (fun _ => (.bad_ 207))
  (fun _ _ _ _ => (.bad_ 208))
  (fun _ => (.bad_ 209))
  (fun x0 _ k => k x0)
  (fun _ _ _ => (.bad_ 211))
  (fun _ => (.bad_ 212))
  ⟨⟩ (fun _ _ _ _ => ⟨⟩) v k
theorem AV.onAgg_ok {Φ : Out → Prop} (hb : ∀ c, Φ (.bad_ c)) {v : AV} {k : List AV → Out} (h : ∀ x0, v = .agg x0 → Φ (k x0)) : Φ (v.onAgg k) := by
  cases v <;> first | exact h _ rfl | exact hb _

def AV.onTup (v : AV) (k : List AV → Out) : Out := @AV.rec (fun _ => (List AV → Out) → Out) (fun _ => PUnit)
  (fun _ _ => (.bad_ 218))
  (fun _ _ _ => (.bad_ 219))
  (fun _ _ _ => (.bad_ 220))
  (fun _ _ => (.bad_ 221))
  (fun _ _ _ => (.bad_ 222))
  (fun _ => (.bad_ 223))
  (fun _ _ _ _ _ _ => (.bad_ 224))
  (fun _ => (.bad_ 225))
  (fun _ => (.bad_ 226))
  (fun _ _ => (.bad_ 227))
  (fun _ => (.bad_ 228))
  (fun _ _ _ _ _ _ => (.bad_ 229))
  (fun _ => (.bad_ 230))
  (fun _ _ _ _ => (.bad_ 231))
  (fun _ => (.bad_ 232))
  (fun _ _ _ => (.bad_ 233))
  (fun x0 _ k => k x0)
  (fun _ => (.bad_ 235))
  ⟨⟩ (fun _ _ _ _ => ⟨⟩) v k
theorem AV.onTup_ok {Φ : Out → Prop} (hb : ∀ c, Φ (.bad_ c)) {v : AV} {k : List AV → Out} (h : ∀ x0, v = .tup x0 → Φ (k x0)) : Φ (v.onTup k) := by
  cases v <;> first | exact h _ rfl | exact hb _

def AV.onIfc (v : AV) (k : Nat → AV → Out) : Out := @AV.rec (fun _ => (Nat → AV → Out) → Out) (fun _ => PUnit)
  (fun _ _ => (.bad_ 241))
  (fun _ _ _ => (.bad_ 242))
  (fun _ _ _ => (.bad_ 243))
  (fun _ _ => (.bad_ 244))
  (fun _ _ _ => (.bad_ 245))
  (fun _ => (.bad_ 246))
  (fun _ _ _ _ _ _ => (.bad_ 247))
  (fun _ => (.bad_ 248))
  (fun _ => (.bad_ 249))
  (fun _ _ => (.bad_ 250))
  (fun _ => (.bad_ 251))
  (fun _ _ _ _ _ _ => (.bad_ 252))
  (fun _ => (.bad_ 253))
  (fun x0 x1 _ k => k x0 x1)
  (fun _ => (.bad_ 255))
  (fun _ _ _ => (.bad_ 256))
  (fun _ _ _ => (.bad_ 257))
  (fun _ => (.bad_ 258))
  ⟨⟩ (fun _ _ _ _ => ⟨⟩) v k
theorem AV.onIfc_ok {Φ : Out → Prop} (hb : ∀ c, Φ (.bad_ c)) {v : AV} {k : Nat → AV → Out} (h : ∀ x0 x1, v = .ifc x0 x1 → Φ (k x0 x1)) : Φ (v.onIfc k) := by
  cases v <;> first | exact h _ _ rfl | exact hb _

def AV.onMap (v : AV) (k : Nat → Out) : Out := @AV.rec (fun _ => (Nat → Out) → Out) (fun _ => PUnit)
  (fun _ _ => (.bad_ 264))
  (fun _ _ _ => (.bad_ 265))
  (fun _ _ _ => (.bad_ 266))
  (fun _ _ => (.bad_ 267))
  (fun _ _ _ => (.bad_ 268))
  (fun _ => (.bad_ 269))
  (fun _ _ _ _ _ _ => (.bad_ 270))
  (fun _ => (.bad_ 271))
  (fun _ => (.bad_ 272))
  (fun x0 k => k x0)
  (fun _ => (.bad_ 274))
  (fun _ _ _ _ _ _ => (.bad_ 275))
  (fun _ => (.bad_ 276))
  (fun _ _ _ _ => (.bad_ 277))
  (fun _ => (.bad_ 278))
  (fun _ _ _ => (.bad_ 279))
  (fun _ _ _ => (.bad_ 280))
  (fun _ => (.bad_ 281))
  ⟨⟩ (fun _ _ _ _ => ⟨⟩) v k
theorem AV.onMap_ok {Φ : Out → Prop} (hb : ∀ c, Φ (.bad_ c)) {v : AV} {k : Nat → Out} (h : ∀ x0, v = .map x0 → Φ (k x0)) : Φ (v.onMap k) := by
  cases v <;> first | exact h _ rfl | exact hb _

def AV.onSl (v : AV) (k : Nat → Nat → Nat → Nat → Bool → Out) : Out := @AV.rec (fun _ => (Nat → Nat → Nat → Nat → Bool → Out) → Out) (fun _ => PUnit)
  (fun _ _ => (.bad_ 287))
  (fun _ _ _ => (.bad_ 288))
  (fun _ _ _ => (.bad_ 289))
  (fun _ _ => (.bad_ 290))
  (fun _ _ _ => (.bad_ 291))
  (fun _ => (.bad_ 292))
  (fun x0 x1 x2 x3 x4 k => k x0 x1 x2 x3 x4)
  (fun _ => (.bad_ 294))
  (fun _ => (.bad_ 295))
  (fun _ _ => (.bad_ 296))
  (fun _ => (.bad_ 297))
  (fun _ _ _ _ _ _ => (.bad_ 298))
  (fun _ => (.bad_ 299))
  (fun _ _ _ _ => (.bad_ 300))
  (fun _ => (.bad_ 301))
  (fun _ _ _ => (.bad_ 302))
  (fun _ _ _ => (.bad_ 303))
  (fun _ => (.bad_ 304))
  ⟨⟩ (fun _ _ _ _ => ⟨⟩) v k
theorem AV.onSl_ok {Φ : Out → Prop} (hb : ∀ c, Φ (.bad_ c)) {v : AV} {k : Nat → Nat → Nat → Nat → Bool → Out} (h : ∀ x0 x1 x2 x3 x4, v = .sl x0 x1 x2 x3 x4 → Φ (k x0 x1 x2 x3 x4)) : Φ (v.onSl k) := by
  cases v <;> first | exact h _ _ _ _ _ rfl | exact hb _


/-! ### numbers and lists -/
def ltI (a b : Int) : Bool :=
  @Int.rec (fun _ => Int → Bool) (fun m b => @Int.rec (fun _ => Bool) (fun n => Nat.blt m n) (fun _ => false) b)
    (fun m b => @Int.rec (fun _ => Bool) (fun _ => true) (fun n => Nat.blt n m) b) a b
def eqI (a b : Int) : Bool :=
  @Int.rec (fun _ => Int → Bool) (fun m b => @Int.rec (fun _ => Bool) (fun n => Nat.beq m n) (fun _ => false) b)
    (fun m b => @Int.rec (fun _ => Bool) (fun _ => false) (fun n => Nat.beq n m) b) a b
def lim : IntKind → Nat
  | .i8 => 128 | .u8 => 256 | .i16 => 32768 | .u16 => 65536 | .i32 => 2147483648 | .u32 => 4294967296
  | .i64 => 9223372036854775808 | .u64 => 18446744073709551616
/-- n, its numeral worked out -/
def rawI (n : Int) (K : Int → Out) : Out :=
  @Int.rec (fun _ => Out) (fun m => forceNat m fun m => K (.ofNat m)) (fun m => forceNat m fun m => K (.negSucc m)) n
def wrapS (k : IntKind) (n : Int) (K : AV → Out) : Out := rawI (k.wrap n) fun m => K (.int k m)
def wrapK (k : IntKind) (n : Int) (K : AV → Out) : Out :=
  @Int.rec (fun _ => Out) (fun m => bt (Nat.blt m (lim k)) (forceNat m fun m => K (.int k (.ofNat m))) (wrapS k (.ofNat m) K))
    (fun m => bt (Nat.blt m (bt k.signed (lim k) (nat_lit 0))) (forceNat m fun m => K (.int k (.negSucc m))) (wrapS k (.negSucc m) K)) n
def rawK (k : IntKind) (n : Int) (K : AV → Out) : Out := rawI n fun m => K (.int k m)
def addI (a b : Int) : Int :=
  @Int.rec (fun _ => Int → Int) (fun m b => @Int.rec (fun _ => Int) (fun n => .ofNat (Nat.add m n)) (fun n => Int.subNatNat m (Nat.succ n)) b)
    (fun m b => @Int.rec (fun _ => Int) (fun n => Int.subNatNat n (Nat.succ m)) (fun n => .negSucc (Nat.succ (Nat.add m n))) b) a b
def natK (n : Int) (K : Nat → Out) : Out := @Int.rec (fun _ => Out) K (fun _ => (.bad_ 331)) n
def eqK (a b : IntKind) : Bool := match a, b with
  | .i8, .i8 => true | .i16, .i16 => true | .i32, .i32 => true | .i64, .i64 => true
  | .u8, .u8 => true | .u16, .u16 => true | .u32, .u32 => true | .u64, .u64 => true | _, _ => false

def eqL (l m : List Nat) : Bool :=
  @List.rec Nat (fun _ => List Nat → Bool) (fun m => @List.rec Nat (fun _ => Bool) true (fun _ _ _ => false) m)
    (fun a _ ih m => @List.rec Nat (fun _ => Bool) false (fun b m _ => @Bool.rec (fun _ => Bool) false (ih m) (Nat.beq a b)) m) l m
def ltL : List Nat → List Nat → Bool
  | _, [] => false
  | [], _ :: _ => true
  | a :: l, b :: m => match Nat.blt a b with | true => true | false => match Nat.beq a b with | true => ltL l m | false => false
def nth {α : Type} (l : List α) (i : Nat) : Option α :=
  @List.rec α (fun _ => Nat → Option α) (fun _ => none) (fun x _ ih i => @Nat.rec (fun _ => Option α) (some x) (fun j _ => ih j) i) l i
def takeN {α : Type} (n : Nat) (l : List α) : Option (List α) :=
  @Nat.rec (fun _ => List α → Option (List α)) (fun _ => some []) (fun _ ih l => @List.rec α (fun _ => Option (List α)) none (fun x m _ => @Option.rec (List α) (fun _ => Option (List α)) none (fun r => some (x :: r)) (ih m)) l) n l
def dropN {α : Type} (n : Nat) (l : List α) : Option (List α) :=
  @Nat.rec (fun _ => List α → Option (List α)) (fun l => some l) (fun _ ih l => @List.rec α (fun _ => Option (List α)) none (fun _ m _ => ih m) l) n l
def slc {α : Type} (l : List α) (o n : Nat) : Option (List α) := @Option.rec (List α) (fun _ => Option (List α)) none (fun m => takeN n m) (dropN o l)
/-- l with m laid over its head -/
def layF {α : Type} (m l : List α) : Option (List α) :=
  @List.rec α (fun _ => List α → Option (List α)) (fun l => some l)
    (fun x _ ih l => @List.rec α (fun _ => Option (List α)) none (fun _ l _ => @Option.rec (List α) (fun _ => Option (List α)) none (fun r => some (x :: r)) (ih l)) l) m l
/-- l with m laid over it from o on -/
def lay {α : Type} (m : List α) (o : Nat) (l : List α) : Option (List α) :=
  @Nat.rec (fun _ => List α → Option (List α)) (fun l => layF m l)
    (fun _ ih l => @List.rec α (fun _ => Option (List α)) none (fun x l _ => @Option.rec (List α) (fun _ => Option (List α)) none (fun r => some (x :: r)) (ih l)) l) o l
def lenF {α : Type} (l : List α) : Nat → Nat := @List.rec α (fun _ => Nat → Nat) (fun k => k) (fun _ _ ih k => ih (Nat.succ k)) l
def lenL {α : Type} (l : List α) : Nat := lenF l (nat_lit 0)
def app {α : Type} (l m : List α) : List α := @List.rec α (fun _ => List α) m (fun x _ ih => x :: ih) l
def rep {α : Type} : Nat → List α → List α
  | 0, _ => []
  | n + 1, l => app l (rep n l)
def anyB {α : Type} (p : α → Bool) (l : List α) : Bool := @List.rec α (fun _ => Bool) false (fun x _ ih => @Bool.rec (fun _ => Bool) ih true (p x)) l
def allB {α : Type} (p : α → Bool) (l : List α) : Bool := @List.rec α (fun _ => Bool) true (fun x _ ih => @Bool.rec (fun _ => Bool) false ih (p x)) l

def AV.cells (v : AV) : List AV :=
  @AV.rec (fun _ => List AV) (fun _ => PUnit) (fun b => [.bool b]) (fun k n => [.int k n]) (fun k n => [.flt k n]) (fun s => [.str s]) (fun b o => [.ptr b o]) [.nilp]
    (fun b o n lo ex => [.sl b o n lo ex]) [.esl] [.nilsl] (fun r => [.map r]) [.nilmap] (fun f a c _ _ => [.fn f a c]) [.nilfn] (fun t v _ => [.ifc t v]) [.nilifc] (fun l _ => l) (fun l _ => [.tup l]) [.unk] ⟨⟩ (fun _ _ _ _ => ⟨⟩) v

def atom : Value → Option AV
  | .bool b => some (.bool b)
  | .int k n => some (.int k n)
  | .float k b => some (.flt k b)
  | .string s => some (.str (s.data.toList.map UInt8.toNat))
  | .pointer none => some .nilp
  | .slice none 0 0 => some .nilsl
  | .map none => some .nilmap
  | .nilFunc => some .nilfn
  | .nilIface => some .nilifc
  | _ => none
def atoms : List Value → Option (List AV)
  | [] => some []
  | v :: l => match atom v, atoms l with | some a, some m => some (a :: m) | _, _ => none
def toAV : Value → Option AV
  | .agg cs => (atoms cs.toList).map .agg
  | .tuple cs => (atoms cs.toList).map .tup
  | v => atom v

/-! ### types -/
def info (E : Env) (t : Nat) : Option TypeInfo := (acc TypeInfo 3 t).get E.ty
def infoK {β : Type} (E : Env) (t : Nat) (n : β) (k : TypeInfo → β) : β := @Bool.rec (fun _ => β) n (ot (info E t) n k) (Nat.blt t (nat_lit 4096))
def ud (E : Env) (t : Nat) : Option TypeDesc :=
  infoK E t none fun i => match i.desc with | .named _ u => infoK E u none fun j => some j.desc | d => some d
def szOf (E : Env) (t : Nat) : Option Nat := infoK E t none fun i => some i.size
def bytesOf (E : Env) (t : Nat) : Option Nat := infoK E t none fun i => some i.bytes
def isA (E : Env) (t : Nat) : Option Bool := match ud E t with | some (.struct _) => some true | some (.array _ _) => some true | some _ => some false | none => none
def zero (E : Env) (t : Nat) : Option AV := infoK E t none fun i => match i.zero with | some v => toAV v | none => none
def elemOf (E : Env) (t : Nat) : Option Nat := match ud E t with | some (.slice e) => some e | _ => none
def arrOf (E : Env) (t : Nat) : Option (Nat × Nat) := match ud E t with | some (.array n e) => some (n, e) | _ => none
def fieldsOf (E : Env) (t : Nat) : Option (List Field) := match ud E t with | some (.struct fs) => some fs.toList | _ => none
/-- a field: its place, its size, is it an aggregate? -/
def fieldAt (E : Env) (t f : Nat) : Option (Nat × Nat × Bool) :=
  match fieldsOf E t with
  | some fs => (match nth fs f with
    | some x => (match szOf E x.type, isA E x.type with | some n, some a => some (x.offset, n, a) | _, _ => none)
    | none => none)
  | none => none
/-- the size of a slice's element -/
def esOf (E : Env) (t : Nat) : Option Nat := match elemOf E t with | some e => szOf E e | none => none

/-! ### the state -/
def withS (s : St) (f : List AV → TT AV 2 → List ADef → Hp → Option AV → Out) : Out := @St.rec (fun _ => Out) f s
/-- v into tmp d -/
def fin (d : Option Tmp) (v : AV) (s : St) : Out :=
  withS s fun lo tm ds h pn => @Option.rec Tmp (fun _ => Out) (.ok ⟨lo, tm, ds, h, pn⟩) (fun _ => .ok ⟨v :: lo, tm, ds, h, pn⟩) d
/-- v into tmp d, another heap -/
def finH (d : Option Tmp) (v : AV) (h : Hp) (s : St) : Out :=
  withS s fun lo tm ds _ pn => @Option.rec Tmp (fun _ => Out) (.ok ⟨lo, tm, ds, h, pn⟩) (fun _ => .ok ⟨v :: lo, tm, ds, h, pn⟩) d
def bit (m t : Nat) : Bool := Nat.beq (Nat.land (Nat.shiftRight m t) (nat_lit 1)) (nat_lit 1)
/-- the first place of t -/
def pos (l : List Nat) (t : Nat) : Option Nat :=
  @List.rec Nat (fun _ => Option Nat) none (fun u _ ih => @Bool.rec (fun _ => Option Nat) (@Option.rec Nat (fun _ => Option Nat) none (fun k => some (Nat.succ k)) ih) (some (nat_lit 0)) (Nat.beq u t)) l
structure Pk where
  run : List AV → (AV → Out) → Out
def pick (k : Nat) : Pk :=
  @Nat.rec (fun _ => Pk) ⟨fun l K => @List.rec AV (fun _ => Out) (.bad_ 427) (fun v _ _ => K v) l⟩ (fun _ ih => ⟨fun l K => @List.rec AV (fun _ => Out) (.bad_ 427) (fun _ r _ => ih.run r K) l⟩) k
structure Fl where
  run : List AV → TT AV 2 → TT AV 2
/-- is a tmp kept behind its region? -/
def kept (m u : Nat) : Bool := bt (bit m u) (Nat.blt u (nat_lit 256)) false
/-- keep what is looked at outside the region -/
def flushC (m : Nat) (ds : List Nat) : Fl :=
  @List.rec Nat (fun _ => Fl) ⟨fun _ t => t⟩
    (fun u _ ih => @Bool.rec (fun _ => Fl) ⟨fun l t => @List.rec AV (fun _ => TT AV 2) t (fun _ r _ => ih.run r t) l⟩
      ⟨fun l t => @List.rec AV (fun _ => TT AV 2) t (fun v r _ => (acc AV 2 u).set (ih.run r t) (some v)) l⟩ (kept m u)) ds
def flush (m : Nat) (ds : List Nat) (s : St) : Out := withS s fun lo tm ds' h pn => .ok ⟨[], (flushC m ds).run lo tm, ds', h, pn⟩
def drop (s : St) : Out := withS s fun _ tm ds h pn => .ok ⟨[], tm, ds, h, pn⟩
structure Kl where
  run : St → Out
def flushK (m : Nat) (ds : List Nat) : Kl := @Bool.rec (fun _ => Kl) ⟨drop⟩ ⟨flush m ds⟩ (anyB (kept m) ds)

def onCells (b : AB) (k : List AV → Nat → Nat → Out) : Out :=
  @AB.rec (fun _ => (List AV → Nat → Nat → Out) → Out) (fun l t fl k => k l t fl) (fun _ _ _ => (.bad_ 444)) (fun _ _ _ _ _ _ _ _ => (.bad_ 444)) (fun _ _ => (.bad_ 444)) b k
def onMapB (b : AB) (k : List (AV × AV × Nat) → Nat → Out) : Out :=
  @AB.rec (fun _ => (List (AV × AV × Nat) → Nat → Out) → Out) (fun _ _ _ _ => (.bad_ 446)) (fun es c k => k es c) (fun _ _ _ _ _ _ _ _ => (.bad_ 446)) (fun _ _ => (.bad_ 446)) b k
def Hp.get (h : Hp) (b : Nat) : Option AB := (acc AB 4 b).get h.bl
def blk (h : Hp) (b : Nat) (k : AB → Out) : Out := @Option.rec AB (fun _ => Out) (.bad_ 448) k ((acc AB 4 b).get h.bl)
def upB (h : Hp) (b : Nat) (x : AB) (k : Hp → Out) : Out := @Hp.rec (fun _ => Out) (fun bl nx => k ⟨(acc AB 4 b).set bl (some x), nx⟩) h
def newB (h : Hp) (b : AB) (k : Nat → Hp → Out) : Out :=
  @Hp.rec (fun _ => Out) (fun bl nx => forceNat nx fun n => bt (Nat.blt n (nat_lit 65536)) (forceNat (Nat.succ n) fun m => k n ⟨(acc AB 4 n).set bl (some b), m⟩) (.bad_ 451)) h
def newC (h : Hp) (l : List AV) (t : Nat) (fl : Nat) (k : Nat → Hp → Out) : Out := newB h (.cells l t fl) k
def ldN (h : Hp) (b o n : Nat) (k : List AV → Out) : Out :=
  blk h b fun x => onCells x fun l _ _ => @Option.rec (List AV) (fun _ => Out) (.bad_ 454) k (slc l o n)
def ld1 (h : Hp) (b o : Nat) (k : AV → Out) : Out :=
  blk h b fun x => onCells x fun l _ _ => @Option.rec AV (fun _ => Out) (.bad_ 456) k (nth l o)
def stN (h : Hp) (b o : Nat) (vs : List AV) (k : Hp → Out) : Out :=
  blk h b fun x => onCells x fun l t fl => bt (Nat.beq fl (nat_lit 2)) (.bad_ 458) (@Option.rec (List AV) (fun _ => Out) (.bad_ 458) (fun l => upB h b (.cells l t fl) k) (lay vs o l))
/-- does a value lie in one cell? -/
def oneA (v : AV) : Bool :=
  @AV.rec (fun _ => Bool) (fun _ => PUnit) (fun _ => true) (fun _ _ => true) (fun _ _ => true) (fun _ => true) (fun _ _ => true) true (fun _ _ _ _ _ => true) true true (fun _ => true) true (fun _ _ _ _ _ => true) true (fun _ _ _ => true) true (fun _ _ => false) (fun _ _ => false) true ⟨⟩ (fun _ _ _ _ => ⟨⟩) v
def allOne (l : List AV) : Bool := allB oneA l
/-- a part of an aggregate -/
def partK (l : List AV) (o n : Nat) (a : Bool) (k : AV → Out) : Out :=
  bt a (ot (slc l o n) (.bad_ 465) fun m => k (.agg m)) (ot (nth l o) (.bad_ 465) k)

def inB (x : Nat) (l : List Nat) : Bool := anyB (fun y => Nat.beq y x) l
/-! ### equality -/
/-- two atoms, of kind q: 0 bools, 1 integers, else strings -/
def eqKd (q : Nat) (x y : AV) : Option Bool :=
  match q, x, y with
  | 0, .bool a, .bool b => some (bt a b (bt b false true))
  | 1, .int k a, .int k' b => bt (eqK k k') (some (eqI a b)) none
  | 2, .str a, .str b => some (eqL a b)
  | _, _, _ => none
/-- of a struct of n cells at place o: its fields' atoms -/
def planL (E : Env) (rc : Nat → Nat → Option (List (Nat × Nat))) (n o : Nat) : List Field → Option (List (Nat × Nat))
  | [] => some []
  | x :: fs => ot (szOf E x.type) none fun m => ot (isA E x.type) none fun _ => ot (planL E rc n o fs) none fun k =>
      if x.name ≠ "_" then nt m none fun _ => bt (Nat.ble (Nat.add x.offset m) n) (ot (rc x.type (Nat.add o x.offset)) none fun l => some (app l k)) none else some k
/-- the atoms of a type, flat, from place o on: how a value of it is compared; none: not so simple -/
def planF (E : Env) : Nat → Nat → Nat → Option (List (Nat × Nat))
  | 0, _, _ => none
  | f + 1, t, o =>
    match ud E t with
    | some .bool => some [(o, 0)]
    | some (.int _) => some [(o, 1)]
    | some .string => some [(o, 2)]
    | some (.struct fs) => bt (inB t E.eqs)
        (ot (szOf E t) none fun n => planL E (planF E f) n o fs.toList) none
    | _ => none
def plan (E : Env) (t : Nat) : Option (List (Nat × Nat)) := planF E 6 t 0
/-- two rows of cells, at some places -/
def eqPl (l : List (Nat × Nat)) (x y : List AV) : Option Bool :=
  @List.rec (Nat × Nat) (fun _ => Option Bool) (some true)
    (fun o _ ih => ot (nth x o.1) none fun a => ot (nth y o.1) none fun b => ot (eqKd o.2 a b) none fun c => bt c ih (some false)) l
structure Eqf where
  run : AV → AV → Option Bool
def slEq (x y : AV) : Option Bool :=
  match x, y with
  | .nilsl, .nilsl => some true
  | .nilsl, .sl .. => some false
  | .sl .., .nilsl => some false
  | .nilsl, .esl => some false
  | .esl, .nilsl => some false
  | _, _ => none
def mpEq (x y : AV) : Option Bool :=
  match x, y with
  | .nilmap, .nilmap => some true
  | .nilmap, .map _ => some false
  | .map _, .nilmap => some false
  | _, _ => none
def fnEq (x y : AV) : Option Bool :=
  match x, y with
  | .nilfn, .nilfn => some true
  | .nilfn, .fn (.func _) _ _ => some false
  | .fn (.func _) _ _, .nilfn => some false
  | _, _ => none
def ptrEq (x y : AV) : Option Bool :=
  match x, y with
  | .nilp, .nilp => some true
  | .nilp, .ptr _ _ => some false
  | .ptr _ _, .nilp => some false
  | .ptr b o, .ptr b' o' => bt (Nat.beq b b') (some (Nat.beq o o')) none
  | _, _ => none
def ifcEq (c : Bool) (x y : AV) : Option Bool :=
  match x, y with
  | .nilifc, .nilifc => bt c (some true) none
  | .nilifc, .ifc .. => some false
  | .ifc .., .nilifc => some false
  | _, _ => none
def rowEq (n : Nat) (l : List (Nat × Nat)) (x y : AV) : Option Bool := match x, y with | .agg x, .agg y => bt (Nat.beq (lenL x) n) (bt (Nat.beq (lenL y) n) (eqPl l x y) none) none | _, _ => none
/-- how values of a type are compared; c: is one of the two a constant? -/
def eqOf (E : Env) (t : Nat) (c : Bool) : Option Eqf :=
  match ud E t with
  | some .bool => some ⟨eqKd 0⟩
  | some (.int _) => some ⟨eqKd 1⟩
  | some .string => some ⟨eqKd 2⟩
  | some (.pointer e) => ot (szOf E e) none fun n => nt n none fun _ => some ⟨ptrEq⟩
  | some (.slice _) => some ⟨slEq⟩
  | some (.map _ _) => some ⟨mpEq⟩
  | some (.func _ _ _) => some ⟨fnEq⟩
  | some (.interface _) => some ⟨ifcEq c⟩
  | some (.struct _) => ot (plan E t) none fun l => ot (szOf E t) none fun n => some ⟨rowEq n l⟩
  | _ => none

/-! ### plain operations -/
def quoS (k : IntKind) (a b : Int) (K : AV → Out) : Out := bt (eqI b (.ofNat (nat_lit 0))) (.bad_ 548) (wrapK k (a.tdiv b) K)
def remS (k : IntKind) (a b : Int) (K : AV → Out) : Out := bt (eqI b (.ofNat (nat_lit 0))) (.bad_ 549) (rawK k (a.tmod b) K)
def andS (k : IntKind) (a b : Int) (K : AV → Out) : Out := wrapS k (BitVec.ofInt k.bits a &&& BitVec.ofInt k.bits b).toNat K
def orS (k : IntKind) (a b : Int) (K : AV → Out) : Out := wrapS k (BitVec.ofInt k.bits a ||| BitVec.ofInt k.bits b).toNat K
def xorS (k : IntKind) (a b : Int) (K : AV → Out) : Out := wrapS k (BitVec.ofInt k.bits a ^^^ BitVec.ofInt k.bits b).toNat K
def andNotS (k : IntKind) (a b : Int) (K : AV → Out) : Out := wrapS k (BitVec.ofInt k.bits a &&& ~~~BitVec.ofInt k.bits b).toNat K
def intOp (op : BinOp) : IntKind → Int → Int → (AV → Out) → Out :=
  @BinOp.rec (fun _ => IntKind → Int → Int → (AV → Out) → Out)
    (fun k a b K => wrapK k (addI a b) K) (fun k a b K => wrapK k (a - b) K) (fun k a b K => wrapK k (a * b) K)
    quoS remS andS orS xorS (fun _ _ _ _ => (.bad_ 557)) (fun _ _ _ _ => (.bad_ 557)) andNotS
    (fun _ a b K => K (.bool (eqI a b))) (fun _ a b K => K (.bool (bt (eqI a b) false true)))
    (fun _ a b K => K (.bool (ltI a b))) (fun _ a b K => K (.bool (bt (ltI b a) false true))) (fun _ a b K => K (.bool (ltI b a))) (fun _ a b K => K (.bool (bt (ltI a b) false true))) op
def shS (op : BinOp) (k : IntKind) (a b : Int) (K : AV → Out) : Out :=
  natK b fun y => match op with
    | .shl => wrapS k (a * 2 ^ (min y k.bits)) K
    | .shr => rawK k (a.fdiv (2 ^ (min y k.bits))) K
    | _ => (.bad_ 564)
def small (a b : List Nat) : Bool := Nat.ble (Nat.add (lenL a) (lenL b)) (nat_lit 9223372036854775807)
def strS (op : BinOp) (a b : List Nat) (K : AV → Out) : Out :=
  match op with
  | .add => bt (small a b) (K (.str (app a b))) (.bad_ 568)
  | .eql => K (.bool (eqL a b))
  | .neq => K (.bool (bt (eqL a b) false true))
  | .lss => K (.bool (ltL a b))
  | .leq => K (.bool (bt (ltL b a) false true))
  | .gtr => K (.bool (ltL b a))
  | .geq => K (.bool (bt (ltL a b) false true))
  | _ => (.bad_ 575)
structure Bif where
  run : AV → AV → (AV → Out) → Out
def shF (op : BinOp) : Bif := ⟨fun x y K => AV.onInt x fun k a => AV.onInt y fun _ b => shS op k a b K⟩
def strF (op : BinOp) : Bif := ⟨fun x y K => AV.onStr x fun a => AV.onStr y fun b => strS op a b K⟩
def intF (op : BinOp) : Bif := ⟨fun x y K => AV.onInt x fun k a => AV.onInt y fun k' b => bt (eqK k k') (intOp op k a b K) (.bad_ 580)⟩
def eqF (E : Env) (t : Nat) (c w : Bool) : Option Bif := ot (eqOf E t c) none fun f => some ⟨fun x y K => ot (f.run x y) (.bad_ 581) fun b => K (.bool (bt w b (bt b false true)))⟩
def isStr (E : Env) (t : Nat) : Bool := match ud E t with | some .string => true | _ => false
def isInt (E : Env) (t : Nat) : Bool := match ud E t with | some (.int _) => true | _ => false
def binF (E : Env) (t : Nat) (op : BinOp) (c : Bool) : Option Bif :=
  bt (isStr E t) (some (strF op)) (match op with
    | .shl => some (shF .shl)
    | .shr => some (shF .shr)
    | .eql => bt (isInt E t) (some (intF .eql)) (eqF E t c true)
    | .neq => bt (isInt E t) (some (intF .neq)) (eqF E t c false)
    | op => some (intF op))

def unA (op : UnOp) (x : AV) (K : AV → Out) : Out :=
  match op with
  | .neg => AV.onInt x fun k n => wrapK k (0 - n) K
  | .not => AV.onBool x fun b => K (.bool (bt b false true))
  | .xor => AV.onInt x fun k n => xorS k (if k.signed then -1 else k.max) n K
  | .plus => (.bad_ 597)

def bytesA (s : List Nat) : List AV := s.map fun c => .int .u8 (Int.ofNat c)
def byteOf : AV → Option Nat
  | .int .u8 (.ofNat c) => bt (Nat.blt c (nat_lit 256)) (some c) none
  | _ => none
def unbytes : List AV → Option (List Nat)
  | [] => some []
  | v :: l => match byteOf v, unbytes l with | some c, some m => some (c :: m) | _, _ => none
structure Cvf where
  run : AV → Hp → (AV → Hp → Out) → Out
def isU8 (E : Env) (e : Nat) : Bool := match ud E e with | some (.int .u8) => true | _ => false
def toBytes (e : Nat) (x : AV) (h : Hp) (K : AV → Hp → Out) : Out :=
  AV.onStr x fun s => forceNat (lenL s) fun n => bt (Nat.ble n (nat_lit 9223372036854775807)) (newC h (bytesA s) e (nat_lit 1) fun b h => K (.sl b (nat_lit 0) n n false) h) (.bad_ 610)
def toStr (x : AV) (h : Hp) (K : AV → Hp → Out) : Out :=
  match x with
  | .nilsl => K (.str []) h
  | .esl => K (.str []) h
  | .sl b o n _ _ => ldN h b o n fun l => ot (unbytes l) (.bad_ 615) fun s => K (.str s) h
  | _ => (.bad_ 616)
def markB (x : AV) (h : Hp) (K : AV → Hp → Out) : Out :=
  match x with
  | .sl b o n lo ex => blk h b fun y => onCells y fun l t fl => bt (Nat.beq fl (nat_lit 2)) (.bad_ 619) (upB h b (.cells l t (nat_lit 1)) fun h => K (.sl b o n lo ex) h)
  | _ => (.bad_ 620)
/-- a pointer to a whole variable of type t, of n cells -/
def ptrK (t n : Nat) (x : AV) (h : Hp) (K : AV → Hp → Out) : Out :=
  AV.onPtr x fun b o => nt o (blk h b fun y => onCells y fun l u fl => nt fl (bt (Nat.beq t u) (bt (Nat.beq (lenL l) n) (nt n (.bad_ 623) fun _ => K (.ptr b (nat_lit 0)) h) (.bad_ 623)) (.bad_ 623)) fun _ => (.bad_ 623)) fun _ => (.bad_ 623)
def convF (E : Env) (src dst : Nat) : Option Cvf :=
  match ud E src, ud E dst with
  | some (.int _), some (.int k) => some ⟨fun x h K => AV.onInt x fun _ n => wrapK k n fun v => K v h⟩
  | some .string, some .string => some ⟨fun x h K => AV.onStr x fun s => K (.str s) h⟩
  | some .string, some (.slice e) => bt (isU8 E e) (ot (szOf E e) none fun n => bt (Nat.beq n (nat_lit 1)) (some ⟨toBytes e⟩) none) none
  | some (.slice e), some .string => bt (isU8 E e) (some ⟨toStr⟩) none
  | some (.slice _), some (.slice e) => bt (Nat.beq src dst) (bt (isU8 E e) (some ⟨markB⟩) none) none
  | some (.pointer t), some .unsafePointer => ot (szOf E t) none fun n => some ⟨ptrK t n⟩
  | some .unsafePointer, some (.pointer t) => ot (szOf E t) none fun n => some ⟨ptrK t n⟩
  | _, _ => none

def bnd (x : Option AV) (d most : Nat) (k : Nat → Out) : Out :=
  @Option.rec AV (fun _ => Out) (k d) (fun v => AV.onInt v fun _ n => natK n fun i => bt (Nat.ble i most) (forceNat i k) (.bad_ 636)) x
/-- of a row in a block from o on: n long, capacity at least lo (just lo: ex) -/
def slRow (es b o n lo : Nat) (ex : Bool) (low high mx : Option AV) (K : AV → Out) : Out :=
  bnd mx lo lo fun m => bnd high n m fun h => bnd low (nat_lit 0) h fun l =>
    bt (bt ex true (ot mx false fun _ => true))
      (forceNat (Nat.sub h l) fun d => forceNat (Nat.sub m l) fun c => bt (Nat.beq m l) (K (.sl b o d c true)) (forceNat (Nat.add o (Nat.mul l es)) fun o => K (.sl b o d c true)))
      (nt l (K (.sl b o h lo false)) fun _ => bt (Nat.beq m l) (K .esl) (forceNat (Nat.sub h l) fun d => forceNat (Nat.sub m l) fun c => forceNat (Nat.add o (Nat.mul l es)) fun o => K (.sl b o d c false)))
def sliceStr (s : List Nat) (low high : Option AV) (K : AV → Out) : Out :=
  forceNat (lenL s) fun n => bnd high n n fun h => bnd low (nat_lit 0) h fun l => ot (slc s l (Nat.sub h l)) (.bad_ 644) fun r => K (.str r)
def sliceNil (low high mx : Option AV) (r : AV) (K : AV → Out) : Out :=
  bnd mx (nat_lit 0) (nat_lit 0) fun m => bnd high (nat_lit 0) m fun h => bnd low (nat_lit 0) h fun _ => K r
structure Slf where
  run : AV → Option AV → Option AV → Option AV → (AV → Out) → Out
def slS (es : Nat) (x : AV) (low high mx : Option AV) (K : AV → Out) : Out :=
  match x with
  | .sl b o n lo ex => slRow es b o n lo ex low high mx K
  | .nilsl => sliceNil low high mx .nilsl K
  | .esl => (match mx with | none => sliceNil low high none .esl K | some _ => (.bad_ 653))
  | _ => (.bad_ 654)
def sliceF (E : Env) (t : Nat) : Option Slf :=
  match ud E t with
  | some .string => some ⟨fun x low high mx K => AV.onStr x fun s => (match mx with | none => sliceStr s low high K | some _ => (.bad_ 657))⟩
  | some (.slice e) => ot (szOf E e) none fun es => nt es none fun _ => some ⟨slS es⟩
  | some (.array n e) => ot (szOf E e) none fun es => nt es none fun _ => some ⟨fun x low high mx K => AV.onPtr x fun b o => slRow es b o n n true low high mx K⟩
  | _ => none

def fillK (place : Nat → Option (Nat × Nat)) : List AV → List (Nat × AV) → (List AV → Out) → Out
  | cells, [], K => K cells
  | cells, (i, v) :: rest, K =>
    ot (place i) (.bad_ 665) fun p => bt (Nat.beq (lenL v.cells) p.2) (ot (lay v.cells p.1 cells) (.bad_ 665) fun c => fillK place c rest K) (.bad_ 665)
def fieldPl (E : Env) (t i : Nat) : Option (Nat × Nat) := match fieldAt E t i with | some (o, n, _) => some (o, n) | none => none
def allKnown (E : Env) (fs : List Field) : Bool := fs.all fun f => (szOf E f.type).isSome

def min2A (x y : AV) (K : AV → Out) : Out := AV.onInt x fun k a => AV.onInt y fun _ b => K (.int k (bt (ltI b a) b a))
def max2A (x y : AV) (K : AV → Out) : Out := AV.onInt x fun k a => AV.onInt y fun _ b => K (.int k (bt (ltI a b) b a))
def foldK (f : AV → AV → (AV → Out) → Out) : AV → List AV → (AV → Out) → Out
  | a, [], K => K a
  | a, b :: l, K => f a b fun c => foldK f c l K

/-! ### maps -/
def keyF (E : Env) (t : Nat) : Option Eqf :=
  match ud E t with
  | some (.int _) => some ⟨eqKd 1⟩
  | some .string => some ⟨eqKd 2⟩
  | some (.struct _) => ot (plan E t) none fun l => ot (szOf E t) none fun n => nt n none fun _ => some ⟨rowEq n l⟩
  | _ => none
def findE (q : Eqf) (k : AV) : List (AV × AV × Nat) → Option (Option AV)
  | [] => some none
  | (k', v, _) :: l => (match q.run k k' with | some true => some (some v) | some false => findE q k l | none => none)
/-- an atom, or a row of atoms: what it says of is one value -/
def gAtom (v : AV) : Bool := match v with | .int _ _ => true | .str _ => true | .bool _ => true | _ => false
def ground (v : AV) : Bool := match v with | .agg l => allB gAtom l | v => gAtom v
mutual
def avEq : AV → AV → Bool
  | .bool a, .bool b => bt a b (bt b false true)
  | .int k a, .int k' b => bt (eqK k k') (eqI a b) false
  | .str a, .str b => eqL a b
  | .ptr b o, .ptr b' o' => bt (Nat.beq b b') (Nat.beq o o') false
  | .nilp, .nilp => true
  | .sl b o n lo ex, .sl b' o' n' lo' ex' => bt (Nat.beq b b') (bt (Nat.beq o o') (bt (Nat.beq n n') (bt (Nat.beq lo lo') (bt ex ex' (bt ex' false true)) false) false) false) false
  | .nilsl, .nilsl => true
  | .map r, .map r' => Nat.beq r r'
  | .nilmap, .nilmap => true
  | .fn (.func f) a c, .fn (.func g) b d => bt (Nat.beq f g) (bt (avEqs a b) (avEqs c d) false) false
  | .nilfn, .nilfn => true
  | .ifc t v, .ifc u w => bt (Nat.beq t u) (avEq v w) false
  | .nilifc, .nilifc => true
  | .agg l, .agg m => avEqs l m
  | .tup l, .tup m => avEqs l m
  | _, _ => false
def avEqs : List AV → List AV → Bool
  | [], [] => true
  | a :: l, b :: m => bt (avEq a b) (avEqs l m) false
  | _, _ => false
end
def updE (q : Eqf) (k v : AV) (c : Nat) : List (AV × AV × Nat) → Option (List (AV × AV × Nat) × Nat)
  | [] => some ([(k, v, c)], Nat.succ c)
  | (k', v', n) :: l => (match q.run k k' with
    | some true => bt (bt (ground k) (avEq k k') false) (some ((k, v, n) :: l, c)) none
    | some false => (match updE q k v c l with | some (m, c) => some ((k', v', n) :: m, c) | none => none)
    | none => none)
def delE (q : Eqf) (k : AV) : List (AV × AV × Nat) → Option (List (AV × AV × Nat))
  | [] => some []
  | (k', v', n) :: l => (match q.run k k' with
    | some true => some l
    | some false => (match delE q k l with | some m => some ((k', v', n) :: m) | none => none)
    | none => none)
def mapOf (E : Env) (t : Nat) : Option (Nat × Nat) := match ud E t with | some (.map k e) => some (k, e) | _ => none

/-! ### append, copy and the like -/
def growA (e b len n : Nat) (ex : Bool) (old new : List AV) (h : Hp) (K : AV → Hp → Out) : Out :=
  forceNat (Nat.add len n) fun need =>
  bt ex (newC h (app old new) e (nat_lit 3) fun b' h => K (.sl b' (nat_lit 0) need need false) h)
    (blk h b fun x => onCells x fun _ t fl => bt (Nat.beq t e) (bt (Nat.beq fl (nat_lit 2)) (.bad_ 729) (@Hp.rec (fun _ => Out) (fun bl nx => newC ⟨(acc AB 4 b).set bl none, nx⟩ (app old new) e (bt (Nat.beq fl (nat_lit 1)) (nat_lit 1) (nat_lit 3)) fun b' h => K (.sl b' (nat_lit 0) need need false) h) h)) (.bad_ 729))
/-- is a slice of so many elements, of so many bytes each, small? -/
def fits (need bytes : Nat) : Bool := Nat.ble (Nat.mul (Nat.add (Nat.mul (nat_lit 2) need) (nat_lit 1024)) (Nat.succ bytes)) (nat_lit 281474976710656)
def appendA (e es bytes : Nat) (s : AV) (new : List AV) (n : Nat) (h : Hp) (K : AV → Hp → Out) : Out :=
  match s with
  | .nilsl => nt n (K .nilsl h) fun _ => bt (fits n bytes) (newC h new e (nat_lit 3) fun b h => K (.sl b (nat_lit 0) n n false) h) (.bad_ 734)
  | .sl b o len lo ex =>
    bt (Nat.ble (Nat.add len n) lo) (stN h b (Nat.add o (Nat.mul len es)) new fun h => forceNat (Nat.add len n) fun need => K (.sl b o need lo ex) h)
      (bt (bt ex true (Nat.beq o (nat_lit 0))) (bt (fits (Nat.add len n) bytes) (ldN h b o (Nat.mul len es) fun old => growA e b len n ex old new h K) (.bad_ 737)) (.bad_ 737))
  | .esl => nt n (K .esl h) fun _ => (.bad_ 738)
  | _ => (.bad_ 739)
def appendSrc (es : Nat) (x : AV) (h : Hp) (K : List AV → Nat → Out) : Out :=
  match x with
  | .str l => bt (Nat.beq es (nat_lit 1)) (forceNat (lenL l) fun n => K (bytesA l) n) (.bad_ 742)
  | .nilsl => K [] (nat_lit 0)
  | .esl => K [] (nat_lit 0)
  | .sl b o n _ _ => ldN h b o (Nat.mul n es) fun new => K new n
  | _ => (.bad_ 746)
structure Bcf where
  run : List AV → Hp → (AV → Hp → Out) → Out
def one1 (args : List AV) (k : AV → Out) : Out := match args with | [x] => k x | _ => (.bad_ 749)
def two2 (args : List AV) (k : AV → AV → Out) : Out := match args with | [x, y] => k x y | _ => (.bad_ 750)
def biAppend (E : Env) (ats : List Nat) : Option Bcf :=
  match ats with
  | t :: t2 :: _ => ot (elemOf E t) none fun e => ot (szOf E e) none fun es => nt es none fun _ => ot (bytesOf E e) none fun bytes => bt (isInt E t2) none
      (ot (ud E t2) none fun _ => ot (zero E e) none fun z => bt (Nat.beq (lenL z.cells) es) (some ⟨fun args h K => two2 args fun s x => appendSrc es x h fun new n => bt (allOne new) (appendA e es bytes s new n h K) (.bad_ 754)⟩) none)
  | _ => none
def lenS (x : AV) (h : Hp) (K : AV → Hp → Out) : Out :=
  @AV.rec (fun _ => (AV → Hp → Out) → Out) (fun _ => PUnit) (fun _ _ => (.bad_ 757)) (fun _ _ _ => (.bad_ 757)) (fun _ _ _ => (.bad_ 757)) (fun _ _ => (.bad_ 757)) (fun _ _ _ => (.bad_ 757)) (fun _ => (.bad_ 757))
    (fun _ _ n _ _ K => K (.int .i64 (.ofNat n)) h) (fun K => K (.int .i64 (.ofNat (nat_lit 0))) h) (fun K => K (.int .i64 (.ofNat (nat_lit 0))) h)
    (fun _ _ => (.bad_ 759)) (fun _ => (.bad_ 759))
    (fun _ _ _ _ _ _ => (.bad_ 760)) (fun _ => (.bad_ 760)) (fun _ _ _ _ => (.bad_ 760)) (fun _ => (.bad_ 760)) (fun _ _ _ => (.bad_ 760)) (fun _ _ _ => (.bad_ 760)) (fun _ => (.bad_ 760)) ⟨⟩ (fun _ _ _ _ => ⟨⟩) x K
def lenM (x : AV) (h : Hp) (K : AV → Hp → Out) : Out :=
  match x with
  | .map r => blk h r fun b => onMapB b fun es _ => forceNat (lenL es) fun n => K (.int .i64 (.ofNat n)) h
  | .nilmap => K (.int .i64 (.ofNat (nat_lit 0))) h
  | _ => (.bad_ 765)
def biLen (E : Env) (ats : List Nat) : Option Bcf :=
  match ats with
  | [t] => (match ud E t with
    | some .string => some ⟨fun args h K => one1 args fun x => AV.onStr x fun s => forceNat (lenL s) fun n => K (.int .i64 (.ofNat n)) h⟩
    | some (.slice _) => some ⟨fun args h K => one1 args fun x => lenS x h K⟩
    | some (.map _ _) => some ⟨fun args h K => one1 args fun x => lenM x h K⟩
    | some (.array n _) => some ⟨fun args h K => one1 args fun _ => K (.int .i64 (.ofNat n)) h⟩
    | _ => none)
  | _ => none
def biCap (E : Env) (ats : List Nat) : Option Bcf :=
  match ats with
  | [t] => (match ud E t with
    | some (.slice _) => some ⟨fun args h K => one1 args fun x => (match x with | .nilsl => K (.int .i64 (.ofNat (nat_lit 0))) h | .sl _ _ _ lo true => K (.int .i64 (.ofNat lo)) h | _ => (.bad_ 778))⟩
    | _ => none)
  | _ => none
def copySrc (es : Nat) (x : AV) (n : Nat) (h : Hp) (K : List AV → Out) : Out :=
  match x with
  | .sl b o _ _ _ => ldN h b o (Nat.mul n es) K
  | .str l => ot (takeN n l) (.bad_ 784) fun m => K (bytesA m)
  | _ => (.bad_ 785)
def copyLen (x : AV) : Option Nat := match x with | .nilsl => some 0 | .esl => some 0 | .sl _ _ n _ _ => some n | .str l => some (lenL l) | _ => none
def copyDst (x : AV) : Option Nat := match x with | .nilsl => some 0 | .esl => some 0 | .sl _ _ n _ _ => some n | _ => none
def copyTo (x : AV) (c : List AV) (n : Nat) (h : Hp) (K : AV → Hp → Out) : Out :=
  match x with
  | .sl b o _ _ _ => bt (allOne c) (stN h b o c fun h => K (.int .i64 (.ofNat n)) h) (.bad_ 790)
  | _ => (.bad_ 791)
def biCopy (E : Env) (ats : List Nat) : Option Bcf :=
  match ats with
  | t :: _ => ot (elemOf E t) none fun e => ot (szOf E e) none fun es => some ⟨fun args h K => two2 args fun d x =>
      ot (copyDst d) (.bad_ 795) fun dn => ot (copyLen x) (.bad_ 795) fun sn => forceNat (bt (Nat.ble sn dn) sn dn) fun n => nt n (K (.int .i64 (.ofNat (nat_lit 0))) h) fun _ =>
        copySrc es x n h fun c => copyTo d c n h K⟩
  | _ => none
def biDelete (E : Env) (ats : List Nat) : Option Bcf :=
  match ats with
  | t :: _ => ot (mapOf E t) none fun p => ot (keyF E p.1) none fun q => some ⟨fun args h K => two2 args fun m k => ot (q.run k k) (.bad_ 800) fun _ => AV.onMap m fun r => blk h r fun b => onMapB b fun es c => ot (delE q k es) (.bad_ 800) fun es => upB h r (.map es c) fun h => K (.tup []) h⟩
  | _ => none
def biUData : Bcf := ⟨fun args h K => one1 args fun x => (match x with | .nilsl => K .nilp h | .sl b o _ (_ + 1) _ => K (.ptr b o) h | _ => (.bad_ 802))⟩
def szIs (E : Env) (t n : Nat) : Bool := match szOf E t with | some m => Nat.beq m n | none => false
def biUStr (E : Env) (ats : List Nat) : Option Bcf :=
  match ats with
  | pt :: _ => (match ud E pt with
    | some (.pointer e) => bt (isU8 E e) (some ⟨fun args h K => two2 args fun p n => AV.onInt n fun _ n => natK n fun n => nt n (match p with | .nilp => K (.str []) h | .ptr _ _ => K (.str []) h | _ => (.bad_ 807)) fun _ =>
        AV.onPtr p fun b o => blk h b fun x => onCells x fun l t _ => bt (bt (Nat.beq t e) (bt (Nat.ble n (nat_lit 9223372036854775807)) (szIs E t (nat_lit 1)) false) false) (ot (slc l o n) (.bad_ 808) fun c => ot (unbytes c) (.bad_ 808) fun s => upB h b (.cells l t (nat_lit 2)) fun h => K (.str s) h) (.bad_ 808)⟩) none
    | _ => none)
  | _ => none
def builtinF (E : Env) (b : Builtin) (ats : List Nat) : Option Bcf :=
  match b with
  | .len => biLen E ats
  | .cap => biCap E ats
  | .min => some ⟨fun args h K => (match args with | x :: l => foldK min2A x l fun v => K v h | [] => (.bad_ 815))⟩
  | .max => some ⟨fun args h K => (match args with | x :: l => foldK max2A x l fun v => K v h | [] => (.bad_ 816))⟩
  | .append => biAppend E ats
  | .copy => biCopy E ats
  | .delete => biDelete E ats
  | .unsafeSliceData => some biUData
  | .unsafeString => biUStr E ats
  | _ => none

/-! ### operations: compiled once a place -/
structure Cl where
  run : Rec → St → Out
def clB_ (c : Nat) : Cl := ⟨fun _ _ => .bad_ c⟩
def otC_ {α : Type} (c : Nat) (o : Option α) (f : α → Cl) : Cl := @Option.rec α (fun _ => Cl) (clB_ c) f o
structure Opd where
  run : St → (AV → Out) → Out
def opT (ds : List Nat) (t : Nat) : Opd :=
  @Option.rec Nat (fun _ => Opd) (@Bool.rec (fun _ => Opd) ⟨fun _ _ => (.bad_ 832)⟩ ⟨fun s k => @Option.rec AV (fun _ => Out) (.bad_ 832) k ((acc AV 2 t).get s.tm)⟩ (Nat.blt t (nat_lit 256))) (fun i => ⟨fun s k => (pick i).run s.lo k⟩) (pos ds t)
def opd (ds : List Nat) (x : Operand) : Opd :=
  @Operand.rec (fun _ => Opd) (opT ds) (fun v => @Option.rec AV (fun _ => Opd) ⟨fun _ _ => (.bad_ 834)⟩ (fun a => ⟨fun _ k => k a⟩) (toAV v))
    (fun _ => ⟨fun _ _ => (.bad_ 835)⟩) (fun f => ⟨fun _ k => k (.fn (.func f) [] [])⟩) x
structure OpdL where
  run : St → (List AV → Out) → Out
def opds (ds : List Nat) (l : List Operand) : OpdL :=
  @List.rec Operand (fun _ => OpdL) ⟨fun _ k => k []⟩ (fun x _ ih => ⟨fun s k => (opd ds x).run s fun v => ih.run s fun m => k (v :: m)⟩) l
structure OpdP where
  run : St → (List (Nat × AV) → Out) → Out
def opdps (ds : List Nat) (l : List (Nat × Operand)) : OpdP :=
  @List.rec (Nat × Operand) (fun _ => OpdP) ⟨fun _ k => k []⟩ (fun x _ ih => ⟨fun s k => (opd ds x.2).run s fun v => ih.run s fun m => k ((x.1, v) :: m)⟩) l
structure OpdO where
  run : St → (Option AV → Out) → Out
def opdo (ds : List Nat) (o : Option Operand) : OpdO := @Option.rec Operand (fun _ => OpdO) ⟨fun _ k => k none⟩ (fun x => ⟨fun s k => (opd ds x).run s fun v => k (some v)⟩) o

abbrev Arm := Env → List Nat → Option Tmp → Cl
def opBad : Arm := fun _ _ _ => (clB_ 849)
def opMove (x : Operand) : Arm := fun _ ds d => ⟨fun _ s => (opd ds x).run s fun v => fin d v s⟩
def opPick (c a b : Operand) : Arm := fun _ ds d => ⟨fun _ s => (opd ds c).run s fun v => AV.onBool v fun t => bt t ((opd ds a).run s fun v => fin d v s) ((opd ds b).run s fun v => fin d v s)⟩
def opAlloc (t : Nat) : Arm := fun E _ d => otC_ 852 (zero E t) fun z => ⟨fun _ s => newC s.h z.cells t (nat_lit 0) fun b h => finH d (.ptr b (nat_lit 0)) h s⟩
def opBox (t : Nat) (x : Operand) : Arm := fun _ ds d => ⟨fun _ s => (opd ds x).run s fun v => newC s.h v.cells t (nat_lit 0) fun b h => finH d (.ptr b (nat_lit 0)) h s⟩
structure Fil where
  run : List AV → List (Nat × AV) → (List AV → Out) → Out
def buildF (E : Env) (t : Nat) : Option Fil :=
  match ud E t with
  | some (.struct fs) => bt (allKnown E fs.toList) (some ⟨fillK (fieldPl E t)⟩) none
  | some (.array _ e) => ot (szOf E e) none fun es => some ⟨fillK fun i => some (i * es, es)⟩
  | _ => none
def opBuild (t : Nat) (ps : Array (Nat × Operand)) : Arm := fun E ds d => otC_ 861 (zero E t) fun z => otC_ 861 (buildF E t) fun f => ⟨fun _ s => (opdps ds ps.toList).run s fun vs => f.run z.cells vs fun l => fin d (.agg l) s⟩
def opBuildSlice (t n : Nat) (ps : Array (Nat × Operand)) : Arm := fun E ds d =>
  otC_ 863 (elemOf E t) fun e => otC_ 863 (szOf E e) fun es => otC_ 863 (zero E e) fun z => bt (Nat.beq (lenL z.cells) es) (bt (Nat.ble (Nat.mul n es) (nat_lit 16777216))
    ⟨fun _ s => (opdps ds ps.toList).run s fun vs => fillK (fun i => some (i * es, es)) (rep n z.cells) vs fun l => newC s.h l e (nat_lit 0) fun b h => finH d (.sl b (nat_lit 0) n n true) h s⟩ (clB_ 864)) (clB_ 864)
def opLoad (t : Nat) (a : Operand) : Arm := fun E ds d => otC_ 865 (isA E t) fun g => otC_ 865 (szOf E t) fun n =>
  bt g ⟨fun _ s => (opd ds a).run s fun v => AV.onPtr v fun b o => ldN s.h b o n fun l => fin d (.agg l) s⟩
    ⟨fun _ s => (opd ds a).run s fun v => AV.onPtr v fun b o => ld1 s.h b o fun v => fin d v s⟩
def stC (n : Nat) (h : Hp) (b o : Nat) (v : AV) (k : Hp → Out) : Out :=
  bt (Nat.beq (lenL v.cells) n) (bt (allOne v.cells) (stN h b o v.cells k) (.bad_ 869)) (.bad_ 869)
def opStore (t : Nat) (a x : Operand) : Arm := fun E ds d => otC_ 870 (szOf E t) fun n => ⟨fun _ s => (opd ds a).run s fun v => AV.onPtr v fun b o => (opd ds x).run s fun v => stC n s.h b o v fun h => finH d (.tup []) h s⟩
def nilCk (v : AV) (K : AV → Out) : Out :=
  @AV.rec (fun _ => (AV → Out) → Out) (fun _ => PUnit) (fun _ _ => (.bad_ 872)) (fun _ _ _ => (.bad_ 872)) (fun _ _ _ => (.bad_ 872)) (fun _ _ => (.bad_ 872)) (fun b o K => K (.ptr b o)) (fun _ => (.bad_ 872))
    (fun _ _ _ _ _ _ => (.bad_ 873)) (fun _ => (.bad_ 873)) (fun _ => (.bad_ 873)) (fun _ _ => (.bad_ 873)) (fun _ => (.bad_ 873)) (fun f a c _ _ K => (match f with | .func g => K (.fn (.func g) a c) | .yield g => K (.fn (.yield g) a c) | _ => (.bad_ 873))) (fun _ => (.bad_ 873))
    (fun t v _ K => K (.ifc t v)) (fun _ => (.bad_ 874)) (fun _ _ _ => (.bad_ 874)) (fun _ _ _ => (.bad_ 874)) (fun _ => (.bad_ 874)) ⟨⟩ (fun _ _ _ _ => ⟨⟩) v K
def opNilCheck (x : Operand) : Arm := fun _ ds d => ⟨fun _ s => (opd ds x).run s fun v => nilCk v fun v => fin d v s⟩
def isC (x : Operand) : Bool := match x with | .const _ => true | _ => false
def opBin (op : BinOp) (t : Nat) (x y : Operand) (_ : Nat) : Arm := fun E ds d => otC_ 877 (binF E t op (bt (isC x) true (isC y))) fun f => ⟨fun _ s => (opd ds x).run s fun v => (opd ds y).run s fun u => f.run v u fun r => fin d r s⟩
def opUn (op : UnOp) (_ : Nat) (x : Operand) : Arm := fun _ ds d => ⟨fun _ s => (opd ds x).run s fun v => unA op v fun r => fin d r s⟩
def opConv (a b : Nat) (x : Operand) : Arm := fun E ds d => otC_ 879 (convF E a b) fun f => ⟨fun _ s => (opd ds x).run s fun v => f.run v s.h fun r h => finH d r h s⟩
def opMkI (t : Nat) (x : Operand) : Arm := fun E ds d => otC_ 880 (ud E t) fun u => (match u with | .interface _ => (clB_ 880) | _ => ⟨fun _ s => (opd ds x).run s fun v => fin d (.ifc t v) s⟩)
def opMkF (f : Fn) (a c : Array Operand) : Arm := fun _ ds d => (match f with | .func g => ⟨fun _ s => (opds ds a.toList).run s fun a => (opds ds c.toList).run s fun c => fin d (.fn (.func g) a c) s⟩ | _ => (clB_ 881))
def opMkM (_ : Nat) (r : Option Operand) : Arm := fun _ _ d => (match r with | none => ⟨fun _ s => newB s.h (.map [] (nat_lit 0)) fun b h => finH d (.map b) h s⟩ | some _ => (clB_ 882))
def opMkS (t : Nat) (l c : Operand) : Arm := fun E ds d =>
  otC_ 884 (elemOf E t) fun e => otC_ 884 (szOf E e) fun es => otC_ 884 (bytesOf E e) fun bytes => otC_ 884 (zero E e) fun z => bt (Nat.beq (lenL z.cells) es)
  ⟨fun _ s => (opd ds l).run s fun l => AV.onInt l fun _ l => natK l fun l => (opd ds c).run s fun c => AV.onInt c fun _ c => natK c fun c =>
    bt (Nat.ble l c) (bt (fits c bytes) (forceNat l fun l => forceNat c fun c => newC s.h (rep c z.cells) e (nat_lit 0) fun b h => finH d (.sl b (nat_lit 0) l c true) h s) (.bad_ 886)) (.bad_ 886)⟩ (clB_ 886)
def opSlice (t : Nat) (x : Operand) (lo hi mx : Option Operand) : Arm := fun E ds d => bt (ot mx false fun _ => ot hi true fun _ => false) (clB_ 887) (otC_ 887 (sliceF E t) fun f => ⟨fun _ s => (opd ds x).run s fun v => (opdo ds lo).run s fun lo => (opdo ds hi).run s fun hi => (opdo ds mx).run s fun mx => f.run v lo hi mx fun r => fin d r s⟩)
def opFieldAddr (t : Nat) (x : Operand) (f : Nat) : Arm := fun E ds d => otC_ 888 (fieldAt E t f) fun p => nt p.2.1 (clB_ 888) fun _ => forceNat p.1 fun q => ⟨fun _ s => (opd ds x).run s fun v => AV.onPtr v fun b o => forceNat (Nat.add o q) fun o => fin d (.ptr b o) s⟩
def opField (t : Nat) (x : Operand) (f : Nat) : Arm := fun E ds d => otC_ 889 (fieldAt E t f) fun p => ⟨fun _ s => (opd ds x).run s fun v => AV.onAgg v fun l => partK l p.1 p.2.1 p.2.2 fun r => fin d r s⟩
structure Idx where
  run : AV → Nat → (AV → Out) → Out
def idxC (E : Env) (t : Nat) : Option Idx :=
  match ud E t with
  | some (.slice e) => ot (szOf E e) none fun es => some ⟨fun v i K => AV.onSl v fun b o n _ _ => bt (Nat.blt i n) (forceNat (Nat.add o (Nat.mul i es)) fun o => K (.ptr b o)) (.bad_ 894)⟩
  | some (.array n e) => ot (szOf E e) none fun es => some ⟨fun v i K => AV.onPtr v fun b o => bt (Nat.blt i n) (forceNat (Nat.add o (Nat.mul i es)) fun o => K (.ptr b o)) (.bad_ 895)⟩
  | _ => none
def opIndexAddr (t : Nat) (x i : Operand) : Arm := fun E ds d => otC_ 897 (idxC E t) fun f => ⟨fun _ s => (opd ds x).run s fun v => (opd ds i).run s fun i => AV.onInt i fun _ i => natK i fun i => f.run v i fun r => fin d r s⟩
def idxV (E : Env) (t : Nat) : Option Idx :=
  match ud E t with
  | some .string => some ⟨fun v i K => AV.onStr v fun l => ot (nth l i) (.bad_ 900) fun c => K (.int .u8 (.ofNat c))⟩
  | some (.array n e) => ot (szOf E e) none fun es => ot (isA E e) none fun a => some ⟨fun v i K => AV.onAgg v fun l => bt (Nat.blt i n) (partK l (Nat.mul i es) es a K) (.bad_ 901)⟩
  | _ => none
def opIndex (t : Nat) (x i : Operand) : Arm := fun E ds d => otC_ 903 (idxV E t) fun f => ⟨fun _ s => (opd ds x).run s fun v => (opd ds i).run s fun i => AV.onInt i fun _ i => natK i fun i => f.run v i fun r => fin d r s⟩
def mapEs (m : AV) (h : Hp) (K : List (AV × AV × Nat) → Out) : Out :=
  match m with
  | .nilmap => K []
  | .map r => blk h r fun b => onMapB b fun es _ => K es
  | _ => (.bad_ 908)
def opLookup (t : Nat) (x i : Operand) (ok : Bool) : Arm := fun E ds d => otC_ 909 (mapOf E t) fun p => otC_ 909 (keyF E p.1) fun q => otC_ 909 (zero E p.2) fun z =>
  ⟨fun _ s => (opd ds x).run s fun m => (opd ds i).run s fun k => ot (q.run k k) (.bad_ 910) fun _ => mapEs m s.h fun es => ot (findE q k es) (.bad_ 910) fun r => ot r (fin d (bt ok (.tup [z, .bool false]) z) s) fun v => fin d (bt ok (.tup [v, .bool true]) v) s⟩
def opMapUp (t : Nat) (m k x : Operand) : Arm := fun E ds d => otC_ 911 (mapOf E t) fun p => otC_ 911 (keyF E p.1) fun q =>
  ⟨fun _ s => (opd ds m).run s fun m => (opd ds k).run s fun k => (opd ds x).run s fun v => ot (q.run k k) (.bad_ 912) fun _ => AV.onMap m fun r => blk s.h r fun b => onMapB b fun es c => ot (updE q k v c es) (.bad_ 912) fun p => upB s.h r (.map p.1 p.2) fun h => finH d (.tup []) h s⟩
def isIfc (d : TypeDesc) : Bool := match d with | .interface _ => true | _ => false
def tasK (t : Nat) (ok : Bool) (z v : AV) (K : AV → Out) : Out :=
  match v with
  | .ifc u v => bt (Nat.beq t u) (K (bt ok (.tup [v, .bool true]) v)) (bt ok (K (.tup [z, .bool false])) (.bad_ 916))
  | .nilifc => bt ok (K (.tup [z, .bool false])) (.bad_ 917)
  | _ => (.bad_ 918)
def opTAssert (x : Operand) (_ t : Nat) (ok : Bool) : Arm := fun E ds d => otC_ 919 (ud E t) fun u => bt (isIfc u) (clB_ 919) (otC_ 919 (zero E t) fun z => ⟨fun _ s => (opd ds x).run s fun v => tasK t ok z v fun r => fin d r s⟩)
def opExtract (x : Operand) (i : Nat) : Arm := fun _ ds d => ⟨fun _ s => (opd ds x).run s fun v => AV.onTup v fun l => ot (nth l i) (.bad_ 920) fun r => fin d r s⟩

/-! ### calls -/
def callA (r : Rec) (f : AV) (args : List AV) (pn : Option AV) (h : Hp) : CRes :=
  match f with
  | .fn (.func f) a c => r.call f (app a (app args c)) pn h
  | .fn (.yield l) [] [] => r.round l args h
  | _ => .bad_ 0
def onRes (c : CRes) (d : Option Tmp) (s : St) : Out :=
  @CRes.rec (fun _ => Option Tmp → St → Out) (fun c _ _ => .bad_ c) (fun v h _ d s => finH d v h s) (fun v h _ _ s => withS s fun lo tm ds _ pn => .lv (.panic v) ⟨lo, tm, ds, h, pn⟩) c d s
def opRecover : Option Tmp → Cl := fun d => ⟨fun _ s => withS s fun lo tm ds h pn => @Option.rec AV (fun _ => Out) (fin d .nilifc ⟨lo, tm, ds, h, none⟩) (fun v => fin d v ⟨lo, tm, ds, h, none⟩) pn⟩
def opBuiltin (b : Builtin) (args : Array Operand) (ats : Array Nat) : Arm := fun E ds d =>
  match b with
  | .recover => opRecover d
  | b => otC_ 934 (builtinF E b ats.toList) fun f => ⟨fun _ s => (opds ds args.toList).run s fun args => f.run args s.h fun v h => finH d v h s⟩
def idxOf (c : Nat) : List Nat → Nat → Int
  | [], _ => -1
  | x :: l, i => bt (Nat.beq x c) (Int.ofNat i) (idxOf c l (Nat.succ i))
def idxB (args : List AV) (k : AV → Out) : Out := two2 args fun s c => AV.onStr s fun s => AV.onInt c fun kd c => natK c fun c => bt (eqK kd .u8) (bt (Nat.blt c (nat_lit 256)) (rawI (idxOf c s (nat_lit 0)) fun n => k (.int .i64 n)) (.bad_ 938)) (.bad_ 938)
/-- a static call: of a function without a body, or of one with a body -/
def callS (E : Env) (f : FuncId) (args : Array Operand) (ds : List Nat) (d : Option Tmp) : Cl :=
  bt (Nat.beq f E.noesc) ⟨fun _ s => (opds ds args.toList).run s fun args => one1 args fun x => fin d x s⟩
    (bt (Nat.beq f E.idxb) ⟨fun _ s => (opds ds args.toList).run s fun args => idxB args fun v => fin d v s⟩
      ⟨fun r s => (opds ds args.toList).run s fun args => onRes (r.call f args none s.h) d s⟩)
def opCallV (f : Operand) (args : Array Operand) : Arm := fun E ds d =>
  @Operand.rec (fun _ => Cl)
    (fun t => ⟨fun r s => (opT ds t).run s fun f => (opds ds args.toList).run s fun args => onRes (callA r f args none s.h) d s⟩)
    (fun _ => (clB_ 947)) (fun _ => (clB_ 947)) (fun f => callS E f args ds d) f
def opCall (c : Call) : Arm := fun E ds d =>
  @Callee.rec (fun _ => Cl) (fun f => opCallV f c.args E ds d) (fun _ _ => (clB_ 949)) (fun b => opBuiltin b c.args c.argTypes E ds d) c.callee
def fnK (v : AV) (K : FuncId → List AV → List AV → Out) : Out := match v with | .fn (.func g) a c => K g a c | _ => (.bad_ 950)
def opDefer (c : Call) : Arm := fun _ ds d =>
  match c.callee with
  | .value f => ⟨fun _ s => (opd ds f).run s fun f => fnK f fun g a b => (opds ds c.args.toList).run s fun args => withS s fun lo tm df h pn => fin d (.tup []) ⟨lo, tm, .fn (.fn (.func g) a b) args :: df, h, pn⟩⟩
  | _ => (clB_ 954)
def opPanic (x : Operand) : Arm := fun _ ds _ => ⟨fun _ s => (opd ds x).run s fun v => AV.onIfc v fun t v => .lv (.panic (.ifc t v)) s⟩
def opA (op : Op) : Arm :=
  @Op.rec (fun _ => Arm) opMove opMove opPick opAlloc opBox opBuild opBuildSlice (fun _ _ _ _ => opBad) opLoad opStore (fun _ => opBad) (fun _ => opBad)
    opNilCheck opBin opUn opConv (fun _ _ => opBad) opMkI opMkF opMkM (fun _ _ => opBad) opMkS opSlice opFieldAddr opField opIndexAddr opIndex opLookup opMapUp
    (fun _ _ _ => opBad) (fun _ _ _ _ => opBad) (fun _ _ => opBad) (fun _ _ => opBad) (fun _ => opBad) opTAssert opExtract opCall (fun _ => opBad) opDefer opPanic
    (fun _ _ => opBad) (fun _ _ _ => opBad) (fun _ _ => opBad) op

/-! ### regions -/
def asB (v : AV) (t f e : Out) : Out := @AV.rec (fun _ => Out) (fun _ => PUnit) (fun b => bt b t f) (fun _ _ => e) (fun _ _ => e) (fun _ => e) (fun _ _ => e) e (fun _ _ _ _ _ => e) e e (fun _ => e) e (fun _ _ _ _ _ => e) e (fun _ _ _ => e) e (fun _ _ => e) (fun _ _ => e) (.bad_ 963) ⟨⟩ (fun _ _ _ _ => ⟨⟩) v
def onOk (o : Out) (k : St → Out) : Out := @Out.rec (fun _ => (St → Out) → Out) (fun c _ => .bad_ c) (fun s k => k s) (fun e s _ => .lv e s) o k
def guardC (g : Option (Nat × Bool)) (ops : List Oper) (ds : List Nat) (y n : Cl) : Cl :=
  match g with
  | none => y
  | some (j, w) => (match nth ops j with
    | some p => (match p.dst with
      | some d => bt w ⟨fun r s => (opT ds d).run s fun v => asB v (y.run r s) (n.run r s) (n.run r s)⟩ ⟨fun r s => (opT ds d).run s fun v => asB v (n.run r s) (y.run r s) (n.run r s)⟩
      | none => (clB_ 971))
    | none => (clB_ 972))
def psh (d : Option Tmp) (ds : List Nat) : List Nat := @Option.rec Tmp (fun _ => List Nat) ds (fun t => t :: ds) d
def dstOk (nt : Nat) (d : Option Tmp) : Bool := @Option.rec Tmp (fun _ => Bool) true (fun t => Nat.blt t nt) d
/-- what is not looked at in a round: defer, recover -/
def isDefer (o : Op) : Bool := match o with | .defer _ => true | .call c => (match c.callee with | .builtin .recover => true | _ => false) | _ => false
/-- the operation, its guard asked first -/
def gop (E : Env) (ops : List Oper) (ds : List Nat) (o : Oper) : Cl := guardC o.guard ops ds (opA o.op E ds o.dst) ⟨fun _ s => fin o.dst (.tup []) s⟩
def opOk (cx : Cx) (o : Oper) : Bool := bt (dstOk cx.nt o.dst) (bt cx.rd (bt (isDefer o.op) false true) true) false
def operC (E : Env) (cx : Cx) (ops : List Oper) (o : Oper) (ds : List Nat) (k : Cl) : Cl :=
  bt (opOk cx o) ⟨fun r s => onOk ((gop E ops ds o).run r s) (k.run r)⟩ (clB_ 981)
def opsA (E : Env) (cx : Cx) (ops : List Oper) (l : List Oper) (ds : List Nat) : Cl :=
  @List.rec Oper (fun _ => List Nat → Cl) (fun _ => ⟨fun _ s => .ok s⟩) (fun o _ ih ds => operC E cx ops o ds (ih (psh o.dst ds))) l ds
def dsOf (l : List Oper) (ds : List Nat) : List Nat := @List.rec Oper (fun _ => List Nat → List Nat) (fun ds => ds) (fun o _ ih ds => ih (psh o.dst ds)) l ds

/-! ### which tmps are looked at outside the region that sets them: no proof hangs on it -/
def opnT (x : Operand) (m : Nat) : Nat := @Operand.rec (fun _ => Nat) (fun t => Nat.lor m (Nat.shiftLeft (nat_lit 1) t)) (fun _ => m) (fun _ => m) (fun _ => m) x
def opnsT (l : List Operand) (m : Nat) : Nat := l.foldl (fun m x => opnT x m) m
def regT : List Oper → Nat → Nat → Nat
  | [], _, m => m
  | o :: l, sets, m =>
    let r := opnsT o.op.operands.toList 0
    let out := Nat.xor r (Nat.land r sets)
    regT l (match o.dst with | some t => Nat.lor sets (Nat.shiftLeft 1 t) | none => sets) (Nat.lor m out)
def codeT : Code → Nat → Nat
  | .skip, m => m
  | .region _ ops _, m => regT ops.toList 0 m
  | .seq a b, m => codeT b (codeT a m)
  | .cond c a b, m => codeT b (codeT a (opnT c m))
  | .block _ b, m => codeT b m
  | .loop b, m => codeT b m
  | .rangeFunc f ps a b, m => codeT b (codeT a (opnT f (ps.toList.foldl (fun m t => Nat.lor m (Nat.shiftLeft 1 t)) m)))
  | .scope b, m => codeT b m
  | _, m => m
def resT (l : List ResultVar) (m : Nat) : Nat := l.foldl (fun m r => match r with | .tmp t => Nat.lor m (Nat.shiftLeft 1 t) | .cell t _ => Nat.lor m (Nat.shiftLeft 1 t)) m
def maskOf (fn : Func) : Nat := match fn.body with | some c => resT fn.results.toList (codeT c 0) | none => 0

/-! ### regions that draw their order: run in one order; what is not ordered with an effect is looked at again behind it -/
/-- 0: it reads at most; 1: it makes a block; 2: whatever -/
def clsB (b : Builtin) : Nat := match b with | .len | .cap | .min | .max | .unsafeSliceData => 0 | _ => 2
def cls (E : Env) (op : Op) : Nat :=
  match op with
  | .move _ | .assign _ | .pick .. | .build .. | .load .. | .nilCheck _ | .binOp .. | .unOp .. | .makeInterface .. | .makeFunc .. | .slice .. | .fieldAddr .. | .field .. | .indexAddr .. | .index .. | .lookup ..
  | .typeAssert .. | .extract .. => 0
  | .alloc _ | .box .. | .buildSlice .. | .makeSlice .. | .makeMap .. => 1
  | .convert a b _ => bt (isInt E a) (bt (isInt E b) 0 2) 2
  | .call c => (match c.callee with | .builtin b => clsB b | _ => 2)
  | _ => 2
def tmpsOf (l : List Operand) : List Nat := l.filterMap fun x => match x with | .tmp t => some t | _ => none
/-- the tmps that an operation looks at -/
def looks (ops : List Oper) (o : Oper) : List Nat :=
  (match o.guard with | some (j, _) => (match nth ops j with | some p => p.dst.toList | none => []) | none => []) ++ tmpsOf o.op.operands.toList
def preds (o : Oper) : List Nat := (o.after.toList.filter (Region.binds .any)).map (·.on)
def nthD (l : List Nat) (i : Nat) : Nat := ot (nth l i) 0 fun x => x
def maskF : List Oper → List Nat → List Nat
  | [], acc => acc
  | o :: l, acc => maskF l (app acc [(preds o).foldl (fun s e => Nat.lor s (Nat.lor (Nat.shiftLeft 1 e) (nthD acc e))) 0])
def masks (ops : List Oper) : List Nat := maskF ops []
/-- one order: what is ready, no effect first -/
def orderF (E : Env) (ops : List Oper) : Nat → List Nat → List Nat
  | 0, done => done.reverse
  | f + 1, done =>
    let ready := (List.range (lenL ops)).filter fun i => bt (inB i done) false (ot (nth ops i) false fun o => allB (fun e => inB e done) (preds o))
    match ready.find? (fun i => ot (nth ops i) false fun o => bt (Nat.beq (cls E o.op) 2) false true) with
    | some i => orderF E ops f (i :: done)
    | none => (match ready with | i :: _ => orderF E ops f (i :: done) | [] => done.reverse)
def order (E : Env) (ops : List Oper) : List Nat := orderF E ops (lenL ops) []
/-- may op i (o) stand behind those done? (the last first) -/
def mayStand (E : Env) (ops : List Oper) (ms : List Nat) (done : List Nat) (i : Nat) (o : Oper) : Bool :=
  bt (inB i done) false (bt (allB (fun e => bt (Nat.blt e i) (inB e done) false) (preds o))
    (bt (allB (fun k => ot (nth ops k) false fun p => bt (Nat.beq (cls E p.op) 2) (bit (nthD ms i) k) true) done)
      (bt (allB (fun k => ot (nth ops k) false fun p => ot o.dst true fun t => ot p.dst true fun u => bt (Nat.beq t u) false true) done)
        (bt (Nat.beq (cls E o.op) 2) true o.dst.isSome) false) false) false)
def standF (E : Env) (ops : List Oper) (ms : List Nat) : List Nat → List Nat → Bool
  | [], _ => true
  | i :: l, done => ot (nth ops i) false fun o => bt (mayStand E ops ms done i o) (standF E ops ms l (i :: done)) false
/-- the masks are right: what stands in one is ahead -/
def masksOk (ops : List Oper) (ms : List Nat) : Bool :=
  allB (fun j => ot (nth ops j) false fun o => allB (fun i => bt (bit (nthD ms j) i) (anyB (fun e => bt (Nat.beq e i) true (bit (nthD ms e) i)) (preds o)) true) (List.range (lenL ops))) (List.range (lenL ops))
/-- what is looked at by op i is set ahead of it or behind it -/
def looksOk (ops : List Oper) (ms : List Nat) : Bool :=
  allB (fun i => ot (nth ops i) false fun o => allB (fun t => allB (fun k => ot (nth ops k) false fun p => ot p.dst true fun u => bt (Nat.beq u t) (bt (Nat.beq k i) true (bt (bit (nthD ms i) k) true (bit (nthD ms k) i))) true) (List.range (lenL ops))) (looks ops o)) (List.range (lenL ops))
/-- what is to be looked at again behind effect e: those done that are no effects and are not ahead of it -/
def again (E : Env) (ops : List Oper) (m : Nat) (done : List Nat) : List Nat :=
  done.filter fun k => bt (bit m k) false (ot (nth ops k) false fun p => bt (Nat.beq (cls E p.op) 2) false true)
def sameAB (x y : AB) : Bool := match x, y with
  | .cells l t f, .cells m u g => bt (Nat.beq t u) (bt (Nat.beq f g) (avEqs l m) false) false
  | .map [] c, .map [] d => Nat.beq c d
  | _, _ => false
def blkCk (h h' : Hp) (b c : Nat) (k : Out) : Out := blk h b fun x => blk h' c fun y => bt (sameAB x y) k (.bad_ 1060)
/-- a new value, as it was before -/
def newCk (u v : AV) (h h' : Hp) (k : Out) : Out := match u, v with
  | .tup [], .tup [] => k
  | .ptr b o, .ptr c p => bt (Nat.beq o p) (blkCk h h' b c k) (.bad_ 1064)
  | .sl b o n lo ex, .sl c p n' lo' ex' => bt (Nat.beq o p) (bt (Nat.beq n n') (bt (Nat.beq lo lo') (bt (bt ex ex' (bt ex' false true)) (blkCk h h' b c k) (.bad_ 1065)) (.bad_ 1065)) (.bad_ 1065)) (.bad_ 1065)
  | .map b, .map c => blkCk h h' b c k
  | _, _ => (.bad_ 1067)
/-- an operation of a region that draws sees what its own predecessors have set, and no other tmp of the region -/
structure Sel where
  run : List AV → List AV
def selC (m : Nat) (dn : List Nat) : Sel :=
  @List.rec Nat (fun _ => Sel) ⟨fun _ => []⟩ (fun k _ ih => @Bool.rec (fun _ => Sel) ⟨fun l => @List.rec AV (fun _ => List AV) [] (fun _ r _ => ih.run r) l⟩
    ⟨fun l => @List.rec AV (fun _ => List AV) [] (fun v r _ => v :: ih.run r) l⟩ (bit m k)) dn
def dstN (ops : List Oper) (k : Nat) : Option Nat := ot (nth ops k) none fun o => o.dst
def dsel (ops : List Oper) (m : Nat) (dn : List Nat) : List Nat :=
  @List.rec Nat (fun _ => List Nat) [] (fun k _ ih => bt (bit m k) (ot (dstN ops k) ih fun t => t :: ih) ih) dn
def withLo (l : List AV) (s : St) : St := @St.rec (fun _ => St) (fun _ tm ds h pn => ⟨l, tm, ds, h, pn⟩) s
def back (d : Option Tmp) (s' s : St) (K : St → Out) : Out :=
  withS s' fun lo' _ ds' h' pn' => withS s fun lo tm _ _ _ => ot d (K ⟨lo, tm, ds', h', pn'⟩) fun _ => (pick 0).run lo' fun v => K ⟨v :: lo, tm, ds', h', pn'⟩
def onOkB (o : Out) (k : St → Out) : Out := @Out.rec (fun _ => (St → Out) → Out) (fun c _ => .bad_ c) (fun s k => k s) (fun _ _ _ => (.bad_ 1080)) o k
/-- behind what reads at most -/
def back0 (s' s : St) (K : St → Out) : Out := withS s fun lo tm ds h pn => (pick 0).run s'.lo fun v => K ⟨v :: lo, tm, ds, h, pn⟩
def newIs (v : AV) (n : Nat) : Bool := match v with | .ptr b _ => Nat.beq b n | .sl b _ _ _ _ => Nat.beq b n | .map b => Nat.beq b n | _ => false
def isTup0 (v : AV) : Bool := match v with | .tup [] => true | _ => false
/-- behind what makes a block -/
def back1 (s' s : St) (K : St → Out) : Out :=
  withS s fun lo tm ds h pn => (pick 0).run s'.lo fun v => bt (isTup0 v) (K ⟨v :: lo, tm, ds, h, pn⟩)
    (@Hp.rec (fun _ => Out) (fun bl nx => bt (newIs v nx) (bt (Nat.blt nx (nat_lit 65536)) (ot (s'.h.get nx) (.bad_ 1088) fun y => forceNat (Nat.succ nx) fun m => K ⟨v :: lo, tm, ds, ⟨(acc AB 4 nx).set bl (some y), m⟩, pn⟩) (.bad_ 1088)) (.bad_ 1088)) h)
def oneOp (E : Env) (ops : List Oper) (m : Nat) (dn : List Nat) (o : Oper) : Cl := ⟨fun r s => (gop E ops (dsel ops m dn) o).run r (withLo ((selC m dn).run s.lo) s)⟩
/-- op k once more, in s: as it was -/
def lookAgain (E : Env) (ops : List Oper) (ms : List Nat) (dn : List Nat) (k : Nat) (rest : Cl) : Cl :=
  otC_ 1092 (nth ops k) fun o => otC_ 1092 (pos dn k) fun j =>
    ⟨fun r s => onOkB ((oneOp E ops (nthD ms k) dn o).run r s) fun s' => (pick 0).run s'.lo fun v => (pick j).run s.lo fun u =>
      bt (Nat.beq (cls E o.op) 0) (bt (avEq u v) (rest.run r s) (.bad_ 1094)) (newCk u v s.h s'.h (rest.run r s))⟩
def lookAll (E : Env) (ops : List Oper) (ms : List Nat) (dn : List Nat) (l : List Nat) (k : Cl) : Cl :=
  @List.rec Nat (fun _ => Cl) k (fun i _ ih => lookAgain E ops ms dn i ih) l
def pshI (o : Oper) (i : Nat) (dn : List Nat) : List Nat := @Option.rec Tmp (fun _ => List Nat) dn (fun _ => i :: dn) o.dst
def newOk (s : St) (k : Out) : Out := ot (s.h.get s.h.nx) k fun _ => (.bad_ 1098)
def drawF (E : Env) (ops : List Oper) (ms : List Nat) (l : List Nat) (done dn : List Nat) : Cl :=
  @List.rec Nat (fun _ => List Nat → List Nat → Cl) (fun _ _ => ⟨fun _ s => .ok s⟩)
    (fun i _ ih done dn => otC_ 1101 (nth ops i) fun o =>
      bt (Nat.beq (cls E o.op) 2)
        ⟨fun r s => onOk ((oneOp E ops (nthD ms i) dn o).run r s) fun s' => back o.dst s' s ((lookAll E ops ms (pshI o i dn) (again E ops (nthD ms i) done) (ih (i :: done) (pshI o i dn))).run r)⟩
        (bt (Nat.beq (cls E o.op) 1)
          ⟨fun r s => newOk s (onOkB ((oneOp E ops (nthD ms i) dn o).run r s) fun s' => back1 s' s ((ih (i :: done) (pshI o i dn)).run r))⟩
          (bt (Nat.beq (cls E o.op) 0)
            ⟨fun r s => onOkB ((oneOp E ops (nthD ms i) dn o).run r s) fun s' => back0 s' s ((ih (i :: done) (pshI o i dn)).run r)⟩ (clB_ 1107)))) l done dn
def dsAt (ops : List Oper) (l : List Nat) (ds : List Nat) : List Nat := @List.rec Nat (fun _ => List Nat → List Nat) (fun ds => ds) (fun i _ ih ds => ih (ot (nth ops i) ds fun o => psh o.dst ds)) l ds
def drawC (E : Env) (cx : Cx) (ops : List Oper) : Cl :=
  bt (allB (opOk cx) ops) (bt (allB (fun i => inB i (order E ops)) (List.range (lenL ops))) (bt (standF E ops (masks ops) (order E ops) []) (bt (masksOk ops (masks ops)) (bt (looksOk ops (masks ops))
    (drawF E ops (masks ops) (order E ops) [] []) (clB_ 1111)) (clB_ 1111)) (clB_ 1111)) (clB_ 1111)) (clB_ 1111)

/-! ### code -/
def exBlk (i : Nat) (e : Ex) (s : St) : Out :=
  @Ex.rec (fun _ => Nat → St → Out) (fun j i s => bt (Nat.beq j i) (.ok s) (.lv (.exit j) s)) (fun _ s => .lv .ret s) (fun v _ s => .lv (.panic v) s) e i s
def loopEnd (l : Nat) (s : St) (h : Hp) (b : AB) : Out :=
  match b with
  | .loop st pend cx tm ps a b =>
    (match st with
    | .busy => (.bad_ 1120)
    | _ => upB h l (.loop .exhausted pend cx tm ps a b) fun h => withS s fun lo tm ds _ pn =>
      (match pend with
      | none => .ok ⟨lo, tm, ds, h, pn⟩
      | some (.exit i) => .lv (.exit i) ⟨lo, tm, ds, h, pn⟩
      | some .ret => .lv .ret ⟨lo, tm, ds, h, pn⟩
      | _ => (.bad_ 1126)))
  | _ => (.bad_ 1127)
/-- what a region has set is known no more -/
def clearT (ds : List Nat) (t : TT AV 2) : TT AV 2 := @List.rec Nat (fun _ => TT AV 2) t (fun u _ ih => bt (Nat.blt u (nat_lit 256)) ((acc AV 2 u).set ih none) ih) ds
def onReg (ds : List Nat) (o : Out) (k : St → Out) : Out :=
  @Out.rec (fun _ => (St → Out) → Out) (fun c _ => .bad_ c) (fun s k => k s) (fun e s _ => withS s fun _ tm df h pn => .lv e ⟨[], clearT ds tm, df, h, pn⟩) o k
abbrev CArm := Env → Cx → Cl
def cdSkip : CArm := fun _ _ => ⟨fun _ s => .ok s⟩
def cdRegion (_ : Nat) (ops : Array Oper) (d : Bool) : CArm := fun E cx =>
  bt d ⟨fun r s => onReg (dsAt ops.toList (order E ops.toList) []) ((drawC E cx ops.toList).run r s) (flushK cx.ms (dsAt ops.toList (order E ops.toList) [])).run⟩
    ⟨fun r s => onReg (dsOf ops.toList []) ((opsA E cx ops.toList ops.toList []).run r s) (flushK cx.ms (dsOf ops.toList [])).run⟩
def cdSeq (_ _ : Code) (a b : CArm) : CArm := fun E m => ⟨fun r s => onOk ((a E m).run r s) ((b E m).run r)⟩
def cdCond (c : Operand) (_ _ : Code) (a b : CArm) : CArm := fun E m => ⟨fun r s => (opd [] c).run s fun v => AV.onBool v fun t => bt t ((a E m).run r s) ((b E m).run r s)⟩
def cdBlock (i : Nat) (_ : Code) (b : CArm) : CArm := fun E m => ⟨fun r s => @Out.rec (fun _ => Out) (fun c => .bad_ c) (fun s => .ok s) (fun e s => exBlk i e s) ((b E m).run r s)⟩
def cdLoop (c : Code) (b : CArm) : CArm := fun E m => ⟨fun r s => onOk ((b E m).run r s) (r.code (.loop c) m)⟩
def psOk (nt : Nat) (ps : List Nat) : Bool := allB (fun p => bt (Nat.blt p nt) (Nat.blt p (nat_lit 256)) false) ps
def psIn (ms : Nat) (ps : List Nat) : Bool := allB (bit ms) ps
def cdRange (f : Operand) (ps : Array Tmp) (a b : Code) (_ _ : CArm) : CArm := fun _ m => bt m.rd (clB_ 1143) (bt (bt (psOk m.nt ps.toList) (psIn m.ms ps.toList) false) ⟨fun r s =>
  (opd [] f).run s fun f => newB s.h (.dfr false) fun d h => newB h (.loop .ready none ⟨m.ms, m.nt, true⟩ s.tm ps.toList a b) fun l h =>
    (match callA r f [.fn (.yield l) [] []] none h with
    | .ret _ h _ => blk h l fun b => withS s fun lo tm ds _ pn => loopEnd l ⟨lo, tm, .coll d :: ds, h, pn⟩ h b
    | .panic v h _ => withS s fun lo tm ds _ pn => .lv (.panic v) ⟨lo, tm, .coll d :: ds, h, pn⟩
    | .bad_ c => .bad_ c)⟩ (clB_ 1148))
def comp (c : Code) : CArm :=
  @Code.rec (fun _ => CArm) cdSkip cdRegion cdSeq cdCond cdBlock cdLoop cdRange (fun i _ _ => ⟨fun _ s => .lv (.exit i) s⟩) (fun _ b => b) (fun _ => cdSkip) (fun _ _ _ => (clB_ 1150)) (fun _ _ => ⟨fun _ s => .lv .ret s⟩) (fun _ _ _ => (clB_ 1150)) c

def setAll (t : TT AV 2) (i : Nat) : List AV → Option (TT AV 2)
  | [] => some t
  | v :: l => bt (Nat.blt i (nat_lit 256)) (setAll ((acc AV 2 i).set t (some v)) (Nat.succ i) l) none
def setPs (t : TT AV 2) : List Nat → List AV → Option (TT AV 2)
  | [], [] => some t
  | i :: l, v :: m => setPs ((acc AV 2 i).set t (some v)) l m
  | _, _ => none
/-- the results, at a return -/
def resK (E : Env) (l : List ResultVar) (s : St) (k : List AV → Out) : Out :=
  match l with
  | [] => k []
  | .tmp t :: l => (opT [] t).run s fun v => resK E l s fun m => k (v :: m)
  | .cell a t :: l => (opT [] a).run s fun p => AV.onPtr p fun b o => ot (isA E t) (.bad_ 1164) fun g => ot (szOf E t) (.bad_ 1164) fun n =>
      bt g (ldN s.h b o n fun c => resK E l s fun m => k (.agg c :: m)) (ld1 s.h b o fun v => resK E l s fun m => k (v :: m))
def resV (l : List AV) : AV := match l with | [v] => v | l => .tup l
def results (E : Env) (fn : Func) (s : St) : CRes :=
  match resK E fn.results.toList s fun l => .lv (.panic (resV l)) s with
  | .lv (.panic v) s => .ret v s.h s.pn
  | .bad_ c => .bad_ c
  | _ => .bad_ 1
def unwA (E : Env) (r : Rec) (fn : Func) (e : Option AV) (s : St) : CRes :=
  match s.ds with
  | [] => (match e with | none => results E fn s | some v => .panic v s.h s.pn)
  | .fn (.fn (.func g) a c) args :: ds => (match r.call g (app a (app args c)) e s.h with
    | .ret _ h pn => r.unw fn pn ⟨s.lo, s.tm, ds, h, s.pn⟩
    | .bad_ c => .bad_ c
    | .panic .. => .bad_ 2)
  | .fn _ _ :: _ => .bad_ 15
  | .coll b :: ds => (match s.h.get b with
    | some (.dfr false) => (match upB s.h b (.dfr true) fun h => .ok ⟨s.lo, s.tm, ds, h, s.pn⟩ with
      | .ok s => r.unw fn e s
      | _ => .bad_ 3)
    | _ => .bad_ 4)
def onEnd (r : Rec) (fn : Func) (o : Out) : CRes :=
  @Out.rec (fun _ => CRes) (fun c => .bad_ c) (fun s => r.unw fn none s) (fun e s => @Ex.rec (fun _ => CRes) (fun _ => .bad_ 5) (r.unw fn none s) (fun v => r.unw fn (some v) s) e) o
def argsIn (m : Nat) (l : List AV) (i : Nat) : Bool := @List.rec AV (fun _ => Nat → Bool) (fun _ => true) (fun _ _ ih i => bt (bit m i) (ih (Nat.succ i)) false) l i
structure Fc where
  run : Rec → List AV → Option AV → Hp → CRes
def fcBad : Fc := ⟨fun _ _ _ _ => .bad_ 6⟩
def fnC (E : Env) (f : FuncId) : Fc :=
  bt (Nat.blt f (nat_lit 4096)) (@Option.rec Func (fun _ => Fc) fcBad (fun fn => @Option.rec Code (fun _ => Fc) fcBad
    (fun c => forceNat (Nat.lor (maskOf fn) (Nat.pred (Nat.shiftLeft (nat_lit 1) (Nat.add fn.params.size fn.nfree)))) fun m => forceNat fn.ntmps fun n => ⟨fun r args pn h => bt (argsIn m args (nat_lit 0)) (ot (setAll (emp AV 2) (nat_lit 0) args) (.bad_ 7) fun t => onEnd r fn ((comp c E ⟨m, n, false⟩).run r ⟨[], t, [], h, pn⟩)) (.bad_ 16)⟩) fn.body) ((acc Func 3 f).get E.fs)) fcBad
def roundEnd (l : Nat) (j : Option Code) (s : St) : CRes :=
  match s.ds, s.h.get l with
  | [], some (.loop _ _ cx tm ps a b) => (match upB s.h l (.loop (match j with | none => .ready | some _ => .done) j cx tm ps a b) fun h => .ok ⟨s.lo, s.tm, s.ds, h, s.pn⟩ with
    | .ok s => .ret (.bool j.isNone) s.h none
    | _ => .bad_ 8)
  | _, _ => .bad_ 9
def roundB (r : Rec) (l : Nat) (cx0 : Cx) (b0 : Code) (s : St) : CRes :=
  match s.h.get l with
  | some (.loop .ready p cx tm ps a b) =>
    (match upB s.h l (.loop .busy p cx tm ps a b) fun h => withS s fun lo tm ds _ pn => r.code b0 cx0 ⟨lo, tm, ds, h, pn⟩ with
    | .ok s => roundEnd l none s
    | .lv e s => (match e with | .panic v => (match s.ds with | [] => .panic v s.h none | _ => .bad_ 14) | .exit i => roundEnd l (some (.exit i)) s | .ret => roundEnd l (some .ret) s)
    | .bad_ c => .bad_ c)
  | _ => .bad_ 10
def roundA (r : Rec) (l : Nat) (args : List AV) (h : Hp) : CRes :=
  match h.get l with
  | some (.loop _ _ cx tm ps a b) => (match setPs tm ps args with
    | some t => (match r.code a cx ⟨[], t, [], h, none⟩ with
      | .ok s => roundB r l cx b s
      | .bad_ c => .bad_ c
      | _ => .bad_ 11)
    | none => .bad_ 12)
  | _ => .bad_ 13

def stepR (E : Env) (r : Rec) : Rec := ⟨fun c cx s => (comp c E cx).run r s, fun f args pn h => (fnC E f).run r args pn h, roundA r, unwA E r⟩
def rec0 : Rec := ⟨fun _ _ _ => .bad_ 0, fun _ _ _ _ => .bad_ 0, fun _ _ _ => .bad_ 0, fun _ _ _ => .bad_ 0⟩
def ev (E : Env) (n : Nat) : Rec := @Nat.rec (fun _ => Rec) rec0 (fun _ r => stepR E r) n

end
end Go.Ev
