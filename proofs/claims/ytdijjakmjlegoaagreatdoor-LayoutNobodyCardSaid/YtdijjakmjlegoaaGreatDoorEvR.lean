/-
  WHAT THE EVALUATOR's STATE SAYS OF A WORLD: each of its blocks that is known lies somewhere, and holds what it says.
-/
import Derived.Test.YtdijjakmjlegoaaGreatDoorEvL
import Derived.Laws.Sem
import Derived.Laws.World
import Derived.Below
namespace Go.Ev
open Go.RowKit (Below)

/-- of an abstract block: the concrete one, how many cells it has, of what type its row is -/
abbrev Rho := Nat → Option (Nat × Nat × Nat)
def Rho.le (ρ ρ' : Rho) : Prop := ∀ b x, ρ b = some x → ρ' b = some x
theorem Rho.le.refl (ρ : Rho) : ρ.le ρ := fun _ _ h => h
theorem Rho.le.trans {a b c : Rho} (h : a.le b) (k : b.le c) : a.le c := fun x y e => k x y (h x y e)
def Rho.put (ρ : Rho) (b : Nat) (x : Nat × Nat × Nat) : Rho := fun i => if i = b then some x else ρ i
theorem Rho.put_same (ρ : Rho) (b : Nat) (x : Nat × Nat × Nat) : ρ.put b x b = some x := by simp [Rho.put]
theorem Rho.put_other (ρ : Rho) {b i : Nat} (x : Nat × Nat × Nat) (h : i ≠ b) : ρ.put b x i = ρ i := by simp [Rho.put, h]
theorem Rho.le_put {ρ : Rho} {b : Nat} (x : Nat × Nat × Nat) (h : ρ b = none) : ρ.le (ρ.put b x) := by
  intro i y hi
  by_cases e : i = b
  · rw [e, h] at hi; cases hi
  · rw [Rho.put_other ρ x e]; exact hi

section
variable (P : Program)
mutual
inductive VR (ρ : Rho) : AV → Value → Prop
  | bool (b : Bool) : VR ρ (.bool b) (.bool b)
  | int (k : IntKind) (n : Int) : VR ρ (.int k n) (.int k n)
  | flt (k : FloatKind) (n : Nat) : VR ρ (.flt k n) (.float k n)
  | str (s : ByteArray) : VR ρ (.str (s.data.toList.map UInt8.toNat)) (.string s)
  | ptr (b o : Nat) (x : Nat × Nat × Nat) (h : ρ b = some x) : VR ρ (.ptr b o) (.pointer (some ⟨x.1, o, none⟩))
  | nilp : VR ρ .nilp (.pointer none)
  | sl (b o n lo : Nat) (ex : Bool) (cap : Nat) (x : Nat × Nat × Nat) (h : ρ b = some x) (hn : n ≤ lo) (hlo : lo ≤ cap) (hex : ex = true → cap = lo)
      (hin : ex = false → o = 0 → cap * P.cellsOf x.2.2 ≤ x.2.1) : VR ρ (.sl b o n lo ex) (.slice (some ⟨x.1, o, none⟩) n cap)
  | esl (a : Addr) (cap : Nat) : VR ρ .esl (.slice (some a) 0 cap)
  | nilsl : VR ρ .nilsl (.slice none 0 0)
  | map (r : Nat) (x : Nat × Nat × Nat) (h : ρ r = some x) : VR ρ (.map r) (.map (some x.1))
  | nilmap : VR ρ .nilmap (.map none)
  | fn (g : FuncId) (a c : List AV) (a' c' : Array Value) (ha : VRs ρ a a'.toList) (hc : VRs ρ c c'.toList) : VR ρ (.fn (.func g) a c) (.func (.func g) a' c')
  | yld (l : Nat) (x : Nat × Nat × Nat) (h : ρ l = some x) : VR ρ (.fn (.yield l) [] []) (.func (.yield x.1) #[] #[])
  | nilfn : VR ρ .nilfn .nilFunc
  | ifc (t : Nat) (v : AV) (v' : Value) (h : VR ρ v v') : VR ρ (.ifc t v) (.iface t v')
  | nilifc : VR ρ .nilifc .nilIface
  | agg (l : List AV) (l' : Array Value) (h : VRs ρ l l'.toList) : VR ρ (.agg l) (.agg l')
  | tup (l : List AV) (l' : Array Value) (h : VRs ρ l l'.toList) : VR ρ (.tup l) (.tuple l')
  | unk (v : Value) (h : v.oneCell' = true) : VR ρ .unk v
inductive VRs (ρ : Rho) : List AV → List Value → Prop
  | nil : VRs ρ [] []
  | cons (v : AV) (l : List AV) (v' : Value) (l' : List Value) (h : VR ρ v v') (hl : VRs ρ l l') : VRs ρ (v :: l) (v' :: l')
end
end
variable {P : Program} {ρ ρ' : Rho}

mutual
theorem VR.mono (h : ρ.le ρ') : ∀ {v : AV} {u : Value}, VR P ρ v u → VR P ρ' v u
  | _, _, .bool b => .bool b
  | _, _, .int k n => .int k n
  | _, _, .flt k n => .flt k n
  | _, _, .str s => .str s
  | _, _, .ptr b o x e => .ptr b o x (h _ _ e)
  | _, _, .nilp => .nilp
  | _, _, .sl b o n lo ex cap x e hn hlo hex hin => .sl b o n lo ex cap x (h _ _ e) hn hlo hex hin
  | _, _, .esl a cap => .esl a cap
  | _, _, .nilsl => .nilsl
  | _, _, .map r x e => .map r x (h _ _ e)
  | _, _, .nilmap => .nilmap
  | _, _, .fn g a c a' c' ha hc => .fn g a c a' c' (VRs.mono h ha) (VRs.mono h hc)
  | _, _, .yld l x e => .yld l x (h _ _ e)
  | _, _, .nilfn => .nilfn
  | _, _, .ifc t v v' e => .ifc t v v' (VR.mono h e)
  | _, _, .nilifc => .nilifc
  | _, _, .agg l l' e => .agg l l' (VRs.mono h e)
  | _, _, .tup l l' e => .tup l l' (VRs.mono h e)
  | _, _, .unk v e => .unk v e
theorem VRs.mono (h : ρ.le ρ') : ∀ {v : List AV} {u : List Value}, VRs P ρ v u → VRs P ρ' v u
  | _, _, .nil => .nil
  | _, _, .cons v l v' l' e el => .cons v l v' l' (VR.mono h e) (VRs.mono h el)
end

theorem VRs.length : ∀ {l : List AV} {m : List Value}, VRs P ρ l m → l.length = m.length
  | _, _, .nil => rfl
  | _, _, .cons _ _ _ _ _ hl => by simp [VRs.length hl]
theorem VRs.get : ∀ {l : List AV} {m : List Value}, VRs P ρ l m → ∀ {i : Nat} {v : AV}, l[i]? = some v → ∃ u, m[i]? = some u ∧ VR P ρ v u
  | _, _, .nil, i, v, h => by simp at h
  | _, _, .cons v l v' l' h hl, 0, w, e => by simp at e; subst e; exact ⟨v', by simp, h⟩
  | _, _, .cons v l v' l' h hl, i + 1, w, e => by
    simp at e
    obtain ⟨u, hu, hr⟩ := VRs.get hl e
    exact ⟨u, by simpa using hu, hr⟩
theorem VRs.of_get : ∀ {l : List AV} {m : List Value}, l.length = m.length → (∀ (i : Nat) (v : AV) (u : Value), l[i]? = some v → m[i]? = some u → VR P ρ v u) → VRs P ρ l m
  | [], [], _, _ => .nil
  | [], _ :: _, h, _ => by simp at h
  | _ :: _, [], h, _ => by simp at h
  | v :: l, u :: m, h, k => .cons _ _ _ _ (k 0 v u (by simp) (by simp)) (VRs.of_get (by simpa using h) fun i v u hv hu => k (i + 1) v u (by simpa using hv) (by simpa using hu))
theorem VRs.append : ∀ {l : List AV} {m : List Value} {l' : List AV} {m' : List Value}, VRs P ρ l m → VRs P ρ l' m' → VRs P ρ (l ++ l') (m ++ m')
  | _, _, _, _, .nil, k => k
  | _, _, _, _, .cons _ _ _ _ h hl, k => .cons _ _ _ _ h (VRs.append hl k)
theorem VRs.take {l : List AV} {m : List Value} (h : VRs P ρ l m) (n : Nat) : VRs P ρ (l.take n) (m.take n) := by
  have hl := h.length
  refine VRs.of_get (by simp [hl]) fun i v u hv hu => ?_
  rw [List.getElem?_take] at hv hu
  split at hv
  · rw [if_pos (by assumption)] at hu
    obtain ⟨u', hu', hr⟩ := h.get hv
    rw [hu] at hu'; cases hu'; exact hr
  · cases hv
theorem VRs.drop {l : List AV} {m : List Value} (h : VRs P ρ l m) (n : Nat) : VRs P ρ (l.drop n) (m.drop n) := by
  have hl := h.length
  refine VRs.of_get (by simp [hl]) fun i v u hv hu => ?_
  rw [List.getElem?_drop] at hv hu
  obtain ⟨u', hu', hr⟩ := h.get hv
  rw [hu] at hu'; cases hu'; exact hr

/-- may a block be written? -/
def FrzOk (fl n : Nat) (f : Nat × Nat) : Prop :=
  f.1 ≤ f.2 ∧ (fl ≠ 1 → fl ≠ 2 → ∀ o, ¬ (f.1 ≤ o ∧ o < f.2)) ∧ (fl = 1 → ∀ o, o < n → ¬ (f.1 ≤ o ∧ o < f.2))
/-- what is known of a frame's temporaries -/
def TR (P : Program) (ρ : Rho) (tm : TT AV 2) (a : Array Value) : Prop := ∀ t v, t < 256 → (acc AV 2 t).get tm = some v → VR P ρ v (a.getD t undef)
def ER (P : Program) (ρ : Rho) (e : AV × AV × Nat) (m : MapEntry) : Prop := VR P ρ e.1 m.key ∧ VR P ρ e.2.1 m.val ∧ e.2.2 = m.born
inductive ERs (P : Program) (ρ : Rho) : List (AV × AV × Nat) → List MapEntry → Prop
  | nil : ERs P ρ [] []
  | cons (e : AV × AV × Nat) (m : MapEntry) (l : List (AV × AV × Nat)) (l' : List MapEntry) (h : ER P ρ e m) (hl : ERs P ρ l l') : ERs P ρ (e :: l) (m :: l')
theorem ERs.mono (h : ρ.le ρ') : ∀ {l : List (AV × AV × Nat)} {m : List MapEntry}, ERs P ρ l m → ERs P ρ' l m
  | _, _, .nil => .nil
  | _, _, .cons e m l l' k kl => .cons e m l l' ⟨k.1.mono h, k.2.1.mono h, k.2.2⟩ (ERs.mono h kl)

/-- what an abstract block says of an object -/
inductive BR (P : Program) (ρ : Rho) (x : Nat × Nat × Nat) : AB → Obj → Prop
  | cells (l : List AV) (t fl : Nat) (c : Array Value) (f : Nat × Nat) (ht : x.2.2 = t) (hs : x.2.1 = c.size) (hl : l.length ≤ c.size)
      (hc : ∀ (i : Nat) (v : AV), l[i]? = some v → ∃ u, c[i]? = some u ∧ VR P ρ v u) (hx : fl = 0 → l.length = c.size) (hf : FrzOk fl c.size f) : BR P ρ x (.cells l t fl) (.cells c t f)
  | map (es : List (AV × AV × Nat)) (clock : Nat) (en : Array MapEntry) (h : ERs P ρ es en.toList) : BR P ρ x (.map es clock) (.map en clock)
  | loop (cx : Cx) (tm : TT AV 2) (ps : List Nat) (a b : Code) (pend : Option Code) (L : Loop) (hn : cx.nt ≤ L.tmps.size) (ht : TR P ρ tm L.tmps) (hp : L.params.toList = ps) (ha : L.assign = a) (hb : L.body = b) (hd : L.pending = pend)
      (hrd : cx.rd = true) (hps : psOk cx.nt ps = true) (hpi : psIn cx.ms ps = true) (htk : ∀ t v, t < 256 → (acc AV 2 t).get tm = some v → kept cx.ms t = true) (hfn : ∃ fn, P.funcs[L.fn]? = some fn) : BR P ρ x (.loop L.state pend cx tm ps a b) (.loop L)
  | dfr (taken : Bool) (calls : Option (List Deferred)) (h : taken = false → calls = some []) : BR P ρ x (.dfr taken) (.deferred calls)
theorem TR.mono (h : ρ.le ρ') {tm : TT AV 2} {a : Array Value} (k : TR P ρ tm a) : TR P ρ' tm a := fun t v ht e => (k t v ht e).mono h
theorem BR.mono (h : ρ.le ρ') {x : Nat × Nat × Nat} {b : AB} {o : Obj} (k : BR P ρ x b o) : BR P ρ' x b o := by
  cases k with
  | cells l t fl c f ht hs hl hc hx hf => exact .cells l t fl c f ht hs hl (fun i v e => let ⟨u, hu, hr⟩ := hc i v e; ⟨u, hu, hr.mono h⟩) hx hf
  | map es clock en k => exact .map es clock en (k.mono h)
  | loop cx tm ps a b pend L hn ht hp ha hb hd hrd hps hpi htk hfn => exact .loop cx tm ps a b pend L hn (ht.mono h) hp ha hb hd hrd hps hpi htk hfn
  | dfr taken calls k => exact .dfr taken calls k

/-- the heap: each block that is there and lies somewhere holds what it says; no two lie in one place -/
structure HR (P : Program) (ρ : Rho) (H : Hp) (hp : Array Obj) : Prop where
  live : ∀ b ab x, H.get b = some ab → ρ b = some x → ∃ o, hp[x.1]? = some o ∧ BR P ρ x ab o
  inj : ∀ b b' ab ab' x x', H.get b = some ab → H.get b' = some ab' → ρ b = some x → ρ b' = some x' → x.1 = x'.1 → b = b'
  dom : ∀ b x, ρ b = some x → b < 65536
/-- nothing is known of blocks that are still to come -/
def Fresh (ρ : Rho) (H : Hp) : Prop := ∀ b, H.nx ≤ b → ρ b = none
/-- a world, seen from the one in which all began -/
structure WR (P : Program) (w0 : World) (ρ : Rho) (H : Hp) (w : World) : Prop where
  hr : HR P ρ H w.heap
  base : ∀ b x, ρ b = some x → w0.heap.size ≤ x.1
  below : Below w0.heap.size w0 w

theorem hp_get_set (bl : TT AB 4) (nx n j : Nat) (x : Option AB) (hn : n < 65536) (hj : j < 65536) (nx' : Nat) :
    Hp.get ⟨(acc AB 4 n).set bl x, nx'⟩ j = if n = j then x else Hp.get ⟨bl, nx⟩ j := by
  show (acc AB 4 j).get ((acc AB 4 n).set bl x) = _
  rw [acc_get_set 4 n j bl x (by omega) (by omega)]; rfl
end Go.Ev
