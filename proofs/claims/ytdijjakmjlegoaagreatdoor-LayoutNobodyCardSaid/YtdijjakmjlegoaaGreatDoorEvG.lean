/-
  BYTES TO STRINGS.
-/
import Derived.Test.YtdijjakmjlegoaaGreatDoorEvF
import Derived.Laws.BytesString
namespace Go.Ev
open Go.RowKit (Below)
variable {P : Program} {E : Env} {ρ ρ' : Rho} {w0 w : World} {Φ : Out → Prop}

theorem byteOf_rel {v : AV} {u : Value} {c : Nat} (h : VR P ρ v u) (e : byteOf v = some c) : c < 256 ∧ u = .int .u8 (c : Int) := by
  cases h <;> try (cases e; done)
  next k n =>
  cases k <;> try (cases e; done)
  cases n with
  | negSucc m => cases e
  | ofNat m =>
    change bt (Nat.blt m 256) (some m) none = some c at e
    obtain ⟨h1, h2⟩ := bt_inv e
    simp only [Option.some.injEq] at h2; subst h2
    rw [Nat.blt_eq] at h1
    exact ⟨h1, rfl⟩
theorem unbytes_rel : ∀ {l : List AV} {m : List Value} {s : List Nat}, VRs P ρ l m → unbytes l = some s → (∀ c ∈ s, c < 256) ∧ m = s.map fun c => Value.int .u8 ((c : Nat) : Int)
  | _, _, s, .nil, h => by change some [] = some s at h; simp at h; subst h; simp
  | _, _, s, .cons v l u m hv hl, h => by
    unfold unbytes at h
    split at h
    · next c k h1 h2 =>
      simp only [Option.some.injEq] at h; subst h
      obtain ⟨h3, h4⟩ := byteOf_rel hv h1
      obtain ⟨h5, h6⟩ := unbytes_rel hl h2
      exact ⟨by simpa using ⟨h3, h5⟩, by rw [h4, h6]; rfl⟩
    · cases h
theorem push_bytes : ∀ (ns : List Nat) (acc : ByteArray), (∀ c ∈ ns, c < 256) → (((ns.map fun c : Nat => (c : Int)).foldl (fun r n => r.push (UInt8.ofNat n.toNat)) acc).data.toList.map UInt8.toNat) = acc.data.toList.map UInt8.toNat ++ ns
  | [], acc, _ => by simp
  | c :: ns, acc, h => by
    rw [List.map_cons, List.foldl_cons, push_bytes ns _ fun d hd => h d (by simp [hd])]
    have hc := h c (by simp)
    have hp : (acc.push (UInt8.ofNat (c : Int).toNat)).data.toList = acc.data.toList ++ [UInt8.ofNat c] := by
      show (acc.data.push _).toList = _
      simp
    rw [hp]
    have : (UInt8.ofNat c).toNat = c := by simp; omega
    simp [this]
theorem toStr_ok {H : Hp} (hb : ∀ c, Φ (.bad_ c)) (hw : WR P w0 ρ H w) {x : AV} {u : Value} (hx : VR P ρ x u) {K : AV → Hp → Out}
    (h : ∀ v q, VR P ρ v q → (∃ a l c, u = .slice a l c) → (Conv.bytesToString u).run P w = .ok q w → Φ (K v H)) : Φ (toStr x H K) := by
  cases hx with
  | nilsl => exact h _ _ (.str ByteArray.empty) ⟨_, _, _, rfl⟩ rfl
  | esl a cap =>
    refine h _ _ (.str ByteArray.empty) ⟨_, _, _, rfl⟩ ?_
    have := run_bytesToString (P := P) w a 0 cap [] (by simp only [loadCells, loadCellsFrom, Sem.run_pure]; rfl)
    simpa using this
  | sl b o n lo ex cap y hy =>
    refine ldN_any hb hw hy fun l us hl hs hr => ot_ok hb fun s hsx => ?_
    obtain ⟨h1, h2⟩ := unbytes_rel hl hsx
    have hv := VR.str (P := P) (ρ := ρ) ((s.map fun c : Nat => (c : Int)).foldl (fun r n => r.push (UInt8.ofNat n.toNat)) ByteArray.empty)
    rw [push_bytes s _ h1] at hv
    refine h _ _ hv ⟨_, _, _, rfl⟩ (run_bytesToString w _ n cap _ ?_)
    rw [hr w rfl]
    congr 1
    apply Array.toList_inj.1
    rw [h2]; simp
  | _ => exact hb _
end Go.Ev
