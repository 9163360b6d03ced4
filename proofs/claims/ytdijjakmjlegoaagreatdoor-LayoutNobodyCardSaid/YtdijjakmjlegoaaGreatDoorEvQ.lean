/-
  COMPARISONS OF STRUCTS, POINTERS AND THE LIKE.
-/
import Derived.Test.YtdijjakmjlegoaaGreatDoorEvP
namespace Go.Ev
open Go.RowKit (Below)
variable {P : Program} {E : Env} {ρ ρ' : Rho} {w0 w : World} {Φ : Out → Prop}

theorem part_extract (hE : EnvOk P E) {t m : Nat} {g : Bool} (hm : szOf E t = some m) (hg : isA E t = some g) {xs : Array Value} {o n off : Nat} (h : off + m ≤ n) (hn : o + n ≤ xs.size) (h1 : g = false → m = 1 ∨ 0 < n - off) (w : World) :
    (part t (xs.extract o (o + n)) off).run P w = (part t xs (o + off)).run P w := by
  unfold part
  simp only [Sem.run_bind, hE.run_isAgg w hg, Result.andThen_ok]
  cases g with
  | true =>
    simp only [if_true, Sem.run_bind, hE.run_sizeOf w hm, Result.andThen_ok, Sem.run_pure]
    congr 2
    rw [Array.extract_extract]
    congr 1 <;> omega
  | false =>
    simp only [Bool.false_eq_true, if_false]
    have : (xs.extract o (o + n))[off]? = xs[o + off]? := by
      have h2 := h1 rfl
      rw [Array.getElem?_extract, if_pos (by omega)]
    rw [this]
theorem eqPl_cons (X Y : List AV) (o : Nat × Nat) (l : List (Nat × Nat)) : eqPl (o :: l) X Y = ot (nth X o.1) none (fun a => ot (nth Y o.1) none fun b => ot (eqKd o.2 a b) none fun c => bt c (eqPl l X Y) (some false)) := rfl
theorem eqPl_append (X Y : List AV) : ∀ (l k : List (Nat × Nat)) (b : Bool), eqPl (l ++ k) X Y = some b → ∃ c, eqPl l X Y = some c ∧ (c = false → b = false) ∧ (c = true → eqPl k X Y = some b)
  | [], k, b, h => ⟨true, rfl, by simp, fun _ => h⟩
  | o :: l, k, b, h => by
    rw [List.cons_append, eqPl_cons] at h
    rw [eqPl_cons]
    cases h1 : nth X o.1 with
    | none => rw [h1] at h; cases h
    | some x =>
      cases h2 : nth Y o.1 with
      | none => rw [h1, h2] at h; cases h
      | some y =>
        rw [h1, h2] at h
        simp only [ot_some] at h ⊢
        cases h3 : eqKd o.2 x y with
        | none => rw [h3] at h; cases h
        | some c =>
          rw [h3] at h
          simp only [ot_some] at h ⊢
          cases c with
          | false => simp at h; subst h; exact ⟨false, rfl, by simp, by simp⟩
          | true => simp at h; simpa using eqPl_append X Y l k b h
/-- the fields of a struct, compared one by one -/
def cmpFields (d : Nat) (xs ys : Array Value) (fs : List Field) : Sem (Option Bool × Unit) :=
  forIn fs (none, ()) fun f __s =>
    if f.name ≠ "_" then do
      let __do_lift ← part f.type xs f.offset
      let __do_lift_1 ← part f.type ys f.offset
      let __do_lift ← Op.equalIn d f.type __do_lift __do_lift_1
      if (!__do_lift) = true then pure (ForInStep.done (some false, ()))
        else pure (ForInStep.yield (none, ()))
    else pure (ForInStep.yield (none, ()))
theorem planL_ok (hE : EnvOk P E) (X Y : List AV) (xs ys : Array Value) (w : World) (rc : Nat → Nat → Option (List (Nat × Nat))) (d n o : Nat) (hx : o + n ≤ xs.size) (hy : o + n ≤ ys.size)
    (hrc : ∀ t o l, rc t o = some l → ∀ n, szOf E t = some n → o + n ≤ xs.size → o + n ≤ ys.size → ∀ b, eqPl l X Y = some b →
      ∃ u v, (part t xs o).run P w = .ok u w ∧ (part t ys o).run P w = .ok v w ∧ (Op.equalIn d t u v).run P w = .ok b w) :
    ∀ (fs : List Field) (l : List (Nat × Nat)), planL E rc n o fs = some l → ∀ b, eqPl l X Y = some b →
      (cmpFields d (xs.extract o (o + n)) (ys.extract o (o + n)) fs).run P w = .ok (if b then (none, ()) else (some false, ())) w
  | [], l, h, b, hb => by
    change some [] = some l at h
    simp at h; subst h
    change some true = some b at hb
    simp at hb; subst hb
    simp [cmpFields]
  | x :: fs, l, h, b, hb => by
    change ot (szOf E x.type) none (fun m => ot (isA E x.type) none fun _ => ot (planL E rc n o fs) none fun k =>
      if x.name ≠ "_" then nt m none fun _ => bt (Nat.ble (Nat.add x.offset m) n) (ot (rc x.type (Nat.add o x.offset)) none fun l => some (app l k)) none else some k) = some l at h
    cases h1 : szOf E x.type with
    | none => rw [h1] at h; cases h
    | some m =>
      cases h2 : isA E x.type with
      | none => rw [h1, h2] at h; cases h
      | some g =>
        cases h3 : planL E rc n o fs with
        | none => rw [h1, h2, h3] at h; cases h
        | some k =>
          rw [h1, h2, h3] at h
          simp only [ot_some] at h
          unfold cmpFields
          rw [List.forIn_cons]
          by_cases hn : x.name ≠ "_"
          · rw [if_pos hn] at h
            rw [if_pos hn]
            cases m with
            | zero => cases h
            | succ m =>
            rw [nt_succ] at h
            cases h4 : Nat.ble (Nat.add x.offset (m + 1)) n with
            | false => rw [h4] at h; cases h
            | true =>
              have h4' : x.offset + (m + 1) ≤ n := Nat.le_of_ble_eq_true h4
              rw [h4, bt_true] at h
              cases h5 : rc x.type (Nat.add o x.offset) with
              | none => rw [h5] at h; cases h
              | some l1 =>
                rw [h5] at h; simp only [ot_some, Option.some.injEq] at h; subst h
                rw [app_eq] at hb
                obtain ⟨c, hc, hf, ht⟩ := eqPl_append X Y l1 k b hb
                obtain ⟨u, v, hu, hv, hq⟩ := hrc x.type (o + x.offset) l1 h5 (m + 1) h1 (by omega) (by omega) c hc
                have hg1 : g = false → m + 1 = 1 ∨ 0 < n - x.offset := fun _ => .inr (by omega)
                rw [← part_extract hE h1 h2 h4' hx hg1 w] at hu
                rw [← part_extract hE h1 h2 h4' hy hg1 w] at hv
                simp only [Sem.run_bind, hu, hv, hq, Result.andThen_ok]
                cases c with
                | false =>
                  have := hf rfl; subst this
                  simp
                | true =>
                  have ih := planL_ok hE X Y xs ys w rc d n o hx hy hrc fs k h3 b (ht rfl)
                  unfold cmpFields at ih
                  simpa using ih
          · rw [if_neg hn] at h
            rw [if_neg hn]
            simp only [Option.some.injEq] at h; subst h
            have ih := planL_ok hE X Y xs ys w rc d n o hx hy hrc fs k h3 b hb
            unfold cmpFields at ih
            simpa using ih

theorem cmpFields_eq (d : Nat) (xs ys : Array Value) (fs : Array Field) (t : Nat) (hs : P.stoodInHeld t = false) (w : World) (hu : P.underlying t = some (.struct fs)) (b : Bool)
    (h : (cmpFields d xs ys fs.toList).run P w = .ok (if b then (none, ()) else (some false, ())) w) : (Op.equalIn (d + 1) t (.agg xs) (.agg ys)).run P w = .ok b w := by
  have hr : (underlying t).run P w = .ok (.struct fs) w := by simp [underlying, hu]
  simp only [Op.equalIn, Sem.run_bind, hr, Result.andThen_ok, run_program, hs, Bool.false_eq_true, if_false]
  rw [← Array.forIn_toList]
  unfold cmpFields at h
  rw [h]
  cases b <;> rfl
theorem eqPl_one {o q : Nat} {X Y : List AV} {b : Bool} (h : eqPl [(o, q)] X Y = some b) : ∃ x y, X[o]? = some x ∧ Y[o]? = some y ∧ eqKd q x y = some b := by
  rw [eqPl_cons] at h
  rw [nth_eq, nth_eq] at h
  cases h1 : X[o]? with
  | none => rw [h1] at h; cases h
  | some x =>
    cases h2 : Y[o]? with
    | none => rw [h1, h2] at h; cases h
    | some y =>
      rw [h1, h2] at h
      simp only [ot_some] at h
      cases h3 : eqKd q x y with
      | none => rw [h3] at h; cases h
      | some c => rw [h3] at h; cases c <;> simp [eqPl] at h <;> exact ⟨x, y, rfl, rfl, by rw [h, h3]⟩
theorem run_part_atom (hE : EnvOk P E) {t : Nat} (hg : isA E t = some false) {xs : Array Value} {o : Nat} {u : Value} (h : xs[o]? = some u) (w : World) : (part t xs o).run P w = .ok u w := by
  simp [part, hE.run_isAgg w hg, h]
theorem run_part_agg (hE : EnvOk P E) {t n : Nat} (hg : isA E t = some true) (hn : szOf E t = some n) {xs : Array Value} {o : Nat} (w : World) : (part t xs o).run P w = .ok (.agg (xs.extract o (o + n))) w := by
  simp [part, hE.run_isAgg w hg, hE.run_sizeOf w hn]
theorem planF_ok (hE : EnvOk P E) {X Y : List AV} {xs ys : Array Value} (hx : VRs P ρ X xs.toList) (hy : VRs P ρ Y ys.toList) (w : World) :
    ∀ (f t o : Nat) (l : List (Nat × Nat)), planF E f t o = some l → ∀ d, f ≤ d → ∀ n, szOf E t = some n → o + n ≤ xs.size → o + n ≤ ys.size → ∀ b, eqPl l X Y = some b →
      ∃ u v, (part t xs o).run P w = .ok u w ∧ (part t ys o).run P w = .ok v w ∧ (Op.equalIn d t u v).run P w = .ok b w
  | 0, t, o, l, h => by cases h
  | f + 1, t, o, l, h => by
    intro d hd n hn hxs hys b hb
    obtain ⟨d, rfl⟩ : ∃ e, d = e + 1 := ⟨d - 1, by omega⟩
    have at_ : ∀ q de, ud E t = some de → KdOf de q → l = [(o, q)] → isA E t = some false → ∃ u v, (part t xs o).run P w = .ok u w ∧ (part t ys o).run P w = .ok v w ∧ (Op.equalIn (d + 1) t u v).run P w = .ok b w := by
      intro q de hde hk hl hg
      subst hl
      obtain ⟨x, y, h1, h2, h3⟩ := eqPl_one hb
      obtain ⟨u, hu, hru⟩ := hx.get h1
      obtain ⟨v, hv, hrv⟩ := hy.get h2
      exact ⟨u, v, run_part_atom hE hg (by simpa using hu) w, run_part_atom hE hg (by simpa using hv) w, eqKd_ok hE hde hk hru hrv h3 w d⟩
    unfold planF at h
    split at h
    · next e => simp only [Option.some.injEq] at h; exact at_ 0 _ e (.inl ⟨rfl, rfl⟩) h.symm (by simp [isA, e])
    · next k e => simp only [Option.some.injEq] at h; exact at_ 1 _ e (.inr (.inl ⟨⟨k, rfl⟩, rfl⟩)) h.symm (by simp [isA, e])
    · next e => simp only [Option.some.injEq] at h; exact at_ 2 _ e (.inr (.inr ⟨rfl, rfl⟩)) h.symm (by simp [isA, e])
    · next fs e =>
      cases hq : inB t E.eqs with
      | false => rw [hq] at h; cases h
      | true =>
        rw [hq, bt_true, hn, ot_some] at h
        have hg : isA E t = some true := by simp [isA, e]
        refine ⟨_, _, run_part_agg hE hg hn w, run_part_agg hE hg hn w, ?_⟩
        refine cmpFields_eq d _ _ fs t (hE.eqs t (inB_iff.1 hq)).1 w (hE.ud e) b ?_
        exact planL_ok hE X Y xs ys w (planF E f) d n o hxs hys (fun t o l hl n hn h1 h2 b hb => planF_ok hE hx hy w f t o l hl d (by omega) n hn h1 h2 b hb) fs.toList l h b hb
    · cases h
/-- whole values of a type, by a plan -/
theorem plan_ok (hE : EnvOk P E) {X Y : List AV} {xs ys : Array Value} (hx : VRs P ρ X xs.toList) (hy : VRs P ρ Y ys.toList) (w : World) {t n : Nat} {l : List (Nat × Nat)} {fs : Array Field}
    (hd : ud E t = some (.struct fs)) (hl : plan E t = some l) (hn : szOf E t = some n) (h1 : xs.size = n) (h2 : ys.size = n) {b : Bool} (hb : eqPl l X Y = some b) {d : Nat} (hdd : 6 ≤ d) :
    (Op.equalIn d t (.agg xs) (.agg ys)).run P w = .ok b w := by
  obtain ⟨u, v, hu, hv, h⟩ := planF_ok hE hx hy w 6 t 0 l hl d hdd n hn (by omega) (by omega) b hb
  have hg : isA E t = some true := by simp [isA, hd]
  rw [run_part_agg hE hg hn w] at hu hv
  cases hu; cases hv
  have e1 : xs.extract 0 (0 + n) = xs := by rw [← h1, Nat.zero_add]; exact Array.extract_size
  have e2 : ys.extract 0 (0 + n) = ys := by rw [← h2, Nat.zero_add]; exact Array.extract_size
  rw [e1, e2] at h; exact h
end Go.Ev
