/-
  AGGREGATES BUILT; all operations that read at most.
-/
import Derived.Test.YtdijjakmjlegoaaGreatDoorEvW
namespace Go.Ev
open Go.RowKit (Below)
variable {P : Program} {E : Env} {ρ ρ' : Rho} {w0 w : World} {Φ : Out → Prop}

theorem zip_write (o : Nat) : ∀ (l : List Value) (k : Nat) (c : Array Value), (l.zipIdx k).foldl (fun cs (x : Value × Nat) => cs.setIfInBounds (o + x.2) x.1) c = writeC c (o + k) l
  | [], _, _ => rfl
  | v :: l, k, c => by
    rw [List.zipIdx_cons, List.foldl_cons, zip_write o l (k + 1)]
    rfl
theorem writeC_rel {L M N : List AV} {c : Array Value} {m : List Value} {o : Nat} (hL : VRs P ρ L c.toList) (hM : VRs P ρ M m) (h : lay M o L = some N) : o + m.length ≤ c.size ∧ VRs P ρ N (writeC c o m).toList := by
  have h1 := (lay_some _ _ _ _ h).1
  have hl := hL.length
  have hm := hM.length
  obtain ⟨h2, h3⟩ := lay_get h
  have hs : c.toList.length = c.size := by simp
  refine ⟨by omega, VRs.of_get (by simp [writeC_size]; omega) fun i v u hv hu => ?_⟩
  rw [Array.getElem?_toList, writeC_get _ _ _ (by omega)] at hu
  rw [h3] at hv
  split at hv
  · rw [if_pos (by omega)] at hu
    obtain ⟨u', hu', hr⟩ := hM.get hv
    rw [hu] at hu'; cases hu'; exact hr
  · rw [if_neg (by omega)] at hu
    obtain ⟨u', hu', hr⟩ := hL.get hv
    rw [Array.getElem?_toList, hu] at hu'; cases hu'; exact hr
inductive PRs (P : Program) (ρ : Rho) : List (Nat × AV) → List (Nat × Value) → Prop
  | nil : PRs P ρ [] []
  | cons (i : Nat) (v : AV) (u : Value) (l : List (Nat × AV)) (m : List (Nat × Value)) (h : VR P ρ v u) (hl : PRs P ρ l m) : PRs P ρ ((i, v) :: l) ((i, u) :: m)
theorem fillK_ok (hb : ∀ c, Φ (.bad_ c)) {place place' : Nat → Option (Nat × Nat)} (hp : ∀ i x, place i = some x → place' i = some x) : ∀ {l : List (Nat × AV)} {m : List (Nat × Value)} {L : List AV} {c : Array Value} {K : List AV → Out},
    PRs P ρ l m → VRs P ρ L c.toList → (∀ N d, VRs P ρ N d.toList → Instr.fill place' c m = some d → Φ (K N)) → Φ (fillK place L l K)
  | _, _, L, c, K, .nil, hL, h => h L c hL rfl
  | _, _, L, c, K, .cons i v u l m hv hl, hL, h => by
    refine ot_ok hb fun p hpl => bt_ok (fun e => ot_ok hb fun N hN => ?_) (fun _ => hb _)
    have e := Nat.eq_of_beq_eq_true e
    rw [lenL_eq] at e
    have hc := hv.cells
    have hcl := hc.length
    obtain ⟨h1, h2⟩ := writeC_rel hL hc hN
    refine fillK_ok hb hp hl h2 fun N' d hN' hd => h N' d hN' ?_
    have hsz : u.cells.size = p.2 := by have : u.cells.toList.length = u.cells.size := by simp
                                        omega
    have hsum : p.1 + u.cells.size ≤ c.size := by simpa using h1
    simp only [Instr.fill, hp i p hpl]
    rw [if_neg (by simp [hsz]; omega)]
    have : u.cells.zipIdx.foldl (fun cs (x : Value × Nat) => cs.setIfInBounds (p.1 + x.2) x.1) c = writeC c p.1 u.cells.toList := by
      rw [← Array.foldl_toList, Array.toList_zipIdx, zip_write, Nat.add_zero]
    rw [← hd]
    congr 1
theorem opdps_ok (hb : ∀ c, Φ (.bad_ c)) {nt : Nat} {ds : List Nat} {s : St} {a : Act} (hf : Fr P ρ nt ds s.lo s.tm a.tmps) : ∀ {l : List (Nat × Operand)} {K : List (Nat × AV) → Out}, (∀ m, PRs P ρ m (l.map fun (i, x) => (i, a.eval x)) → Φ (K m)) → Φ ((opdps ds l).run s K)
  | [], _, h => h [] .nil
  | (_, _) :: _, _, h => opd_ok hb hf fun v hv => opdps_ok hb hf fun m hm => h (_ :: m) (.cons _ _ _ _ _ hv hm)
theorem mapM_places (hE : EnvOk P E) (w : World) : ∀ (fs : List Field), (fs.all fun f => (szOf E f.type).isSome) = true → ∃ l : List (Nat × Nat), (fs.mapM fun f => (do pure (f.offset, ← sizeOf f.type) : Sem (Nat × Nat))).run P w = .ok l w ∧ ∀ i : Nat, l[i]? = (fs[i]?).bind fun f => (szOf E f.type).map fun n => (f.offset, n)
  | [], _ => ⟨[], by simp, by simp⟩
  | f :: fs, h => by
    simp only [List.all_cons, Bool.and_eq_true] at h
    obtain ⟨l, h1, h2⟩ := mapM_places hE w fs h.2
    obtain ⟨n, hn⟩ := Option.isSome_iff_exists.1 h.1
    refine ⟨(f.offset, n) :: l, ?_, fun i => ?_⟩
    · rw [List.mapM_cons]
      simp [hE.run_sizeOf w hn] 
      simp at h1
      rw [h1]; simp
    · cases i with
      | zero => simp [hn]
      | succ i => simpa using h2 i
theorem reads_build (hE : EnvOk P E) {o : Oper} {t : TypeId} {ps : Array (Nat × Operand)} (ho : o.op = .build t ps) : Reads P E o := by
  intro Φ hb ρ w0 w nt ds s a r hw hf h
  rw [ho]
  refine otC_ok hb fun z hz => otC_ok hb fun F hF => opdps_ok hb hf fun vs hvs => ?_
  obtain ⟨zv, hzr, hzv⟩ := hE.zero hz w ρ
  unfold buildF at hF
  split at hF
  · next fs e =>
    cases hk : allKnown E fs.toList with
    | false => rw [hk] at hF; cases hF
    | true =>
      rw [hk, bt_true, Option.some.injEq] at hF; subst hF
      obtain ⟨pl, h1, h2⟩ := mapM_places hE w fs.toList hk
      refine fillK_ok (place' := fun i => pl[i]?) hb (fun i x hx => ?_) hvs hzv.cells fun N d hN hd => h _ _ (.agg N d hN) ?_
      · unfold fieldPl fieldAt fieldsOf at hx
        rw [e] at hx
        simp only [nth_eq] at hx
        rw [h2]
        cases hfi : fs.toList[i]? with
        | none => rw [hfi] at hx; cases hx
        | some f =>
          rw [hfi] at hx
          simp only at hx
          cases hs : szOf E f.type with
          | none => rw [hs] at hx; cases hx
          | some n =>
            cases ha : isA E f.type with
            | none => rw [hs, ha] at hx; cases hx
            | some g => rw [hs, ha] at hx; simpa [hs] using hx
      · have hm : (fs.mapM fun f => (do pure (f.offset, ← sizeOf f.type) : Sem (Nat × Nat))).run P w = .ok pl.toArray w := by
          rw [Array.mapM_eq_mapM_toList, Sem.run_map, h1]; rfl
        have hd' : Instr.fill (fun x => pl[x]?) zv.cells (ps.toList.map fun x => (x.1, a.eval x.2)) = some d := hd
        simp only [execOp, ho, Instr.build, Sem.run_bind, hzr, hE.run_underlying w e, Result.andThen_ok, hm, Sem.run_pure, Array.toList_map, List.getElem?_toArray, hd']
  · next n el e =>
    cases hs : szOf E el with
    | none => rw [hs] at hF; cases hF
    | some es =>
      rw [hs, ot_some, Option.some.injEq] at hF; subst hF
      refine fillK_ok (place' := fun i => some (i * es, es)) hb (fun i x hx => hx) hvs hzv.cells fun N d hN hd => h _ _ (.agg N d hN) ?_
      have hd' : Instr.fill (fun i => some (i * es, es)) zv.cells (ps.toList.map fun x => (x.1, a.eval x.2)) = some d := hd
      simp only [execOp, ho, Instr.build, Sem.run_bind, hzr, hE.run_underlying w e, hE.run_sizeOf w hs, Result.andThen_ok, Sem.run_pure, Array.toList_map, hd']
  · cases hF
/-- what reads at most -/
theorem reads_all (hE : EnvOk P E) {o : Oper} (hc : cls E o.op = 0) : Reads P E o := by
  cases ho : o.op <;> rw [ho] at hc <;> try (cases hc; done)
  · exact reads_move (.inl ho)
  · exact reads_move (.inr ho)
  · exact reads_pick ho
  · exact reads_build hE ho
  · exact reads_load hE ho
  · exact reads_nilCheck ho
  · exact reads_bin hE ho
  · exact reads_un ho
  · next a b x =>
    change bt (isInt E a) (bt (isInt E b) 0 2) 2 = 0 at hc
    cases h1 : isInt E a with
    | false => rw [h1] at hc; cases hc
    | true =>
      cases h2 : isInt E b with
      | false => rw [h1, h2] at hc; cases hc
      | true => exact reads_convInt hE ho h1 h2
  · exact reads_makeInterface hE ho
  · exact reads_makeFunc ho
  · exact reads_slice hE ho
  · exact reads_fieldAddr hE ho
  · exact reads_field hE ho
  · exact reads_indexAddr hE ho
  · exact reads_index hE ho
  · exact reads_lookup hE ho
  · exact reads_typeAssert hE ho
  · exact reads_extract ho
  · next c =>
    cases hcl : c.callee with
    | value f => simp [cls, hcl] at hc
    | invoke r n => simp [cls, hcl] at hc
    | builtin b =>
      cases b <;> simp [cls, hcl, clsB] at hc <;> first | exact reads_len hE ho hcl | exact reads_cap hE ho hcl | exact reads_min ho hcl | exact reads_max ho hcl | exact reads_uData ho hcl
end Go.Ev
