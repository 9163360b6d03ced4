/-
  LayoutNobody: a tree that no call made knows nothing: for every node number, width and style the call returns true, and the arguments read as before. The row lists two tables of Go's library (tied by the card).
-/
import Derived.Test.YtdijjakmjlegoaaGreatDoorSCom
import Derived.Test.YtdijjakmjlegoaaGreatDoorSRun4
import Derived.Test.YtdijjakmjlegoaaGreatDoorSClo
namespace Go.Proofs.YtdijjakmjlegoaaGreatDoor
open Go Go.ChangeShapes Go.WideShapes Go.ChangeAt Go.RowKit Go.Ev
namespace LayoutNobody

theorem walk (a b : Int) (cs : Array Value) (W : World) (base : Nat) (hs : cs.size = 51) (hr : Row.okWide Tryz.prog W .any base 34 cs) :
    Calls Tryz.prog 4 #[.int .i64 a, .int .i64 b, .agg cs] W fun e W' => e = .returned (.bool true) ∧ Below W.heap.size W W' := by
  refine run_args (args := [.unk, .unk, .agg (List.replicate 51 .unk)]) ?_ run4
  exact .cons _ _ _ _ (.unk _ rfl) (.cons _ _ _ _ (.unk _ rfl) (.cons _ _ _ _ (.agg _ cs (unk_of_ok hr hs)) .nil))
set_option maxRecDepth 100000 in
theorem contract (H : Type) (enc : TypeId × Value → H) (W : World) (base : Nat) (args : Array Value) (ds gs : List (DataW H)) (before : List MemPlace)
    (hval : ∀ (j : Nat) t v, Tryz.f4.params[j]? = some t → args[j]? = some v → Value.okWide Tryz.prog W .any base t v)
    (hW : DataW.Whole enc Tryz.prog Tryz.f4.params.toList Rows.layoutNobodySpec.vars false W args.toList ds gs before) :
    Calls Tryz.prog 4 args W fun e W' => ∃ v, e = .returned v ∧ Rows.layoutNobodySpec.post enc Tryz.prog Tryz.f4 false true false false W args v W' := by
  have hW' := hW
  obtain ⟨p, q, hA0, hV, rfl, hfz, hnd⟩ := hW
  have hA : DataW.TrodAll enc Tryz.prog W 0 (fun _ => true) true Tryz.f4.params.toList args.toList ds p := hA0
  rw [Tryz.params4] at hA hval
  obtain ⟨v0, vs0, d0, ds0, p0, q0, hargs, rfl, rfl, h0, r0⟩ := trodAll_cons hA
  obtain ⟨v1, vs1, d1, ds1, p1, q1, rfl, rfl, rfl, h1, r1⟩ := trodAll_cons r0
  obtain ⟨v2, vs2, d2, ds2, p2, q2, rfl, rfl, rfl, h2, r2⟩ := trodAll_cons r1
  obtain ⟨rfl, rfl, rfl⟩ := trodAll_nil r2
  obtain rfl : args = #[v0, v1, v2] := by cases args; simp_all
  obtain ⟨rfl, rfl⟩ := trodVars_none hV
  have h2k := h2
  obtain ⟨a, rfl, rfl, rfl, wa⟩ := open_int Tryz.underlying3 (hval 0 3 v0 rfl rfl) h0
  obtain ⟨b, rfl, rfl, rfl, wb⟩ := open_int Tryz.underlying3 (hval 1 3 v1 rfl rfl) h1
  have ok2 := hval 2 34 v2 rfl rfl
  unfold Value.okWide at ok2
  rw [Tryz.underlying34] at ok2
  obtain ⟨cs, rfl, hs, hrow⟩ := ok2
  have hs51 : cs.size = 51 := hs.trans (by kernel_rfl)
  clear hA0
  simp only [List.append_nil] at hW'
  have hlt : ∀ x ∈ p2, x.block < W.heap.size := fun x hx => hW'.lt x (by simpa using hx)
  refine (walk a b cs W base hs51 hrow).mono fun e W' ⟨he, hb⟩ => ?_
  subst he
  have hold : ∀ x ∈ p2, (fun b => decide (b < W.heap.size)) x.block = true := fun x hx => by simpa using hlt x hx
  have hargs2 := WideElems.Trod_stays (sp' := fun b => decide (b < W.heap.size)) laidOut (t := 34) (by kernel_rfl) (of_decide_eq_true (by kernel_rfl)) h2k (fun x hx => hb.same (hlt x hx)) hold
  have hbef : ([] ++ ([] ++ (p2 ++ [])) : List MemPlace) = p2 := by simp
  refine ⟨_, rfl, _, _, _, [], p2, [], hW', trodAll_cons_mk (shut_bool Tryz.underlying4 _) trodAll_mk0, ?_, rfl, World.keptBut_mono (fun x hx => ⟨hx, ?_⟩) (hb.frame (· ∈ p2)), fun h => by cases h⟩
  · exact trodAll_cons_mk (shut_int Tryz.underlying3 wa) (trodAll_cons_mk (shut_int Tryz.underlying3 wb) (by have := trodAll_cons_mk hargs2 trodAll_mk0; rw [List.append_nil] at this; exact this))
  · exact .inr (.inl hx)

noncomputable def zst : Value := match Tryz.prog.info? 34 with | some i => i.zero.getD undef | none => undef
noncomputable def wargs : Array Value := #[.int .i64 0, .int .i64 0, zst]
theorem laid_met (os : Os) : laidMet Tryz.prog Rows.layoutNobodyRow.laid ((laidWorld os).forCall (fun _ _ => 0) ⟨#[], wargs, []⟩).memory :=
  laidMet_of_run' 8 (by kernel_rfl) (by kernel_rfl)
theorem reads (os : Os) {H : Type} (enc : TypeId × Value → H) : (DataW.whole enc Tryz.prog ((laidWorld os).forCall (fun _ _ => 0) ⟨#[], wargs, []⟩).memory Tryz.f4.params.toList Rows.layoutNobodySpec.vars false wargs.toList 8).isSome = true := by kernel_rfl
set_option maxRecDepth 100000 in
theorem lifted (os : Os) (started : os.Started) (H : Type) (enc : TypeId × Value → H) (F : Stop.Interp) :
    ReturnsInHanded {} Tryz.checked os 4 .any ((OpenSpec.ofChange Rows.layoutNobodySpec).preRow enc Tryz.prog Tryz.f4 Rows.layoutNobodyRow.domain false Rows.layoutNobodyRow.laid) (((OpenSpec.ofChange Rows.layoutNobodySpec).at F).post enc Tryz.prog Tryz.f4 false true false false) := by
  obtain ⟨x, hx⟩ := Option.isSome_iff_exists.1 (reads os enc)
  refine returnsInHanded_of_row (C := Tryz.checked) (s := OpenSpec.ofChange Rows.layoutNobodySpec) own started (by kernel_rfl) Tryz.func4
    (witness_row_at (enc := enc) (C := Tryz.checked) false (laidWorld os) wargs rfl (by kernel_rfl) (by kernel_rfl) (by kernel_rfl)
      (OpenSpec.preRow_of_cond 8 hx rfl (fun k hk => by cases hk) (by kernel_rfl) (laid_met os))) ?_
  intro W base args ds gs before hval hW _ _ _ hL _ _
  exact contract H enc W base args ds gs before hval hW
theorem named4 : Tryz.prog.funcNamed "parterre/parterrelaw31.LayoutNobody" = some 4 := by kernel_rfl
theorem said : Rows.LayoutNobodySaid :=
  OpenClaim.holds_of_cond 4 Tryz.f4 rfl rfl rfl rfl rfl rfl rfl ⟨rfl, rfl, rfl, rfl, rfl⟩ rfl rfl rfl rfl rfl named4 Tryz.func4 closed
    (of_decide_eq_true (by kernel_rfl)) (by unfold Func.isWrapper; first | (rw [if_pos (by decide +kernel)]; kernel_rfl) | (rw [if_neg (by decide +kernel)]; exact ⟨rfl, rfl⟩))
    (fun os started H enc _ F => by rw [OpenClaim.pre_eq_preRow]; exact lifted os started H enc F)
/-- No parameter wants a stand-in; the program's own looks: what the card asks. -/
theorem plain (f : FuncId) (fn : Func) (hf : Tryz.pinned.checked.prog.funcNamed "parterre/parterrelaw31.LayoutNobody" = some f) (hfn : Tryz.pinned.checked.prog.funcs[f]? = some fn) :
    true = Tryz.pinned.checked.prog.looks [] ∧ ∀ (j : Nat) t, fn.params[j]? = some t → Tryz.pinned.checked.prog.wantsStandIn t = false := by
  obtain rfl : f = 4 := Option.some.inj (named4.symm.trans hf) |>.symm
  obtain rfl : fn = Tryz.f4 := (Option.some.inj (Tryz.func4.symm.trans hfn)).symm
  refine ⟨looks_on, fun j t ht => ?_⟩
  rw [Tryz.params4] at ht
  have hm : t ∈ [3, 3, 34] := by simpa using Array.mem_of_getElem? ht
  have hall : ([3, 3, 34].all fun u => !Tryz.prog.wantsStandIn u) = true := by kernel_rfl
  exact (show Tryz.prog.wantsStandIn t = false by simpa using List.all_eq_true.1 hall t hm)
theorem main_is : Tryz.pinned.checked.prog.mainIs = some (true, "d4b98ad185d9e76ce47236ca6d2f02ec4d8f3ee5f72a0d9a0349e9e2a1c04cd3".toList) := by kernel_rfl
/-- THE CARD -/
theorem card : Rows.LayoutNobodyCardSaid :=
  Claim7.holds_tied_plain_at .later [] _ _ _ _ said (fun _ h => by cases h) factText (fun _ h => by cases h) layoutNobody_row_tie rfl ⟨rfl, rfl⟩ main_is rfl plain factGoes
#print axioms card
end LayoutNobody
end Go.Proofs.YtdijjakmjlegoaaGreatDoor
