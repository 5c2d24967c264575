/- The statement SnapshotSets: its card, from the law's walk. The card holds for all arguments; nothing is asked beyond what it says. -/
import Derived.Test.YtmblejfjbnoodaaGreatDoorS28
import Derived.Test.YtmblejfjbnoodaaGreatDoorS29
set_option linter.unusedVariables false
set_option linter.unusedSimpArgs false
namespace Go.FE.HSets
open Go.Proofs Go.Proofs.YtmblejfjbnoodaaGreatDoor
open Go.RowKit Go.WideElems Go.ChangeShapes Go.ChangeAt Go.WideShapes
set_option maxRecDepth 100000 in
theorem contract (H : Type) (enc : TypeId × Value → H) (W : World) (base : Nat) (args : Array Value) (ds gs : List (DataW H)) (before : List MemPlace)
    (hval : ∀ (j : Nat) t v, Tryz.f6.params[j]? = some t → args[j]? = some v → Value.okWide Tryz.prog W .any base t v)
    (hW : DataW.Whole enc Tryz.prog Tryz.f6.params.toList Rows.snapshotSetsSpec.vars false W args.toList ds gs before) (hL : laidMetH Tryz.prog Rows.snapshotSetsRow.laid W)
    (hsz : (DataW.weightsEach Tryz.prog (Tryz.f6.params.toList ++ Rows.snapshotSetsSpec.plain.varTypes Tryz.prog) (ds ++ gs)).all (· ≤ reachBytes) = true) :
    Calls Tryz.prog 6 args W fun e W' => ∃ v, e = .returned v ∧ Rows.snapshotSetsSpec.post enc Tryz.prog Tryz.f6 false true false false W args v W' := by
  have hW' := hW
  obtain ⟨p, q, hA, hV, rfl, hfz, hnd⟩ := hW
  rw [Tryz.params6] at hA hval hsz
  obtain ⟨v0, vs0, d0, ds0, p0, q0, hargs0, rfl, rfl, h0, r0⟩ := trodAll_cons hA
  obtain ⟨v1, vs1, d1, ds1, p1, q1, hargs1, rfl, rfl, h1, r1⟩ := trodAll_cons r0
  obtain ⟨rfl, rfl, rfl⟩ := trodAll_nil r1
  subst hargs1
  obtain rfl : args = #[v0, v1] := by cases args; simp_all
  have hv0 : Value.okWide Tryz.prog W .any base 42 v0 := by apply hval 0 <;> rfl
  have hv1 : Value.okWide Tryz.prog W .any base 42 v1 := by apply hval 1 <;> rfl
  clear hval
  obtain ⟨x0, k0, c0⟩ := arg_struct (en := encB) (ok := OkB) (n := 2) Tryz.underlying42 (fun m => rd_B) (fun x => by simp) hv0 h0
  obtain ⟨x1, k1, c1⟩ := arg_struct (en := encB) (ok := OkB) (n := 2) Tryz.underlying42 (fun m => rd_B) (fun x => by simp) hv1 h1
  have hmain : CallsOK Tryz.prog 6 [.agg 2 (encB x0), .agg 2 (encB x1)] (.v (.bool true)) := by exact okSetsLaw x0 x1
  have hc := hmain.run (mAll W) W #[v0, v1] (mAll_fresh W) (tabW_of hL) rfl (fun i q hi => by
    match i, hi with
    | 0, hi => simp at hi; subst hi; exact c0
    | 1, hi => simp at hi; subst hi; exact c1
    | i + 2, hi => simp at hi)
  refine hc.mono fun e W' h => ?_
  obtain ⟨v, m', rfl, hbl, _, _, hr⟩ := h
  obtain ⟨rfl, _⟩ := CR.v_inv hr
  exact ⟨_, rfl, law_post (bt := 4) (by kernel_rfl) hW' rfl (by rw [Tryz.params6]; simp only [List.forall_mem_cons]; exact ⟨⟨by kernel_rfl, by decide +kernel⟩, ⟨⟨by kernel_rfl, by decide +kernel⟩, fun _ h => by cases h⟩⟩) rfl Tryz.underlying4 rfl hbl⟩
theorem laid_met (os : Os) : laidMet Tryz.prog Rows.snapshotSetsRow.laid ((laidWorld os).forCall (fun _ _ => 0) ⟨#[], #[(.agg #[.slice none 0 0, .slice none 0 0]), (.agg #[.slice none 0 0, .slice none 0 0])], []⟩).memory :=
  laidMet_of_run' 8 (by kernel_rfl) (by kernel_rfl)
theorem reads (os : Os) {H : Type} (enc : TypeId × Value → H) : ∃ places, DataW.whole enc Tryz.prog ((laidWorld os).forCall (fun _ _ => 0) ⟨#[], #[(.agg #[.slice none 0 0, .slice none 0 0]), (.agg #[.slice none 0 0, .slice none 0 0])], []⟩).memory Tryz.f6.params.toList Rows.snapshotSetsSpec.vars false (#[(.agg #[.slice none 0 0, .slice none 0 0]), (.agg #[.slice none 0 0, .slice none 0 0])] : Array Value).toList 8 = some ([.agg [.nil, .nil], .agg [.nil, .nil]], [], places) :=
  ⟨[], by kernel_rfl⟩
set_option maxRecDepth 100000 in
theorem lifted (os : Os) (started : os.Started) (H : Type) (enc : TypeId × Value → H) (F : Stop.Interp) :
    ReturnsInHanded {} Tryz.checked os 6 .any ((OpenSpec.ofChange Rows.snapshotSetsSpec).preRow enc Tryz.prog Tryz.f6 Rows.snapshotSetsRow.domain false Rows.snapshotSetsRow.laid) (((OpenSpec.ofChange Rows.snapshotSetsSpec).at F).post enc Tryz.prog Tryz.f6 false true false false) := by
  obtain ⟨places, hx⟩ := reads os enc
  refine returnsInHanded_of_row (C := Tryz.checked) (s := OpenSpec.ofChange Rows.snapshotSetsSpec) own started (by kernel_rfl) Tryz.func6
    (witness_row_at (enc := enc) (C := Tryz.checked) false (laidWorld os) #[(.agg #[.slice none 0 0, .slice none 0 0]), (.agg #[.slice none 0 0, .slice none 0 0])] rfl (by kernel_rfl) (by kernel_rfl) (by kernel_rfl)
      (OpenSpec.preRow_of_cond 8 hx (by kernel_rfl) (fun k hk => by cases hk) (by kernel_rfl) (laid_met os))) ?_
  intro W base args ds gs before hval hW _ _ hsz hL _ _
  exact contract H enc W base args ds gs before hval hW hL hsz
theorem said : Rows.SnapshotSetsSaid :=
  OpenClaim.holds_of_cond 6 Tryz.f6 rfl rfl rfl rfl rfl rfl rfl ⟨rfl, rfl, rfl, rfl, rfl⟩ rfl rfl rfl rfl rfl (by kernel_rfl) Tryz.func6 (by kernel_rfl)
    (of_decide_eq_true (by kernel_rfl)) (by unfold Func.isWrapper; first | (rw [if_pos (by decide +kernel)]; kernel_rfl) | (rw [if_neg (by decide +kernel)]; exact ⟨rfl, rfl⟩))
    (fun os started H enc _ F => by rw [OpenClaim.pre_eq_preRow]; exact lifted os started H enc F)
theorem plain (f : FuncId) (fn : Func) (hf : Tryz.pinned.checked.prog.funcNamed "bitemporal/bitemporallaw21.SnapshotSets" = some f) (hfn : Tryz.pinned.checked.prog.funcs[f]? = some fn) :
    false = Tryz.pinned.checked.prog.looks [] ∧ ∀ (j : Nat) t, fn.params[j]? = some t → Tryz.pinned.checked.prog.wantsStandIn t = false := by
  obtain rfl : f = 6 := Option.some.inj ((show Tryz.prog.funcNamed "bitemporal/bitemporallaw21.SnapshotSets" = some 6 by kernel_rfl).symm.trans hf) |>.symm
  obtain rfl : fn = Tryz.f6 := (Option.some.inj (Tryz.func6.symm.trans hfn)).symm
  refine ⟨by kernel_rfl, fun j t ht => ?_⟩
  rw [Tryz.params6] at ht
  have ht := Array.mem_of_getElem? ht
  simp only [List.mem_toArray, List.mem_cons, List.not_mem_nil, or_false] at ht
  rcases ht with rfl | rfl
  · exact (show Tryz.prog.wantsStandIn 42 = false by kernel_rfl)
  · exact (show Tryz.prog.wantsStandIn 42 = false by kernel_rfl)
theorem card : Rows.SnapshotSetsCardSaid :=
  Claim7.holds_tied_plain_at .later [] _ _ _ _ said (fun _ h => by cases h) (by kernel_rfl) (fun _ h => by cases h) snapshotSets_row_tie rfl ⟨rfl, rfl⟩ (by kernel_rfl) rfl plain (by kernel_rfl)
end Go.FE.HSets
namespace Go.Proofs.YtmblejfjbnoodaaGreatDoor
theorem snapshotSets_holds : Rows.SnapshotSetsCardSaid := Go.FE.HSets.card
end Go.Proofs.YtmblejfjbnoodaaGreatDoor
