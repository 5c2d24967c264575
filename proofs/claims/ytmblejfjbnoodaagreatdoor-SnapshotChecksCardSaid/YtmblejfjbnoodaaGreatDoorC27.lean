/- The document's check of expressions; predicates and projections. Predicates and projections. -/
import Derived.Test.YtmblejfjbnoodaaGreatDoorC09
import Derived.Test.YtmblejfjbnoodaaGreatDoorC26
set_option linter.unusedVariables false
set_option linter.unusedSimpArgs false
namespace Go.FE
open Go.Proofs
theorem nfw7 {α : Type} {a b : α} (h : a = b := by simp only [goP, goN, mrk, Nat.reduceMul, Nat.one_mul, Nat.mul_one, eq_self, false_implies, implies_true, Nat.reduceLT, List.getElem?_toArray, isCall, List.contains_nil, List.contains_cons, Nat.reduceBEq, Bool.or_false, Bool.or_self, List.length_map, gOf, step, stepM, stepP, ev, okV, if_true, if_false, allocA, storeA, boxA, one1, tokN, tok1, buildA, rowA, nrmP, partV, partA, fieldA, fieldV, elemA, lenA, bltA, asSl, appA, makeA, makeR, cutA, bndA, binV, intOp, strOp, unV, eqB, nilB, sameT, List.all_cons, List.all_nil, Bool.and_self, Bool.and_true, Bool.true_and, List.map_cons, List.map_nil, List.nil_append, List.cons_append, List.append_nil, AV.bare, AV.content, AV.clean, AV.one, putD, List.set_cons_zero, List.set_cons_succ, List.reverse_cons, List.reverse_nil, List.getD_cons_zero, List.getD_cons_succ, List.getElem?_cons_zero, List.getElem?_cons_succ, Option.getD_some, Option.map_some, Option.map_none, Option.bind_some, List.length_cons, List.length_nil, lk, cellsA, fillA, fillS, isAggD, spl, nrm, nrmA, List.take_succ_cons, List.take_zero, List.drop_succ_cons, List.drop_zero, List.drop_nil, List.take_nil, Nat.reduceAdd, Nat.zero_add, Nat.add_zero, Nat.add_assoc, Nat.add_left_cancel_iff, reduceCtorEq, Prod.mk.injEq, List.cons.injEq, and_self, and_true, true_and, Nat.le_refl, Nat.reduceLeDiff, Nat.reduceEqDiff, List.getElem?_nil, Int.reduceToNat, Int.reduceLE, Int.reduceLT, ite_self, List.forall_mem_cons, List.not_mem_nil, false_and, and_false, Bool.false_eq_true, List.replicate_zero, List.replicate_succ, Int.toNat_natCast, neJ2, neJ2', neJ3, neJ3', callOf, callOf2, fnOf, argsA, args2, Array.isEmpty_empty, resLL, resVL, beq_self_eq_true, neJ4, neJ4', neJ5, neJ5', neK, neK', neK2, neK2', neL, neL', neL2, neL2', st3, zt3, it3, ct3, se3, Tryz.underlying3, st4, zt4, it4, ct4, se4, Tryz.underlying4, st9, zt9, it9, ct9, se9, Tryz.underlying9, st22, zt22, it22, ct22, se22, Tryz.underlying22, st25, zt25, it25, ct25, pt25, eqs25, se25, Tryz.underlying25, st26, zt26, it26, ct26, se26, Tryz.underlying26, st28, zt28, it28, ct28, pt28, se28, Tryz.underlying28, st36, zt36, it36, ct36, se36, Tryz.underlying36, st77, Tryz.underlying77, st94, Tryz.underlying94, st146, Tryz.underlying146, Tryz.results107, Tryz.results120, Tryz.results69, U.out] <;> rfl) : a = b := h
theorem ar_known (op n : Int) : decide ((arOp op).1 < 0) = !(cntOp op n).2 := by
  unfold arOp cntOp
  repeat' split
  all_goals rfl
theorem chk_res {kinds : List Int} {op int : Int} {v : Vl} {name : ByteArray} {args : List Ex} (h : (cntOp op args.length).2 = true) (h2 : formedE op int v name args.length = true) (hc : op = 2 → 0 ≤ int ∧ int < kinds.length) (hok : ∀ j (hj : j < args.length), (chkE kinds args[j]).2 = 0) :
    chkR kinds op int v name (args.map (chkE kinds)) = if (resC kinds op int v.k (args.map fun e => (chkE kinds e).1)).2 = false then (0, 7) else ((resC kinds op int v.k (args.map fun e => (chkE kinds e).1)).1, 0) := by
  have hrl : (args.map (chkE kinds)).length = args.length := List.length_map ..
  rw [← hrl] at h h2
  by_cases h3 : op = 2
  · have hr : resC kinds op int v.k (args.map fun e => (chkE kinds e).1) = (kinds.getD int.toNat 0, true) := by
      unfold resC; exact if_pos (by simpa using h3)
    rw [chk_3 h h2 h3, if_neg (by have := hc h3; simp; omega), hr]
    rfl
  · rw [chk_4 h h2 h3, find_ok (fun j hj => by simpa using hok j (by simpa using hj))]
    have hr : resC kinds op int v.k (args.map fun e => (chkE kinds e).1) = resE op v.k (args.map fun e => (chkE kinds e).1) := by
      unfold resC; rw [if_neg (by simpa using h3)]
    rw [hr]
    dsimp only
    rw [List.map_map]
    rfl
theorem chk_err {kinds : List Int} {op int : Int} {v : Vl} {name : ByteArray} {args : List Ex} {i : Nat} (h : (cntOp op args.length).2 = true) (h2 : formedE op int v name args.length = true) (hi : i < args.length) (hok : ∀ j (hj : j < args.length), j < i → (chkE kinds args[j]).2 = 0) (he : (chkE kinds args[i]).2 ≠ 0) :
    chkR kinds op int v name (args.map (chkE kinds)) = (0, (chkE kinds args[i]).2) := by
  have hrl : (args.map (chkE kinds)).length = args.length := List.length_map ..
  have h3 : op ≠ 2 := fun e => by subst e; have := formed_col h2; omega
  rw [← hrl] at h h2
  rw [chk_4 h h2 h3, find_er (i := i) (by simpa using hi) (fun j hj hji => by simpa using hok j (by simpa using hj) hji) (by simpa using he)]
  simp
theorem rg107w7 {T : List Rid} {p : Path} {Q : Exit → SL → Prop} {tm : List AV} {L : RL} {n : Nat} {c : Code} {l : List Oper} (n' : Nat) (Qs : List Nat) (h : ∀ all, (ro c).toList = all → GoI Tryz.prog T p all false Qs n 0 l tm L fun tm' L' => Q .normal ⟨tm', L', n'⟩) (hk : kd c = 0 := by kernel_rfl) (hr : rd c = false := by kernel_rfl) (hl : (ro c).toList = l := by dsimp only [ro, s1, s2, c1, c2, bc, bod, Tryz.f107, Option.getD_some] <;> exact rfl) (hn : n + (ro c).size = n' := by kernel_rfl) : PI Tryz.prog T p c Q ⟨tm, L, n⟩ := PI.rg n' Qs hk hr hl (fun h => by cases h) hn (h _ rfl)
set_option maxHeartbeats 2000000 in
set_option maxRecDepth 100000 in
theorem okChk1' (kinds : List Int) : ∀ (n : Nat) (op int : Int) (v : Vl) (name : ByteArray) (args : List Ex), dpEs args < n → SmE 100000 (.mk op int v name args) → CallsOK Tryz.prog 107 [aEx op int v name args, ints kinds] (.tup [aI (chkR kinds op int v name (args.map (chkE kinds))).1, aI (chkR kinds op int v name (args.map (chkE kinds))).2]) := by
  intro n
  induction n with
  | zero => intro op int v name args h; omega
  | succ n ih =>
  intro op int v name args hd hs
  have hl := hs.len
  have hl' : args.length ≤ maxLen := by unfold maxLen; omega
  have hrl : (args.map (chkE kinds)).length = args.length := List.length_map ..
  have har := ar_known op args.length
  generalize hRS : chkR kinds op int v name (args.map (chkE kinds)) = RS
  have U : Hid True := ⟨trivial⟩
  refine CallsOK.of_pi mixed Tryz.func107 (by kernel_rfl) (by kernel_rfl) (?_ : PI _ _ _ _ _ ⟨[aEx op int v name args, ints kinds, .und, .und, .und, .und, .und, .und, .und, .und, .und, .und, .und, .und, .und, .und, .und, .und, .und, .und, .und, .und, .und, .und, .und, .und, .und, .und, .und, .und, .und, .und, .und, .und, .und, .und, .und, .und, .und, .und, .und, .und, .und, .und, .und, .und, .und, .und, .und, .und, .und, .und, .und, .und, .und, .und, .und, .und, .und, .und, .und, .und, .und, .und, .und, .und, .und, .und, .und, .und, .und, .und, .und, .und, .und], [], 0⟩)
  refine PI.q ?_
  refine rg107w7 (3) [] fun all1 _ => ?_
  refine GoI.runN 2 nfw7 ?_
  refine GoI.z nfw7 ?_
  refine PI.q ?_
  refine rg107w7 (11) [] fun all2 _ => ?_
  refine GoI.runN 2 nfw7 ?_
  refine GoI.call nfw7 nfw7 (by exact okArity _) ?_
  refine GoI.runN 2 nfw7 ?_
  refine GoI.runN 2 nfw7 ?_
  refine GoI.z nfw7 ?_
  refine PI.q ?_
  refine PI.q ?_
  refine rg107w7 (13) [] fun all3 _ => ?_
  refine GoI.z nfw7 ?_
  refine PI.d 21 nfw7 (fun hb1 => ?_) (fun hb1 => ?_)
  ·
   try simp only [hb1]
   have hc : (cntOp op args.length).2 = false := by rw [har] at hb1; simpa using hb1
   rw [← hrl] at hc
   rw [chk_1 hc] at hRS
   subst hRS
   refine PI.q ?_
   refine rg107w7 (15) [] fun all4 _ => ?_
   refine GoI.z nfw7 ?_
   refine PI.r ?_
   exact FinI.mk _ nfw7 (by clear U; (try subst hRS); simp [finR, nrmA, nrm, AV.content])
  try simp only [hb1]
  have hc : (cntOp op args.length).2 = true := by rw [har] at hb1; simpa using hb1
  have hc' := hc
  rw [← hrl] at hc'
  refine PI.s ?_
  refine PI.q ?_
  refine PI.q ?_
  refine rg107w7 (16) [] fun all5 _ => ?_
  refine GoI.run nfw7 ?_
  refine GoI.call nfw7 nfw7 (by exact okFormed' _ _ _ _ _ (by omega)) ?_
  refine GoI.z nfw7 ?_
  refine PI.d 24 nfw7 (fun hb2 => ?_) (fun hb2 => ?_)
  ·
   try simp only [hb2]
   have hf : formedE op int v name args.length = false := by simpa using hb2
   rw [← hrl] at hf
   rw [chk_2 hc' hf] at hRS
   subst hRS
   refine PI.q ?_
   refine rg107w7 (18) [] fun all6 _ => ?_
   refine GoI.z nfw7 ?_
   refine PI.r ?_
   exact FinI.mk _ nfw7 (by clear U; (try subst hRS); simp [finR, nrmA, nrm, AV.content])
  try simp only [hb2]
  have hf : formedE op int v name args.length = true := by simpa using hb2
  have hf' := hf
  rw [← hrl] at hf'
  refine PI.s ?_
  refine PI.sj (by kernel_rfl) (by kernel_rfl) (X := Unit) (fun _ => uk [4, 5, 25, 26, 27, 28, 29, 30, 31, 32, 33, 34, 35, 36, 37, 38, 39]) (fun _ => [(([0], 0), .var 28 [aI op, aI int, aI v.k, aI v.i, aS v.s, aS name, .sl (args.map encE) none])]) (fun _ => op = 2 → 0 ≤ int ∧ int < kinds.length) ?_ ?_
  ·
   refine PI.q ?_
   refine rg107w7 (31) [] fun all7 hall7 => ?_
   have hgd7_3 : (all7[3]?).bind (fun o => o.dst) = some 28 := by rw [← hall7]; kernel_rfl
   have hgd7_7 : (all7[7]?).bind (fun o => o.dst) = some 32 := by rw [← hall7]; kernel_rfl
   replace U := U.cons (And.intro (hgd7_3) (hgd7_7))
   refine GoI.runN 2 nfw7 ?_
   refine GoI.runN 2 nfw7 ?_
   refine GoI.grd 28 nfw7 (fun hg1 => ?_) (fun hg1 => ?_)
   ·
    try simp only [hg1]
    have h2 : op = 2 := by simpa using hg1
    rw [chk_3 hc' hf' h2] at hRS
    refine GoI.runN 2 nfw7 ?_
    refine GoI.runN 2 nfw7 ?_
    refine GoI.grd 32 nfw7 (fun hg2 => ?_) (fun hg2 => ?_)
    ·
     try simp only [hg2]
     refine GoI.runN 2 nfw7 ?_
     refine GoI.runN 2 nfw7 ?_
     refine GoI.runN 2 nfw7 ?_
     refine GoI.z nfw7 ?_
     refine PI.t 39 nfw7 ?_
     rw [if_pos (by simp_all)] at hRS
     subst hRS
     refine PI.q ?_
     refine rg107w7 (33) [] fun all8 _ => ?_
     refine GoI.z nfw7 ?_
     refine PI.r ?_
     exact FinI.mk _ nfw7 (by clear U; (try subst hRS); simp [finR, nrmA, nrm, AV.content])
    try simp only [hg2]
    refine GoI.runN 2 nfw7 ?_
    refine GoI.runN 2 nfw7 ?_
    refine GoI.runN 2 nfw7 ?_
    refine GoI.z nfw7 ?_
    refine PI.d 39 nfw7 (fun hb3 => ?_) (fun hb3 => ?_)
    ·
     try simp only [hb3]
     rw [if_pos (by simp_all)] at hRS
     subst hRS
     refine PI.q ?_
     refine rg107w7 (33) [] fun all8 _ => ?_
     refine GoI.z nfw7 ?_
     refine PI.r ?_
     exact FinI.mk _ nfw7 (by clear U; (try subst hRS); simp [finR, nrmA, nrm, AV.content])
    try simp only [hb3]
    refine PI.s ?_
    refine ⟨(), 15, fun h2' => by first | (exact absurd h2' (by simpa using hg1)) | (constructor <;> simp_all), GhI.of_wk ⟨by simp [ovr, uk, lessT, neJ2, neJ2', neJ3, neJ3', neJ4, neJ4', neJ5, neJ5', neK, neK', neK2, neK2', neL, neL', neL2, neL2'], by simp [lessR, lk, neJ2, neJ2', neJ3, neJ3', neJ4, neJ4', neJ5, neJ5', neK, neK', neK2, neK2', neL, neL', neL2, neL2'], by (try dsimp only); omega, keep0⟩⟩
   try simp only [hg1]
   refine GoI.runN 2 nfw7 ?_
   refine GoI.runN 2 nfw7 ?_
   refine GoI.runN 2 nfw7 ?_
   refine GoI.runN 2 nfw7 ?_
   refine GoI.runN 2 nfw7 ?_
   refine GoI.z nfw7 ?_
   refine PI.f 39 nfw7 ?_
   refine PI.s ?_
   refine ⟨(), 15, fun h2' => by first | (exact absurd h2' (by simpa using hg1)) | (constructor <;> simp_all), GhI.of_wk ⟨by simp [ovr, uk, lessT, neJ2, neJ2', neJ3, neJ3', neJ4, neJ4', neJ5, neJ5', neK, neK', neK2, neK2', neL, neL', neL2, neL2'], by simp [lessR, lk, neJ2, neJ2', neJ3, neJ3', neJ4, neJ4', neJ5, neJ5', neK, neK', neK2, neK2', neL, neL', neL2, neL2'], by (try dsimp only); omega, keep0⟩⟩
  intro y3 i1 hr3
  have hcr := hr3
  simp only [ovr, uk, List.set_cons_zero, List.set_cons_succ]
  refine PI.q ?_
  refine rg107w7 (i1 + 18) [] fun all9 _ => ?_
  refine GoI.z nfw7 ?_
  refine PI.q ?_
  refine PI.q ?_
  refine rg107w7 (i1 + 19) [] fun all10 _ => ?_
  refine GoI.z nfw7 ?_
  refine PI.b 0 ?_
  refine PI.lo (by kernel_rfl) (X := Nat) (fun i => (9, aI i) :: (8, .sl (((args.take i).map fun e => (chkE kinds e).1).map fun k => [aI k]) (some (([i1 + 16], 0), i))) :: uk [4, 5, 10, 11, 41, 42, 43, 44, 45, 46, 47, 48, 49, 50, 51, 52, 53, 54, 55, 56, 57, 58, 59, 60, 61, 62, 63, 64]) (fun i => [(([0], 0), .var 28 [aI op, aI int, aI v.k, aI v.i, aS v.s, aS name, .sl (args.map encE) none]), (([i1 + 16], 0), .tok i 3 1)]) (fun k i => k = args.length - i ∧ i ≤ args.length ∧ ∀ j (hj : j < args.length), j < i → (chkE kinds args[j]).2 = 0) (args.length) (0) (GhI.of_wk ⟨by simp [ovr, uk, lessT, neJ2, neJ2', neJ3, neJ3', neJ4, neJ4', neJ5, neJ5', neK, neK', neK2, neK2', neL, neL', neL2, neL2'], by simp [lessR, lk, neJ2, neJ2', neJ3, neJ3', neJ4, neJ4', neJ5, neJ5', neK, neK', neK2, neK2', neL, neL', neL2, neL2'], by (try dsimp only); omega, keep0⟩) (⟨rfl, Nat.zero_le _, fun j hj hji => by omega⟩) ?_
  intro k1 x1 j1 hr1
  obtain ⟨rfl, hi1, hok⟩ := hr1
  simp only [ovr, uk, List.set_cons_zero, List.set_cons_succ]
  refine PI.q ?_
  refine PI.q ?_
  refine rg107w7 (j1 + (i1 + 24)) [] fun all11 _ => ?_
  refine GoI.runN 2 nfw7 ?_
  refine GoI.runN 2 nfw7 ?_
  refine GoI.z nfw7 ?_
  refine PI.d 45 nfw7 (fun hb4 => ?_) (fun hb4 => ?_)
  ·
   try simp only [hb4]
   obtain ⟨hlt, hw⟩ := up hb4 hl'
   have hx := exs_at hlt
   have hts : (args.take (x1 + 1)).map (fun e => (chkE kinds e).1) = (args.take x1).map (fun e => (chkE kinds e).1) ++ [(chkE kinds args[x1]).1] := map_snoc hlt
   have hs1 := hs.arg _ (List.getElem_mem hlt)
   have hdm := dpEs_mem (List.getElem_mem hlt)
   have hap : ((args.take x1).length + 1) * 8 ≤ 140737488355328 := by simp; omega
   generalize hR : chkE kinds args[x1] = R
   have hR2 := hR
   rw [hR] at hts
   generalize he : args[x1] = e1
   rw [he] at hx hs1 hdm hR
   obtain ⟨op1, int1, v1, name1, args1⟩ := e1
   rw [encE_mk] at hx
   rw [dpE_mk] at hdm
   rw [chkE_mk] at hR
   replace U := U.cons (And.intro (hw) (And.intro (hx) (And.intro (hap) (hR))))
   refine PI.s ?_
   refine PI.q ?_
   refine PI.b 1 ?_
   refine PI.q ?_
   refine rg107w7 (j1 + (i1 + 36)) [] fun all12 _ => ?_
   refine GoI.runN 2 nfw7 ?_
   refine GoI.runN 2 nfw7 ?_
   refine GoI.runN 2 nfw7 ?_
   refine GoI.call nfw7 nfw7 (by exact ih _ _ _ _ _ (by omega) hs1) ?_
   refine GoI.runN 2 nfw7 ?_
   refine GoI.runN 2 nfw7 ?_
   refine GoI.z nfw7 ?_
   refine PI.q ?_
   refine PI.q ?_
   refine rg107w7 (j1 + (i1 + 38)) [] fun all13 _ => ?_
   refine GoI.z nfw7 ?_
   refine PI.d 59 nfw7 (fun hb5 => ?_) (fun hb5 => ?_)
   ·
    try simp only [hb5]
    have h6 : R.2 ≠ 0 := by simpa using hb5
    rw [chk_err hc hf hlt hok (by rw [hR2]; exact h6), hR2] at hRS
    subst hRS
    refine PI.q ?_
    refine rg107w7 (j1 + (i1 + 41)) [] fun all14 _ => ?_
    refine GoI.runN 2 nfw7 ?_
    refine GoI.z nfw7 ?_
    refine PI.r ?_
    exact FinI.mk _ nfw7 (by clear U; (try subst hRS); simp [finR, nrmA, nrm, AV.content])
   try simp only [hb5]
   have h6 : R.2 = 0 := by simpa using hb5
   refine PI.s ?_
   refine rg107w7 (j1 + (i1 + 43)) [] fun all15 _ => ?_
   refine GoI.runN 2 nfw7 ?_
   refine GoI.runN 2 nfw7 ?_
   refine GoI.z nfw7 ?_
   refine rg107w7 (j1 + (i1 + 46)) [] fun all16 _ => ?_
   refine GoI.runN 2 nfw7 ?_
   refine GoI.z nfw7 ?_
   refine ⟨args.length - (x1 + 1), x1 + 1, j1 + 27, by omega, ⟨rfl, by omega, ok_ex hok hlt (by rw [hR2]; exact h6)⟩, GhI.of_wk ⟨by simp only [ovr, uk, lessT, hts, List.map_append, List.map_cons, List.map_nil]; simp [lessT], by simp [lessR, lk, neJ2, neJ2', neK, neK'], by (try dsimp only); omega, keep0⟩⟩
  try simp only [hb4]
  have hge := dn hb4
  rw [List.take_of_length_le hge]
  have hne : op ≠ 1 → op ≠ 2 → (args.map fun e => (chkE kinds e).1) ≠ [] := fun h1 h2 h => by
    have := formed_ne hf h1 h2
    have h := congrArg List.length h
    simp at h
    rw [h] at this
    exact this rfl
  rw [chk_res hc hf hcr (fun j hj => hok j hj (by omega))] at hRS
  refine PI.e 0 ?_
  refine PI.q ?_
  refine rg107w7 (j1 + (i1 + 33)) [] fun all17 _ => ?_
  refine GoI.runN 2 nfw7 ?_
  refine GoI.run nfw7 ?_
  refine GoI.call nfw7 nfw7 (by exact okResE' op int v name args _ kinds (by simp; omega) hne hcr (cnt_known hc)) ?_
  refine GoI.runN 2 nfw7 ?_
  refine GoI.runN 2 nfw7 ?_
  refine GoI.z nfw7 ?_
  refine PI.q ?_
  refine PI.q ?_
  refine rg107w7 (j1 + (i1 + 35)) [] fun all18 _ => ?_
  refine GoI.z nfw7 ?_
  refine PI.d 73 nfw7 (fun hb6 => ?_) (fun hb6 => ?_)
  ·
   try simp only [hb6]
   rw [if_pos (by simpa using hb6)] at hRS
   refine PI.q ?_
   refine rg107w7 (j1 + (i1 + 37)) [] fun all19 _ => ?_
   refine GoI.z nfw7 ?_
   refine PI.r ?_
   exact FinI.mk _ nfw7 (by clear U; (try subst hRS); simp [finR, nrmA, nrm, AV.content])
  try simp only [hb6]
  rw [if_neg (by simp at hb6; rw [hb6]; decide)] at hRS
  refine PI.s ?_
  refine PI.q ?_
  refine rg107w7 (j1 + (i1 + 38)) [] fun all20 _ => ?_
  refine GoI.runN 2 nfw7 ?_
  refine GoI.z nfw7 ?_
  refine PI.r ?_
  exact FinI.mk _ nfw7 (by clear U; (try subst hRS); simp [finR, nrmA, nrm, AV.content])
/-- What Check says of an expression. -/
def chkX (kinds : List Int) (e : Ex) : Int × Int := if 24 < dpE e then (0, 26) else chkE kinds e
theorem rg120w7 {T : List Rid} {p : Path} {Q : Exit → SL → Prop} {tm : List AV} {L : RL} {n : Nat} {c : Code} {l : List Oper} (n' : Nat) (Qs : List Nat) (h : ∀ all, (ro c).toList = all → GoI Tryz.prog T p all false Qs n 0 l tm L fun tm' L' => Q .normal ⟨tm', L', n'⟩) (hk : kd c = 0 := by kernel_rfl) (hr : rd c = false := by kernel_rfl) (hl : (ro c).toList = l := by dsimp only [ro, s1, s2, c1, c2, bc, bod, Tryz.f120, Option.getD_some] <;> exact rfl) (hn : n + (ro c).size = n' := by kernel_rfl) : PI Tryz.prog T p c Q ⟨tm, L, n⟩ := PI.rg n' Qs hk hr hl (fun h => by cases h) hn (h _ rfl)
theorem okChkX (kinds : List Int) (e : Ex) (hs : SmE 100000 e) (hs' : SmE 1000000 e) : CallsOK Tryz.prog 120 [aE e, ints kinds] (.tup [aI (chkX kinds e).1, aI (chkX kinds e).2]) := by
  have hd := okDepthE e hs'
  have hX : chkX kinds e = if 24 < dpE e then (0, 26) else chkE kinds e := rfl
  generalize hRS : chkX kinds e = RS
  rw [hRS] at hX
  obtain ⟨op, int, v, name, args⟩ := e
  rw [aE_mk] at hd ⊢
  rw [chkE_mk] at hX
  generalize hD : dpE (.mk op int v name args) = D
  rw [hD] at hd hX
  have U : Hid True := ⟨trivial⟩
  refine CallsOK.of_pi mixed Tryz.func120 (by kernel_rfl) (by kernel_rfl) (?_ : PI _ _ _ _ _ ⟨[aEx op int v name args, ints kinds, .und, .und, .und, .und, .und, .und, .und, .und, .und, .und, .und, .und], [], 0⟩)
  refine PI.q ?_
  refine rg120w7 (3) [] fun all1 _ => ?_
  refine GoI.runN 2 nfw7 ?_
  refine GoI.z nfw7 ?_
  refine PI.q ?_
  refine PI.q ?_
  refine rg120w7 (6) [] fun all2 _ => ?_
  refine GoI.run nfw7 ?_
  refine GoI.call nfw7 nfw7 (by exact hd) ?_
  refine GoI.z nfw7 ?_
  refine PI.d 8 nfw7 (fun hb1 => ?_) (fun hb1 => ?_)
  ·
   try simp only [hb1]
   rw [if_pos (by simp at hb1; omega)] at hX
   refine PI.q ?_
   refine rg120w7 (8) [] fun all3 _ => ?_
   refine GoI.z nfw7 ?_
   refine PI.r ?_
   exact FinI.mk _ nfw7 (by clear U; subst hX; simp [finR, nrmA, nrm, AV.content])
  try simp only [hb1]
  rw [if_neg (by simp at hb1; omega)] at hX
  refine PI.s ?_
  refine PI.q ?_
  refine rg120w7 (13) [] fun all4 _ => ?_
  refine GoI.runN 2 nfw7 ?_
  refine GoI.call nfw7 nfw7 (by exact okChk1 kinds _ op int v name args (Nat.lt_succ_self _) hs) ?_
  refine GoI.runN 2 nfw7 ?_
  refine GoI.z nfw7 ?_
  refine PI.r ?_
  exact FinI.mk _ nfw7 (by clear U; subst hX; simp [finR, nrmA, nrm, AV.content])
theorem rg69w7 {T : List Rid} {p : Path} {Q : Exit → SL → Prop} {tm : List AV} {L : RL} {n : Nat} {c : Code} {l : List Oper} (n' : Nat) (Qs : List Nat) (h : ∀ all, (ro c).toList = all → GoI Tryz.prog T p all false Qs n 0 l tm L fun tm' L' => Q .normal ⟨tm', L', n'⟩) (hk : kd c = 0 := by kernel_rfl) (hr : rd c = false := by kernel_rfl) (hl : (ro c).toList = l := by dsimp only [ro, s1, s2, c1, c2, bc, bod, Tryz.f69, Option.getD_some] <;> exact rfl) (hn : n + (ro c).size = n' := by kernel_rfl) : PI Tryz.prog T p c Q ⟨tm, L, n⟩ := PI.rg n' Qs hk hr hl (fun h => by cases h) hn (h _ rfl)
theorem okChkX' (kinds : List Int) (e : Ex) (hs : SmE 100000 e) (hs' : SmE 1000000 e) (hdp : dpE e ≤ 100000) : CallsOK Tryz.prog 69 [aE e, ints kinds] (.tup [aI (chkX kinds e).1, aI (chkX kinds e).2]) := by
  have hX : chkX kinds e = if 24 < dpE e then (0, 26) else chkE kinds e := rfl
  generalize hRS : chkX kinds e = RS
  rw [hRS] at hX
  obtain ⟨op, int, v, name, args⟩ := e
  rw [aE_mk]
  rw [chkE_mk] at hX
  rw [dpE_mk] at hX hdp
  have hd := okDepthE1' _ op int v name args (Nat.lt_succ_self _) (by omega) hs'
  generalize hD : dpEs args + 1 = D
  rw [hD] at hd hX
  have U : Hid True := ⟨trivial⟩
  refine CallsOK.of_pi mixed Tryz.func69 (by kernel_rfl) (by kernel_rfl) (?_ : PI _ _ _ _ _ ⟨[aEx op int v name args, ints kinds, .und, .und, .und, .und, .und, .und, .und, .und, .und, .und, .und, .und], [], 0⟩)
  refine PI.q ?_
  refine rg69w7 (3) [] fun all1 _ => ?_
  refine GoI.runN 2 nfw7 ?_
  refine GoI.z nfw7 ?_
  refine PI.q ?_
  refine PI.q ?_
  refine rg69w7 (6) [] fun all2 _ => ?_
  refine GoI.run nfw7 ?_
  refine GoI.call nfw7 nfw7 (by exact hd) ?_
  refine GoI.z nfw7 ?_
  refine PI.d 8 nfw7 (fun hb1 => ?_) (fun hb1 => ?_)
  ·
   try simp only [hb1]
   rw [if_pos (by simp at hb1; omega)] at hX
   refine PI.q ?_
   refine rg69w7 (8) [] fun all3 _ => ?_
   refine GoI.z nfw7 ?_
   refine PI.r ?_
   exact FinI.mk _ nfw7 (by clear U; subst hX; simp [finR, nrmA, nrm, AV.content])
  try simp only [hb1]
  rw [if_neg (by simp at hb1; omega)] at hX
  refine PI.s ?_
  refine PI.q ?_
  refine rg69w7 (13) [] fun all4 _ => ?_
  refine GoI.runN 2 nfw7 ?_
  refine GoI.call nfw7 nfw7 (by exact okChk1' kinds _ op int v name args (Nat.lt_succ_self _) hs) ?_
  refine GoI.runN 2 nfw7 ?_
  refine GoI.z nfw7 ?_
  refine PI.r ?_
  exact FinI.mk _ nfw7 (by clear U; subst hX; simp [finR, nrmA, nrm, AV.content])
end Go.FE
namespace Go.FE
open Go.Proofs
theorem nfw8 {α : Type} {a b : α} (h : a = b := by simp only [goP, goN, mrk, Nat.reduceMul, Nat.one_mul, Nat.mul_one, eq_self, false_implies, implies_true, Nat.reduceLT, List.getElem?_toArray, isCall, List.contains_nil, List.contains_cons, Nat.reduceBEq, Bool.or_false, Bool.or_self, List.length_map, gOf, step, stepM, stepP, ev, okV, if_true, if_false, allocA, storeA, boxA, one1, tokN, tok1, buildA, rowA, nrmP, partV, partA, fieldA, fieldV, elemA, lenA, bltA, asSl, appA, makeA, makeR, cutA, bndA, binV, intOp, strOp, unV, eqB, nilB, sameT, List.all_cons, List.all_nil, Bool.and_self, Bool.and_true, Bool.true_and, List.map_cons, List.map_nil, List.nil_append, List.cons_append, List.append_nil, AV.bare, AV.content, AV.clean, AV.one, putD, List.set_cons_zero, List.set_cons_succ, List.reverse_cons, List.reverse_nil, List.getD_cons_zero, List.getD_cons_succ, List.getElem?_cons_zero, List.getElem?_cons_succ, Option.getD_some, Option.map_some, Option.map_none, Option.bind_some, List.length_cons, List.length_nil, lk, cellsA, fillA, fillS, isAggD, spl, nrm, nrmA, List.take_succ_cons, List.take_zero, List.drop_succ_cons, List.drop_zero, List.drop_nil, List.take_nil, Nat.reduceAdd, Nat.zero_add, Nat.add_zero, Nat.add_assoc, Nat.add_left_cancel_iff, reduceCtorEq, Prod.mk.injEq, List.cons.injEq, and_self, and_true, true_and, Nat.le_refl, Nat.reduceLeDiff, Nat.reduceEqDiff, List.getElem?_nil, Int.reduceToNat, Int.reduceLE, Int.reduceLT, ite_self, List.forall_mem_cons, List.not_mem_nil, false_and, and_false, Bool.false_eq_true, List.replicate_zero, List.replicate_succ, Int.toNat_natCast, neJ2, neJ2', neJ3, neJ3', callOf, callOf2, fnOf, argsA, args2, Array.isEmpty_empty, resLL, resVL, beq_self_eq_true, st3, zt3, it3, ct3, se3, Tryz.underlying3, st4, zt4, it4, ct4, se4, Tryz.underlying4, st9, zt9, it9, ct9, se9, Tryz.underlying9, st22, zt22, it22, ct22, se22, Tryz.underlying22, st25, zt25, it25, ct25, pt25, eqs25, se25, Tryz.underlying25, st26, zt26, it26, ct26, se26, Tryz.underlying26, st28, zt28, it28, ct28, pt28, se28, Tryz.underlying28, st36, zt36, it36, ct36, se36, Tryz.underlying36, st94, Tryz.underlying94, Tryz.results82, Tryz.results32, Tryz.results73, Tryz.results33, U.out] <;> rfl) : a = b := h
theorem SmE.mono {N M : Nat} (hNM : N ≤ M) {e : Ex} (h : SmE N e) : SmE M e := by
  induction h with
  | mk h h1 ih => exact .mk (Nat.le_trans h hNM) ih
structure OkEx (e : Ex) : Prop where
  s : SmE 100000 e
  d : dpE e ≤ 100000
theorem okX (kinds : List Int) (e : Ex) (h : OkEx e) : CallsOK Tryz.prog 120 [aE e, ints kinds] (.tup [aI (chkX kinds e).1, aI (chkX kinds e).2]) := okChkX kinds e h.s (h.s.mono (by decide))
theorem okX' (kinds : List Int) (e : Ex) (h : OkEx e) : CallsOK Tryz.prog 69 [aE e, ints kinds] (.tup [aI (chkX kinds e).1, aI (chkX kinds e).2]) := okChkX' kinds e h.s (h.s.mono (by decide)) h.d
def predS (kinds : List Int) (e : Ex) : Int := if (chkX kinds e).2 != 0 then (chkX kinds e).2 else if (chkX kinds e).1 != 3 && (chkX kinds e).1 != 0 then 7 else 0
theorem rg82w8 {T : List Rid} {p : Path} {Q : Exit → SL → Prop} {tm : List AV} {L : RL} {n : Nat} {c : Code} {l : List Oper} (n' : Nat) (Qs : List Nat) (h : ∀ all, (ro c).toList = all → GoI Tryz.prog T p all false Qs n 0 l tm L fun tm' L' => Q .normal ⟨tm', L', n'⟩) (hk : kd c = 0 := by kernel_rfl) (hr : rd c = false := by kernel_rfl) (hl : (ro c).toList = l := by dsimp only [ro, s1, s2, c1, c2, bc, bod, Tryz.f82, Option.getD_some] <;> exact rfl) (hn : n + (ro c).size = n' := by kernel_rfl) : PI Tryz.prog T p c Q ⟨tm, L, n⟩ := PI.rg n' Qs hk hr hl (fun h => by cases h) hn (h _ rfl)
theorem okPred (kinds : List Int) (e : Ex) (h : OkEx e) : CallsOK Tryz.prog 82 [aE e, ints kinds] (aI (predS kinds e)) := by
  have hX := okX kinds e h
  have hS : predS kinds e = if (chkX kinds e).2 != 0 then (chkX kinds e).2 else if (chkX kinds e).1 != 3 && (chkX kinds e).1 != 0 then 7 else 0 := rfl
  generalize predS kinds e = S at hS ⊢
  generalize chkX kinds e = R at hX hS
  obtain ⟨op, int, v, name, args⟩ := e
  rw [aE_mk] at hX ⊢
  have U : Hid True := ⟨trivial⟩
  refine CallsOK.of_pi mixed Tryz.func82 (by kernel_rfl) (by kernel_rfl) (?_ : PI _ _ _ _ _ ⟨[aEx op int v name args, ints kinds, .und, .und, .und, .und, .und, .und, .und, .und, .und, .und, .und, .und, .und, .und, .und, .und, .und, .und, .und, .und], [], 0⟩)
  refine PI.q ?_
  refine rg82w8 (2) [] fun all1 _ => ?_
  refine GoI.z nfw8 ?_
  refine PI.q ?_
  refine rg82w8 (10) [] fun all2 _ => ?_
  refine GoI.runN 2 nfw8 ?_
  refine GoI.call nfw8 nfw8 (by exact hX) ?_
  refine GoI.runN 2 nfw8 ?_
  refine GoI.runN 2 nfw8 ?_
  refine GoI.z nfw8 ?_
  refine PI.q ?_
  refine PI.q ?_
  refine rg82w8 (12) [] fun all3 _ => ?_
  refine GoI.z nfw8 ?_
  refine PI.d 14 nfw8 (fun hb1 => ?_) (fun hb1 => ?_)
  ·
   try simp only [hb1]
   refine PI.q ?_
   refine rg82w8 (14) [] fun all4 _ => ?_
   refine GoI.z nfw8 ?_
   refine PI.r ?_
   exact FinI.mk _ nfw8 (by clear U; simp_all [finR, nrmA, nrm, AV.content])
  try simp only [hb1]
  refine PI.s ?_
  refine PI.q ?_
  refine PI.q ?_
  refine rg82w8 (18) [] fun all5 hall5 => ?_
  have hgd5_2 : (all5[2]?).bind (fun o => o.dst) = some 18 := by rw [← hall5]; kernel_rfl
  replace U := U.cons (hgd5_2)
  refine GoI.runN 2 nfw8 ?_
  refine GoI.runN 1 nfw8 ?_
  refine GoI.grd 18 nfw8 (fun hg1 => ?_) (fun hg1 => ?_)
  ·
   try simp only [hg1]
   refine GoI.runN 2 nfw8 ?_
   refine GoI.z nfw8 ?_
   refine PI.d 21 nfw8 (fun hb2 => ?_) (fun hb2 => ?_)
   ·
    try simp only [hb2]
    refine PI.q ?_
    refine rg82w8 (19) [] fun all6 _ => ?_
    refine GoI.z nfw8 ?_
    refine PI.r ?_
    exact FinI.mk _ nfw8 (by clear U; simp_all [finR, nrmA, nrm, AV.content])
   try simp only [hb2]
   refine PI.s ?_
   refine PI.q ?_
   refine rg82w8 (19) [] fun all7 _ => ?_
   refine GoI.z nfw8 ?_
   refine PI.r ?_
   exact FinI.mk _ nfw8 (by clear U; simp_all [finR, nrmA, nrm, AV.content])
  try simp only [hg1]
  refine GoI.runN 2 nfw8 ?_
  refine GoI.z nfw8 ?_
  refine PI.f 21 nfw8 ?_
  refine PI.s ?_
  refine PI.q ?_
  refine rg82w8 (19) [] fun all7 _ => ?_
  refine GoI.z nfw8 ?_
  refine PI.r ?_
  exact FinI.mk _ nfw8 (by clear U; simp_all [finR, nrmA, nrm, AV.content])
theorem rg32w8 {T : List Rid} {p : Path} {Q : Exit → SL → Prop} {tm : List AV} {L : RL} {n : Nat} {c : Code} {l : List Oper} (n' : Nat) (Qs : List Nat) (h : ∀ all, (ro c).toList = all → GoI Tryz.prog T p all false Qs n 0 l tm L fun tm' L' => Q .normal ⟨tm', L', n'⟩) (hk : kd c = 0 := by kernel_rfl) (hr : rd c = false := by kernel_rfl) (hl : (ro c).toList = l := by dsimp only [ro, s1, s2, c1, c2, bc, bod, Tryz.f32, Option.getD_some] <;> exact rfl) (hn : n + (ro c).size = n' := by kernel_rfl) : PI Tryz.prog T p c Q ⟨tm, L, n⟩ := PI.rg n' Qs hk hr hl (fun h => by cases h) hn (h _ rfl)
theorem okPred' (kinds : List Int) (e : Ex) (h : OkEx e) : CallsOK Tryz.prog 32 [aE e, ints kinds] (aI (predS kinds e)) := by
  have hX := okX' kinds e h
  have hS : predS kinds e = if (chkX kinds e).2 != 0 then (chkX kinds e).2 else if (chkX kinds e).1 != 3 && (chkX kinds e).1 != 0 then 7 else 0 := rfl
  generalize predS kinds e = S at hS ⊢
  generalize chkX kinds e = R at hX hS
  obtain ⟨op, int, v, name, args⟩ := e
  rw [aE_mk] at hX ⊢
  have U : Hid True := ⟨trivial⟩
  refine CallsOK.of_pi mixed Tryz.func32 (by kernel_rfl) (by kernel_rfl) (?_ : PI _ _ _ _ _ ⟨[aEx op int v name args, ints kinds, .und, .und, .und, .und, .und, .und, .und, .und, .und, .und, .und, .und, .und, .und, .und, .und, .und, .und, .und, .und], [], 0⟩)
  refine PI.q ?_
  refine rg32w8 (2) [] fun all1 _ => ?_
  refine GoI.z nfw8 ?_
  refine PI.q ?_
  refine rg32w8 (10) [] fun all2 _ => ?_
  refine GoI.runN 2 nfw8 ?_
  refine GoI.call nfw8 nfw8 (by exact hX) ?_
  refine GoI.runN 2 nfw8 ?_
  refine GoI.runN 2 nfw8 ?_
  refine GoI.z nfw8 ?_
  refine PI.q ?_
  refine PI.q ?_
  refine rg32w8 (12) [] fun all3 _ => ?_
  refine GoI.z nfw8 ?_
  refine PI.d 14 nfw8 (fun hb1 => ?_) (fun hb1 => ?_)
  ·
   try simp only [hb1]
   refine PI.q ?_
   refine rg32w8 (14) [] fun all4 _ => ?_
   refine GoI.z nfw8 ?_
   refine PI.r ?_
   exact FinI.mk _ nfw8 (by clear U; simp_all [finR, nrmA, nrm, AV.content])
  try simp only [hb1]
  refine PI.s ?_
  refine PI.q ?_
  refine PI.q ?_
  refine rg32w8 (18) [] fun all5 hall5 => ?_
  have hgd5_2 : (all5[2]?).bind (fun o => o.dst) = some 18 := by rw [← hall5]; kernel_rfl
  replace U := U.cons (hgd5_2)
  refine GoI.runN 2 nfw8 ?_
  refine GoI.runN 1 nfw8 ?_
  refine GoI.grd 18 nfw8 (fun hg1 => ?_) (fun hg1 => ?_)
  ·
   try simp only [hg1]
   refine GoI.runN 2 nfw8 ?_
   refine GoI.z nfw8 ?_
   refine PI.d 21 nfw8 (fun hb2 => ?_) (fun hb2 => ?_)
   ·
    try simp only [hb2]
    refine PI.q ?_
    refine rg32w8 (19) [] fun all6 _ => ?_
    refine GoI.z nfw8 ?_
    refine PI.r ?_
    exact FinI.mk _ nfw8 (by clear U; simp_all [finR, nrmA, nrm, AV.content])
   try simp only [hb2]
   refine PI.s ?_
   refine PI.q ?_
   refine rg32w8 (19) [] fun all7 _ => ?_
   refine GoI.z nfw8 ?_
   refine PI.r ?_
   exact FinI.mk _ nfw8 (by clear U; simp_all [finR, nrmA, nrm, AV.content])
  try simp only [hg1]
  refine GoI.runN 2 nfw8 ?_
  refine GoI.z nfw8 ?_
  refine PI.f 21 nfw8 ?_
  refine PI.s ?_
  refine PI.q ?_
  refine rg32w8 (19) [] fun all7 _ => ?_
  refine GoI.z nfw8 ?_
  refine PI.r ?_
  exact FinI.mk _ nfw8 (by clear U; simp_all [finR, nrmA, nrm, AV.content])
def prE (kinds : List Int) (e : Ex) : Int := if (chkX kinds e).2 != 0 then (chkX kinds e).2 else if (chkX kinds e).1 == 0 then 7 else 0
def projS (kinds : List Int) (l : List Ex) : List Int × Int := match l.find? (fun e => prE kinds e != 0) with
  | some e => ([], prE kinds e)
  | none => (l.map fun e => (chkX kinds e).1, 0)
theorem proj_err {kinds : List Int} {l : List Ex} {i : Nat} (hi : i < l.length) (h : ∀ j (hj : j < l.length), j < i → prE kinds l[j] = 0) (he : prE kinds l[i] ≠ 0) : projS kinds l = ([], prE kinds l[i]) := by
  unfold projS
  rw [List.find?_eq_some_iff_getElem.2 ⟨by simpa using he, i, hi, rfl, fun j hj => by rw [h j (by omega) hj]; rfl⟩]
theorem proj_ok {kinds : List Int} {l : List Ex} (h : ∀ j (hj : j < l.length), prE kinds l[j] = 0) : projS kinds l = (l.map fun e => (chkX kinds e).1, 0) := by
  unfold projS
  rw [List.find?_eq_none.2 (fun a ha => by obtain ⟨j, hj, e⟩ := List.mem_iff_getElem.1 ha; rw [← e, h j hj]; decide)]
theorem pr_succ {kinds : List Int} {l : List Ex} {i : Nat} (h : ∀ j (hj : j < l.length), j < i → prE kinds l[j] = 0) (hi : i < l.length) (h1 : prE kinds l[i] = 0) : ∀ j (hj : j < l.length), j < i + 1 → prE kinds l[j] = 0 := fun j hj hji => by
  rcases Nat.lt_or_ge j i with h2 | h2
  · exact h j hj h2
  · have e : j = i := by omega
    subst e; exact h1
theorem rg73w8 {T : List Rid} {p : Path} {Q : Exit → SL → Prop} {tm : List AV} {L : RL} {n : Nat} {c : Code} {l : List Oper} (n' : Nat) (Qs : List Nat) (h : ∀ all, (ro c).toList = all → GoI Tryz.prog T p all false Qs n 0 l tm L fun tm' L' => Q .normal ⟨tm', L', n'⟩) (hk : kd c = 0 := by kernel_rfl) (hr : rd c = false := by kernel_rfl) (hl : (ro c).toList = l := by dsimp only [ro, s1, s2, c1, c2, bc, bod, Tryz.f73, Option.getD_some] <;> exact rfl) (hn : n + (ro c).size = n' := by kernel_rfl) : PI Tryz.prog T p c Q ⟨tm, L, n⟩ := PI.rg n' Qs hk hr hl (fun h => by cases h) hn (h _ rfl)
set_option maxHeartbeats 1000000 in
set_option maxRecDepth 100000 in
theorem okProjd (kinds : List Int) (l : List Ex) (hl : l.length ≤ 100000) (hx : ∀ e ∈ l, OkEx e) : CallsOK Tryz.prog 73 [aExs l, ints kinds] (.tup [ints (projS kinds l).1, aI (projS kinds l).2]) := by
  have hl' : l.length ≤ maxLen := by unfold maxLen; omega
  have U : Hid True := ⟨trivial⟩
  refine CallsOK.of_pi mixed Tryz.func73 (by kernel_rfl) (by kernel_rfl) (?_ : PI _ _ _ _ _ ⟨[aExs l, ints kinds, .und, .und, .und, .und, .und, .und, .und, .und, .und, .und, .und, .und, .und, .und, .und, .und, .und, .und, .und, .und, .und, .und, .und, .und, .und, .und, .und, .und, .und, .und, .und, .und], [], 0⟩)
  refine PI.q ?_
  refine rg73w8 (2) [] fun all1 _ => ?_
  refine GoI.z nfw8 ?_
  refine PI.q ?_
  refine rg73w8 (3) [] fun all2 _ => ?_
  refine GoI.z nfw8 ?_
  refine PI.q ?_
  refine PI.q ?_
  refine rg73w8 (6) [] fun all3 _ => ?_
  refine GoI.runN 2 nfw8 ?_
  refine GoI.z nfw8 ?_
  refine PI.b 0 ?_
  refine PI.lo (by kernel_rfl) (X := Nat) (fun i => (13, aI i) :: (6, .sl (((l.take i).map fun e => (chkX kinds e).1).map fun k => [aI k]) (some (([2], 0), i))) :: uk [4, 5, 8, 9, 10, 14, 15, 16, 17, 18, 19, 20, 21, 22, 23, 24, 25, 26, 27, 28, 29, 30, 31, 32]) (fun i => [(([2], 0), .tok i 3 1)]) (fun k i => k = l.length - i ∧ i ≤ l.length ∧ ∀ j (hj : j < l.length), j < i → prE kinds l[j] = 0) (l.length) (0) (GhI.of_wk ⟨by simp [ovr, uk, lessT, neJ2, neJ2', neJ3, neJ3'], by simp [lessR, lk, neJ2, neJ2', neJ3, neJ3'], by (try dsimp only); omega, keep0⟩) (⟨rfl, Nat.zero_le _, fun j hj hji => by omega⟩) ?_
  intro k1 x1 j1 hr1
  obtain ⟨rfl, hi1, hok⟩ := hr1
  simp only [ovr, uk, List.set_cons_zero, List.set_cons_succ]
  refine PI.q ?_
  refine rg73w8 (j1 + 7) [] fun all4 _ => ?_
  refine GoI.z nfw8 ?_
  refine PI.q ?_
  refine PI.d 14 nfw8 (fun hb1 => ?_) (fun hb1 => ?_)
  ·
   try simp only [hb1]
   obtain ⟨hlt, hw⟩ := up hb1 hl'
   have hx1 := exs_at hlt
   have hts : (l.take (x1 + 1)).map (fun e => (chkX kinds e).1) = (l.take x1).map (fun e => (chkX kinds e).1) ++ [(chkX kinds l[x1]).1] := map_snoc hlt
   have hX := okX kinds l[x1] (hx _ (List.getElem_mem hlt))
   have hap : ((l.take x1).length + 1) * 8 ≤ 140737488355328 := by simp; omega
   have hpr : prE kinds l[x1] = if (chkX kinds l[x1]).2 != 0 then (chkX kinds l[x1]).2 else if (chkX kinds l[x1]).1 == 0 then 7 else 0 := rfl
   generalize chkX kinds l[x1] = R at hX hts hpr
   generalize hE : l[x1] = e1 at hX hx1
   obtain ⟨op, int, v, name, args⟩ := e1
   rw [aE_mk] at hX
   rw [encE_mk] at hx1
   replace U := U.cons (And.intro (hw) (And.intro (hx1) (hap)))
   refine PI.s ?_
   refine PI.q ?_
   refine PI.b 1 ?_
   refine PI.q ?_
   refine rg73w8 (j1 + 11) [] fun all5 _ => ?_
   refine GoI.runN 2 nfw8 ?_
   refine GoI.z nfw8 ?_
   refine PI.q ?_
   refine rg73w8 (j1 + 19) [] fun all6 _ => ?_
   refine GoI.runN 2 nfw8 ?_
   refine GoI.call nfw8 nfw8 (by exact hX) ?_
   refine GoI.runN 2 nfw8 ?_
   refine GoI.runN 2 nfw8 ?_
   refine GoI.z nfw8 ?_
   refine PI.q ?_
   refine PI.q ?_
   refine rg73w8 (j1 + 21) [] fun all7 _ => ?_
   refine GoI.z nfw8 ?_
   refine PI.d 24 nfw8 (fun hb2 => ?_) (fun hb2 => ?_)
   ·
    try simp only [hb2]
    have h2 : (R.2 != 0) = true := by simpa using hb2
    rw [if_pos h2] at hpr
    rw [proj_err hlt hok (by rw [hpr]; simpa using h2), hpr]
    refine PI.q ?_
    refine rg73w8 (j1 + 24) [] fun all8 _ => ?_
    refine GoI.runN 2 nfw8 ?_
    refine GoI.z nfw8 ?_
    refine PI.r ?_
    exact FinI.mk _ nfw8 (by clear U; simp [finR, nrmA, nrm, AV.content])
   try simp only [hb2]
   have h2 : R.2 = 0 := by simpa using hb2
   rw [if_neg (by rw [h2]; decide)] at hpr
   refine PI.s ?_
   refine PI.q ?_
   refine PI.q ?_
   refine rg73w8 (j1 + 23) [] fun all9 _ => ?_
   refine GoI.z nfw8 ?_
   refine PI.d 27 nfw8 (fun hb3 => ?_) (fun hb3 => ?_)
   ·
    try simp only [hb3]
    rw [if_pos hb3] at hpr
    rw [proj_err hlt hok (by rw [hpr]; decide), hpr]
    refine PI.q ?_
    refine rg73w8 (j1 + 25) [] fun all10 _ => ?_
    refine GoI.z nfw8 ?_
    refine PI.r ?_
    exact FinI.mk _ nfw8 (by clear U; simp [finR, nrmA, nrm, AV.content])
   try simp only [hb3]
   rw [if_neg (by rw [hb3]; decide)] at hpr
   refine PI.s ?_
   refine rg73w8 (j1 + 28) [] fun all11 _ => ?_
   refine GoI.runN 2 nfw8 ?_
   refine GoI.runN 2 nfw8 ?_
   refine GoI.z nfw8 ?_
   refine rg73w8 (j1 + 30) [] fun all12 _ => ?_
   refine GoI.z nfw8 ?_
   refine ⟨l.length - (x1 + 1), x1 + 1, j1 + 24, by omega, ⟨rfl, by omega, pr_succ hok hlt hpr⟩, GhI.of_wk ⟨by simp only [ovr, uk, lessT, hts, List.map_append, List.map_cons, List.map_nil]; simp [lessT], by simp [lessR, lk], by (try dsimp only); omega, keep0⟩⟩
  try simp only [hb1]
  have hge := dn hb1
  rw [List.take_of_length_le hge]
  rw [proj_ok (fun j hj => hok j hj (by omega))]
  refine PI.e 0 ?_
  refine PI.q ?_
  refine rg73w8 (j1 + 10) [] fun all13 _ => ?_
  refine GoI.runN 2 nfw8 ?_
  refine GoI.z nfw8 ?_
  refine PI.r ?_
  exact FinI.mk _ nfw8 (by clear U; simp [finR, nrmA, nrm, AV.content])
theorem rg33w8 {T : List Rid} {p : Path} {Q : Exit → SL → Prop} {tm : List AV} {L : RL} {n : Nat} {c : Code} {l : List Oper} (n' : Nat) (Qs : List Nat) (h : ∀ all, (ro c).toList = all → GoI Tryz.prog T p all false Qs n 0 l tm L fun tm' L' => Q .normal ⟨tm', L', n'⟩) (hk : kd c = 0 := by kernel_rfl) (hr : rd c = false := by kernel_rfl) (hl : (ro c).toList = l := by dsimp only [ro, s1, s2, c1, c2, bc, bod, Tryz.f33, Option.getD_some] <;> exact rfl) (hn : n + (ro c).size = n' := by kernel_rfl) : PI Tryz.prog T p c Q ⟨tm, L, n⟩ := PI.rg n' Qs hk hr hl (fun h => by cases h) hn (h _ rfl)
set_option maxHeartbeats 1000000 in
set_option maxRecDepth 100000 in
theorem okProjd' (kinds : List Int) (l : List Ex) (hl : l.length ≤ 100000) (hx : ∀ e ∈ l, OkEx e) : CallsOK Tryz.prog 33 [ints kinds, aExs l] (.tup [ints (projS kinds l).1, aI (projS kinds l).2]) := by
  have hl' : l.length ≤ maxLen := by unfold maxLen; omega
  have U : Hid True := ⟨trivial⟩
  refine CallsOK.of_pi mixed Tryz.func33 (by kernel_rfl) (by kernel_rfl) (?_ : PI _ _ _ _ _ ⟨[ints kinds, aExs l, .und, .und, .und, .und, .und, .und, .und, .und, .und, .und, .und, .und, .und, .und, .und, .und, .und, .und, .und, .und, .und, .und, .und, .und, .und, .und, .und, .und, .und, .und, .und, .und, .und], [], 0⟩)
  refine PI.q ?_
  refine rg33w8 (2) [] fun all1 _ => ?_
  refine GoI.z nfw8 ?_
  refine PI.q ?_
  refine rg33w8 (3) [] fun all2 _ => ?_
  refine GoI.z nfw8 ?_
  refine PI.q ?_
  refine PI.q ?_
  refine rg33w8 (4) [] fun all3 _ => ?_
  refine GoI.z nfw8 ?_
  refine PI.b 0 ?_
  refine PI.lo (by kernel_rfl) (X := Nat) (fun i => (7, aI i) :: (6, .sl (((l.take i).map fun e => (chkX kinds e).1).map fun k => [aI k]) (some (([2], 0), i))) :: uk [4, 5, 8, 9, 10, 11, 12, 13, 14, 15, 16, 17, 18, 19, 20, 21, 22, 23, 24, 25, 26, 27, 28, 29, 30, 31, 32, 33]) (fun i => [(([2], 0), .tok i 3 1)]) (fun k i => k = l.length - i ∧ i ≤ l.length ∧ ∀ j (hj : j < l.length), j < i → prE kinds l[j] = 0) (l.length) (0) (GhI.of_wk ⟨by simp [ovr, uk, lessT, neJ2, neJ2', neJ3, neJ3'], by simp [lessR, lk, neJ2, neJ2', neJ3, neJ3'], by (try dsimp only); omega, keep0⟩) (⟨rfl, Nat.zero_le _, fun j hj hji => by omega⟩) ?_
  intro k1 x1 j1 hr1
  obtain ⟨rfl, hi1, hok⟩ := hr1
  simp only [ovr, uk, List.set_cons_zero, List.set_cons_succ]
  refine PI.q ?_
  refine PI.q ?_
  refine rg33w8 (j1 + 8) [] fun all4 _ => ?_
  refine GoI.runN 2 nfw8 ?_
  refine GoI.z nfw8 ?_
  refine PI.d 13 nfw8 (fun hb1 => ?_) (fun hb1 => ?_)
  ·
   try simp only [hb1]
   obtain ⟨hlt, hw⟩ := up hb1 hl'
   have hx1 := exs_at hlt
   have hts : (l.take (x1 + 1)).map (fun e => (chkX kinds e).1) = (l.take x1).map (fun e => (chkX kinds e).1) ++ [(chkX kinds l[x1]).1] := map_snoc hlt
   have hX := okX' kinds l[x1] (hx _ (List.getElem_mem hlt))
   have hap : ((l.take x1).length + 1) * 8 ≤ 140737488355328 := by simp; omega
   have hpr : prE kinds l[x1] = if (chkX kinds l[x1]).2 != 0 then (chkX kinds l[x1]).2 else if (chkX kinds l[x1]).1 == 0 then 7 else 0 := rfl
   generalize chkX kinds l[x1] = R at hX hts hpr
   generalize hE : l[x1] = e1 at hX hx1
   obtain ⟨op, int, v, name, args⟩ := e1
   rw [aE_mk] at hX
   rw [encE_mk] at hx1
   replace U := U.cons (And.intro (hw) (And.intro (hx1) (hap)))
   refine PI.s ?_
   refine PI.q ?_
   refine PI.b 1 ?_
   refine PI.q ?_
   refine rg33w8 (j1 + 19) [] fun all5 _ => ?_
   refine GoI.runN 2 nfw8 ?_
   refine GoI.runN 2 nfw8 ?_
   refine GoI.run nfw8 ?_
   refine GoI.call nfw8 nfw8 (by exact hX) ?_
   refine GoI.runN 2 nfw8 ?_
   refine GoI.runN 2 nfw8 ?_
   refine GoI.z nfw8 ?_
   refine PI.q ?_
   refine PI.q ?_
   refine rg33w8 (j1 + 21) [] fun all6 _ => ?_
   refine GoI.z nfw8 ?_
   refine PI.d 26 nfw8 (fun hb2 => ?_) (fun hb2 => ?_)
   ·
    try simp only [hb2]
    have h2 : (R.2 != 0) = true := by simpa using hb2
    rw [if_pos h2] at hpr
    rw [proj_err hlt hok (by rw [hpr]; simpa using h2), hpr]
    refine PI.q ?_
    refine rg33w8 (j1 + 24) [] fun all7 _ => ?_
    refine GoI.runN 2 nfw8 ?_
    refine GoI.z nfw8 ?_
    refine PI.r ?_
    exact FinI.mk _ nfw8 (by clear U; simp [finR, nrmA, nrm, AV.content])
   try simp only [hb2]
   have h2 : R.2 = 0 := by simpa using hb2
   rw [if_neg (by rw [h2]; decide)] at hpr
   refine PI.s ?_
   refine PI.q ?_
   refine PI.q ?_
   refine rg33w8 (j1 + 23) [] fun all8 _ => ?_
   refine GoI.z nfw8 ?_
   refine PI.d 29 nfw8 (fun hb3 => ?_) (fun hb3 => ?_)
   ·
    try simp only [hb3]
    rw [if_pos hb3] at hpr
    rw [proj_err hlt hok (by rw [hpr]; decide), hpr]
    refine PI.q ?_
    refine rg33w8 (j1 + 25) [] fun all9 _ => ?_
    refine GoI.z nfw8 ?_
    refine PI.r ?_
    exact FinI.mk _ nfw8 (by clear U; simp [finR, nrmA, nrm, AV.content])
   try simp only [hb3]
   rw [if_neg (by rw [hb3]; decide)] at hpr
   refine PI.s ?_
   refine rg33w8 (j1 + 28) [] fun all10 _ => ?_
   refine GoI.runN 2 nfw8 ?_
   refine GoI.runN 2 nfw8 ?_
   refine GoI.z nfw8 ?_
   refine rg33w8 (j1 + 31) [] fun all11 _ => ?_
   refine GoI.runN 2 nfw8 ?_
   refine GoI.z nfw8 ?_
   refine ⟨l.length - (x1 + 1), x1 + 1, j1 + 27, by omega, ⟨rfl, by omega, pr_succ hok hlt hpr⟩, GhI.of_wk ⟨by simp only [ovr, uk, lessT, hts, List.map_append, List.map_cons, List.map_nil]; simp [lessT], by simp [lessR, lk], by (try dsimp only); omega, keep0⟩⟩
  try simp only [hb1]
  have hge := dn hb1
  rw [List.take_of_length_le hge]
  rw [proj_ok (fun j hj => hok j hj (by omega))]
  refine PI.e 0 ?_
  refine PI.q ?_
  refine rg33w8 (j1 + 11) [] fun all12 _ => ?_
  refine GoI.runN 2 nfw8 ?_
  refine GoI.z nfw8 ?_
  refine PI.r ?_
  exact FinI.mk _ nfw8 (by clear U; simp [finR, nrmA, nrm, AV.content])
end Go.FE
