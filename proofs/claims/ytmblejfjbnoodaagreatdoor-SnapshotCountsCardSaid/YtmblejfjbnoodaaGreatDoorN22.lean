/- The document's kinds of a grouping. -/
import Derived.Test.YtmblejfjbnoodaaGreatDoorN09
import Derived.Test.YtmblejfjbnoodaaGreatDoorN21
set_option linter.unusedVariables false
set_option linter.unusedSimpArgs false
namespace Go.FE
open Go.Proofs
theorem nf25 {α : Type} {a b : α} (h : a = b := by simp only [goP, goN, mrk, Nat.reduceMul, Nat.one_mul, Nat.mul_one, eq_self, false_implies, implies_true, Nat.reduceLT, List.getElem?_toArray, isCall, List.contains_nil, List.contains_cons, Nat.reduceBEq, Bool.or_false, Bool.or_self, List.length_map, gOf, step, stepM, stepP, ev, okV, if_true, if_false, allocA, storeA, boxA, one1, tokN, tok1, buildA, rowA, nrmP, partV, partA, fieldA, fieldV, elemA, lenA, bltA, asSl, appA, makeA, makeR, cutA, bndA, binV, intOp, strOp, unV, eqB, nilB, sameT, List.all_cons, List.all_nil, Bool.and_self, Bool.and_true, Bool.true_and, List.map_cons, List.map_nil, List.nil_append, List.cons_append, List.append_nil, AV.bare, AV.content, AV.clean, AV.one, putD, List.set_cons_zero, List.set_cons_succ, List.reverse_cons, List.reverse_nil, List.getD_cons_zero, List.getD_cons_succ, List.getElem?_cons_zero, List.getElem?_cons_succ, Option.getD_some, Option.map_some, Option.map_none, Option.bind_some, List.length_cons, List.length_nil, lk, cellsA, fillA, fillS, isAggD, spl, nrm, nrmA, List.take_succ_cons, List.take_zero, List.drop_succ_cons, List.drop_zero, List.drop_nil, List.take_nil, Nat.reduceAdd, Nat.zero_add, Nat.add_zero, Nat.add_assoc, Nat.add_left_cancel_iff, reduceCtorEq, Prod.mk.injEq, List.cons.injEq, and_self, and_true, true_and, Nat.le_refl, Nat.reduceLeDiff, Nat.reduceEqDiff, List.getElem?_nil, Int.reduceToNat, Int.reduceLE, Int.reduceLT, ite_self, List.forall_mem_cons, List.not_mem_nil, false_and, and_false, Bool.false_eq_true, List.replicate_zero, List.replicate_succ, Int.toNat_natCast, neJ2, neJ2', neJ3, neJ3', callOf, callOf2, fnOf, argsA, args2, Array.isEmpty_empty, resLL, resVL, beq_self_eq_true, neJ4, neJ4', neJ5, neJ5', neK, neK', neK2, neK2', neL, neL', neL2, neL2', st3, zt3, it3, ct3, se3, Tryz.underlying3, st4, zt4, it4, ct4, se4, Tryz.underlying4, st22, zt22, it22, ct22, se22, Tryz.underlying22, st29, zt29, it29, ct29, se29, Tryz.underlying29, st36, zt36, it36, ct36, se36, Tryz.underlying36, st48, zt48, it48, ct48, pt48, eqs48, se48, Tryz.underlying48, Tryz.results53, Int.natCast_nonneg, U.out] <;> rfl) : a = b := h
theorem rg53v25 {T : List Rid} {p : Path} {Q : Exit → SL → Prop} {tm : List AV} {L : RL} {n : Nat} {c : Code} {l : List Oper} (n' : Nat) (Qs : List Nat) (h : ∀ all, (ro c).toList = all → GoI Tryz.prog T p all false Qs n 0 l tm L fun tm' L' => Q .normal ⟨tm', L', n'⟩) (hk : kd c = 0 := by kernel_rfl) (hr : rd c = false := by kernel_rfl) (hl : (ro c).toList = l := by dsimp only [ro, s1, s2, c1, c2, bc, bod, Tryz.f53, Option.getD_some] <;> exact rfl) (hn : n + (ro c).size = n' := by kernel_rfl) : PI Tryz.prog T p c Q ⟨tm, L, n⟩ := PI.rg n' Qs hk hr hl (fun h => by cases h) hn (h _ rfl)
set_option maxHeartbeats 2000000 in
set_option maxRecDepth 100000 in
theorem okGrouped' (keys : List Int) (aggs : List Ag) (kinds : List Int) (hl : keys.length ≤ 100000) (hl2 : aggs.length ≤ 100000) : CallsOK Tryz.prog 53 [ints kinds, ints keys, aAggs aggs] (.tup [ints (grpK keys aggs kinds).1, aI (grpK keys aggs kinds).2]) := by
  have hl' : keys.length + aggs.length ≤ maxLen := by unfold maxLen; omega
  have U : Hid True := ⟨trivial⟩
  refine CallsOK.of_pi mixed Tryz.func53 (by kernel_rfl) (by kernel_rfl) (?_ : PI _ _ _ _ _ ⟨[ints kinds, ints keys, aAggs aggs, .und, .und, .und, .und, .und, .und, .und, .und, .und, .und, .und, .und, .und, .und, .und, .und, .und, .und, .und, .und, .und, .und, .und, .und, .und, .und, .und, .und, .und, .und, .und, .und, .und, .und, .und, .und, .und, .und, .und, .und, .und, .und, .und, .und, .und, .und, .und, .und, .und, .und, .und, .und, .und, .und, .und, .und, .und, .und, .und, .und, .und, .und, .und, .und, .und, .und, .und, .und, .und, .und, .und, .und, .und, .und, .und, .und, .und, .und, .und, .und, .und, .und, .und, .und, .und, .und, .und, .und, .und, .und, .und, .und, .und, .und, .und, .und, .und, .und, .und, .und, .und, .und, .und, .und, .und, .und, .und, .und, .und, .und, .und, .und, .und, .und, .und, .und, .und, .und, .und], [], 0⟩)
  refine PI.q ?_
  refine rg53v25 (2) [] fun all1 _ => ?_
  refine GoI.z nf25 ?_
  refine PI.q ?_
  refine rg53v25 (3) [] fun all2 _ => ?_
  refine GoI.z nf25 ?_
  refine PI.q ?_
  refine PI.q ?_
  refine rg53v25 (4) [] fun all3 _ => ?_
  refine GoI.z nf25 ?_
  refine PI.b 0 ?_
  refine PI.lo (by kernel_rfl) (X := Nat) (fun i => (9, aI i) :: (8, .sl (((keys.take i).map (kdA kinds)).map fun k => [aI k]) (some (([2], 0), i))) :: uk [6, 7, 12, 13, 14, 15, 16, 17, 18, 19, 20, 21, 22, 23, 24, 25, 26, 27, 28, 29, 30, 31, 32, 33, 34, 35, 36, 37, 38, 39, 40, 41]) (fun i => [(([2], 0), .tok i 3 1)]) (fun k i => k = keys.length - i ∧ i ≤ keys.length ∧ (keys.take i).all (inK kinds) = true) (keys.length) (0) (GhI.of_wk ⟨by simp [ovr, uk, lessT, neJ2, neJ2', neJ3, neJ3', neJ4, neJ4', neJ5, neJ5', neK, neK', neK2, neK2', neL, neL', neL2, neL2'], by simp [lessR, lk, neJ2, neJ2', neJ3, neJ3', neJ4, neJ4', neJ5, neJ5', neK, neK', neK2, neK2', neL, neL', neL2, neL2'], by (try dsimp only); omega, keep0⟩) (by simp) ?_
  intro k1 x1 j1 hr1
  obtain ⟨rfl, hi1, hka⟩ := hr1
  simp only [ovr, uk, List.set_cons_zero, List.set_cons_succ]
  refine PI.q ?_
  refine PI.q ?_
  refine rg53v25 (j1 + 8) [] fun all4 _ => ?_
  refine GoI.runN 2 nf25 ?_
  refine GoI.z nf25 ?_
  refine PI.d 15 nf25 (fun hb1 => ?_) (fun hb1 => ?_)
  ·
   try simp only [hb1]
   obtain ⟨hlt, hw⟩ := up hb1 (by omega)
   have hx := ints_at hlt
   have hap : ((keys.take x1).length + 1) * 8 ≤ 140737488355328 := by simp; omega
   replace U := U.cons (And.intro (hw) (And.intro (hx) (hap)))
   refine PI.s ?_
   refine PI.q ?_
   refine PI.b 1 ?_
   refine PI.q ?_
   refine PI.q ?_
   refine rg53v25 (j1 + 22) [] fun all5 hall5 => ?_
   have hgd5_5 : (all5[5]?).bind (fun o => o.dst) = some 23 := by rw [← hall5]; kernel_rfl
   replace U := U.cons (hgd5_5)
   refine GoI.runN 2 nf25 ?_
   refine GoI.runN 2 nf25 ?_
   refine GoI.runN 2 nf25 ?_
   refine GoI.grd 23 nf25 (fun hg1 => ?_) (fun hg1 => ?_)
   ·
    try simp only [hg1]
    simp only [decide_eq_true_eq, decide_eq_false_iff_not, beq_iff_eq, beq_eq_false_iff_ne, ne_eq, bne_iff_ne, bne_eq_false_iff_eq, Decidable.not_not] at hg1
    refine GoI.runN 2 nf25 ?_
    refine GoI.runN 2 nf25 ?_
    refine GoI.runN 2 nf25 ?_
    refine GoI.z nf25 ?_
    refine PI.t 31 nf25 ?_
    have hbad : inK kinds keys[x1] = false := by unfold inK; simp; first | omega | (simp at hb2; omega)
    have hres := grpK_bad (aggs := aggs) (all_not hlt hbad)
    rw [hres]
    refine PI.q ?_
    refine rg53v25 (j1 + 24) [] fun all6 _ => ?_
    refine GoI.z nf25 ?_
    refine PI.r ?_
    exact FinI.mk _ nf25 (by clear U; (try rfl))
   try simp only [hg1]
   simp only [decide_eq_true_eq, decide_eq_false_iff_not, beq_iff_eq, beq_eq_false_iff_ne, ne_eq, bne_iff_ne, bne_eq_false_iff_eq, Decidable.not_not] at hg1
   refine GoI.runN 2 nf25 ?_
   refine GoI.runN 2 nf25 ?_
   refine GoI.runN 2 nf25 ?_
   refine GoI.z nf25 ?_
   refine PI.d 31 nf25 (fun hb2 => ?_) (fun hb2 => ?_)
   ·
    try simp only [hb2]
    have hbad : inK kinds keys[x1] = false := by unfold inK; simp; first | omega | (simp at hb2; omega)
    have hres := grpK_bad (aggs := aggs) (all_not hlt hbad)
    rw [hres]
    refine PI.q ?_
    refine rg53v25 (j1 + 24) [] fun all6 _ => ?_
    refine GoI.z nf25 ?_
    refine PI.r ?_
    exact FinI.mk _ nf25 (by clear U; (try rfl))
   try simp only [hb2]
   have hk0 : 0 ≤ keys[x1] := by simp at hb2; omega
   have hk1 : keys[x1] < kinds.length := by simp at hb2; omega
   have hgood : inK kinds keys[x1] = true := by unfold inK; simp; omega
   have hy := kd_at hk0 hk1
   replace U := U.cons (And.intro (hk0) (And.intro (hk1) (hy)))
   refine PI.s ?_
   refine rg53v25 (j1 + 33) [] fun all7 _ => ?_
   refine GoI.runN 2 nf25 ?_
   refine GoI.runN 2 nf25 ?_
   refine GoI.runN 2 nf25 ?_
   refine GoI.runN 2 nf25 ?_
   refine GoI.runN 2 nf25 ?_
   refine GoI.z nf25 ?_
   refine rg53v25 (j1 + 36) [] fun all8 _ => ?_
   refine GoI.runN 2 nf25 ?_
   refine GoI.z nf25 ?_
   refine ⟨keys.length - (x1 + 1), x1 + 1, j1 + 32, by omega, ⟨rfl, by omega, all_take hlt hka hgood⟩, GhI.of_wk ⟨by simp only [ovr, uk, lessT, map_take_succ' hlt, List.map_append, List.map_cons, List.map_nil]; simp [lessT], by simp [lessR, lk], by (try dsimp only); omega, keep0⟩⟩
  try simp only [hb1]
  have hge := dn hb1
  have hxe : x1 = keys.length := by omega
  subst hxe
  rw [List.take_length] at hka
  simp only [List.take_length]
  refine PI.e 0 ?_
  refine PI.q ?_
  refine PI.q ?_
  refine rg53v25 (j1 + 9) [] fun all9 _ => ?_
  refine GoI.z nf25 ?_
  refine PI.b 2 ?_
  refine PI.lo (by kernel_rfl) (X := Nat) (fun i => (10, aI i) :: (8, .sl ((keys.map (kdA kinds) ++ (aggs.take i).map (fun a => (aggK kinds a).2)).map fun k => [aI k]) (some (([2], 0), keys.length + i))) :: uk [6, 7, 11, 42, 43, 44, 45, 46, 47, 48, 49, 50, 51, 52, 53, 54, 55, 56, 57, 58, 59, 60, 61, 62, 63, 64, 65, 66, 67, 68, 69, 70, 71, 72, 73, 74, 75, 76, 77, 78, 79, 80, 81, 82, 83, 84, 85, 86, 87, 88, 89, 90, 91, 92, 93, 94, 95, 96, 97, 98, 99, 100, 101, 102, 103, 104, 105, 106, 107, 108, 109, 110, 111, 112, 113, 114, 115, 116, 117, 118, 119, 120]) (fun i => [(([2], 0), .tok (keys.length + i) 3 1)]) (fun k i => k = aggs.length - i ∧ i ≤ aggs.length ∧ ∀ j (hj : j < aggs.length), j < i → (aggK kinds aggs[j]).1 = 0) (aggs.length) (0) (GhI.of_wk ⟨by simp [ovr, uk, lessT, neJ2, neJ2', neJ3, neJ3', neJ4, neJ4', neJ5, neJ5', neK, neK', neK2, neK2', neL, neL', neL2, neL2'], by simp [lessR, lk, neJ2, neJ2', neJ3, neJ3', neJ4, neJ4', neJ5, neJ5', neK, neK', neK2, neK2', neL, neL', neL2, neL2'], by (try dsimp only); omega, keep0⟩) (⟨rfl, Nat.zero_le _, fun j hj hji => by omega⟩) ?_
  intro k2 x2 j2 hr2
  obtain ⟨rfl, hi2, hok⟩ := hr2
  simp only [ovr, uk, List.set_cons_zero, List.set_cons_succ]
  refine PI.q ?_
  refine PI.q ?_
  refine rg53v25 (j2 + (j1 + 13)) [] fun all10 _ => ?_
  refine GoI.runN 2 nf25 ?_
  refine GoI.z nf25 ?_
  refine PI.d 45 nf25 (fun hb3 => ?_) (fun hb3 => ?_)
  ·
   try simp only [hb3]
   obtain ⟨hlt2, hw2⟩ := up hb3 (by omega)
   have hx2 := aggs_at hlt2
   have hts : (aggs.take (x2 + 1)).map (fun a => (aggK kinds a).2) = (aggs.take x2).map (fun a => (aggK kinds a).2) ++ [(aggK kinds aggs[x2]).2] := map_take_succ' hlt2
   have hap2 : ((keys.map (kdA kinds) ++ (aggs.take x2).map (fun a => (aggK kinds a).2)).length + 1) * 8 ≤ 140737488355328 := by simp; omega
   generalize hA : aggs[x2] = A
   rw [hA] at hts
   replace U := U.cons (And.intro (hw2) (And.intro (hx2) (And.intro (hap2) (hA))))
   refine PI.s ?_
   refine PI.q ?_
   refine PI.b 3 ?_
   refine PI.q ?_
   refine rg53v25 (j2 + (j1 + 19)) [] fun all11 _ => ?_
   refine GoI.runN 2 nf25 ?_
   refine GoI.runN 2 nf25 ?_
   refine GoI.z nf25 ?_
   refine PI.sj (by kernel_rfl) (by kernel_rfl) (X := Unit) (fun _ => uk [6, 7, 52, 53, 54, 55, 56, 57, 58, 59, 60, 61, 62, 63, 64, 65, 66, 67, 68, 69]) (fun _ => [(([2], 0), .tok (keys.length + x2) 3 1), (([j2 + (j1 + 17)], 0), .var 48 [aI A.op, aI A.arg])]) (fun _ => 1 ≤ A.op ∧ A.op ≤ 4) ?_ ?_
   ·
    refine PI.q ?_
    refine rg53v25 (j2 + (j1 + 37)) [] fun all12 hall12 => ?_
    have hgd12_3 : (all12[3]?).bind (fun o => o.dst) = some 55 := by rw [← hall12]; kernel_rfl
    have hgd12_8 : (all12[8]?).bind (fun o => o.dst) = some 60 := by rw [← hall12]; kernel_rfl
    have hgd12_13 : (all12[13]?).bind (fun o => o.dst) = some 65 := by rw [← hall12]; kernel_rfl
    replace U := U.cons (And.intro (hgd12_3) (And.intro (hgd12_8) (hgd12_13)))
    refine GoI.runN 2 nf25 ?_
    refine GoI.runN 2 nf25 ?_
    refine GoI.grd 55 nf25 (fun hg2 => ?_) (fun hg2 => ?_)
    ·
     try simp only [hg2]
     simp only [decide_eq_true_eq, decide_eq_false_iff_not, beq_iff_eq, beq_eq_false_iff_ne, ne_eq, bne_iff_ne, bne_eq_false_iff_eq, Decidable.not_not] at hg2
     refine GoI.runN 2 nf25 ?_
     refine GoI.runN 2 nf25 ?_
     refine GoI.runN 1 nf25 ?_
     refine GoI.grd 60 nf25 (fun hg3 => ?_) (fun hg3 => ?_)
     ·
      try simp only [hg3]
      simp only [decide_eq_true_eq, decide_eq_false_iff_not, beq_iff_eq, beq_eq_false_iff_ne, ne_eq, bne_iff_ne, bne_eq_false_iff_eq, Decidable.not_not] at hg3
      refine GoI.runN 2 nf25 ?_
      refine GoI.runN 2 nf25 ?_
      refine GoI.runN 1 nf25 ?_
      refine GoI.grd 65 nf25 (fun hg4 => ?_) (fun hg4 => ?_)
      ·
       try simp only [hg4]
       simp only [decide_eq_true_eq, decide_eq_false_iff_not, beq_iff_eq, beq_eq_false_iff_ne, ne_eq, bne_iff_ne, bne_eq_false_iff_eq, Decidable.not_not] at hg4
       refine GoI.runN 2 nf25 ?_
       refine GoI.z nf25 ?_
       refine PI.d 69 nf25 (fun hb4 => ?_) (fun hb4 => ?_)
       ·
        try simp only [hb4]
        have he : aggK kinds A = (7, 0) := by unfold aggK; rw [if_pos (by simp; first | omega | (simp at hb4; omega))]
        rw [grpK_err (k := 0) hka hlt2 hok (by rw [hA]; exact he) (by decide)]
        refine PI.q ?_
        refine rg53v25 (j2 + (j1 + 39)) [] fun all13 _ => ?_
        refine GoI.z nf25 ?_
        refine PI.r ?_
        exact FinI.mk _ nf25 (by clear U; (try rfl))
       try simp only [hb4]
       have hn4 : 1 ≤ A.op ∧ A.op ≤ 4 := by first | omega | (simp at hb4; omega)
       refine PI.s ?_
       refine ⟨(), 18, hn4, GhI.of_wk ⟨by simp [ovr, uk, lessT, neJ2, neJ2', neJ3, neJ3', neJ4, neJ4', neJ5, neJ5', neK, neK', neK2, neK2', neL, neL', neL2, neL2'], by simp [lessR, lk, neJ2, neJ2', neJ3, neJ3', neJ4, neJ4', neJ5, neJ5', neK, neK', neK2, neK2', neL, neL', neL2, neL2'], by (try dsimp only); omega, keep0⟩⟩
      try simp only [hg4]
      simp only [decide_eq_true_eq, decide_eq_false_iff_not, beq_iff_eq, beq_eq_false_iff_ne, ne_eq, bne_iff_ne, bne_eq_false_iff_eq, Decidable.not_not] at hg4
      refine GoI.runN 2 nf25 ?_
      refine GoI.z nf25 ?_
      refine PI.f 69 nf25 ?_
      have hn4 : 1 ≤ A.op ∧ A.op ≤ 4 := by first | omega | (simp at hb4; omega)
      refine PI.s ?_
      refine ⟨(), 18, hn4, GhI.of_wk ⟨by simp [ovr, uk, lessT, neJ2, neJ2', neJ3, neJ3', neJ4, neJ4', neJ5, neJ5', neK, neK', neK2, neK2', neL, neL', neL2, neL2'], by simp [lessR, lk, neJ2, neJ2', neJ3, neJ3', neJ4, neJ4', neJ5, neJ5', neK, neK', neK2, neK2', neL, neL', neL2, neL2'], by (try dsimp only); omega, keep0⟩⟩
     try simp only [hg3]
     simp only [decide_eq_true_eq, decide_eq_false_iff_not, beq_iff_eq, beq_eq_false_iff_ne, ne_eq, bne_iff_ne, bne_eq_false_iff_eq, Decidable.not_not] at hg3
     refine GoI.runN 2 nf25 ?_
     refine GoI.runN 2 nf25 ?_
     refine GoI.runN 2 nf25 ?_
     refine GoI.runN 2 nf25 ?_
     refine GoI.z nf25 ?_
     refine PI.f 69 nf25 ?_
     have hn4 : 1 ≤ A.op ∧ A.op ≤ 4 := by first | omega | (simp at hb4; omega)
     refine PI.s ?_
     refine ⟨(), 18, hn4, GhI.of_wk ⟨by simp [ovr, uk, lessT, neJ2, neJ2', neJ3, neJ3', neJ4, neJ4', neJ5, neJ5', neK, neK', neK2, neK2', neL, neL', neL2, neL2'], by simp [lessR, lk, neJ2, neJ2', neJ3, neJ3', neJ4, neJ4', neJ5, neJ5', neK, neK', neK2, neK2', neL, neL', neL2, neL2'], by (try dsimp only); omega, keep0⟩⟩
    try simp only [hg2]
    simp only [decide_eq_true_eq, decide_eq_false_iff_not, beq_iff_eq, beq_eq_false_iff_ne, ne_eq, bne_iff_ne, bne_eq_false_iff_eq, Decidable.not_not] at hg2
    refine GoI.runN 2 nf25 ?_
    refine GoI.runN 2 nf25 ?_
    refine GoI.runN 2 nf25 ?_
    refine GoI.runN 2 nf25 ?_
    refine GoI.runN 2 nf25 ?_
    refine GoI.runN 2 nf25 ?_
    refine GoI.z nf25 ?_
    refine PI.f 69 nf25 ?_
    have hn4 : 1 ≤ A.op ∧ A.op ≤ 4 := by first | omega | (simp at hb4; omega)
    refine PI.s ?_
    refine ⟨(), 18, hn4, GhI.of_wk ⟨by simp [ovr, uk, lessT, neJ2, neJ2', neJ3, neJ3', neJ4, neJ4', neJ5, neJ5', neK, neK', neK2, neK2', neL, neL', neL2, neL2'], by simp [lessR, lk, neJ2, neJ2', neJ3, neJ3', neJ4, neJ4', neJ5, neJ5', neK, neK', neK2, neK2', neL, neL', neL2, neL2'], by (try dsimp only); omega, keep0⟩⟩
   intro y4 i1 hr4
   have hn4 := hr4
   simp only [ovr, uk, List.set_cons_zero, List.set_cons_succ]
   refine PI.q ?_
   refine PI.q ?_
   refine rg53v25 (i1 + (j2 + (j1 + 27))) [] fun all14 hall14 => ?_
   have hgd14_3 : (all14[3]?).bind (fun o => o.dst) = some 73 := by rw [← hall14]; kernel_rfl
   replace U := U.cons (hgd14_3)
   refine GoI.runN 2 nf25 ?_
   refine GoI.runN 2 nf25 ?_
   refine GoI.grd 73 nf25 (fun hg5 => ?_) (fun hg5 => ?_)
   ·
    try simp only [hg5]
    simp only [decide_eq_true_eq, decide_eq_false_iff_not, beq_iff_eq, beq_eq_false_iff_ne, ne_eq, bne_iff_ne, bne_eq_false_iff_eq, Decidable.not_not] at hg5
    refine GoI.runN 2 nf25 ?_
    refine GoI.z nf25 ?_
    refine PI.d 77 nf25 (fun hb5 => ?_) (fun hb5 => ?_)
    ·
     try simp only [hb5]
     have h5 : A.op = 1 := by simpa using hb5
     have he : aggK kinds A = (0, 1) := by unfold aggK; rw [if_neg (by simp; omega), if_pos (by simp; omega)]
     rw [he] at hts
     have hok2 := ok_succ hok hlt2 (by rw [hA, he])
     refine PI.q ?_
     refine rg53v25 (i1 + (j2 + (j1 + 31))) [] fun all15 _ => ?_
     refine GoI.runN 2 nf25 ?_
     refine GoI.z nf25 ?_
     refine PI.e 3 ?_
     refine rg53v25 (i1 + (j2 + (j1 + 34))) [] fun all23 _ => ?_
     refine GoI.runN 2 nf25 ?_
     refine GoI.z nf25 ?_
     refine ⟨aggs.length - (x2 + 1), x2 + 1, i1 + (j2 + 25), by omega, ⟨rfl, by omega, hok2⟩, GhI.of_wk ⟨by simp only [ovr, uk, lessT, hts, List.map_append, List.map_cons, List.map_nil]; simp [lessT], by simp [lessR, lk], by (try dsimp only); omega, keep0⟩⟩
    try simp only [hb5]
    have h5 : A.op ≠ 1 := by simpa using hb5
    refine PI.s ?_
    refine PI.q ?_
    refine PI.q ?_
    refine rg53v25 (i1 + (j2 + (j1 + 37))) [] fun all16 hall16 => ?_
    have hgd16_3 : (all16[3]?).bind (fun o => o.dst) = some 84 := by rw [← hall16]; kernel_rfl
    replace U := U.cons (hgd16_3)
    refine GoI.runN 2 nf25 ?_
    refine GoI.runN 2 nf25 ?_
    refine GoI.grd 84 nf25 (fun hg6 => ?_) (fun hg6 => ?_)
    ·
     try simp only [hg6]
     simp only [decide_eq_true_eq, decide_eq_false_iff_not, beq_iff_eq, beq_eq_false_iff_ne, ne_eq, bne_iff_ne, bne_eq_false_iff_eq, Decidable.not_not] at hg6
     refine GoI.runN 2 nf25 ?_
     refine GoI.runN 2 nf25 ?_
     refine GoI.z nf25 ?_
     refine PI.t 90 nf25 ?_
     have he : aggK kinds A = (6, 0) := by unfold aggK; rw [if_neg (by simp; omega), if_neg (by simp; omega), if_pos (by simp; first | omega | (simp at hb6; omega))]
     rw [grpK_err (k := 0) hka hlt2 hok (by rw [hA]; exact he) (by decide)]
     refine PI.q ?_
     refine rg53v25 (i1 + (j2 + (j1 + 39))) [] fun all17 _ => ?_
     refine GoI.z nf25 ?_
     refine PI.r ?_
     exact FinI.mk _ nf25 (by clear U; (try rfl))
    try simp only [hg6]
    simp only [decide_eq_true_eq, decide_eq_false_iff_not, beq_iff_eq, beq_eq_false_iff_ne, ne_eq, bne_iff_ne, bne_eq_false_iff_eq, Decidable.not_not] at hg6
    refine GoI.runN 2 nf25 ?_
    refine GoI.runN 2 nf25 ?_
    refine GoI.z nf25 ?_
    refine PI.d 90 nf25 (fun hb6 => ?_) (fun hb6 => ?_)
    ·
     try simp only [hb6]
     have he : aggK kinds A = (6, 0) := by unfold aggK; rw [if_neg (by simp; omega), if_neg (by simp; omega), if_pos (by simp; first | omega | (simp at hb6; omega))]
     rw [grpK_err (k := 0) hka hlt2 hok (by rw [hA]; exact he) (by decide)]
     refine PI.q ?_
     refine rg53v25 (i1 + (j2 + (j1 + 39))) [] fun all17 _ => ?_
     refine GoI.z nf25 ?_
     refine PI.r ?_
     exact FinI.mk _ nf25 (by clear U; (try rfl))
    try simp only [hb6]
    have h60 : 0 ≤ A.arg := by omega
    have h61 : A.arg < kinds.length := by simp at hb6; omega
    have hy2 := kd_at h60 h61
    replace U := U.cons (And.intro (h60) (And.intro (h61) (hy2)))
    refine PI.s ?_
    refine PI.sj (by kernel_rfl) (by kernel_rfl) (X := Unit) (fun _ => uk [6, 7, 91, 92, 93, 94, 95, 96, 97, 98, 99, 100, 101]) (fun _ => [(([2], 0), .tok (keys.length + x2) 3 1), (([j2 + (j1 + 17)], 0), .var 48 [aI A.op, aI A.arg])]) (fun _ => (aggK kinds A).1 = 0) ?_ ?_
    ·
     refine PI.q ?_
     refine rg53v25 (i1 + (j2 + (j1 + 48))) [] fun all18 hall18 => ?_
     have hgd18_3 : (all18[3]?).bind (fun o => o.dst) = some 94 := by rw [← hall18]; kernel_rfl
     replace U := U.cons (hgd18_3)
     refine GoI.runN 2 nf25 ?_
     refine GoI.runN 2 nf25 ?_
     refine GoI.grd 94 nf25 (fun hg7 => ?_) (fun hg7 => ?_)
     ·
      try simp only [hg7]
      simp only [decide_eq_true_eq, decide_eq_false_iff_not, beq_iff_eq, beq_eq_false_iff_ne, ne_eq, bne_iff_ne, bne_eq_false_iff_eq, Decidable.not_not] at hg7
      refine GoI.runN 2 nf25 ?_
      refine GoI.runN 2 nf25 ?_
      refine GoI.runN 2 nf25 ?_
      refine GoI.z nf25 ?_
      refine PI.d 101 nf25 (fun hb7 => ?_) (fun hb7 => ?_)
      ·
       try simp only [hb7]
       have h7 : kdA kinds A.arg ≠ 1 := by simpa using hb7
       have he : aggK kinds A = (7, 0) := by unfold aggK; rw [if_neg (by simp; omega), if_neg (by simp; omega), if_neg (by simp; omega), if_pos (by simp; omega)]
       rw [grpK_err (k := 0) hka hlt2 hok (by rw [hA]; exact he) (by decide)]
       refine PI.q ?_
       refine rg53v25 (i1 + (j2 + (j1 + 50))) [] fun all19 _ => ?_
       refine GoI.z nf25 ?_
       refine PI.r ?_
       exact FinI.mk _ nf25 (by clear U; (try rfl))
      try simp only [hb7]
      have h7 : kdA kinds A.arg = 1 := by simpa using hb7
      have he : (aggK kinds A).1 = 0 := by unfold aggK; rw [if_neg (by simp; omega), if_neg (by simp; omega), if_neg (by simp; omega), if_neg (by simp; omega)]
      refine PI.s ?_
      refine ⟨(), 11, he, GhI.of_wk ⟨by simp [ovr, uk, lessT, neJ2, neJ2', neJ3, neJ3', neJ4, neJ4', neJ5, neJ5', neK, neK', neK2, neK2', neL, neL', neL2, neL2'], by simp [lessR, lk, neJ2, neJ2', neJ3, neJ3', neJ4, neJ4', neJ5, neJ5', neK, neK', neK2, neK2', neL, neL', neL2, neL2'], by (try dsimp only); omega, keep0⟩⟩
     try simp only [hg7]
     simp only [decide_eq_true_eq, decide_eq_false_iff_not, beq_iff_eq, beq_eq_false_iff_ne, ne_eq, bne_iff_ne, bne_eq_false_iff_eq, Decidable.not_not] at hg7
     refine GoI.runN 2 nf25 ?_
     refine GoI.runN 2 nf25 ?_
     refine GoI.runN 2 nf25 ?_
     refine GoI.z nf25 ?_
     refine PI.f 101 nf25 ?_
     have he : (aggK kinds A).1 = 0 := by unfold aggK; rw [if_neg (by simp; omega), if_neg (by simp; omega), if_neg (by simp; omega), if_neg (by simp; omega)]
     refine PI.s ?_
     refine ⟨(), 11, he, GhI.of_wk ⟨by simp [ovr, uk, lessT, neJ2, neJ2', neJ3, neJ3', neJ4, neJ4', neJ5, neJ5', neK, neK', neK2, neK2', neL, neL', neL2, neL2'], by simp [lessR, lk, neJ2, neJ2', neJ3, neJ3', neJ4, neJ4', neJ5, neJ5', neK, neK', neK2, neK2', neL, neL', neL2, neL2'], by (try dsimp only); omega, keep0⟩⟩
    intro y7 i2 hr7
    have he := hr7
    simp only [ovr, uk, List.set_cons_zero, List.set_cons_succ]
    refine PI.q ?_
    refine rg53v25 (i2 + (i1 + (j2 + (j1 + 45)))) [] fun all20 hall20 => ?_
    have hgd20_3 : (all20[3]?).bind (fun o => o.dst) = some 105 := by rw [← hall20]; kernel_rfl
    replace U := U.cons (hgd20_3)
    refine GoI.runN 2 nf25 ?_
    refine GoI.runN 2 nf25 ?_
    refine GoI.grd 105 nf25 (fun hg8 => ?_) (fun hg8 => ?_)
    ·
     try simp only [hg8]
     simp only [decide_eq_true_eq, decide_eq_false_iff_not, beq_iff_eq, beq_eq_false_iff_ne, ne_eq, bne_iff_ne, bne_eq_false_iff_eq, Decidable.not_not] at hg8
     refine GoI.runN 2 nf25 ?_
     refine GoI.z nf25 ?_
     refine PI.t 109 nf25 ?_
     have h8 : A.op = 3 ∨ A.op = 4 := by first | omega | (simp at hb8; omega)
     have hok2 := ok_succ hok hlt2 (by rw [hA]; exact he)
     obtain ⟨h34a, h34b, h34c⟩ := agg_34 he h8
     have hy3 := kd_at h34a h34b
     rw [h34c] at hts
     replace U := U.cons (And.intro (h34a) (And.intro (h34b) (hy3)))
     refine rg53v25 (i2 + (i1 + (j2 + (j1 + 54)))) [] fun all21 _ => ?_
     refine GoI.runN 2 nf25 ?_
     refine GoI.runN 2 nf25 ?_
     refine GoI.runN 2 nf25 ?_
     refine GoI.runN 2 nf25 ?_
     refine GoI.z nf25 ?_
     refine rg53v25 (i2 + (i1 + (j2 + (j1 + 57)))) [] fun all23 _ => ?_
     refine GoI.runN 2 nf25 ?_
     refine GoI.z nf25 ?_
     refine ⟨aggs.length - (x2 + 1), x2 + 1, i2 + (i1 + (j2 + 48)), by omega, ⟨rfl, by omega, hok2⟩, GhI.of_wk ⟨by simp only [ovr, uk, lessT, hts, List.map_append, List.map_cons, List.map_nil]; simp [lessT], by simp [lessR, lk], by (try dsimp only); omega, keep0⟩⟩
    try simp only [hg8]
    simp only [decide_eq_true_eq, decide_eq_false_iff_not, beq_iff_eq, beq_eq_false_iff_ne, ne_eq, bne_iff_ne, bne_eq_false_iff_eq, Decidable.not_not] at hg8
    refine GoI.runN 2 nf25 ?_
    refine GoI.z nf25 ?_
    refine PI.d 109 nf25 (fun hb8 => ?_) (fun hb8 => ?_)
    ·
     try simp only [hb8]
     have h8 : A.op = 3 ∨ A.op = 4 := by first | omega | (simp at hb8; omega)
     have hok2 := ok_succ hok hlt2 (by rw [hA]; exact he)
     obtain ⟨h34a, h34b, h34c⟩ := agg_34 he h8
     have hy3 := kd_at h34a h34b
     rw [h34c] at hts
     replace U := U.cons (And.intro (h34a) (And.intro (h34b) (hy3)))
     refine rg53v25 (i2 + (i1 + (j2 + (j1 + 54)))) [] fun all21 _ => ?_
     refine GoI.runN 2 nf25 ?_
     refine GoI.runN 2 nf25 ?_
     refine GoI.runN 2 nf25 ?_
     refine GoI.runN 2 nf25 ?_
     refine GoI.z nf25 ?_
     refine rg53v25 (i2 + (i1 + (j2 + (j1 + 57)))) [] fun all23 _ => ?_
     refine GoI.runN 2 nf25 ?_
     refine GoI.z nf25 ?_
     refine ⟨aggs.length - (x2 + 1), x2 + 1, i2 + (i1 + (j2 + 48)), by omega, ⟨rfl, by omega, hok2⟩, GhI.of_wk ⟨by simp only [ovr, uk, lessT, hts, List.map_append, List.map_cons, List.map_nil]; simp [lessT], by simp [lessR, lk], by (try dsimp only); omega, keep0⟩⟩
    try simp only [hb8]
    have h8 : ¬ (A.op = 3 ∨ A.op = 4) := by simp at hb8; omega
    have hok2 := ok_succ hok hlt2 (by rw [hA]; exact he)
    have h12 := agg_12 he h8
    rw [h12] at hts
    refine rg53v25 (i2 + (i1 + (j2 + (j1 + 49)))) [] fun all22 _ => ?_
    refine GoI.runN 2 nf25 ?_
    refine GoI.z nf25 ?_
    refine rg53v25 (i2 + (i1 + (j2 + (j1 + 52)))) [] fun all23 _ => ?_
    refine GoI.runN 2 nf25 ?_
    refine GoI.z nf25 ?_
    refine ⟨aggs.length - (x2 + 1), x2 + 1, i2 + (i1 + (j2 + 43)), by omega, ⟨rfl, by omega, hok2⟩, GhI.of_wk ⟨by simp only [ovr, uk, lessT, hts, List.map_append, List.map_cons, List.map_nil]; simp [lessT], by simp [lessR, lk], by (try dsimp only); omega, keep0⟩⟩
   try simp only [hg5]
   simp only [decide_eq_true_eq, decide_eq_false_iff_not, beq_iff_eq, beq_eq_false_iff_ne, ne_eq, bne_iff_ne, bne_eq_false_iff_eq, Decidable.not_not] at hg5
   refine GoI.runN 2 nf25 ?_
   refine GoI.z nf25 ?_
   refine PI.f 77 nf25 ?_
   refine PI.s ?_
   refine PI.q ?_
   refine PI.q ?_
   refine rg53v25 (i1 + (j2 + (j1 + 37))) [] fun all16 hall16 => ?_
   have hgd16_3 : (all16[3]?).bind (fun o => o.dst) = some 84 := by rw [← hall16]; kernel_rfl
   replace U := U.cons (hgd16_3)
   refine GoI.runN 2 nf25 ?_
   refine GoI.runN 2 nf25 ?_
   refine GoI.grd 84 nf25 (fun hg9 => ?_) (fun hg9 => ?_)
   ·
    try simp only [hg9]
    simp only [decide_eq_true_eq, decide_eq_false_iff_not, beq_iff_eq, beq_eq_false_iff_ne, ne_eq, bne_iff_ne, bne_eq_false_iff_eq, Decidable.not_not] at hg9
    refine GoI.runN 2 nf25 ?_
    refine GoI.runN 2 nf25 ?_
    refine GoI.z nf25 ?_
    refine PI.t 90 nf25 ?_
    have he : aggK kinds A = (6, 0) := by unfold aggK; rw [if_neg (by simp; omega), if_neg (by simp; omega), if_pos (by simp; first | omega | (simp at hb6; omega))]
    rw [grpK_err (k := 0) hka hlt2 hok (by rw [hA]; exact he) (by decide)]
    refine PI.q ?_
    refine rg53v25 (i1 + (j2 + (j1 + 39))) [] fun all17 _ => ?_
    refine GoI.z nf25 ?_
    refine PI.r ?_
    exact FinI.mk _ nf25 (by clear U; (try rfl))
   try simp only [hg9]
   simp only [decide_eq_true_eq, decide_eq_false_iff_not, beq_iff_eq, beq_eq_false_iff_ne, ne_eq, bne_iff_ne, bne_eq_false_iff_eq, Decidable.not_not] at hg9
   refine GoI.runN 2 nf25 ?_
   refine GoI.runN 2 nf25 ?_
   refine GoI.z nf25 ?_
   refine PI.d 90 nf25 (fun hb6 => ?_) (fun hb6 => ?_)
   ·
    try simp only [hb6]
    have he : aggK kinds A = (6, 0) := by unfold aggK; rw [if_neg (by simp; omega), if_neg (by simp; omega), if_pos (by simp; first | omega | (simp at hb6; omega))]
    rw [grpK_err (k := 0) hka hlt2 hok (by rw [hA]; exact he) (by decide)]
    refine PI.q ?_
    refine rg53v25 (i1 + (j2 + (j1 + 39))) [] fun all17 _ => ?_
    refine GoI.z nf25 ?_
    refine PI.r ?_
    exact FinI.mk _ nf25 (by clear U; (try rfl))
   try simp only [hb6]
   have h60 : 0 ≤ A.arg := by omega
   have h61 : A.arg < kinds.length := by simp at hb6; omega
   have hy2 := kd_at h60 h61
   replace U := U.cons (And.intro (h60) (And.intro (h61) (hy2)))
   refine PI.s ?_
   refine PI.sj (by kernel_rfl) (by kernel_rfl) (X := Unit) (fun _ => uk [6, 7, 91, 92, 93, 94, 95, 96, 97, 98, 99, 100, 101]) (fun _ => [(([2], 0), .tok (keys.length + x2) 3 1), (([j2 + (j1 + 17)], 0), .var 48 [aI A.op, aI A.arg])]) (fun _ => (aggK kinds A).1 = 0) ?_ ?_
   ·
    refine PI.q ?_
    refine rg53v25 (i1 + (j2 + (j1 + 48))) [] fun all18 hall18 => ?_
    have hgd18_3 : (all18[3]?).bind (fun o => o.dst) = some 94 := by rw [← hall18]; kernel_rfl
    replace U := U.cons (hgd18_3)
    refine GoI.runN 2 nf25 ?_
    refine GoI.runN 2 nf25 ?_
    refine GoI.grd 94 nf25 (fun hg10 => ?_) (fun hg10 => ?_)
    ·
     try simp only [hg10]
     simp only [decide_eq_true_eq, decide_eq_false_iff_not, beq_iff_eq, beq_eq_false_iff_ne, ne_eq, bne_iff_ne, bne_eq_false_iff_eq, Decidable.not_not] at hg10
     refine GoI.runN 2 nf25 ?_
     refine GoI.runN 2 nf25 ?_
     refine GoI.runN 2 nf25 ?_
     refine GoI.z nf25 ?_
     refine PI.d 101 nf25 (fun hb7 => ?_) (fun hb7 => ?_)
     ·
      try simp only [hb7]
      have h7 : kdA kinds A.arg ≠ 1 := by simpa using hb7
      have he : aggK kinds A = (7, 0) := by unfold aggK; rw [if_neg (by simp; omega), if_neg (by simp; omega), if_neg (by simp; omega), if_pos (by simp; omega)]
      rw [grpK_err (k := 0) hka hlt2 hok (by rw [hA]; exact he) (by decide)]
      refine PI.q ?_
      refine rg53v25 (i1 + (j2 + (j1 + 50))) [] fun all19 _ => ?_
      refine GoI.z nf25 ?_
      refine PI.r ?_
      exact FinI.mk _ nf25 (by clear U; (try rfl))
     try simp only [hb7]
     have h7 : kdA kinds A.arg = 1 := by simpa using hb7
     have he : (aggK kinds A).1 = 0 := by unfold aggK; rw [if_neg (by simp; omega), if_neg (by simp; omega), if_neg (by simp; omega), if_neg (by simp; omega)]
     refine PI.s ?_
     refine ⟨(), 11, he, GhI.of_wk ⟨by simp [ovr, uk, lessT, neJ2, neJ2', neJ3, neJ3', neJ4, neJ4', neJ5, neJ5', neK, neK', neK2, neK2', neL, neL', neL2, neL2'], by simp [lessR, lk, neJ2, neJ2', neJ3, neJ3', neJ4, neJ4', neJ5, neJ5', neK, neK', neK2, neK2', neL, neL', neL2, neL2'], by (try dsimp only); omega, keep0⟩⟩
    try simp only [hg10]
    simp only [decide_eq_true_eq, decide_eq_false_iff_not, beq_iff_eq, beq_eq_false_iff_ne, ne_eq, bne_iff_ne, bne_eq_false_iff_eq, Decidable.not_not] at hg10
    refine GoI.runN 2 nf25 ?_
    refine GoI.runN 2 nf25 ?_
    refine GoI.runN 2 nf25 ?_
    refine GoI.z nf25 ?_
    refine PI.f 101 nf25 ?_
    have he : (aggK kinds A).1 = 0 := by unfold aggK; rw [if_neg (by simp; omega), if_neg (by simp; omega), if_neg (by simp; omega), if_neg (by simp; omega)]
    refine PI.s ?_
    refine ⟨(), 11, he, GhI.of_wk ⟨by simp [ovr, uk, lessT, neJ2, neJ2', neJ3, neJ3', neJ4, neJ4', neJ5, neJ5', neK, neK', neK2, neK2', neL, neL', neL2, neL2'], by simp [lessR, lk, neJ2, neJ2', neJ3, neJ3', neJ4, neJ4', neJ5, neJ5', neK, neK', neK2, neK2', neL, neL', neL2, neL2'], by (try dsimp only); omega, keep0⟩⟩
   intro y7 i3 hr7
   have he := hr7
   simp only [ovr, uk, List.set_cons_zero, List.set_cons_succ]
   refine PI.q ?_
   refine rg53v25 (i3 + (i1 + (j2 + (j1 + 45)))) [] fun all20 hall20 => ?_
   have hgd20_3 : (all20[3]?).bind (fun o => o.dst) = some 105 := by rw [← hall20]; kernel_rfl
   replace U := U.cons (hgd20_3)
   refine GoI.runN 2 nf25 ?_
   refine GoI.runN 2 nf25 ?_
   refine GoI.grd 105 nf25 (fun hg11 => ?_) (fun hg11 => ?_)
   ·
    try simp only [hg11]
    simp only [decide_eq_true_eq, decide_eq_false_iff_not, beq_iff_eq, beq_eq_false_iff_ne, ne_eq, bne_iff_ne, bne_eq_false_iff_eq, Decidable.not_not] at hg11
    refine GoI.runN 2 nf25 ?_
    refine GoI.z nf25 ?_
    refine PI.t 109 nf25 ?_
    have h8 : A.op = 3 ∨ A.op = 4 := by first | omega | (simp at hb8; omega)
    have hok2 := ok_succ hok hlt2 (by rw [hA]; exact he)
    obtain ⟨h34a, h34b, h34c⟩ := agg_34 he h8
    have hy3 := kd_at h34a h34b
    rw [h34c] at hts
    replace U := U.cons (And.intro (h34a) (And.intro (h34b) (hy3)))
    refine rg53v25 (i3 + (i1 + (j2 + (j1 + 54)))) [] fun all21 _ => ?_
    refine GoI.runN 2 nf25 ?_
    refine GoI.runN 2 nf25 ?_
    refine GoI.runN 2 nf25 ?_
    refine GoI.runN 2 nf25 ?_
    refine GoI.z nf25 ?_
    refine rg53v25 (i3 + (i1 + (j2 + (j1 + 57)))) [] fun all23 _ => ?_
    refine GoI.runN 2 nf25 ?_
    refine GoI.z nf25 ?_
    refine ⟨aggs.length - (x2 + 1), x2 + 1, i3 + (i1 + (j2 + 48)), by omega, ⟨rfl, by omega, hok2⟩, GhI.of_wk ⟨by simp only [ovr, uk, lessT, hts, List.map_append, List.map_cons, List.map_nil]; simp [lessT], by simp [lessR, lk], by (try dsimp only); omega, keep0⟩⟩
   try simp only [hg11]
   simp only [decide_eq_true_eq, decide_eq_false_iff_not, beq_iff_eq, beq_eq_false_iff_ne, ne_eq, bne_iff_ne, bne_eq_false_iff_eq, Decidable.not_not] at hg11
   refine GoI.runN 2 nf25 ?_
   refine GoI.z nf25 ?_
   refine PI.d 109 nf25 (fun hb8 => ?_) (fun hb8 => ?_)
   ·
    try simp only [hb8]
    have h8 : A.op = 3 ∨ A.op = 4 := by first | omega | (simp at hb8; omega)
    have hok2 := ok_succ hok hlt2 (by rw [hA]; exact he)
    obtain ⟨h34a, h34b, h34c⟩ := agg_34 he h8
    have hy3 := kd_at h34a h34b
    rw [h34c] at hts
    replace U := U.cons (And.intro (h34a) (And.intro (h34b) (hy3)))
    refine rg53v25 (i3 + (i1 + (j2 + (j1 + 54)))) [] fun all21 _ => ?_
    refine GoI.runN 2 nf25 ?_
    refine GoI.runN 2 nf25 ?_
    refine GoI.runN 2 nf25 ?_
    refine GoI.runN 2 nf25 ?_
    refine GoI.z nf25 ?_
    refine rg53v25 (i3 + (i1 + (j2 + (j1 + 57)))) [] fun all23 _ => ?_
    refine GoI.runN 2 nf25 ?_
    refine GoI.z nf25 ?_
    refine ⟨aggs.length - (x2 + 1), x2 + 1, i3 + (i1 + (j2 + 48)), by omega, ⟨rfl, by omega, hok2⟩, GhI.of_wk ⟨by simp only [ovr, uk, lessT, hts, List.map_append, List.map_cons, List.map_nil]; simp [lessT], by simp [lessR, lk], by (try dsimp only); omega, keep0⟩⟩
   try simp only [hb8]
   have h8 : ¬ (A.op = 3 ∨ A.op = 4) := by simp at hb8; omega
   have hok2 := ok_succ hok hlt2 (by rw [hA]; exact he)
   have h12 := agg_12 he h8
   rw [h12] at hts
   refine rg53v25 (i3 + (i1 + (j2 + (j1 + 49)))) [] fun all22 _ => ?_
   refine GoI.runN 2 nf25 ?_
   refine GoI.z nf25 ?_
   refine rg53v25 (i3 + (i1 + (j2 + (j1 + 52)))) [] fun all23 _ => ?_
   refine GoI.runN 2 nf25 ?_
   refine GoI.z nf25 ?_
   refine ⟨aggs.length - (x2 + 1), x2 + 1, i3 + (i1 + (j2 + 43)), by omega, ⟨rfl, by omega, hok2⟩, GhI.of_wk ⟨by simp only [ovr, uk, lessT, hts, List.map_append, List.map_cons, List.map_nil]; simp [lessT], by simp [lessR, lk], by (try dsimp only); omega, keep0⟩⟩
  try simp only [hb3]
  have hge2 := dn hb3
  have hfin := grpK_ok hka (fun j hj => hok j hj (by omega))
  rw [hfin]
  rw [List.take_of_length_le hge2]
  refine PI.e 2 ?_
  refine PI.q ?_
  refine rg53v25 (j2 + (j1 + 16)) [] fun all24 _ => ?_
  refine GoI.runN 2 nf25 ?_
  refine GoI.z nf25 ?_
  refine PI.r ?_
  exact FinI.mk _ nf25 (by clear U; (try rfl))
end Go.FE
