/- The kind of an expression, or what is wrong with it. The document's kind of an expression. Expressions are checked. The document's check of expressions; predicates and projections. Predicates and projections. -/
import Derived.Test.YtmblejfjbnoodaaGreatDoorS09
import Derived.Test.YtmblejfjbnoodaaGreatDoorS24
set_option linter.unusedVariables false
set_option linter.unusedSimpArgs false
namespace Go.FE
open Go.Proofs
theorem nfw4 {α : Type} {a b : α} (h : a = b := by simp only [goP, goN, mrk, Nat.reduceMul, Nat.one_mul, Nat.mul_one, eq_self, false_implies, implies_true, Nat.reduceLT, List.getElem?_toArray, isCall, List.contains_nil, List.contains_cons, Nat.reduceBEq, Bool.or_false, Bool.or_self, List.length_map, gOf, step, stepM, stepP, ev, okV, if_true, if_false, allocA, storeA, boxA, one1, tokN, tok1, buildA, rowA, nrmP, partV, partA, fieldA, fieldV, elemA, lenA, bltA, asSl, appA, makeA, makeR, cutA, bndA, binV, intOp, strOp, unV, eqB, nilB, sameT, List.all_cons, List.all_nil, Bool.and_self, Bool.and_true, Bool.true_and, List.map_cons, List.map_nil, List.nil_append, List.cons_append, List.append_nil, AV.bare, AV.content, AV.clean, AV.one, putD, List.set_cons_zero, List.set_cons_succ, List.reverse_cons, List.reverse_nil, List.getD_cons_zero, List.getD_cons_succ, List.getElem?_cons_zero, List.getElem?_cons_succ, Option.getD_some, Option.map_some, Option.map_none, Option.bind_some, List.length_cons, List.length_nil, lk, cellsA, fillA, fillS, isAggD, spl, nrm, nrmA, List.take_succ_cons, List.take_zero, List.drop_succ_cons, List.drop_zero, List.drop_nil, List.take_nil, Nat.reduceAdd, Nat.zero_add, Nat.add_zero, Nat.add_assoc, Nat.add_left_cancel_iff, reduceCtorEq, Prod.mk.injEq, List.cons.injEq, and_self, and_true, true_and, Nat.le_refl, Nat.reduceLeDiff, Nat.reduceEqDiff, List.getElem?_nil, Int.reduceToNat, Int.reduceLE, Int.reduceLT, ite_self, List.forall_mem_cons, List.not_mem_nil, false_and, and_false, Bool.false_eq_true, List.replicate_zero, List.replicate_succ, Int.toNat_natCast, neJ2, neJ2', neJ3, neJ3', callOf, callOf2, fnOf, argsA, args2, Array.isEmpty_empty, resLL, resVL, beq_self_eq_true, cut0, st3, zt3, it3, ct3, se3, Tryz.underlying3, st4, zt4, it4, ct4, se4, Tryz.underlying4, st9, zt9, it9, ct9, se9, Tryz.underlying9, st22, zt22, it22, ct22, se22, Tryz.underlying22, st25, zt25, it25, ct25, pt25, eqs25, se25, Tryz.underlying25, st26, zt26, it26, ct26, se26, Tryz.underlying26, st28, zt28, it28, ct28, pt28, se28, Tryz.underlying28, st77, Tryz.underlying77, Tryz.results192, U.out] <;> rfl) : a = b := h
/-- The kind of a well-formed expression, given its arguments' kinds. -/
def resE (op : Int) (vk : Int) (l : List Int) : Int × Bool :=
  if op == 1 then (vk, true)
  else if op == 4 || (op == 5 || op == 6) then (3, allK l 3)
  else if op == 7 || (op == 8 || (op == 9 || (op == 10 || (op == 11 || op == 12)))) then (3, (uniK l).2)
  else if op == 19 then (2, allK l 2)
  else if op == 20 then (1, allK l 2)
  else if op == 21 then (3, true)
  else if op == 22 then ((uniK (l.drop 1)).1, (uniK (l.drop 1)).2 && allK (l.take 1) 3)
  else if op == 23 then uniK l
  else if op == 24 then (3, allK l 1)
  else (1, allK l 1)
theorem rg192w4 {T : List Rid} {p : Path} {Q : Exit → SL → Prop} {tm : List AV} {L : RL} {n : Nat} {c : Code} {l : List Oper} (n' : Nat) (Qs : List Nat) (h : ∀ all, (ro c).toList = all → GoI Tryz.prog T p all false Qs n 0 l tm L fun tm' L' => Q .normal ⟨tm', L', n'⟩) (hk : kd c = 0 := by kernel_rfl) (hr : rd c = false := by kernel_rfl) (hl : (ro c).toList = l := by dsimp only [ro, s1, s2, c1, c2, bc, bod, Tryz.f192, Option.getD_some] <;> exact rfl) (hn : n + (ro c).size = n' := by kernel_rfl) : PI Tryz.prog T p c Q ⟨tm, L, n⟩ := PI.rg n' Qs hk hr hl (fun h => by cases h) hn (h _ rfl)
set_option maxHeartbeats 1000000 in
set_option maxRecDepth 100000 in
theorem okResE (op int : Int) (v : Vl) (name : ByteArray) (args : List Ex) (l : List Int) (hl : l.length ≤ 100000) (hne : op ≠ 1 → l ≠ []) : CallsOK Tryz.prog 192 [aEx op int v name args, ints l] (.tup [aI (resE op v.k l).1, aB (resE op v.k l).2]) := by
  have hl' : l.length ≤ maxLen := by unfold maxLen; omega
  have hd : (l.map fun k => [aI k]).drop 1 = (l.drop 1).map fun k => [aI k] := by simp
  have ht : (l.map fun k => [aI k]).take 1 = (l.take 1).map fun k => [aI k] := by simp
  have hdt : ((l.drop 1).map fun k => [aI k]).take (l.length - 1) = (l.drop 1).map fun k => [aI k] := by rw [List.take_of_length_le (by simp)]
  have hd1 : (l.drop 1).length = l.length - 1 := by simp
  have h1 : op ≠ 1 → 1 ≤ l.length := fun h => by have := hne h; cases l with | nil => exact absurd rfl this | cons x l => simp
  have U : Hid True := ⟨trivial⟩
  replace U := U.cons (And.intro (hd) (And.intro (ht) (And.intro (hd1) (And.intro (hdt) (rowLen (f := fun k : Int => [aI k]) (n := 1) (fun _ => rfl) l)))))
  refine CallsOK.of_pi mixed Tryz.func192 (by kernel_rfl) (by kernel_rfl) (?_ : PI _ _ _ _ _ ⟨[aEx op int v name args, ints l, .und, .und, .und, .und, .und, .und, .und, .und, .und, .und, .und, .und, .und, .und, .und, .und, .und, .und, .und, .und, .und, .und, .und, .und, .und, .und, .und, .und, .und, .und, .und, .und, .und, .und, .und, .und, .und, .und, .und, .und, .und, .und, .und, .und, .und, .und, .und, .und, .und, .und, .und, .und, .und, .und, .und, .und, .und, .und, .und, .und, .und, .und, .und, .und, .und, .und, .und, .und, .und, .und, .und], [], 0⟩)
  refine PI.q ?_
  refine rg192w4 (3) [] fun all1 _ => ?_
  refine GoI.runN 2 nfw4 ?_
  refine GoI.z nfw4 ?_
  refine PI.q ?_
  refine PI.q ?_
  refine rg192w4 (5) [] fun all2 _ => ?_
  refine GoI.z nfw4 ?_
  refine PI.b 0 ?_
  refine PI.q ?_
  refine rg192w4 (7) [] fun all3 _ => ?_
  refine GoI.z nfw4 ?_
  refine PI.d 12 nfw4 (fun hb1 => ?_) (fun hb1 => ?_)
  ·
   try simp only [hb1]
   refine PI.q ?_
   refine rg192w4 (12) [] fun all4 _ => ?_
   refine GoI.runN 2 nfw4 ?_
   refine GoI.runN 2 nfw4 ?_
   refine GoI.z nfw4 ?_
   refine PI.r ?_
   exact FinI.mk _ nfw4 (by clear U; simp_all [finR, nrmA, nrm, AV.content, resE])
  try simp only [hb1]
  have hne' := hne (by simpa using hb1)
  have h1' := h1 (by simpa using hb1)
  have h1i : (1 : Int) ≤ (l.length : Int) := by omega
  replace U := U.cons (And.intro (h1') (h1i))
  refine PI.q ?_
  refine PI.q ?_
  refine rg192w4 (9) [] fun all5 _ => ?_
  refine GoI.z nfw4 ?_
  refine PI.d 17 nfw4 (fun hb2 => ?_) (fun hb2 => ?_)
  ·
   try simp only [hb2]
   refine PI.s ?_
   refine PI.t 17 nfw4 ?_
   refine PI.q ?_
   refine rg192w4 (13) [] fun all8 _ => ?_
   refine GoI.run nfw4 ?_
   refine GoI.call nfw4 nfw4 (by first | exact okAllK _ _ (by decide) hne' hl | exact okAllK _ _ (by decide) (fun h => hne' (by simpa using h)) (by simp; omega)) ?_
   refine GoI.z nfw4 ?_
   refine PI.r ?_
   exact FinI.mk _ nfw4 (by clear U; simp_all [finR, nrmA, nrm, AV.content, resE])
  try simp only [hb2]
  refine PI.q ?_
  refine rg192w4 (11) [] fun all6 _ => ?_
  refine GoI.z nfw4 ?_
  refine PI.d 17 nfw4 (fun hb3 => ?_) (fun hb3 => ?_)
  ·
   try simp only [hb3]
   refine PI.s ?_
   refine PI.t 17 nfw4 ?_
   refine PI.q ?_
   refine rg192w4 (15) [] fun all8 _ => ?_
   refine GoI.run nfw4 ?_
   refine GoI.call nfw4 nfw4 (by first | exact okAllK _ _ (by decide) hne' hl | exact okAllK _ _ (by decide) (fun h => hne' (by simpa using h)) (by simp; omega)) ?_
   refine GoI.z nfw4 ?_
   refine PI.r ?_
   exact FinI.mk _ nfw4 (by clear U; simp_all [finR, nrmA, nrm, AV.content, resE])
  try simp only [hb3]
  refine rg192w4 (13) [] fun all7 _ => ?_
  refine GoI.z nfw4 ?_
  refine PI.d 17 nfw4 (fun hb4 => ?_) (fun hb4 => ?_)
  ·
   try simp only [hb4]
   refine PI.q ?_
   refine rg192w4 (17) [] fun all8 _ => ?_
   refine GoI.run nfw4 ?_
   refine GoI.call nfw4 nfw4 (by first | exact okAllK _ _ (by decide) hne' hl | exact okAllK _ _ (by decide) (fun h => hne' (by simpa using h)) (by simp; omega)) ?_
   refine GoI.z nfw4 ?_
   refine PI.r ?_
   exact FinI.mk _ nfw4 (by clear U; simp_all [finR, nrmA, nrm, AV.content, resE])
  try simp only [hb4]
  refine PI.q ?_
  refine PI.q ?_
  refine rg192w4 (15) [] fun all9 _ => ?_
  refine GoI.z nfw4 ?_
  refine PI.d 23 nfw4 (fun hb5 => ?_) (fun hb5 => ?_)
  ·
   try simp only [hb5]
   refine PI.s ?_
   refine PI.t 23 nfw4 ?_
   refine PI.q ?_
   refine rg192w4 (22) [] fun all15 _ => ?_
   refine GoI.run nfw4 ?_
   refine GoI.call nfw4 nfw4 (by exact okUnite _ (by first | omega | (simp; omega))) ?_
   refine GoI.runN 2 nfw4 ?_
   refine GoI.runN 2 nfw4 ?_
   refine GoI.z nfw4 ?_
   refine PI.q ?_
   refine rg192w4 (25) [] fun all16 _ => ?_
   refine GoI.runN 2 nfw4 ?_
   refine GoI.z nfw4 ?_
   refine PI.r ?_
   exact FinI.mk _ nfw4 (by clear U; simp_all [finR, nrmA, nrm, AV.content, resE])
  try simp only [hb5]
  refine PI.q ?_
  refine rg192w4 (17) [] fun all10 _ => ?_
  refine GoI.z nfw4 ?_
  refine PI.d 23 nfw4 (fun hb6 => ?_) (fun hb6 => ?_)
  ·
   try simp only [hb6]
   refine PI.s ?_
   refine PI.t 23 nfw4 ?_
   refine PI.q ?_
   refine rg192w4 (24) [] fun all15 _ => ?_
   refine GoI.run nfw4 ?_
   refine GoI.call nfw4 nfw4 (by exact okUnite _ (by first | omega | (simp; omega))) ?_
   refine GoI.runN 2 nfw4 ?_
   refine GoI.runN 2 nfw4 ?_
   refine GoI.z nfw4 ?_
   refine PI.q ?_
   refine rg192w4 (27) [] fun all16 _ => ?_
   refine GoI.runN 2 nfw4 ?_
   refine GoI.z nfw4 ?_
   refine PI.r ?_
   exact FinI.mk _ nfw4 (by clear U; simp_all [finR, nrmA, nrm, AV.content, resE])
  try simp only [hb6]
  refine PI.q ?_
  refine rg192w4 (19) [] fun all11 _ => ?_
  refine GoI.z nfw4 ?_
  refine PI.d 23 nfw4 (fun hb7 => ?_) (fun hb7 => ?_)
  ·
   try simp only [hb7]
   refine PI.s ?_
   refine PI.t 23 nfw4 ?_
   refine PI.q ?_
   refine rg192w4 (26) [] fun all15 _ => ?_
   refine GoI.run nfw4 ?_
   refine GoI.call nfw4 nfw4 (by exact okUnite _ (by first | omega | (simp; omega))) ?_
   refine GoI.runN 2 nfw4 ?_
   refine GoI.runN 2 nfw4 ?_
   refine GoI.z nfw4 ?_
   refine PI.q ?_
   refine rg192w4 (29) [] fun all16 _ => ?_
   refine GoI.runN 2 nfw4 ?_
   refine GoI.z nfw4 ?_
   refine PI.r ?_
   exact FinI.mk _ nfw4 (by clear U; simp_all [finR, nrmA, nrm, AV.content, resE])
  try simp only [hb7]
  refine PI.q ?_
  refine rg192w4 (21) [] fun all12 _ => ?_
  refine GoI.z nfw4 ?_
  refine PI.d 23 nfw4 (fun hb8 => ?_) (fun hb8 => ?_)
  ·
   try simp only [hb8]
   refine PI.s ?_
   refine PI.t 23 nfw4 ?_
   refine PI.q ?_
   refine rg192w4 (28) [] fun all15 _ => ?_
   refine GoI.run nfw4 ?_
   refine GoI.call nfw4 nfw4 (by exact okUnite _ (by first | omega | (simp; omega))) ?_
   refine GoI.runN 2 nfw4 ?_
   refine GoI.runN 2 nfw4 ?_
   refine GoI.z nfw4 ?_
   refine PI.q ?_
   refine rg192w4 (31) [] fun all16 _ => ?_
   refine GoI.runN 2 nfw4 ?_
   refine GoI.z nfw4 ?_
   refine PI.r ?_
   exact FinI.mk _ nfw4 (by clear U; simp_all [finR, nrmA, nrm, AV.content, resE])
  try simp only [hb8]
  refine PI.q ?_
  refine rg192w4 (23) [] fun all13 _ => ?_
  refine GoI.z nfw4 ?_
  refine PI.d 23 nfw4 (fun hb9 => ?_) (fun hb9 => ?_)
  ·
   try simp only [hb9]
   refine PI.s ?_
   refine PI.t 23 nfw4 ?_
   refine PI.q ?_
   refine rg192w4 (30) [] fun all15 _ => ?_
   refine GoI.run nfw4 ?_
   refine GoI.call nfw4 nfw4 (by exact okUnite _ (by first | omega | (simp; omega))) ?_
   refine GoI.runN 2 nfw4 ?_
   refine GoI.runN 2 nfw4 ?_
   refine GoI.z nfw4 ?_
   refine PI.q ?_
   refine rg192w4 (33) [] fun all16 _ => ?_
   refine GoI.runN 2 nfw4 ?_
   refine GoI.z nfw4 ?_
   refine PI.r ?_
   exact FinI.mk _ nfw4 (by clear U; simp_all [finR, nrmA, nrm, AV.content, resE])
  try simp only [hb9]
  refine rg192w4 (25) [] fun all14 _ => ?_
  refine GoI.z nfw4 ?_
  refine PI.d 23 nfw4 (fun hb10 => ?_) (fun hb10 => ?_)
  ·
   try simp only [hb10]
   refine PI.q ?_
   refine rg192w4 (32) [] fun all15 _ => ?_
   refine GoI.run nfw4 ?_
   refine GoI.call nfw4 nfw4 (by exact okUnite _ (by first | omega | (simp; omega))) ?_
   refine GoI.runN 2 nfw4 ?_
   refine GoI.runN 2 nfw4 ?_
   refine GoI.z nfw4 ?_
   refine PI.q ?_
   refine rg192w4 (35) [] fun all16 _ => ?_
   refine GoI.runN 2 nfw4 ?_
   refine GoI.z nfw4 ?_
   refine PI.r ?_
   exact FinI.mk _ nfw4 (by clear U; simp_all [finR, nrmA, nrm, AV.content, resE])
  try simp only [hb10]
  refine PI.q ?_
  refine rg192w4 (27) [] fun all17 _ => ?_
  refine GoI.z nfw4 ?_
  refine PI.d 36 nfw4 (fun hb11 => ?_) (fun hb11 => ?_)
  ·
   try simp only [hb11]
   refine PI.q ?_
   refine rg192w4 (31) [] fun all18 _ => ?_
   refine GoI.run nfw4 ?_
   refine GoI.call nfw4 nfw4 (by first | exact okAllK _ _ (by decide) hne' hl | exact okAllK _ _ (by decide) (fun h => hne' (by simpa using h)) (by simp; omega)) ?_
   refine GoI.z nfw4 ?_
   refine PI.r ?_
   exact FinI.mk _ nfw4 (by clear U; simp_all [finR, nrmA, nrm, AV.content, resE])
  try simp only [hb11]
  refine PI.q ?_
  refine rg192w4 (29) [] fun all19 _ => ?_
  refine GoI.z nfw4 ?_
  refine PI.d 40 nfw4 (fun hb12 => ?_) (fun hb12 => ?_)
  ·
   try simp only [hb12]
   refine PI.q ?_
   refine rg192w4 (33) [] fun all20 _ => ?_
   refine GoI.run nfw4 ?_
   refine GoI.call nfw4 nfw4 (by first | exact okAllK _ _ (by decide) hne' hl | exact okAllK _ _ (by decide) (fun h => hne' (by simpa using h)) (by simp; omega)) ?_
   refine GoI.z nfw4 ?_
   refine PI.r ?_
   exact FinI.mk _ nfw4 (by clear U; simp_all [finR, nrmA, nrm, AV.content, resE])
  try simp only [hb12]
  refine PI.q ?_
  refine rg192w4 (31) [] fun all21 _ => ?_
  refine GoI.z nfw4 ?_
  refine PI.d 44 nfw4 (fun hb13 => ?_) (fun hb13 => ?_)
  ·
   try simp only [hb13]
   refine PI.q ?_
   refine rg192w4 (33) [] fun all22 _ => ?_
   refine GoI.z nfw4 ?_
   refine PI.r ?_
   exact FinI.mk _ nfw4 (by clear U; simp_all [finR, nrmA, nrm, AV.content, resE])
  try simp only [hb13]
  refine PI.q ?_
  refine rg192w4 (33) [] fun all23 _ => ?_
  refine GoI.z nfw4 ?_
  refine PI.d 46 nfw4 (fun hb14 => ?_) (fun hb14 => ?_)
  ·
   try simp only [hb14]
   refine PI.q ?_
   refine rg192w4 (41) [] fun all24 _ => ?_
   refine GoI.runN 2 nfw4 ?_
   refine GoI.call nfw4 nfw4 (by exact okUnite _ (by first | omega | (simp; omega))) ?_
   refine GoI.runN 2 nfw4 ?_
   refine GoI.runN 2 nfw4 ?_
   refine GoI.z nfw4 ?_
   refine PI.q ?_
   refine rg192w4 (50) [] fun all25 hall25 => ?_
   have hgd25_2 : (all25[2]?).bind (fun o => o.dst) = some 56 := by rw [← hall25]; kernel_rfl
   replace U := U.cons (hgd25_2)
   refine GoI.runN 2 nfw4 ?_
   refine GoI.runN 1 nfw4 ?_
   refine GoI.grd 56 nfw4 (fun hg1 => ?_) (fun hg1 => ?_)
   ·
    try simp only [hg1]
    refine GoI.runN 2 nfw4 ?_
    refine GoI.call nfw4 nfw4 (by first | exact okAllK _ _ (by decide) hne' hl | exact okAllK _ _ (by decide) (fun h => hne' (by simpa using h)) (by simp; omega)) ?_
    refine GoI.runN 2 nfw4 ?_
    refine GoI.z nfw4 ?_
    refine PI.r ?_
    exact FinI.mk _ nfw4 (by clear U; simp_all [finR, nrmA, nrm, AV.content, resE])
   try simp only [hg1]
   refine GoI.runN 2 nfw4 ?_
   refine GoI.runN 2 nfw4 ?_
   refine GoI.z nfw4 ?_
   refine PI.r ?_
   exact FinI.mk _ nfw4 (by clear U; simp_all [finR, nrmA, nrm, AV.content, resE])
  try simp only [hb14]
  refine PI.q ?_
  refine rg192w4 (35) [] fun all26 _ => ?_
  refine GoI.z nfw4 ?_
  refine PI.d 61 nfw4 (fun hb15 => ?_) (fun hb15 => ?_)
  ·
   try simp only [hb15]
   refine PI.q ?_
   refine rg192w4 (41) [] fun all27 _ => ?_
   refine GoI.run nfw4 ?_
   refine GoI.call nfw4 nfw4 (by exact okUnite _ (by first | omega | (simp; omega))) ?_
   refine GoI.runN 2 nfw4 ?_
   refine GoI.z nfw4 ?_
   refine PI.r ?_
   exact FinI.mk _ nfw4 (by clear U; simp_all [finR, nrmA, nrm, AV.content, resE])
  try simp only [hb15]
  refine PI.q ?_
  refine rg192w4 (37) [] fun all28 _ => ?_
  refine GoI.z nfw4 ?_
  refine PI.d 67 nfw4 (fun hb16 => ?_) (fun hb16 => ?_)
  ·
   try simp only [hb16]
   refine PI.q ?_
   refine rg192w4 (41) [] fun all29 _ => ?_
   refine GoI.run nfw4 ?_
   refine GoI.call nfw4 nfw4 (by first | exact okAllK _ _ (by decide) hne' hl | exact okAllK _ _ (by decide) (fun h => hne' (by simpa using h)) (by simp; omega)) ?_
   refine GoI.z nfw4 ?_
   refine PI.r ?_
   exact FinI.mk _ nfw4 (by clear U; simp_all [finR, nrmA, nrm, AV.content, resE])
  try simp only [hb16]
  refine PI.s ?_
  refine PI.q ?_
  refine rg192w4 (41) [] fun all30 _ => ?_
  refine GoI.run nfw4 ?_
  refine GoI.call nfw4 nfw4 (by first | exact okAllK _ _ (by decide) hne' hl | exact okAllK _ _ (by decide) (fun h => hne' (by simpa using h)) (by simp; omega)) ?_
  refine GoI.z nfw4 ?_
  refine PI.r ?_
  exact FinI.mk _ nfw4 (by clear U; simp_all [finR, nrmA, nrm, AV.content, resE])
end Go.FE
namespace Go.FE
open Go.Proofs
theorem kinds_at {kinds : List Int} {k : Int} (h0 : 0 ≤ k) (h : k < kinds.length) : (kinds.map fun k => [aI k])[k.toNat]? = some [aI (kinds.getD k.toNat 0)] := by
  have : k.toNat < kinds.length := by omega
  simp [this]
mutual
def chkE (kinds : List Int) : Ex → Int × Int
  | .mk op int v name args =>
    if (cntOp op args.length).2 = false then (0, 7)
    else if formedE op int v name args.length = false then (0, 8)
    else if op == 2 then (if (decide (int < 0) || decide (int ≥ kinds.length)) = true then (0, 13) else (kinds.getD int.toNat 0, 0))
    else match (chkEs kinds args).find? (fun r => r.2 != 0) with
      | some r => (0, r.2)
      | none => if (resE op v.k ((chkEs kinds args).map (·.1))).2 = false then (0, 7) else ((resE op v.k ((chkEs kinds args).map (·.1))).1, 0)
def chkEs (kinds : List Int) : List Ex → List (Int × Int)
  | [] => []
  | e :: l => chkE kinds e :: chkEs kinds l
end
theorem chkEs_map (kinds : List Int) : ∀ l : List Ex, chkEs kinds l = l.map (chkE kinds)
  | [] => by simp [chkEs]
  | e :: l => by rw [chkEs, chkEs_map kinds l]; rfl
def chkR (kinds : List Int) (op int : Int) (v : Vl) (name : ByteArray) (rs : List (Int × Int)) : Int × Int :=
  if (cntOp op rs.length).2 = false then (0, 7)
  else if formedE op int v name rs.length = false then (0, 8)
  else if op == 2 then (if (decide (int < 0) || decide (int ≥ kinds.length)) = true then (0, 13) else (kinds.getD int.toNat 0, 0))
  else match rs.find? (fun r => r.2 != 0) with
    | some r => (0, r.2)
    | none => if (resE op v.k (rs.map (·.1))).2 = false then (0, 7) else ((resE op v.k (rs.map (·.1))).1, 0)
theorem chkE_mk (kinds : List Int) (op int : Int) (v : Vl) (name : ByteArray) (args : List Ex) : chkE kinds (.mk op int v name args) = chkR kinds op int v name (args.map (chkE kinds)) := by
  rw [chkE, chkEs_map]
  unfold chkR
  rw [List.length_map]
theorem formed_ne {op int n : Int} {v : Vl} {name : ByteArray} (h : formedE op int v name n = true) (h1 : op ≠ 1) (h2 : op ≠ 2) : n ≠ 0 := by
  unfold formedE at h
  split at h
  · cases h
  · rename_i hc
    intro h0
    subst h0
    apply hc
    have : (cntOp op 0).1 = false := by
      unfold cntOp
      rw [if_neg (by simp; omega)]
      repeat' split
      all_goals first | rfl | (simp; done)
    rw [this]; rfl
theorem find_ok {rs : List (Int × Int)} (h : ∀ j (hj : j < rs.length), rs[j].2 = 0) : rs.find? (fun r => r.2 != 0) = none :=
  List.find?_eq_none.2 fun a ha => by obtain ⟨j, hj, e⟩ := List.mem_iff_getElem.1 ha; rw [← e, h j hj]; decide
theorem find_er {rs : List (Int × Int)} {i : Nat} (hi : i < rs.length) (h : ∀ j (hj : j < rs.length), j < i → rs[j].2 = 0) (he : rs[i].2 ≠ 0) : rs.find? (fun r => r.2 != 0) = some rs[i] := by
  rw [List.find?_eq_some_iff_getElem]
  exact ⟨by simpa using he, i, hi, rfl, fun j hj => by rw [h j (by omega) hj]; rfl⟩
end Go.FE
namespace Go.FE
open Go.Proofs
theorem nfw6 {α : Type} {a b : α} (h : a = b := by simp only [goP, goN, mrk, Nat.reduceMul, Nat.one_mul, Nat.mul_one, eq_self, false_implies, implies_true, Nat.reduceLT, List.getElem?_toArray, isCall, List.contains_nil, List.contains_cons, Nat.reduceBEq, Bool.or_false, Bool.or_self, List.length_map, gOf, step, stepM, stepP, ev, okV, if_true, if_false, allocA, storeA, boxA, one1, tokN, tok1, buildA, rowA, nrmP, partV, partA, fieldA, fieldV, elemA, lenA, bltA, asSl, appA, makeA, makeR, cutA, bndA, binV, intOp, strOp, unV, eqB, nilB, sameT, List.all_cons, List.all_nil, Bool.and_self, Bool.and_true, Bool.true_and, List.map_cons, List.map_nil, List.nil_append, List.cons_append, List.append_nil, AV.bare, AV.content, AV.clean, AV.one, putD, List.set_cons_zero, List.set_cons_succ, List.reverse_cons, List.reverse_nil, List.getD_cons_zero, List.getD_cons_succ, List.getElem?_cons_zero, List.getElem?_cons_succ, Option.getD_some, Option.map_some, Option.map_none, Option.bind_some, List.length_cons, List.length_nil, lk, cellsA, fillA, fillS, isAggD, spl, nrm, nrmA, List.take_succ_cons, List.take_zero, List.drop_succ_cons, List.drop_zero, List.drop_nil, List.take_nil, Nat.reduceAdd, Nat.zero_add, Nat.add_zero, Nat.add_assoc, Nat.add_left_cancel_iff, reduceCtorEq, Prod.mk.injEq, List.cons.injEq, and_self, and_true, true_and, Nat.le_refl, Nat.reduceLeDiff, Nat.reduceEqDiff, List.getElem?_nil, Int.reduceToNat, Int.reduceLE, Int.reduceLT, ite_self, List.forall_mem_cons, List.not_mem_nil, false_and, and_false, Bool.false_eq_true, List.replicate_zero, List.replicate_succ, Int.toNat_natCast, neJ2, neJ2', neJ3, neJ3', callOf, callOf2, fnOf, argsA, args2, Array.isEmpty_empty, resLL, resVL, beq_self_eq_true, st3, zt3, it3, ct3, se3, Tryz.underlying3, st4, zt4, it4, ct4, se4, Tryz.underlying4, st9, zt9, it9, ct9, se9, Tryz.underlying9, st22, zt22, it22, ct22, se22, Tryz.underlying22, st25, zt25, it25, ct25, pt25, eqs25, se25, Tryz.underlying25, st26, zt26, it26, ct26, se26, Tryz.underlying26, st28, zt28, it28, ct28, pt28, se28, Tryz.underlying28, st36, zt36, it36, ct36, se36, Tryz.underlying36, st77, Tryz.underlying77, st94, Tryz.underlying94, st151, Tryz.underlying151, Tryz.results165, U.out] <;> rfl) : a = b := h
theorem chk_1 {kinds : List Int} {op int : Int} {v : Vl} {name : ByteArray} {rs : List (Int × Int)} (h : (cntOp op rs.length).2 = false) : chkR kinds op int v name rs = (0, 7) := by unfold chkR; rw [if_pos h]
theorem chk_2 {kinds : List Int} {op int : Int} {v : Vl} {name : ByteArray} {rs : List (Int × Int)} (h : (cntOp op rs.length).2 = true) (h2 : formedE op int v name rs.length = false) : chkR kinds op int v name rs = (0, 8) := by
  unfold chkR; rw [if_neg (by rw [h]; decide), if_pos h2]
theorem chk_3 {kinds : List Int} {op int : Int} {v : Vl} {name : ByteArray} {rs : List (Int × Int)} (h : (cntOp op rs.length).2 = true) (h2 : formedE op int v name rs.length = true) (h3 : op = 2) :
    chkR kinds op int v name rs = if (decide (int < 0) || decide (int ≥ kinds.length)) = true then (0, 13) else (kinds.getD int.toNat 0, 0) := by
  unfold chkR; rw [if_neg (by rw [h]; decide), if_neg (by rw [h2]; decide), if_pos (by simpa using h3)]
theorem chk_4 {kinds : List Int} {op int : Int} {v : Vl} {name : ByteArray} {rs : List (Int × Int)} (h : (cntOp op rs.length).2 = true) (h2 : formedE op int v name rs.length = true) (h3 : op ≠ 2) :
    chkR kinds op int v name rs = match rs.find? (fun r => r.2 != 0) with
    | some r => (0, r.2)
    | none => if (resE op v.k (rs.map (·.1))).2 = false then (0, 7) else ((resE op v.k (rs.map (·.1))).1, 0) := by
  unfold chkR; rw [if_neg (by rw [h]; decide), if_neg (by rw [h2]; decide), if_neg (by simpa using h3)]; try rfl
theorem map_snoc {α β : Type} {f : α → β} {l : List α} {i : Nat} (h : i < l.length) : (l.take (i + 1)).map f = (l.take i).map f ++ [f l[i]] := by
  rw [List.take_succ_eq_append_getElem h, List.map_append]; rfl
theorem ok_ex {kinds : List Int} {args : List Ex} {i : Nat} (h : ∀ j (hj : j < args.length), j < i → (chkE kinds args[j]).2 = 0) (hi : i < args.length) (h1 : (chkE kinds args[i]).2 = 0) : ∀ j (hj : j < args.length), j < i + 1 → (chkE kinds args[j]).2 = 0 := fun j hj hji => by
  rcases Nat.lt_or_ge j i with h2 | h2
  · exact h j hj h2
  · have e : j = i := by omega
    subst e; exact h1
theorem rg165w6 {T : List Rid} {p : Path} {Q : Exit → SL → Prop} {tm : List AV} {L : RL} {n : Nat} {c : Code} {l : List Oper} (n' : Nat) (Qs : List Nat) (h : ∀ all, (ro c).toList = all → GoI Tryz.prog T p all false Qs n 0 l tm L fun tm' L' => Q .normal ⟨tm', L', n'⟩) (hk : kd c = 0 := by kernel_rfl) (hr : rd c = false := by kernel_rfl) (hl : (ro c).toList = l := by dsimp only [ro, s1, s2, c1, c2, bc, bod, Tryz.f165, Option.getD_some] <;> exact rfl) (hn : n + (ro c).size = n' := by kernel_rfl) : PI Tryz.prog T p c Q ⟨tm, L, n⟩ := PI.rg n' Qs hk hr hl (fun h => by cases h) hn (h _ rfl)
set_option maxHeartbeats 2000000 in
set_option maxRecDepth 100000 in
theorem okChk1 (kinds : List Int) : ∀ (n : Nat) (op int : Int) (v : Vl) (name : ByteArray) (args : List Ex), dpEs args < n → SmE 100000 (.mk op int v name args) → CallsOK Tryz.prog 165 [aEx op int v name args, ints kinds] (.tup [aI (chkR kinds op int v name (args.map (chkE kinds))).1, aI (chkR kinds op int v name (args.map (chkE kinds))).2]) := by
  intro n
  induction n with
  | zero => intro op int v name args h; omega
  | succ n ih =>
  intro op int v name args hd hs
  have hl := hs.len
  have hl' : args.length ≤ maxLen := by unfold maxLen; omega
  have hrl : (args.map (chkE kinds)).length = args.length := List.length_map ..
  generalize hRS : chkR kinds op int v name (args.map (chkE kinds)) = RS
  have U : Hid True := ⟨trivial⟩
  refine CallsOK.of_pi mixed Tryz.func165 (by kernel_rfl) (by kernel_rfl) (?_ : PI _ _ _ _ _ ⟨[aEx op int v name args, ints kinds, .und, .und, .und, .und, .und, .und, .und, .und, .und, .und, .und, .und, .und, .und, .und, .und, .und, .und, .und, .und, .und, .und, .und, .und, .und, .und, .und, .und, .und, .und, .und, .und, .und, .und, .und, .und, .und, .und, .und, .und, .und, .und, .und, .und, .und, .und, .und, .und, .und, .und, .und, .und, .und, .und, .und, .und, .und, .und, .und, .und, .und, .und, .und, .und, .und, .und, .und, .und, .und, .und, .und, .und, .und, .und, .und], [], 0⟩)
  refine PI.q ?_
  refine rg165w6 (3) [] fun all1 _ => ?_
  refine GoI.runN 2 nfw6 ?_
  refine GoI.z nfw6 ?_
  refine PI.q ?_
  refine PI.q ?_
  refine rg165w6 (14) [] fun all2 _ => ?_
  refine GoI.runN 2 nfw6 ?_
  refine GoI.runN 2 nfw6 ?_
  refine GoI.run nfw6 ?_
  refine GoI.call nfw6 nfw6 (by exact okCounts11 _ _) ?_
  refine GoI.runN 2 nfw6 ?_
  refine GoI.runN 2 nfw6 ?_
  refine GoI.z nfw6 ?_
  refine PI.q ?_
  refine rg165w6 (16) [] fun all3 _ => ?_
  refine GoI.z nfw6 ?_
  refine PI.d 25 nfw6 (fun hb1 => ?_) (fun hb1 => ?_)
  ·
   try simp only [hb1]
   have hc : (cntOp op args.length).2 = false := by simpa using hb1
   rw [← hrl] at hc
   rw [chk_1 hc] at hRS
   subst hRS
   refine PI.q ?_
   refine rg165w6 (18) [] fun all4 _ => ?_
   refine GoI.z nfw6 ?_
   refine PI.r ?_
   exact FinI.mk _ nfw6 (by clear U; (try subst hRS); simp [finR, nrmA, nrm, AV.content])
  try simp only [hb1]
  have hc : (cntOp op args.length).2 = true := by simpa using hb1
  have hc' := hc
  rw [← hrl] at hc'
  refine PI.s ?_
  refine PI.q ?_
  refine PI.q ?_
  refine rg165w6 (19) [] fun all5 _ => ?_
  refine GoI.run nfw6 ?_
  refine GoI.call nfw6 nfw6 (by exact okFormed _ _ _ _ _) ?_
  refine GoI.z nfw6 ?_
  refine PI.d 28 nfw6 (fun hb2 => ?_) (fun hb2 => ?_)
  ·
   try simp only [hb2]
   have hf : formedE op int v name args.length = false := by simpa using hb2
   rw [← hrl] at hf
   rw [chk_2 hc' hf] at hRS
   subst hRS
   refine PI.q ?_
   refine rg165w6 (21) [] fun all6 _ => ?_
   refine GoI.z nfw6 ?_
   refine PI.r ?_
   exact FinI.mk _ nfw6 (by clear U; (try subst hRS); simp [finR, nrmA, nrm, AV.content])
  try simp only [hb2]
  have hf : formedE op int v name args.length = true := by simpa using hb2
  have hf' := hf
  rw [← hrl] at hf'
  refine PI.s ?_
  refine PI.q ?_
  refine PI.q ?_
  refine rg165w6 (22) [] fun all7 _ => ?_
  refine GoI.runN 2 nfw6 ?_
  refine GoI.z nfw6 ?_
  refine PI.d 31 nfw6 (fun hb3 => ?_) (fun hb3 => ?_)
  ·
   try simp only [hb3]
   have h2 : op = 2 := by simpa using hb3
   rw [chk_3 hc' hf' h2] at hRS
   refine PI.q ?_
   refine PI.q ?_
   refine rg165w6 (32) [] fun all8 hall8 => ?_
   have hgd8_3 : (all8[3]?).bind (fun o => o.dst) = some 35 := by rw [← hall8]; kernel_rfl
   replace U := U.cons (hgd8_3)
   refine GoI.runN 2 nfw6 ?_
   refine GoI.runN 2 nfw6 ?_
   refine GoI.grd 35 nfw6 (fun hg1 => ?_) (fun hg1 => ?_)
   ·
    try simp only [hg1]
    refine GoI.runN 2 nfw6 ?_
    refine GoI.runN 2 nfw6 ?_
    refine GoI.z nfw6 ?_
    refine PI.t 41 nfw6 ?_
    rw [if_pos (by simp_all)] at hRS
    subst hRS
    refine PI.q ?_
    refine rg165w6 (34) [] fun all9 _ => ?_
    refine GoI.z nfw6 ?_
    refine PI.r ?_
    exact FinI.mk _ nfw6 (by clear U; (try subst hRS); simp [finR, nrmA, nrm, AV.content])
   try simp only [hg1]
   refine GoI.runN 2 nfw6 ?_
   refine GoI.runN 2 nfw6 ?_
   refine GoI.z nfw6 ?_
   refine PI.d 41 nfw6 (fun hb4 => ?_) (fun hb4 => ?_)
   ·
    try simp only [hb4]
    rw [if_pos (by simp_all)] at hRS
    subst hRS
    refine PI.q ?_
    refine rg165w6 (34) [] fun all9 _ => ?_
    refine GoI.z nfw6 ?_
    refine PI.r ?_
    exact FinI.mk _ nfw6 (by clear U; (try subst hRS); simp [finR, nrmA, nrm, AV.content])
   try simp only [hb4]
   have h40 : 0 ≤ int := by simp_all
   have h41 : int < (kinds.length : Int) := by simp_all
   have hy := kinds_at h40 h41
   rw [if_neg (by simp; omega)] at hRS
   subst hRS
   replace U := U.cons (And.intro (h40) (And.intro (h41) (hy)))
   refine PI.s ?_
   refine PI.q ?_
   refine rg165w6 (39) [] fun all10 _ => ?_
   refine GoI.runN 2 nfw6 ?_
   refine GoI.runN 2 nfw6 ?_
   refine GoI.runN 2 nfw6 ?_
   refine GoI.z nfw6 ?_
   refine PI.r ?_
   exact FinI.mk _ nfw6 (by clear U; (try subst hRS); simp [finR, nrmA, nrm, AV.content])
  try simp only [hb3]
  have h2 : op ≠ 2 := by simpa using hb3
  rw [chk_4 hc' hf' h2] at hRS
  refine PI.s ?_
  refine PI.q ?_
  refine rg165w6 (23) [] fun all11 _ => ?_
  refine GoI.z nfw6 ?_
  refine PI.q ?_
  refine PI.q ?_
  refine rg165w6 (27) [] fun all12 _ => ?_
  refine GoI.runN 2 nfw6 ?_
  refine GoI.z nfw6 ?_
  refine PI.b 0 ?_
  refine PI.lo (by kernel_rfl) (X := Nat) (fun i => (50, aI i) :: (8, .sl (((args.take i).map fun e => (chkE kinds e).1).map fun k => [aI k]) (some (([22], 0), i))) :: uk [4, 5, 10, 11, 12, 51, 52, 53, 54, 55, 56, 57, 58, 59, 60, 61, 62, 63, 64, 65, 66, 67]) (fun i => [(([0], 0), .var 28 [aI op, aI int, aI v.k, aI v.i, aS v.s, aS name, .sl (args.map encE) none]), (([22], 0), .tok i 3 1)]) (fun k i => k = args.length - i ∧ i ≤ args.length ∧ ∀ j (hj : j < args.length), j < i → (chkE kinds args[j]).2 = 0) (args.length) (0) (GhI.of_wk ⟨by simp [ovr, uk, lessT, neJ2, neJ2', neJ3, neJ3'], by simp [lessR, lk, neJ2, neJ2', neJ3, neJ3'], by (try dsimp only); omega, keep0⟩) (⟨rfl, Nat.zero_le _, fun j hj hji => by omega⟩) ?_
  intro k1 x1 j1 hr1
  obtain ⟨rfl, hi1, hok⟩ := hr1
  simp only [ovr, uk, List.set_cons_zero, List.set_cons_succ]
  refine PI.q ?_
  refine rg165w6 (j1 + 28) [] fun all13 _ => ?_
  refine GoI.z nfw6 ?_
  refine PI.q ?_
  refine PI.d 51 nfw6 (fun hb5 => ?_) (fun hb5 => ?_)
  ·
   try simp only [hb5]
   obtain ⟨hlt, hw⟩ := up hb5 hl'
   have hx := exs_at hlt
   have hts : (args.take (x1 + 1)).map (fun e => (chkE kinds e).1) = (args.take x1).map (fun e => (chkE kinds e).1) ++ [(chkE kinds args[x1]).1] := map_snoc hlt
   have hs1 := hs.arg _ (List.getElem_mem hlt)
   have hdm := dpEs_mem (List.getElem_mem hlt)
   have hme : (args.map (chkE kinds))[x1]'(by simpa using hlt) = chkE kinds args[x1] := by simp
   have hap : ((args.take x1).length + 1) * 8 ≤ 140737488355328 := by simp; omega
   generalize hR : chkE kinds args[x1] = R
   rw [hR] at hts hme
   generalize he : args[x1] = e1
   rw [he] at hx hs1 hdm hR
   obtain ⟨op1, int1, v1, name1, args1⟩ := e1
   rw [encE_mk] at hx
   rw [dpE_mk] at hdm
   rw [chkE_mk] at hR
   have hR2 : chkE kinds args[x1] = R := by rw [he, chkE_mk, hR]
   replace U := U.cons (And.intro (hw) (And.intro (hx) (And.intro (hap) (hR))))
   refine PI.s ?_
   refine PI.q ?_
   refine PI.b 1 ?_
   refine PI.q ?_
   refine rg165w6 (j1 + 32) [] fun all14 _ => ?_
   refine GoI.runN 2 nfw6 ?_
   refine GoI.z nfw6 ?_
   refine PI.q ?_
   refine rg165w6 (j1 + 40) [] fun all15 _ => ?_
   refine GoI.runN 2 nfw6 ?_
   refine GoI.call nfw6 nfw6 (by exact ih _ _ _ _ _ (by omega) hs1) ?_
   refine GoI.runN 2 nfw6 ?_
   refine GoI.runN 2 nfw6 ?_
   refine GoI.z nfw6 ?_
   refine PI.q ?_
   refine PI.q ?_
   refine rg165w6 (j1 + 42) [] fun all16 _ => ?_
   refine GoI.z nfw6 ?_
   refine PI.d 61 nfw6 (fun hb6 => ?_) (fun hb6 => ?_)
   ·
    try simp only [hb6]
    have h6 : R.2 ≠ 0 := by simpa using hb6
    rw [find_er (i := x1) (by simpa using hlt) (fun j hj hji => by simpa using hok j (by simpa using hj) hji) (by rw [hme]; exact h6), hme] at hRS
    subst hRS
    refine PI.q ?_
    refine rg165w6 (j1 + 45) [] fun all17 _ => ?_
    refine GoI.runN 2 nfw6 ?_
    refine GoI.z nfw6 ?_
    refine PI.r ?_
    exact FinI.mk _ nfw6 (by clear U; (try subst hRS); simp [finR, nrmA, nrm, AV.content])
   try simp only [hb6]
   have h6 : R.2 = 0 := by simpa using hb6
   refine PI.s ?_
   refine rg165w6 (j1 + 47) [] fun all18 _ => ?_
   refine GoI.runN 2 nfw6 ?_
   refine GoI.runN 2 nfw6 ?_
   refine GoI.z nfw6 ?_
   refine rg165w6 (j1 + 49) [] fun all19 _ => ?_
   refine GoI.z nfw6 ?_
   refine ⟨args.length - (x1 + 1), x1 + 1, j1 + 22, by omega, ⟨rfl, by omega, ok_ex hok hlt (by rw [hR2]; exact h6)⟩, GhI.of_wk ⟨by simp only [ovr, uk, lessT, hts, List.map_append, List.map_cons, List.map_nil]; simp [lessT], by simp [lessR, lk], by (try dsimp only); omega, keep0⟩⟩
  try simp only [hb5]
  have hge := dn hb5
  rw [List.take_of_length_le hge]
  have hne : op ≠ 1 → (args.map fun e => (chkE kinds e).1) ≠ [] := fun h1 h => by
    have := formed_ne hf h1 h2
    have h := congrArg List.length h
    simp at h
    rw [h] at this
    exact this rfl
  rw [find_ok (fun j hj => by simpa using hok j (by simpa using hj) (by simp at hj; omega))] at hRS
  dsimp only at hRS
  rw [List.map_map] at hRS
  have hcm : ((fun r : Int × Int => r.1) ∘ chkE kinds) = fun e => (chkE kinds e).1 := rfl
  rw [hcm] at hRS
  refine PI.e 0 ?_
  refine PI.q ?_
  refine rg165w6 (j1 + 36) [] fun all20 _ => ?_
  refine GoI.runN 2 nfw6 ?_
  refine GoI.call nfw6 nfw6 (by exact okResE op int v name args _ (by simp; omega) hne) ?_
  refine GoI.runN 2 nfw6 ?_
  refine GoI.runN 2 nfw6 ?_
  refine GoI.z nfw6 ?_
  refine PI.q ?_
  refine PI.q ?_
  refine rg165w6 (j1 + 38) [] fun all21 _ => ?_
  refine GoI.z nfw6 ?_
  refine PI.d 75 nfw6 (fun hb7 => ?_) (fun hb7 => ?_)
  ·
   try simp only [hb7]
   have h7 : (resE op v.k (args.map fun e => (chkE kinds e).1)).2 = false := by simpa using hb7
   rw [if_pos h7] at hRS
   refine PI.q ?_
   refine rg165w6 (j1 + 40) [] fun all22 _ => ?_
   refine GoI.z nfw6 ?_
   refine PI.r ?_
   exact FinI.mk _ nfw6 (by clear U; (try subst hRS); simp [finR, nrmA, nrm, AV.content])
  try simp only [hb7]
  have h7 : (resE op v.k (args.map fun e => (chkE kinds e).1)).2 = true := by simpa using hb7
  rw [if_neg (by rw [h7]; decide)] at hRS
  refine PI.s ?_
  refine PI.q ?_
  refine rg165w6 (j1 + 41) [] fun all23 _ => ?_
  refine GoI.runN 2 nfw6 ?_
  refine GoI.z nfw6 ?_
  refine PI.r ?_
  exact FinI.mk _ nfw6 (by clear U; (try subst hRS); simp [finR, nrmA, nrm, AV.content])
end Go.FE
namespace Go.FE
open Go.Proofs
theorem nfw7 {α : Type} {a b : α} (h : a = b := by simp only [goP, goN, mrk, Nat.reduceMul, Nat.one_mul, Nat.mul_one, eq_self, false_implies, implies_true, Nat.reduceLT, List.getElem?_toArray, isCall, List.contains_nil, List.contains_cons, Nat.reduceBEq, Bool.or_false, Bool.or_self, List.length_map, gOf, step, stepM, stepP, ev, okV, if_true, if_false, allocA, storeA, boxA, one1, tokN, tok1, buildA, rowA, nrmP, partV, partA, fieldA, fieldV, elemA, lenA, bltA, asSl, appA, makeA, makeR, cutA, bndA, binV, intOp, strOp, unV, eqB, nilB, sameT, List.all_cons, List.all_nil, Bool.and_self, Bool.and_true, Bool.true_and, List.map_cons, List.map_nil, List.nil_append, List.cons_append, List.append_nil, AV.bare, AV.content, AV.clean, AV.one, putD, List.set_cons_zero, List.set_cons_succ, List.reverse_cons, List.reverse_nil, List.getD_cons_zero, List.getD_cons_succ, List.getElem?_cons_zero, List.getElem?_cons_succ, Option.getD_some, Option.map_some, Option.map_none, Option.bind_some, List.length_cons, List.length_nil, lk, cellsA, fillA, fillS, isAggD, spl, nrm, nrmA, List.take_succ_cons, List.take_zero, List.drop_succ_cons, List.drop_zero, List.drop_nil, List.take_nil, Nat.reduceAdd, Nat.zero_add, Nat.add_zero, Nat.add_assoc, Nat.add_left_cancel_iff, reduceCtorEq, Prod.mk.injEq, List.cons.injEq, and_self, and_true, true_and, Nat.le_refl, Nat.reduceLeDiff, Nat.reduceEqDiff, List.getElem?_nil, Int.reduceToNat, Int.reduceLE, Int.reduceLT, ite_self, List.forall_mem_cons, List.not_mem_nil, false_and, and_false, Bool.false_eq_true, List.replicate_zero, List.replicate_succ, Int.toNat_natCast, neJ2, neJ2', neJ3, neJ3', callOf, callOf2, fnOf, argsA, args2, Array.isEmpty_empty, resLL, resVL, beq_self_eq_true, neJ4, neJ4', neJ5, neJ5', neK, neK', neK2, neK2', neL, neL', neL2, neL2', st3, zt3, it3, ct3, se3, Tryz.underlying3, st4, zt4, it4, ct4, se4, Tryz.underlying4, st9, zt9, it9, ct9, se9, Tryz.underlying9, st22, zt22, it22, ct22, se22, Tryz.underlying22, st25, zt25, it25, ct25, pt25, eqs25, se25, Tryz.underlying25, st26, zt26, it26, ct26, se26, Tryz.underlying26, st28, zt28, it28, ct28, pt28, se28, Tryz.underlying28, st36, zt36, it36, ct36, se36, Tryz.underlying36, st77, Tryz.underlying77, st94, Tryz.underlying94, st146, Tryz.underlying146, Tryz.results107, Tryz.results120, Tryz.results69, U.out] <;> rfl) : a = b := h
/-- What Check says of an expression. -/
def chkX (kinds : List Int) (e : Ex) : Int × Int := if 24 < dpE e then (0, 26) else chkE kinds e
theorem rg120w7 {T : List Rid} {p : Path} {Q : Exit → SL → Prop} {tm : List AV} {L : RL} {n : Nat} {c : Code} {l : List Oper} (n' : Nat) (Qs : List Nat) (h : ∀ all, (ro c).toList = all → GoI Tryz.prog T p all false Qs n 0 l tm L fun tm' L' => Q .normal ⟨tm', L', n'⟩) (hk : kd c = 0 := by kernel_rfl) (hr : rd c = false := by kernel_rfl) (hl : (ro c).toList = l := by dsimp only [ro, s1, s2, c1, c2, bc, bod, Tryz.f120, Option.getD_some] <;> exact rfl) (hn : n + (ro c).size = n' := by kernel_rfl) : PI Tryz.prog T p c Q ⟨tm, L, n⟩ := PI.rg n' Qs hk hr hl (fun h => by cases h) hn (h _ rfl)
theorem okChkX (kinds : List Int) (e : Ex) (hs : SmE 100000 e) (hs' : SmE 1000000 e) : CallsOK Tryz.prog 120 [aE e, ints kinds] (.tup [aI (chkX kinds e).1, aI (chkX kinds e).2]) := by
  have hd := okDepthE e hs'
  have hX : chkX kinds e = if 24 < dpE e then (0, 26) else chkE kinds e := rfl
  generalize hRS : chkX kinds e = RS
  rw [hRS] at hX
  obtain ⟨op, int, v, name, args⟩ := e
  rw [aE_mk] at hd ⊢
  rw [chkE_mk] at hX
  generalize hD : dpE (.mk op int v name args) = D
  rw [hD] at hd hX
  have U : Hid True := ⟨trivial⟩
  refine CallsOK.of_pi mixed Tryz.func120 (by kernel_rfl) (by kernel_rfl) (?_ : PI _ _ _ _ _ ⟨[aEx op int v name args, ints kinds, .und, .und, .und, .und, .und, .und, .und, .und, .und, .und, .und, .und], [], 0⟩)
  refine PI.q ?_
  refine rg120w7 (3) [] fun all1 _ => ?_
  refine GoI.runN 2 nfw7 ?_
  refine GoI.z nfw7 ?_
  refine PI.q ?_
  refine PI.q ?_
  refine rg120w7 (6) [] fun all2 _ => ?_
  refine GoI.run nfw7 ?_
  refine GoI.call nfw7 nfw7 (by exact hd) ?_
  refine GoI.z nfw7 ?_
  refine PI.d 8 nfw7 (fun hb1 => ?_) (fun hb1 => ?_)
  ·
   try simp only [hb1]
   rw [if_pos (by simp at hb1; omega)] at hX
   refine PI.q ?_
   refine rg120w7 (8) [] fun all3 _ => ?_
   refine GoI.z nfw7 ?_
   refine PI.r ?_
   exact FinI.mk _ nfw7 (by clear U; subst hX; simp [finR, nrmA, nrm, AV.content])
  try simp only [hb1]
  rw [if_neg (by simp at hb1; omega)] at hX
  refine PI.s ?_
  refine PI.q ?_
  refine rg120w7 (13) [] fun all4 _ => ?_
  refine GoI.runN 2 nfw7 ?_
  refine GoI.call nfw7 nfw7 (by exact okChk1 kinds _ op int v name args (Nat.lt_succ_self _) hs) ?_
  refine GoI.runN 2 nfw7 ?_
  refine GoI.z nfw7 ?_
  refine PI.r ?_
  exact FinI.mk _ nfw7 (by clear U; subst hX; simp [finR, nrmA, nrm, AV.content])
end Go.FE
namespace Go.FE
open Go.Proofs
theorem nfw8 {α : Type} {a b : α} (h : a = b := by simp only [goP, goN, mrk, Nat.reduceMul, Nat.one_mul, Nat.mul_one, eq_self, false_implies, implies_true, Nat.reduceLT, List.getElem?_toArray, isCall, List.contains_nil, List.contains_cons, Nat.reduceBEq, Bool.or_false, Bool.or_self, List.length_map, gOf, step, stepM, stepP, ev, okV, if_true, if_false, allocA, storeA, boxA, one1, tokN, tok1, buildA, rowA, nrmP, partV, partA, fieldA, fieldV, elemA, lenA, bltA, asSl, appA, makeA, makeR, cutA, bndA, binV, intOp, strOp, unV, eqB, nilB, sameT, List.all_cons, List.all_nil, Bool.and_self, Bool.and_true, Bool.true_and, List.map_cons, List.map_nil, List.nil_append, List.cons_append, List.append_nil, AV.bare, AV.content, AV.clean, AV.one, putD, List.set_cons_zero, List.set_cons_succ, List.reverse_cons, List.reverse_nil, List.getD_cons_zero, List.getD_cons_succ, List.getElem?_cons_zero, List.getElem?_cons_succ, Option.getD_some, Option.map_some, Option.map_none, Option.bind_some, List.length_cons, List.length_nil, lk, cellsA, fillA, fillS, isAggD, spl, nrm, nrmA, List.take_succ_cons, List.take_zero, List.drop_succ_cons, List.drop_zero, List.drop_nil, List.take_nil, Nat.reduceAdd, Nat.zero_add, Nat.add_zero, Nat.add_assoc, Nat.add_left_cancel_iff, reduceCtorEq, Prod.mk.injEq, List.cons.injEq, and_self, and_true, true_and, Nat.le_refl, Nat.reduceLeDiff, Nat.reduceEqDiff, List.getElem?_nil, Int.reduceToNat, Int.reduceLE, Int.reduceLT, ite_self, List.forall_mem_cons, List.not_mem_nil, false_and, and_false, Bool.false_eq_true, List.replicate_zero, List.replicate_succ, Int.toNat_natCast, neJ2, neJ2', neJ3, neJ3', callOf, callOf2, fnOf, argsA, args2, Array.isEmpty_empty, resLL, resVL, beq_self_eq_true, st3, zt3, it3, ct3, se3, Tryz.underlying3, st4, zt4, it4, ct4, se4, Tryz.underlying4, st9, zt9, it9, ct9, se9, Tryz.underlying9, st22, zt22, it22, ct22, se22, Tryz.underlying22, st25, zt25, it25, ct25, pt25, eqs25, se25, Tryz.underlying25, st26, zt26, it26, ct26, se26, Tryz.underlying26, st28, zt28, it28, ct28, pt28, se28, Tryz.underlying28, st36, zt36, it36, ct36, se36, Tryz.underlying36, st94, Tryz.underlying94, Tryz.results82, Tryz.results32, Tryz.results73, Tryz.results33, U.out] <;> rfl) : a = b := h
theorem SmE.mono {N M : Nat} (hNM : N ≤ M) {e : Ex} (h : SmE N e) : SmE M e := by
  induction h with
  | mk h h1 ih => exact .mk (Nat.le_trans h hNM) ih
structure OkEx (e : Ex) : Prop where
  s : SmE 100000 e
  d : dpE e ≤ 100000
theorem okX (kinds : List Int) (e : Ex) (h : OkEx e) : CallsOK Tryz.prog 120 [aE e, ints kinds] (.tup [aI (chkX kinds e).1, aI (chkX kinds e).2]) := okChkX kinds e h.s (h.s.mono (by decide))
def predS (kinds : List Int) (e : Ex) : Int := if (chkX kinds e).2 != 0 then (chkX kinds e).2 else if (chkX kinds e).1 != 3 && (chkX kinds e).1 != 0 then 7 else 0
theorem rg82w8 {T : List Rid} {p : Path} {Q : Exit → SL → Prop} {tm : List AV} {L : RL} {n : Nat} {c : Code} {l : List Oper} (n' : Nat) (Qs : List Nat) (h : ∀ all, (ro c).toList = all → GoI Tryz.prog T p all false Qs n 0 l tm L fun tm' L' => Q .normal ⟨tm', L', n'⟩) (hk : kd c = 0 := by kernel_rfl) (hr : rd c = false := by kernel_rfl) (hl : (ro c).toList = l := by dsimp only [ro, s1, s2, c1, c2, bc, bod, Tryz.f82, Option.getD_some] <;> exact rfl) (hn : n + (ro c).size = n' := by kernel_rfl) : PI Tryz.prog T p c Q ⟨tm, L, n⟩ := PI.rg n' Qs hk hr hl (fun h => by cases h) hn (h _ rfl)
theorem okPred (kinds : List Int) (e : Ex) (h : OkEx e) : CallsOK Tryz.prog 82 [aE e, ints kinds] (aI (predS kinds e)) := by
  have hX := okX kinds e h
  have hS : predS kinds e = if (chkX kinds e).2 != 0 then (chkX kinds e).2 else if (chkX kinds e).1 != 3 && (chkX kinds e).1 != 0 then 7 else 0 := rfl
  generalize predS kinds e = S at hS ⊢
  generalize chkX kinds e = R at hX hS
  obtain ⟨op, int, v, name, args⟩ := e
  rw [aE_mk] at hX ⊢
  have U : Hid True := ⟨trivial⟩
  refine CallsOK.of_pi mixed Tryz.func82 (by kernel_rfl) (by kernel_rfl) (?_ : PI _ _ _ _ _ ⟨[aEx op int v name args, ints kinds, .und, .und, .und, .und, .und, .und, .und, .und, .und, .und, .und, .und, .und, .und, .und, .und, .und, .und, .und, .und], [], 0⟩)
  refine PI.q ?_
  refine rg82w8 (2) [] fun all1 _ => ?_
  refine GoI.z nfw8 ?_
  refine PI.q ?_
  refine rg82w8 (10) [] fun all2 _ => ?_
  refine GoI.runN 2 nfw8 ?_
  refine GoI.call nfw8 nfw8 (by exact hX) ?_
  refine GoI.runN 2 nfw8 ?_
  refine GoI.runN 2 nfw8 ?_
  refine GoI.z nfw8 ?_
  refine PI.q ?_
  refine PI.q ?_
  refine rg82w8 (12) [] fun all3 _ => ?_
  refine GoI.z nfw8 ?_
  refine PI.d 14 nfw8 (fun hb1 => ?_) (fun hb1 => ?_)
  ·
   try simp only [hb1]
   refine PI.q ?_
   refine rg82w8 (14) [] fun all4 _ => ?_
   refine GoI.z nfw8 ?_
   refine PI.r ?_
   exact FinI.mk _ nfw8 (by clear U; simp_all [finR, nrmA, nrm, AV.content])
  try simp only [hb1]
  refine PI.s ?_
  refine PI.q ?_
  refine PI.q ?_
  refine rg82w8 (18) [] fun all5 hall5 => ?_
  have hgd5_2 : (all5[2]?).bind (fun o => o.dst) = some 18 := by rw [← hall5]; kernel_rfl
  replace U := U.cons (hgd5_2)
  refine GoI.runN 2 nfw8 ?_
  refine GoI.runN 1 nfw8 ?_
  refine GoI.grd 18 nfw8 (fun hg1 => ?_) (fun hg1 => ?_)
  ·
   try simp only [hg1]
   refine GoI.runN 2 nfw8 ?_
   refine GoI.z nfw8 ?_
   refine PI.d 21 nfw8 (fun hb2 => ?_) (fun hb2 => ?_)
   ·
    try simp only [hb2]
    refine PI.q ?_
    refine rg82w8 (19) [] fun all6 _ => ?_
    refine GoI.z nfw8 ?_
    refine PI.r ?_
    exact FinI.mk _ nfw8 (by clear U; simp_all [finR, nrmA, nrm, AV.content])
   try simp only [hb2]
   refine PI.s ?_
   refine PI.q ?_
   refine rg82w8 (19) [] fun all7 _ => ?_
   refine GoI.z nfw8 ?_
   refine PI.r ?_
   exact FinI.mk _ nfw8 (by clear U; simp_all [finR, nrmA, nrm, AV.content])
  try simp only [hg1]
  refine GoI.runN 2 nfw8 ?_
  refine GoI.z nfw8 ?_
  refine PI.f 21 nfw8 ?_
  refine PI.s ?_
  refine PI.q ?_
  refine rg82w8 (19) [] fun all7 _ => ?_
  refine GoI.z nfw8 ?_
  refine PI.r ?_
  exact FinI.mk _ nfw8 (by clear U; simp_all [finR, nrmA, nrm, AV.content])
def prE (kinds : List Int) (e : Ex) : Int := if (chkX kinds e).2 != 0 then (chkX kinds e).2 else if (chkX kinds e).1 == 0 then 7 else 0
def projS (kinds : List Int) (l : List Ex) : List Int × Int := match l.find? (fun e => prE kinds e != 0) with
  | some e => ([], prE kinds e)
  | none => (l.map fun e => (chkX kinds e).1, 0)
theorem proj_err {kinds : List Int} {l : List Ex} {i : Nat} (hi : i < l.length) (h : ∀ j (hj : j < l.length), j < i → prE kinds l[j] = 0) (he : prE kinds l[i] ≠ 0) : projS kinds l = ([], prE kinds l[i]) := by
  unfold projS
  rw [List.find?_eq_some_iff_getElem.2 ⟨by simpa using he, i, hi, rfl, fun j hj => by rw [h j (by omega) hj]; rfl⟩]
theorem proj_ok {kinds : List Int} {l : List Ex} (h : ∀ j (hj : j < l.length), prE kinds l[j] = 0) : projS kinds l = (l.map fun e => (chkX kinds e).1, 0) := by
  unfold projS
  rw [List.find?_eq_none.2 (fun a ha => by obtain ⟨j, hj, e⟩ := List.mem_iff_getElem.1 ha; rw [← e, h j hj]; decide)]
theorem pr_succ {kinds : List Int} {l : List Ex} {i : Nat} (h : ∀ j (hj : j < l.length), j < i → prE kinds l[j] = 0) (hi : i < l.length) (h1 : prE kinds l[i] = 0) : ∀ j (hj : j < l.length), j < i + 1 → prE kinds l[j] = 0 := fun j hj hji => by
  rcases Nat.lt_or_ge j i with h2 | h2
  · exact h j hj h2
  · have e : j = i := by omega
    subst e; exact h1
theorem rg73w8 {T : List Rid} {p : Path} {Q : Exit → SL → Prop} {tm : List AV} {L : RL} {n : Nat} {c : Code} {l : List Oper} (n' : Nat) (Qs : List Nat) (h : ∀ all, (ro c).toList = all → GoI Tryz.prog T p all false Qs n 0 l tm L fun tm' L' => Q .normal ⟨tm', L', n'⟩) (hk : kd c = 0 := by kernel_rfl) (hr : rd c = false := by kernel_rfl) (hl : (ro c).toList = l := by dsimp only [ro, s1, s2, c1, c2, bc, bod, Tryz.f73, Option.getD_some] <;> exact rfl) (hn : n + (ro c).size = n' := by kernel_rfl) : PI Tryz.prog T p c Q ⟨tm, L, n⟩ := PI.rg n' Qs hk hr hl (fun h => by cases h) hn (h _ rfl)
set_option maxHeartbeats 1000000 in
set_option maxRecDepth 100000 in
theorem okProjd (kinds : List Int) (l : List Ex) (hl : l.length ≤ 100000) (hx : ∀ e ∈ l, OkEx e) : CallsOK Tryz.prog 73 [aExs l, ints kinds] (.tup [ints (projS kinds l).1, aI (projS kinds l).2]) := by
  have hl' : l.length ≤ maxLen := by unfold maxLen; omega
  have U : Hid True := ⟨trivial⟩
  refine CallsOK.of_pi mixed Tryz.func73 (by kernel_rfl) (by kernel_rfl) (?_ : PI _ _ _ _ _ ⟨[aExs l, ints kinds, .und, .und, .und, .und, .und, .und, .und, .und, .und, .und, .und, .und, .und, .und, .und, .und, .und, .und, .und, .und, .und, .und, .und, .und, .und, .und, .und, .und, .und, .und, .und, .und], [], 0⟩)
  refine PI.q ?_
  refine rg73w8 (2) [] fun all1 _ => ?_
  refine GoI.z nfw8 ?_
  refine PI.q ?_
  refine rg73w8 (3) [] fun all2 _ => ?_
  refine GoI.z nfw8 ?_
  refine PI.q ?_
  refine PI.q ?_
  refine rg73w8 (6) [] fun all3 _ => ?_
  refine GoI.runN 2 nfw8 ?_
  refine GoI.z nfw8 ?_
  refine PI.b 0 ?_
  refine PI.lo (by kernel_rfl) (X := Nat) (fun i => (13, aI i) :: (6, .sl (((l.take i).map fun e => (chkX kinds e).1).map fun k => [aI k]) (some (([2], 0), i))) :: uk [4, 5, 8, 9, 10, 14, 15, 16, 17, 18, 19, 20, 21, 22, 23, 24, 25, 26, 27, 28, 29, 30, 31, 32]) (fun i => [(([2], 0), .tok i 3 1)]) (fun k i => k = l.length - i ∧ i ≤ l.length ∧ ∀ j (hj : j < l.length), j < i → prE kinds l[j] = 0) (l.length) (0) (GhI.of_wk ⟨by simp [ovr, uk, lessT, neJ2, neJ2', neJ3, neJ3'], by simp [lessR, lk, neJ2, neJ2', neJ3, neJ3'], by (try dsimp only); omega, keep0⟩) (⟨rfl, Nat.zero_le _, fun j hj hji => by omega⟩) ?_
  intro k1 x1 j1 hr1
  obtain ⟨rfl, hi1, hok⟩ := hr1
  simp only [ovr, uk, List.set_cons_zero, List.set_cons_succ]
  refine PI.q ?_
  refine rg73w8 (j1 + 7) [] fun all4 _ => ?_
  refine GoI.z nfw8 ?_
  refine PI.q ?_
  refine PI.d 14 nfw8 (fun hb1 => ?_) (fun hb1 => ?_)
  ·
   try simp only [hb1]
   obtain ⟨hlt, hw⟩ := up hb1 hl'
   have hx1 := exs_at hlt
   have hts : (l.take (x1 + 1)).map (fun e => (chkX kinds e).1) = (l.take x1).map (fun e => (chkX kinds e).1) ++ [(chkX kinds l[x1]).1] := map_snoc hlt
   have hX := okX kinds l[x1] (hx _ (List.getElem_mem hlt))
   have hap : ((l.take x1).length + 1) * 8 ≤ 140737488355328 := by simp; omega
   have hpr : prE kinds l[x1] = if (chkX kinds l[x1]).2 != 0 then (chkX kinds l[x1]).2 else if (chkX kinds l[x1]).1 == 0 then 7 else 0 := rfl
   generalize chkX kinds l[x1] = R at hX hts hpr
   generalize hE : l[x1] = e1 at hX hx1
   obtain ⟨op, int, v, name, args⟩ := e1
   rw [aE_mk] at hX
   rw [encE_mk] at hx1
   replace U := U.cons (And.intro (hw) (And.intro (hx1) (hap)))
   refine PI.s ?_
   refine PI.q ?_
   refine PI.b 1 ?_
   refine PI.q ?_
   refine rg73w8 (j1 + 11) [] fun all5 _ => ?_
   refine GoI.runN 2 nfw8 ?_
   refine GoI.z nfw8 ?_
   refine PI.q ?_
   refine rg73w8 (j1 + 19) [] fun all6 _ => ?_
   refine GoI.runN 2 nfw8 ?_
   refine GoI.call nfw8 nfw8 (by exact hX) ?_
   refine GoI.runN 2 nfw8 ?_
   refine GoI.runN 2 nfw8 ?_
   refine GoI.z nfw8 ?_
   refine PI.q ?_
   refine PI.q ?_
   refine rg73w8 (j1 + 21) [] fun all7 _ => ?_
   refine GoI.z nfw8 ?_
   refine PI.d 24 nfw8 (fun hb2 => ?_) (fun hb2 => ?_)
   ·
    try simp only [hb2]
    have h2 : (R.2 != 0) = true := by simpa using hb2
    rw [if_pos h2] at hpr
    rw [proj_err hlt hok (by rw [hpr]; simpa using h2), hpr]
    refine PI.q ?_
    refine rg73w8 (j1 + 24) [] fun all8 _ => ?_
    refine GoI.runN 2 nfw8 ?_
    refine GoI.z nfw8 ?_
    refine PI.r ?_
    exact FinI.mk _ nfw8 (by clear U; simp [finR, nrmA, nrm, AV.content])
   try simp only [hb2]
   have h2 : R.2 = 0 := by simpa using hb2
   rw [if_neg (by rw [h2]; decide)] at hpr
   refine PI.s ?_
   refine PI.q ?_
   refine PI.q ?_
   refine rg73w8 (j1 + 23) [] fun all9 _ => ?_
   refine GoI.z nfw8 ?_
   refine PI.d 27 nfw8 (fun hb3 => ?_) (fun hb3 => ?_)
   ·
    try simp only [hb3]
    rw [if_pos hb3] at hpr
    rw [proj_err hlt hok (by rw [hpr]; decide), hpr]
    refine PI.q ?_
    refine rg73w8 (j1 + 25) [] fun all10 _ => ?_
    refine GoI.z nfw8 ?_
    refine PI.r ?_
    exact FinI.mk _ nfw8 (by clear U; simp [finR, nrmA, nrm, AV.content])
   try simp only [hb3]
   rw [if_neg (by rw [hb3]; decide)] at hpr
   refine PI.s ?_
   refine rg73w8 (j1 + 28) [] fun all11 _ => ?_
   refine GoI.runN 2 nfw8 ?_
   refine GoI.runN 2 nfw8 ?_
   refine GoI.z nfw8 ?_
   refine rg73w8 (j1 + 30) [] fun all12 _ => ?_
   refine GoI.z nfw8 ?_
   refine ⟨l.length - (x1 + 1), x1 + 1, j1 + 24, by omega, ⟨rfl, by omega, pr_succ hok hlt hpr⟩, GhI.of_wk ⟨by simp only [ovr, uk, lessT, hts, List.map_append, List.map_cons, List.map_nil]; simp [lessT], by simp [lessR, lk], by (try dsimp only); omega, keep0⟩⟩
  try simp only [hb1]
  have hge := dn hb1
  rw [List.take_of_length_le hge]
  rw [proj_ok (fun j hj => hok j hj (by omega))]
  refine PI.e 0 ?_
  refine PI.q ?_
  refine rg73w8 (j1 + 10) [] fun all13 _ => ?_
  refine GoI.runN 2 nfw8 ?_
  refine GoI.z nfw8 ?_
  refine PI.r ?_
  exact FinI.mk _ nfw8 (by clear U; simp [finR, nrmA, nrm, AV.content])
end Go.FE
