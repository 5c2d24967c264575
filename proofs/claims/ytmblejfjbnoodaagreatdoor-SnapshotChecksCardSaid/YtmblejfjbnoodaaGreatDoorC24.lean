/- Whether an expression is well-formed apart from its arguments. How deep expressions are nested. -/
import Derived.Test.YtmblejfjbnoodaaGreatDoorC09
import Derived.Test.YtmblejfjbnoodaaGreatDoorC14
set_option linter.unusedVariables false
set_option linter.unusedSimpArgs false
namespace Go.FE
open Go.Proofs
theorem nfw1 {α : Type} {a b : α} (h : a = b := by simp only [goP, goN, mrk, Nat.reduceMul, Nat.one_mul, Nat.mul_one, eq_self, false_implies, implies_true, Nat.reduceLT, List.getElem?_toArray, isCall, List.contains_nil, List.contains_cons, Nat.reduceBEq, Bool.or_false, Bool.or_self, List.length_map, gOf, step, stepM, stepP, ev, okV, if_true, if_false, allocA, storeA, boxA, one1, tokN, tok1, buildA, rowA, nrmP, partV, partA, fieldA, fieldV, elemA, lenA, bltA, asSl, appA, makeA, makeR, cutA, bndA, binV, intOp, strOp, unV, eqB, nilB, sameT, List.all_cons, List.all_nil, Bool.and_self, Bool.and_true, Bool.true_and, List.map_cons, List.map_nil, List.nil_append, List.cons_append, List.append_nil, AV.bare, AV.content, AV.clean, AV.one, putD, List.set_cons_zero, List.set_cons_succ, List.reverse_cons, List.reverse_nil, List.getD_cons_zero, List.getD_cons_succ, List.getElem?_cons_zero, List.getElem?_cons_succ, Option.getD_some, Option.map_some, Option.map_none, Option.bind_some, List.length_cons, List.length_nil, lk, cellsA, fillA, fillS, isAggD, spl, nrm, nrmA, List.take_succ_cons, List.take_zero, List.drop_succ_cons, List.drop_zero, List.drop_nil, List.take_nil, Nat.reduceAdd, Nat.zero_add, Nat.add_zero, Nat.add_assoc, Nat.add_left_cancel_iff, reduceCtorEq, Prod.mk.injEq, List.cons.injEq, and_self, and_true, true_and, Nat.le_refl, Nat.reduceLeDiff, Nat.reduceEqDiff, List.getElem?_nil, Int.reduceToNat, Int.reduceLE, Int.reduceLT, ite_self, List.forall_mem_cons, List.not_mem_nil, false_and, and_false, Bool.false_eq_true, List.replicate_zero, List.replicate_succ, Int.toNat_natCast, neJ2, neJ2', neJ3, neJ3', callOf, callOf2, fnOf, argsA, args2, Array.isEmpty_empty, resLL, resVL, beq_self_eq_true, st3, zt3, it3, ct3, se3, Tryz.underlying3, st4, zt4, it4, ct4, se4, Tryz.underlying4, Tryz.results152, Tryz.results138, st9, zt9, it9, ct9, se9, Tryz.underlying9, st25, zt25, it25, ct25, pt25, eqs25, se25, Tryz.underlying25, st26, zt26, it26, ct26, se26, Tryz.underlying26, st28, zt28, it28, ct28, pt28, se28, Tryz.underlying28, st151, Tryz.underlying151, Tryz.results111, st146, Tryz.underlying146, Tryz.results139, nullV, U.out] <;> rfl) : a = b := h
/-- Whether an operator can have n arguments, and whether it is one of a bound expression. -/
def cntOp (op n : Int) : Bool × Bool :=
  if op == 1 || op == 2 then (n == 0, true)
  else if op == 4 || (op == 18 || (op == 20 || op == 21)) then (n == 1, true)
  else if op == 7 || (op == 8 || (op == 9 || (op == 10 || (op == 11 || (op == 12 || (op == 13 || (op == 14 || (op == 15 || (op == 16 || (op == 17 || op == 19)))))))))) then (n == 2, true)
  else if op == 5 || op == 6 then (decide (n ≥ 2), true)
  else if op == 22 then (n == 3, true)
  else if op == 23 then (decide (n ≥ 1), true)
  else if op == 24 then (n == 4, true)
  else (false, false)
theorem rg152w1 {T : List Rid} {p : Path} {Q : Exit → SL → Prop} {tm : List AV} {L : RL} {n : Nat} {c : Code} {l : List Oper} (n' : Nat) (Qs : List Nat) (h : ∀ all, (ro c).toList = all → GoI Tryz.prog T p all false Qs n 0 l tm L fun tm' L' => Q .normal ⟨tm', L', n'⟩) (hk : kd c = 0 := by kernel_rfl) (hr : rd c = false := by kernel_rfl) (hl : (ro c).toList = l := by dsimp only [ro, s1, s2, c1, c2, bc, bod, Tryz.f152, Option.getD_some] <;> exact rfl) (hn : n + (ro c).size = n' := by kernel_rfl) : PI Tryz.prog T p c Q ⟨tm, L, n⟩ := PI.rg n' Qs hk hr hl (fun h => by cases h) hn (h _ rfl)
set_option maxRecDepth 100000 in
theorem okCounts11 (op n : Int) : CallsOK Tryz.prog 152 [aI op, aI n] (.tup [aB (cntOp op n).1, aB (cntOp op n).2]) := by
  have U : Hid True := ⟨trivial⟩
  refine CallsOK.of_pi mixed Tryz.func152 (by kernel_rfl) (by kernel_rfl) (?_ : PI _ _ _ _ _ ⟨[aI op, aI n, .und, .und, .und, .und, .und, .und, .und, .und, .und, .und, .und, .und, .und, .und, .und, .und, .und, .und, .und, .und, .und, .und, .und, .und, .und, .und, .und, .und, .und, .und, .und, .und, .und, .und, .und, .und, .und, .und, .und, .und, .und, .und, .und, .und, .und, .und, .und, .und, .und], [], 0⟩)
  refine PI.q ?_
  refine rg152w1 (2) [] fun all1 _ => ?_
  refine GoI.z nfw1 ?_
  refine PI.q ?_
  refine PI.q ?_
  refine rg152w1 (3) [] fun all2 _ => ?_
  refine GoI.z nfw1 ?_
  refine PI.b 0 ?_
  refine PI.q ?_
  refine PI.q ?_
  refine rg152w1 (5) [] fun all3 _ => ?_
  refine GoI.z nfw1 ?_
  refine PI.d 7 nfw1 (fun hb1 => ?_) (fun hb1 => ?_)
  ·
   try simp only [hb1]
   refine PI.s ?_
   refine PI.t 7 nfw1 ?_
   refine PI.q ?_
   refine rg152w1 (9) [] fun all5 _ => ?_
   refine GoI.runN 2 nfw1 ?_
   refine GoI.z nfw1 ?_
   refine PI.r ?_
   exact FinI.mk _ nfw1 (by clear U; simp_all [finR, nrmA, nrm, AV.content, cntOp])
  try simp only [hb1]
  refine rg152w1 (7) [] fun all4 _ => ?_
  refine GoI.z nfw1 ?_
  refine PI.d 7 nfw1 (fun hb2 => ?_) (fun hb2 => ?_)
  ·
   try simp only [hb2]
   refine PI.q ?_
   refine rg152w1 (11) [] fun all5 _ => ?_
   refine GoI.runN 2 nfw1 ?_
   refine GoI.z nfw1 ?_
   refine PI.r ?_
   exact FinI.mk _ nfw1 (by clear U; simp_all [finR, nrmA, nrm, AV.content, cntOp])
  try simp only [hb2]
  refine PI.q ?_
  refine PI.q ?_
  refine rg152w1 (9) [] fun all6 _ => ?_
  refine GoI.z nfw1 ?_
  refine PI.d 12 nfw1 (fun hb3 => ?_) (fun hb3 => ?_)
  ·
   try simp only [hb3]
   refine PI.s ?_
   refine PI.t 12 nfw1 ?_
   refine PI.q ?_
   refine rg152w1 (13) [] fun all10 _ => ?_
   refine GoI.runN 2 nfw1 ?_
   refine GoI.z nfw1 ?_
   refine PI.r ?_
   exact FinI.mk _ nfw1 (by clear U; simp_all [finR, nrmA, nrm, AV.content, cntOp])
  try simp only [hb3]
  refine PI.q ?_
  refine rg152w1 (11) [] fun all7 _ => ?_
  refine GoI.z nfw1 ?_
  refine PI.d 12 nfw1 (fun hb4 => ?_) (fun hb4 => ?_)
  ·
   try simp only [hb4]
   refine PI.s ?_
   refine PI.t 12 nfw1 ?_
   refine PI.q ?_
   refine rg152w1 (15) [] fun all10 _ => ?_
   refine GoI.runN 2 nfw1 ?_
   refine GoI.z nfw1 ?_
   refine PI.r ?_
   exact FinI.mk _ nfw1 (by clear U; simp_all [finR, nrmA, nrm, AV.content, cntOp])
  try simp only [hb4]
  refine PI.q ?_
  refine rg152w1 (13) [] fun all8 _ => ?_
  refine GoI.z nfw1 ?_
  refine PI.d 12 nfw1 (fun hb5 => ?_) (fun hb5 => ?_)
  ·
   try simp only [hb5]
   refine PI.s ?_
   refine PI.t 12 nfw1 ?_
   refine PI.q ?_
   refine rg152w1 (17) [] fun all10 _ => ?_
   refine GoI.runN 2 nfw1 ?_
   refine GoI.z nfw1 ?_
   refine PI.r ?_
   exact FinI.mk _ nfw1 (by clear U; simp_all [finR, nrmA, nrm, AV.content, cntOp])
  try simp only [hb5]
  refine rg152w1 (15) [] fun all9 _ => ?_
  refine GoI.z nfw1 ?_
  refine PI.d 12 nfw1 (fun hb6 => ?_) (fun hb6 => ?_)
  ·
   try simp only [hb6]
   refine PI.q ?_
   refine rg152w1 (19) [] fun all10 _ => ?_
   refine GoI.runN 2 nfw1 ?_
   refine GoI.z nfw1 ?_
   refine PI.r ?_
   exact FinI.mk _ nfw1 (by clear U; simp_all [finR, nrmA, nrm, AV.content, cntOp])
  try simp only [hb6]
  refine PI.q ?_
  refine PI.q ?_
  refine rg152w1 (17) [] fun all11 _ => ?_
  refine GoI.z nfw1 ?_
  refine PI.d 19 nfw1 (fun hb7 => ?_) (fun hb7 => ?_)
  ·
   try simp only [hb7]
   refine PI.s ?_
   refine PI.t 19 nfw1 ?_
   refine PI.q ?_
   refine rg152w1 (21) [] fun all23 _ => ?_
   refine GoI.runN 2 nfw1 ?_
   refine GoI.z nfw1 ?_
   refine PI.r ?_
   exact FinI.mk _ nfw1 (by clear U; simp_all [finR, nrmA, nrm, AV.content, cntOp])
  try simp only [hb7]
  refine PI.q ?_
  refine rg152w1 (19) [] fun all12 _ => ?_
  refine GoI.z nfw1 ?_
  refine PI.d 19 nfw1 (fun hb8 => ?_) (fun hb8 => ?_)
  ·
   try simp only [hb8]
   refine PI.s ?_
   refine PI.t 19 nfw1 ?_
   refine PI.q ?_
   refine rg152w1 (23) [] fun all23 _ => ?_
   refine GoI.runN 2 nfw1 ?_
   refine GoI.z nfw1 ?_
   refine PI.r ?_
   exact FinI.mk _ nfw1 (by clear U; simp_all [finR, nrmA, nrm, AV.content, cntOp])
  try simp only [hb8]
  refine PI.q ?_
  refine rg152w1 (21) [] fun all13 _ => ?_
  refine GoI.z nfw1 ?_
  refine PI.d 19 nfw1 (fun hb9 => ?_) (fun hb9 => ?_)
  ·
   try simp only [hb9]
   refine PI.s ?_
   refine PI.t 19 nfw1 ?_
   refine PI.q ?_
   refine rg152w1 (25) [] fun all23 _ => ?_
   refine GoI.runN 2 nfw1 ?_
   refine GoI.z nfw1 ?_
   refine PI.r ?_
   exact FinI.mk _ nfw1 (by clear U; simp_all [finR, nrmA, nrm, AV.content, cntOp])
  try simp only [hb9]
  refine PI.q ?_
  refine rg152w1 (23) [] fun all14 _ => ?_
  refine GoI.z nfw1 ?_
  refine PI.d 19 nfw1 (fun hb10 => ?_) (fun hb10 => ?_)
  ·
   try simp only [hb10]
   refine PI.s ?_
   refine PI.t 19 nfw1 ?_
   refine PI.q ?_
   refine rg152w1 (27) [] fun all23 _ => ?_
   refine GoI.runN 2 nfw1 ?_
   refine GoI.z nfw1 ?_
   refine PI.r ?_
   exact FinI.mk _ nfw1 (by clear U; simp_all [finR, nrmA, nrm, AV.content, cntOp])
  try simp only [hb10]
  refine PI.q ?_
  refine rg152w1 (25) [] fun all15 _ => ?_
  refine GoI.z nfw1 ?_
  refine PI.d 19 nfw1 (fun hb11 => ?_) (fun hb11 => ?_)
  ·
   try simp only [hb11]
   refine PI.s ?_
   refine PI.t 19 nfw1 ?_
   refine PI.q ?_
   refine rg152w1 (29) [] fun all23 _ => ?_
   refine GoI.runN 2 nfw1 ?_
   refine GoI.z nfw1 ?_
   refine PI.r ?_
   exact FinI.mk _ nfw1 (by clear U; simp_all [finR, nrmA, nrm, AV.content, cntOp])
  try simp only [hb11]
  refine PI.q ?_
  refine rg152w1 (27) [] fun all16 _ => ?_
  refine GoI.z nfw1 ?_
  refine PI.d 19 nfw1 (fun hb12 => ?_) (fun hb12 => ?_)
  ·
   try simp only [hb12]
   refine PI.s ?_
   refine PI.t 19 nfw1 ?_
   refine PI.q ?_
   refine rg152w1 (31) [] fun all23 _ => ?_
   refine GoI.runN 2 nfw1 ?_
   refine GoI.z nfw1 ?_
   refine PI.r ?_
   exact FinI.mk _ nfw1 (by clear U; simp_all [finR, nrmA, nrm, AV.content, cntOp])
  try simp only [hb12]
  refine PI.q ?_
  refine rg152w1 (29) [] fun all17 _ => ?_
  refine GoI.z nfw1 ?_
  refine PI.d 19 nfw1 (fun hb13 => ?_) (fun hb13 => ?_)
  ·
   try simp only [hb13]
   refine PI.s ?_
   refine PI.t 19 nfw1 ?_
   refine PI.q ?_
   refine rg152w1 (33) [] fun all23 _ => ?_
   refine GoI.runN 2 nfw1 ?_
   refine GoI.z nfw1 ?_
   refine PI.r ?_
   exact FinI.mk _ nfw1 (by clear U; simp_all [finR, nrmA, nrm, AV.content, cntOp])
  try simp only [hb13]
  refine PI.q ?_
  refine rg152w1 (31) [] fun all18 _ => ?_
  refine GoI.z nfw1 ?_
  refine PI.d 19 nfw1 (fun hb14 => ?_) (fun hb14 => ?_)
  ·
   try simp only [hb14]
   refine PI.s ?_
   refine PI.t 19 nfw1 ?_
   refine PI.q ?_
   refine rg152w1 (35) [] fun all23 _ => ?_
   refine GoI.runN 2 nfw1 ?_
   refine GoI.z nfw1 ?_
   refine PI.r ?_
   exact FinI.mk _ nfw1 (by clear U; simp_all [finR, nrmA, nrm, AV.content, cntOp])
  try simp only [hb14]
  refine PI.q ?_
  refine rg152w1 (33) [] fun all19 _ => ?_
  refine GoI.z nfw1 ?_
  refine PI.d 19 nfw1 (fun hb15 => ?_) (fun hb15 => ?_)
  ·
   try simp only [hb15]
   refine PI.s ?_
   refine PI.t 19 nfw1 ?_
   refine PI.q ?_
   refine rg152w1 (37) [] fun all23 _ => ?_
   refine GoI.runN 2 nfw1 ?_
   refine GoI.z nfw1 ?_
   refine PI.r ?_
   exact FinI.mk _ nfw1 (by clear U; simp_all [finR, nrmA, nrm, AV.content, cntOp])
  try simp only [hb15]
  refine PI.q ?_
  refine rg152w1 (35) [] fun all20 _ => ?_
  refine GoI.z nfw1 ?_
  refine PI.d 19 nfw1 (fun hb16 => ?_) (fun hb16 => ?_)
  ·
   try simp only [hb16]
   refine PI.s ?_
   refine PI.t 19 nfw1 ?_
   refine PI.q ?_
   refine rg152w1 (39) [] fun all23 _ => ?_
   refine GoI.runN 2 nfw1 ?_
   refine GoI.z nfw1 ?_
   refine PI.r ?_
   exact FinI.mk _ nfw1 (by clear U; simp_all [finR, nrmA, nrm, AV.content, cntOp])
  try simp only [hb16]
  refine PI.q ?_
  refine rg152w1 (37) [] fun all21 _ => ?_
  refine GoI.z nfw1 ?_
  refine PI.d 19 nfw1 (fun hb17 => ?_) (fun hb17 => ?_)
  ·
   try simp only [hb17]
   refine PI.s ?_
   refine PI.t 19 nfw1 ?_
   refine PI.q ?_
   refine rg152w1 (41) [] fun all23 _ => ?_
   refine GoI.runN 2 nfw1 ?_
   refine GoI.z nfw1 ?_
   refine PI.r ?_
   exact FinI.mk _ nfw1 (by clear U; simp_all [finR, nrmA, nrm, AV.content, cntOp])
  try simp only [hb17]
  refine rg152w1 (39) [] fun all22 _ => ?_
  refine GoI.z nfw1 ?_
  refine PI.d 19 nfw1 (fun hb18 => ?_) (fun hb18 => ?_)
  ·
   try simp only [hb18]
   refine PI.q ?_
   refine rg152w1 (43) [] fun all23 _ => ?_
   refine GoI.runN 2 nfw1 ?_
   refine GoI.z nfw1 ?_
   refine PI.r ?_
   exact FinI.mk _ nfw1 (by clear U; simp_all [finR, nrmA, nrm, AV.content, cntOp])
  try simp only [hb18]
  refine PI.q ?_
  refine PI.q ?_
  refine rg152w1 (41) [] fun all24 _ => ?_
  refine GoI.z nfw1 ?_
  refine PI.d 34 nfw1 (fun hb19 => ?_) (fun hb19 => ?_)
  ·
   try simp only [hb19]
   refine PI.s ?_
   refine PI.t 34 nfw1 ?_
   refine PI.q ?_
   refine rg152w1 (45) [] fun all26 _ => ?_
   refine GoI.runN 2 nfw1 ?_
   refine GoI.z nfw1 ?_
   refine PI.r ?_
   exact FinI.mk _ nfw1 (by clear U; simp_all [finR, nrmA, nrm, AV.content, cntOp])
  try simp only [hb19]
  refine rg152w1 (43) [] fun all25 _ => ?_
  refine GoI.z nfw1 ?_
  refine PI.d 34 nfw1 (fun hb20 => ?_) (fun hb20 => ?_)
  ·
   try simp only [hb20]
   refine PI.q ?_
   refine rg152w1 (47) [] fun all26 _ => ?_
   refine GoI.runN 2 nfw1 ?_
   refine GoI.z nfw1 ?_
   refine PI.r ?_
   exact FinI.mk _ nfw1 (by clear U; simp_all [finR, nrmA, nrm, AV.content, cntOp])
  try simp only [hb20]
  refine PI.q ?_
  refine rg152w1 (45) [] fun all27 _ => ?_
  refine GoI.z nfw1 ?_
  refine PI.d 39 nfw1 (fun hb21 => ?_) (fun hb21 => ?_)
  ·
   try simp only [hb21]
   refine PI.q ?_
   refine rg152w1 (49) [] fun all28 _ => ?_
   refine GoI.runN 2 nfw1 ?_
   refine GoI.z nfw1 ?_
   refine PI.r ?_
   exact FinI.mk _ nfw1 (by clear U; simp_all [finR, nrmA, nrm, AV.content, cntOp])
  try simp only [hb21]
  refine PI.q ?_
  refine rg152w1 (47) [] fun all29 _ => ?_
  refine GoI.z nfw1 ?_
  refine PI.d 43 nfw1 (fun hb22 => ?_) (fun hb22 => ?_)
  ·
   try simp only [hb22]
   refine PI.q ?_
   refine rg152w1 (51) [] fun all30 _ => ?_
   refine GoI.runN 2 nfw1 ?_
   refine GoI.z nfw1 ?_
   refine PI.r ?_
   exact FinI.mk _ nfw1 (by clear U; simp_all [finR, nrmA, nrm, AV.content, cntOp])
  try simp only [hb22]
  refine PI.q ?_
  refine rg152w1 (49) [] fun all31 _ => ?_
  refine GoI.z nfw1 ?_
  refine PI.d 47 nfw1 (fun hb23 => ?_) (fun hb23 => ?_)
  ·
   try simp only [hb23]
   refine PI.q ?_
   refine rg152w1 (53) [] fun all32 _ => ?_
   refine GoI.runN 2 nfw1 ?_
   refine GoI.z nfw1 ?_
   refine PI.r ?_
   exact FinI.mk _ nfw1 (by clear U; simp_all [finR, nrmA, nrm, AV.content, cntOp])
  try simp only [hb23]
  refine PI.s ?_
  refine PI.q ?_
  refine rg152w1 (51) [] fun all33 _ => ?_
  refine GoI.z nfw1 ?_
  refine PI.r ?_
  exact FinI.mk _ nfw1 (by clear U; simp_all [finR, nrmA, nrm, AV.content, cntOp])
def arOp (op : Int) : Int × Int :=
  if op == 1 || op == 2 then (0, 0)
  else if op == 4 || (op == 18 || (op == 20 || op == 21)) then (1, 1)
  else if op == 7 || (op == 8 || (op == 9 || (op == 10 || (op == 11 || (op == 12 || (op == 13 || (op == 14 || (op == 15 || (op == 16 || (op == 17 || op == 19)))))))))) then (2, 2)
  else if op == 5 || op == 6 then (2, 1099511627776)
  else if op == 22 then (3, 3)
  else if op == 23 then (1, 1099511627776)
  else if op == 24 then (4, 4)
  else (-1, 0)
theorem rg138w1 {T : List Rid} {p : Path} {Q : Exit → SL → Prop} {tm : List AV} {L : RL} {n : Nat} {c : Code} {l : List Oper} (n' : Nat) (Qs : List Nat) (h : ∀ all, (ro c).toList = all → GoI Tryz.prog T p all false Qs n 0 l tm L fun tm' L' => Q .normal ⟨tm', L', n'⟩) (hk : kd c = 0 := by kernel_rfl) (hr : rd c = false := by kernel_rfl) (hl : (ro c).toList = l := by dsimp only [ro, s1, s2, c1, c2, bc, bod, Tryz.f138, Option.getD_some] <;> exact rfl) (hn : n + (ro c).size = n' := by kernel_rfl) : PI Tryz.prog T p c Q ⟨tm, L, n⟩ := PI.rg n' Qs hk hr hl (fun h => by cases h) hn (h _ rfl)
set_option maxRecDepth 100000 in
theorem okArity (op : Int) : CallsOK Tryz.prog 138 [aI op] (.tup [aI (arOp op).1, aI (arOp op).2]) := by
  have U : Hid True := ⟨trivial⟩
  refine CallsOK.of_pi mixed Tryz.func138 (by kernel_rfl) (by kernel_rfl) (?_ : PI _ _ _ _ _ ⟨[aI op, .und, .und, .und, .und, .und, .und, .und, .und, .und, .und, .und, .und, .und, .und, .und, .und, .und, .und, .und, .und, .und, .und, .und, .und, .und, .und, .und, .und, .und, .und, .und, .und, .und, .und], [], 0⟩)
  refine PI.q ?_
  refine rg138w1 (2) [] fun all1 _ => ?_
  refine GoI.z nfw1 ?_
  refine PI.q ?_
  refine PI.q ?_
  refine rg138w1 (3) [] fun all2 _ => ?_
  refine GoI.z nfw1 ?_
  refine PI.b 0 ?_
  refine PI.q ?_
  refine PI.q ?_
  refine rg138w1 (5) [] fun all3 _ => ?_
  refine GoI.z nfw1 ?_
  refine PI.d 5 nfw1 (fun hb1 => ?_) (fun hb1 => ?_)
  ·
   try simp only [hb1]
   refine PI.s ?_
   refine PI.t 5 nfw1 ?_
   refine PI.q ?_
   refine rg138w1 (7) [] fun all5 _ => ?_
   refine GoI.z nfw1 ?_
   refine PI.r ?_
   exact FinI.mk _ nfw1 (by clear U; simp_all [finR, nrmA, nrm, AV.content, arOp])
  try simp only [hb1]
  refine rg138w1 (7) [] fun all4 _ => ?_
  refine GoI.z nfw1 ?_
  refine PI.d 5 nfw1 (fun hb2 => ?_) (fun hb2 => ?_)
  ·
   try simp only [hb2]
   refine PI.q ?_
   refine rg138w1 (9) [] fun all5 _ => ?_
   refine GoI.z nfw1 ?_
   refine PI.r ?_
   exact FinI.mk _ nfw1 (by clear U; simp_all [finR, nrmA, nrm, AV.content, arOp])
  try simp only [hb2]
  refine PI.q ?_
  refine PI.q ?_
  refine rg138w1 (9) [] fun all6 _ => ?_
  refine GoI.z nfw1 ?_
  refine PI.d 8 nfw1 (fun hb3 => ?_) (fun hb3 => ?_)
  ·
   try simp only [hb3]
   refine PI.s ?_
   refine PI.t 8 nfw1 ?_
   refine PI.q ?_
   refine rg138w1 (11) [] fun all10 _ => ?_
   refine GoI.z nfw1 ?_
   refine PI.r ?_
   exact FinI.mk _ nfw1 (by clear U; simp_all [finR, nrmA, nrm, AV.content, arOp])
  try simp only [hb3]
  refine PI.q ?_
  refine rg138w1 (11) [] fun all7 _ => ?_
  refine GoI.z nfw1 ?_
  refine PI.d 8 nfw1 (fun hb4 => ?_) (fun hb4 => ?_)
  ·
   try simp only [hb4]
   refine PI.s ?_
   refine PI.t 8 nfw1 ?_
   refine PI.q ?_
   refine rg138w1 (13) [] fun all10 _ => ?_
   refine GoI.z nfw1 ?_
   refine PI.r ?_
   exact FinI.mk _ nfw1 (by clear U; simp_all [finR, nrmA, nrm, AV.content, arOp])
  try simp only [hb4]
  refine PI.q ?_
  refine rg138w1 (13) [] fun all8 _ => ?_
  refine GoI.z nfw1 ?_
  refine PI.d 8 nfw1 (fun hb5 => ?_) (fun hb5 => ?_)
  ·
   try simp only [hb5]
   refine PI.s ?_
   refine PI.t 8 nfw1 ?_
   refine PI.q ?_
   refine rg138w1 (15) [] fun all10 _ => ?_
   refine GoI.z nfw1 ?_
   refine PI.r ?_
   exact FinI.mk _ nfw1 (by clear U; simp_all [finR, nrmA, nrm, AV.content, arOp])
  try simp only [hb5]
  refine rg138w1 (15) [] fun all9 _ => ?_
  refine GoI.z nfw1 ?_
  refine PI.d 8 nfw1 (fun hb6 => ?_) (fun hb6 => ?_)
  ·
   try simp only [hb6]
   refine PI.q ?_
   refine rg138w1 (17) [] fun all10 _ => ?_
   refine GoI.z nfw1 ?_
   refine PI.r ?_
   exact FinI.mk _ nfw1 (by clear U; simp_all [finR, nrmA, nrm, AV.content, arOp])
  try simp only [hb6]
  refine PI.q ?_
  refine PI.q ?_
  refine rg138w1 (17) [] fun all11 _ => ?_
  refine GoI.z nfw1 ?_
  refine PI.d 13 nfw1 (fun hb7 => ?_) (fun hb7 => ?_)
  ·
   try simp only [hb7]
   refine PI.s ?_
   refine PI.t 13 nfw1 ?_
   refine PI.q ?_
   refine rg138w1 (19) [] fun all13 _ => ?_
   refine GoI.z nfw1 ?_
   refine PI.r ?_
   exact FinI.mk _ nfw1 (by clear U; simp_all [finR, nrmA, nrm, AV.content, arOp])
  try simp only [hb7]
  refine rg138w1 (19) [] fun all12 _ => ?_
  refine GoI.z nfw1 ?_
  refine PI.d 13 nfw1 (fun hb8 => ?_) (fun hb8 => ?_)
  ·
   try simp only [hb8]
   refine PI.q ?_
   refine rg138w1 (21) [] fun all13 _ => ?_
   refine GoI.z nfw1 ?_
   refine PI.r ?_
   exact FinI.mk _ nfw1 (by clear U; simp_all [finR, nrmA, nrm, AV.content, arOp])
  try simp only [hb8]
  refine PI.q ?_
  refine PI.q ?_
  refine rg138w1 (21) [] fun all14 _ => ?_
  refine GoI.z nfw1 ?_
  refine PI.d 16 nfw1 (fun hb9 => ?_) (fun hb9 => ?_)
  ·
   try simp only [hb9]
   refine PI.s ?_
   refine PI.t 16 nfw1 ?_
   refine PI.q ?_
   refine rg138w1 (23) [] fun all26 _ => ?_
   refine GoI.z nfw1 ?_
   refine PI.r ?_
   exact FinI.mk _ nfw1 (by clear U; simp_all [finR, nrmA, nrm, AV.content, arOp])
  try simp only [hb9]
  refine PI.q ?_
  refine rg138w1 (23) [] fun all15 _ => ?_
  refine GoI.z nfw1 ?_
  refine PI.d 16 nfw1 (fun hb10 => ?_) (fun hb10 => ?_)
  ·
   try simp only [hb10]
   refine PI.s ?_
   refine PI.t 16 nfw1 ?_
   refine PI.q ?_
   refine rg138w1 (25) [] fun all26 _ => ?_
   refine GoI.z nfw1 ?_
   refine PI.r ?_
   exact FinI.mk _ nfw1 (by clear U; simp_all [finR, nrmA, nrm, AV.content, arOp])
  try simp only [hb10]
  refine PI.q ?_
  refine rg138w1 (25) [] fun all16 _ => ?_
  refine GoI.z nfw1 ?_
  refine PI.d 16 nfw1 (fun hb11 => ?_) (fun hb11 => ?_)
  ·
   try simp only [hb11]
   refine PI.s ?_
   refine PI.t 16 nfw1 ?_
   refine PI.q ?_
   refine rg138w1 (27) [] fun all26 _ => ?_
   refine GoI.z nfw1 ?_
   refine PI.r ?_
   exact FinI.mk _ nfw1 (by clear U; simp_all [finR, nrmA, nrm, AV.content, arOp])
  try simp only [hb11]
  refine PI.q ?_
  refine rg138w1 (27) [] fun all17 _ => ?_
  refine GoI.z nfw1 ?_
  refine PI.d 16 nfw1 (fun hb12 => ?_) (fun hb12 => ?_)
  ·
   try simp only [hb12]
   refine PI.s ?_
   refine PI.t 16 nfw1 ?_
   refine PI.q ?_
   refine rg138w1 (29) [] fun all26 _ => ?_
   refine GoI.z nfw1 ?_
   refine PI.r ?_
   exact FinI.mk _ nfw1 (by clear U; simp_all [finR, nrmA, nrm, AV.content, arOp])
  try simp only [hb12]
  refine PI.q ?_
  refine rg138w1 (29) [] fun all18 _ => ?_
  refine GoI.z nfw1 ?_
  refine PI.d 16 nfw1 (fun hb13 => ?_) (fun hb13 => ?_)
  ·
   try simp only [hb13]
   refine PI.s ?_
   refine PI.t 16 nfw1 ?_
   refine PI.q ?_
   refine rg138w1 (31) [] fun all26 _ => ?_
   refine GoI.z nfw1 ?_
   refine PI.r ?_
   exact FinI.mk _ nfw1 (by clear U; simp_all [finR, nrmA, nrm, AV.content, arOp])
  try simp only [hb13]
  refine PI.q ?_
  refine rg138w1 (31) [] fun all19 _ => ?_
  refine GoI.z nfw1 ?_
  refine PI.d 16 nfw1 (fun hb14 => ?_) (fun hb14 => ?_)
  ·
   try simp only [hb14]
   refine PI.s ?_
   refine PI.t 16 nfw1 ?_
   refine PI.q ?_
   refine rg138w1 (33) [] fun all26 _ => ?_
   refine GoI.z nfw1 ?_
   refine PI.r ?_
   exact FinI.mk _ nfw1 (by clear U; simp_all [finR, nrmA, nrm, AV.content, arOp])
  try simp only [hb14]
  refine PI.q ?_
  refine rg138w1 (33) [] fun all20 _ => ?_
  refine GoI.z nfw1 ?_
  refine PI.d 16 nfw1 (fun hb15 => ?_) (fun hb15 => ?_)
  ·
   try simp only [hb15]
   refine PI.s ?_
   refine PI.t 16 nfw1 ?_
   refine PI.q ?_
   refine rg138w1 (35) [] fun all26 _ => ?_
   refine GoI.z nfw1 ?_
   refine PI.r ?_
   exact FinI.mk _ nfw1 (by clear U; simp_all [finR, nrmA, nrm, AV.content, arOp])
  try simp only [hb15]
  refine PI.q ?_
  refine rg138w1 (35) [] fun all21 _ => ?_
  refine GoI.z nfw1 ?_
  refine PI.d 16 nfw1 (fun hb16 => ?_) (fun hb16 => ?_)
  ·
   try simp only [hb16]
   refine PI.s ?_
   refine PI.t 16 nfw1 ?_
   refine PI.q ?_
   refine rg138w1 (37) [] fun all26 _ => ?_
   refine GoI.z nfw1 ?_
   refine PI.r ?_
   exact FinI.mk _ nfw1 (by clear U; simp_all [finR, nrmA, nrm, AV.content, arOp])
  try simp only [hb16]
  refine PI.q ?_
  refine rg138w1 (37) [] fun all22 _ => ?_
  refine GoI.z nfw1 ?_
  refine PI.d 16 nfw1 (fun hb17 => ?_) (fun hb17 => ?_)
  ·
   try simp only [hb17]
   refine PI.s ?_
   refine PI.t 16 nfw1 ?_
   refine PI.q ?_
   refine rg138w1 (39) [] fun all26 _ => ?_
   refine GoI.z nfw1 ?_
   refine PI.r ?_
   exact FinI.mk _ nfw1 (by clear U; simp_all [finR, nrmA, nrm, AV.content, arOp])
  try simp only [hb17]
  refine PI.q ?_
  refine rg138w1 (39) [] fun all23 _ => ?_
  refine GoI.z nfw1 ?_
  refine PI.d 16 nfw1 (fun hb18 => ?_) (fun hb18 => ?_)
  ·
   try simp only [hb18]
   refine PI.s ?_
   refine PI.t 16 nfw1 ?_
   refine PI.q ?_
   refine rg138w1 (41) [] fun all26 _ => ?_
   refine GoI.z nfw1 ?_
   refine PI.r ?_
   exact FinI.mk _ nfw1 (by clear U; simp_all [finR, nrmA, nrm, AV.content, arOp])
  try simp only [hb18]
  refine PI.q ?_
  refine rg138w1 (41) [] fun all24 _ => ?_
  refine GoI.z nfw1 ?_
  refine PI.d 16 nfw1 (fun hb19 => ?_) (fun hb19 => ?_)
  ·
   try simp only [hb19]
   refine PI.s ?_
   refine PI.t 16 nfw1 ?_
   refine PI.q ?_
   refine rg138w1 (43) [] fun all26 _ => ?_
   refine GoI.z nfw1 ?_
   refine PI.r ?_
   exact FinI.mk _ nfw1 (by clear U; simp_all [finR, nrmA, nrm, AV.content, arOp])
  try simp only [hb19]
  refine rg138w1 (43) [] fun all25 _ => ?_
  refine GoI.z nfw1 ?_
  refine PI.d 16 nfw1 (fun hb20 => ?_) (fun hb20 => ?_)
  ·
   try simp only [hb20]
   refine PI.q ?_
   refine rg138w1 (45) [] fun all26 _ => ?_
   refine GoI.z nfw1 ?_
   refine PI.r ?_
   exact FinI.mk _ nfw1 (by clear U; simp_all [finR, nrmA, nrm, AV.content, arOp])
  try simp only [hb20]
  refine PI.q ?_
  refine rg138w1 (45) [] fun all27 _ => ?_
  refine GoI.z nfw1 ?_
  refine PI.d 29 nfw1 (fun hb21 => ?_) (fun hb21 => ?_)
  ·
   try simp only [hb21]
   refine PI.q ?_
   refine rg138w1 (47) [] fun all28 _ => ?_
   refine GoI.z nfw1 ?_
   refine PI.r ?_
   exact FinI.mk _ nfw1 (by clear U; simp_all [finR, nrmA, nrm, AV.content, arOp])
  try simp only [hb21]
  refine PI.q ?_
  refine rg138w1 (47) [] fun all29 _ => ?_
  refine GoI.z nfw1 ?_
  refine PI.d 31 nfw1 (fun hb22 => ?_) (fun hb22 => ?_)
  ·
   try simp only [hb22]
   refine PI.q ?_
   refine rg138w1 (49) [] fun all30 _ => ?_
   refine GoI.z nfw1 ?_
   refine PI.r ?_
   exact FinI.mk _ nfw1 (by clear U; simp_all [finR, nrmA, nrm, AV.content, arOp])
  try simp only [hb22]
  refine PI.q ?_
  refine rg138w1 (49) [] fun all31 _ => ?_
  refine GoI.z nfw1 ?_
  refine PI.d 33 nfw1 (fun hb23 => ?_) (fun hb23 => ?_)
  ·
   try simp only [hb23]
   refine PI.q ?_
   refine rg138w1 (51) [] fun all32 _ => ?_
   refine GoI.z nfw1 ?_
   refine PI.r ?_
   exact FinI.mk _ nfw1 (by clear U; simp_all [finR, nrmA, nrm, AV.content, arOp])
  try simp only [hb23]
  refine PI.s ?_
  refine PI.q ?_
  refine rg138w1 (51) [] fun all33 _ => ?_
  refine GoI.z nfw1 ?_
  refine PI.r ?_
  exact FinI.mk _ nfw1 (by clear U; simp_all [finR, nrmA, nrm, AV.content, arOp])
def nullB (v : Vl) : Bool := v.k == 0 && (v.i == 0 && noS v.s)
def formedE (op int : Int) (v : Vl) (name : ByteArray) (n : Int) : Bool :=
  if (!(cntOp op n).1 || !noS name) = true then false
  else if op == 1 then int == 0 && validV v
  else if op == 24 then (if (decide (int < 0) || decide (int ≥ 13)) = true then false else nullB v)
  else if op == 2 then nullB v
  else int == 0 && nullB v
abbrev aEx (op int : Int) (v : Vl) (name : ByteArray) (args : List Ex) : AV := .agg 7 [aI op, aI int, aI v.k, aI v.i, aS v.s, aS name, .sl (args.map encE) none]
theorem rg111w1 {T : List Rid} {p : Path} {Q : Exit → SL → Prop} {tm : List AV} {L : RL} {n : Nat} {c : Code} {l : List Oper} (n' : Nat) (Qs : List Nat) (h : ∀ all, (ro c).toList = all → GoI Tryz.prog T p all false Qs n 0 l tm L fun tm' L' => Q .normal ⟨tm', L', n'⟩) (hk : kd c = 0 := by kernel_rfl) (hr : rd c = false := by kernel_rfl) (hl : (ro c).toList = l := by dsimp only [ro, s1, s2, c1, c2, bc, bod, Tryz.f111, Option.getD_some] <;> exact rfl) (hn : n + (ro c).size = n' := by kernel_rfl) : PI Tryz.prog T p c Q ⟨tm, L, n⟩ := PI.rg n' Qs hk hr hl (fun h => by cases h) hn (h _ rfl)
set_option maxRecDepth 100000 in
theorem okFormed (op int : Int) (v : Vl) (name : ByteArray) (args : List Ex) : CallsOK Tryz.prog 111 [aEx op int v name args] (aB (formedE op int v name args.length)) := by
  have U : Hid True := ⟨trivial⟩
  refine CallsOK.of_pi mixed Tryz.func111 (by kernel_rfl) (by kernel_rfl) (?_ : PI _ _ _ _ _ ⟨[aEx op int v name args, .und, .und, .und, .und, .und, .und, .und, .und, .und, .und, .und, .und, .und, .und, .und, .und, .und, .und, .und, .und, .und, .und, .und, .und, .und, .und, .und, .und, .und, .und, .und, .und, .und, .und, .und, .und, .und, .und, .und, .und, .und, .und, .und, .und, .und, .und, .und, .und, .und, .und, .und, .und, .und, .und, .und, .und, .und], [], 0⟩)
  refine PI.q ?_
  refine rg111w1 (2) [] fun all1 _ => ?_
  refine GoI.z nfw1 ?_
  refine PI.q ?_
  refine rg111w1 (13) [] fun all2 _ => ?_
  refine GoI.runN 2 nfw1 ?_
  refine GoI.runN 2 nfw1 ?_
  refine GoI.run nfw1 ?_
  refine GoI.call nfw1 nfw1 (by exact okCounts11 _ _) ?_
  refine GoI.runN 2 nfw1 ?_
  refine GoI.runN 2 nfw1 ?_
  refine GoI.z nfw1 ?_
  refine PI.q ?_
  refine PI.q ?_
  refine rg111w1 (20) [] fun all3 hall3 => ?_
  have hgd3_2 : (all3[2]?).bind (fun o => o.dst) = some 16 := by rw [← hall3]; kernel_rfl
  replace U := U.cons (hgd3_2)
  refine GoI.runN 2 nfw1 ?_
  refine GoI.runN 1 nfw1 ?_
  refine GoI.grd 16 nfw1 (fun hg1 => ?_) (fun hg1 => ?_)
  ·
   try simp only [hg1]
   refine GoI.runN 2 nfw1 ?_
   refine GoI.z nfw1 ?_
   refine PI.t 20 nfw1 ?_
   refine PI.q ?_
   refine rg111w1 (21) [] fun all4 _ => ?_
   refine GoI.z nfw1 ?_
   refine PI.r ?_
   exact FinI.mk _ nfw1 (by clear U; simp_all [finR, nrmA, nrm, AV.content, formedE, nullB, noS])
  try simp only [hg1]
  refine GoI.runN 2 nfw1 ?_
  refine GoI.z nfw1 ?_
  refine PI.d 20 nfw1 (fun hb1 => ?_) (fun hb1 => ?_)
  ·
   try simp only [hb1]
   refine PI.q ?_
   refine rg111w1 (21) [] fun all4 _ => ?_
   refine GoI.z nfw1 ?_
   refine PI.r ?_
   exact FinI.mk _ nfw1 (by clear U; simp_all [finR, nrmA, nrm, AV.content, formedE, nullB, noS])
  try simp only [hb1]
  refine PI.s ?_
  refine PI.q ?_
  refine PI.q ?_
  refine rg111w1 (22) [] fun all5 _ => ?_
  refine GoI.z nfw1 ?_
  refine PI.b 0 ?_
  refine PI.q ?_
  refine PI.b 3 ?_
  refine PI.q ?_
  refine PI.b 2 ?_
  refine PI.q ?_
  refine PI.b 1 ?_
  refine PI.q ?_
  refine PI.q ?_
  refine PI.q ?_
  refine rg111w1 (24) [] fun all6 _ => ?_
  refine GoI.z nfw1 ?_
  refine PI.d 23 nfw1 (fun hb2 => ?_) (fun hb2 => ?_)
  ·
   try simp only [hb2]
   refine PI.e 1 ?_
   refine PI.q ?_
   refine PI.q ?_
   refine rg111w1 (33) [] fun all9 hall9 => ?_
   have hgd9_3 : (all9[3]?).bind (fun o => o.dst) = some 32 := by rw [← hall9]; kernel_rfl
   replace U := U.cons (hgd9_3)
   refine GoI.runN 2 nfw1 ?_
   refine GoI.runN 2 nfw1 ?_
   refine GoI.grd 32 nfw1 (fun hg2 => ?_) (fun hg2 => ?_)
   ·
    try simp only [hg2]
    refine GoI.runN 2 nfw1 ?_
    refine GoI.call nfw1 nfw1 (by exact okValid v) ?_
    refine GoI.z nfw1 ?_
    refine PI.r ?_
    exact FinI.mk _ nfw1 (by clear U; simp_all [finR, nrmA, nrm, AV.content, formedE, nullB, noS])
   try simp only [hg2]
   refine GoI.runN 2 nfw1 ?_
   refine GoI.runN 2 nfw1 ?_
   refine GoI.z nfw1 ?_
   refine PI.r ?_
   exact FinI.mk _ nfw1 (by clear U; simp_all [finR, nrmA, nrm, AV.content, formedE, nullB, noS])
  try simp only [hb2]
  refine PI.s ?_
  refine PI.q ?_
  refine PI.q ?_
  refine rg111w1 (26) [] fun all7 _ => ?_
  refine GoI.z nfw1 ?_
  refine PI.d 25 nfw1 (fun hb3 => ?_) (fun hb3 => ?_)
  ·
   try simp only [hb3]
   refine PI.e 2 ?_
   refine PI.q ?_
   refine rg111w1 (34) [] fun all10 hall10 => ?_
   have hgd10_3 : (all10[3]?).bind (fun o => o.dst) = some 40 := by rw [← hall10]; kernel_rfl
   replace U := U.cons (hgd10_3)
   refine GoI.runN 2 nfw1 ?_
   refine GoI.runN 2 nfw1 ?_
   refine GoI.grd 40 nfw1 (fun hg3 => ?_) (fun hg3 => ?_)
   ·
    try simp only [hg3]
    refine GoI.runN 2 nfw1 ?_
    refine GoI.z nfw1 ?_
    refine PI.t 44 nfw1 ?_
    refine PI.q ?_
    refine rg111w1 (35) [] fun all11 _ => ?_
    refine GoI.z nfw1 ?_
    refine PI.r ?_
    exact FinI.mk _ nfw1 (by clear U; simp_all [finR, nrmA, nrm, AV.content, formedE, nullB, noS])
   try simp only [hg3]
   refine GoI.runN 2 nfw1 ?_
   refine GoI.z nfw1 ?_
   refine PI.d 44 nfw1 (fun hb5 => ?_) (fun hb5 => ?_)
   ·
    try simp only [hb5]
    refine PI.q ?_
    refine rg111w1 (35) [] fun all11 _ => ?_
    refine GoI.z nfw1 ?_
    refine PI.r ?_
    exact FinI.mk _ nfw1 (by clear U; simp_all [finR, nrmA, nrm, AV.content, formedE, nullB, noS])
   try simp only [hb5]
   refine PI.s ?_
   refine PI.q ?_
   refine PI.q ?_
   refine rg111w1 (39) [] fun all12 _ => ?_
   refine GoI.runN 2 nfw1 ?_
   refine GoI.runN 2 nfw1 ?_
   refine GoI.z nfw1 ?_
   refine PI.r ?_
   exact FinI.mk _ nfw1 (by clear U; simp_all [finR, nrmA, nrm, AV.content, formedE, nullB, noS])
  try simp only [hb3]
  refine PI.s ?_
  refine PI.q ?_
  refine rg111w1 (28) [] fun all8 _ => ?_
  refine GoI.z nfw1 ?_
  refine PI.d 27 nfw1 (fun hb4 => ?_) (fun hb4 => ?_)
  ·
   try simp only [hb4]
   refine PI.e 3 ?_
   refine PI.q ?_
   refine PI.q ?_
   refine rg111w1 (33) [] fun all12 _ => ?_
   refine GoI.runN 2 nfw1 ?_
   refine GoI.runN 2 nfw1 ?_
   refine GoI.z nfw1 ?_
   refine PI.r ?_
   exact FinI.mk _ nfw1 (by clear U; simp_all [finR, nrmA, nrm, AV.content, formedE, nullB, noS])
  try simp only [hb4]
  refine PI.s ?_
  refine PI.e 0 ?_
  refine PI.q ?_
  refine rg111w1 (38) [] fun all13 hall13 => ?_
  have hgd13_3 : (all13[3]?).bind (fun o => o.dst) = some 52 := by rw [← hall13]; kernel_rfl
  replace U := U.cons (hgd13_3)
  refine GoI.runN 2 nfw1 ?_
  refine GoI.runN 2 nfw1 ?_
  refine GoI.grd 52 nfw1 (fun hg4 => ?_) (fun hg4 => ?_)
  ·
   try simp only [hg4]
   refine GoI.runN 2 nfw1 ?_
   refine GoI.runN 2 nfw1 ?_
   refine GoI.z nfw1 ?_
   refine PI.r ?_
   exact FinI.mk _ nfw1 (by clear U; simp_all [finR, nrmA, nrm, AV.content, formedE, nullB, noS])
  try simp only [hg4]
  refine GoI.runN 2 nfw1 ?_
  refine GoI.runN 2 nfw1 ?_
  refine GoI.z nfw1 ?_
  refine PI.r ?_
  exact FinI.mk _ nfw1 (by clear U; simp_all [finR, nrmA, nrm, AV.content, formedE, nullB, noS])
theorem ar_cnt (op n : Int) (h0 : 0 ≤ n) (h1 : n ≤ 1099511627776) : (decide ((arOp op).1 < 0) || (decide (n < (arOp op).1) || decide (n > (arOp op).2))) = !(cntOp op n).1 := by
  unfold arOp cntOp
  repeat' split
  all_goals (rw [Bool.eq_iff_iff]; simp <;> omega)
theorem rg139w1 {T : List Rid} {p : Path} {Q : Exit → SL → Prop} {tm : List AV} {L : RL} {n : Nat} {c : Code} {l : List Oper} (n' : Nat) (Qs : List Nat) (h : ∀ all, (ro c).toList = all → GoI Tryz.prog T p all false Qs n 0 l tm L fun tm' L' => Q .normal ⟨tm', L', n'⟩) (hk : kd c = 0 := by kernel_rfl) (hr : rd c = false := by kernel_rfl) (hl : (ro c).toList = l := by dsimp only [ro, s1, s2, c1, c2, bc, bod, Tryz.f139, Option.getD_some] <;> exact rfl) (hn : n + (ro c).size = n' := by kernel_rfl) : PI Tryz.prog T p c Q ⟨tm, L, n⟩ := PI.rg n' Qs hk hr hl (fun h => by cases h) hn (h _ rfl)
theorem rd139w1 {T : List Rid} {p : Path} {Q : Exit → SL → Prop} {tm : List AV} {L : RL} {n : Nat} {c : Code} {l : List Oper} (n' : Nat) (Qs : List Nat) (h : ∀ all, (ro c).toList = all → GoI Tryz.prog T p all true Qs n 0 l tm L fun tm' L' => Q .normal ⟨tm', L', n'⟩) (hk : kd c = 0 := by kernel_rfl) (hr : rd c = true := by kernel_rfl) (hl : (ro c).toList = l := by dsimp only [ro, s1, s2, c1, c2, bc, bod, Tryz.f139, Option.getD_some] <;> exact rfl) (hn : n + (ro c).size = n' := by kernel_rfl) (hd : drawOK (ro c) Qs = true := by kernel_rfl) : PI Tryz.prog T p c Q ⟨tm, L, n⟩ := PI.rg n' Qs hk hr hl (fun _ => hd) hn (h _ rfl)
set_option maxRecDepth 100000 in
theorem okFormed' (op int : Int) (v : Vl) (name : ByteArray) (args : List Ex) (hl : args.length ≤ 1000000) : CallsOK Tryz.prog 139 [aEx op int v name args] (aB (formedE op int v name args.length)) := by
  have ha := ar_cnt op args.length (by omega) (by omega)
  have U : Hid True := ⟨trivial⟩
  refine CallsOK.of_pi mixed Tryz.func139 (by kernel_rfl) (by kernel_rfl) (?_ : PI _ _ _ _ _ ⟨[aEx op int v name args, .und, .und, .und, .und, .und, .und, .und, .und, .und, .und, .und, .und, .und, .und, .und, .und, .und, .und, .und, .und, .und, .und, .und, .und, .und, .und, .und, .und, .und, .und, .und, .und, .und, .und, .und, .und, .und, .und, .und, .und, .und, .und, .und, .und, .und, .und, .und, .und, .und, .und, .und, .und, .und, .und, .und, .und, .und, .und, .und, .und, .und, .und, .und, .und, .und, .und, .und, .und, .und, .und, .und, .und, .und, .und], [], 0⟩)
  refine PI.q ?_
  refine rg139w1 (2) [] fun all1 _ => ?_
  refine GoI.z nfw1 ?_
  refine PI.q ?_
  refine rg139w1 (10) [] fun all2 _ => ?_
  refine GoI.runN 2 nfw1 ?_
  refine GoI.call nfw1 nfw1 (by exact okArity _) ?_
  refine GoI.runN 2 nfw1 ?_
  refine GoI.runN 2 nfw1 ?_
  refine GoI.z nfw1 ?_
  refine PI.q ?_
  refine PI.q ?_
  refine rg139w1 (31) [] fun all3 hall3 => ?_
  have hgd3_2 : (all3[2]?).bind (fun o => o.dst) = some 13 := by rw [← hall3]; kernel_rfl
  have hgd3_9 : (all3[9]?).bind (fun o => o.dst) = some 20 := by rw [← hall3]; kernel_rfl
  have hgd3_16 : (all3[16]?).bind (fun o => o.dst) = some 27 := by rw [← hall3]; kernel_rfl
  replace U := U.cons (And.intro (hgd3_2) (And.intro (hgd3_9) (hgd3_16)))
  refine GoI.runN 2 nfw1 ?_
  refine GoI.runN 1 nfw1 ?_
  refine GoI.grd 13 nfw1 (fun hg1 => ?_) (fun hg1 => ?_)
  ·
   try simp only [hg1]
   refine GoI.runN 2 nfw1 ?_
   refine GoI.runN 2 nfw1 ?_
   refine GoI.runN 2 nfw1 ?_
   refine GoI.runN 2 nfw1 ?_
   refine GoI.runN 2 nfw1 ?_
   refine GoI.runN 2 nfw1 ?_
   refine GoI.runN 2 nfw1 ?_
   refine GoI.runN 2 nfw1 ?_
   refine GoI.z nfw1 ?_
   refine PI.t 31 nfw1 ?_
   refine PI.q ?_
   refine rg139w1 (32) [] fun all4 _ => ?_
   refine GoI.z nfw1 ?_
   refine PI.r ?_
   exact FinI.mk _ nfw1 (by clear U; (simp_all [finR, nrmA, nrm, AV.content, formedE, nullB, noS]) <;> (rw [Bool.eq_iff_iff]; simp; omega))
  try simp only [hg1]
  refine GoI.runN 2 nfw1 ?_
  refine GoI.runN 2 nfw1 ?_
  refine GoI.runN 2 nfw1 ?_
  refine GoI.runN 1 nfw1 ?_
  refine GoI.grd 20 nfw1 (fun hg2 => ?_) (fun hg2 => ?_)
  ·
   try simp only [hg2]
   refine GoI.runN 2 nfw1 ?_
   refine GoI.runN 2 nfw1 ?_
   refine GoI.runN 2 nfw1 ?_
   refine GoI.runN 2 nfw1 ?_
   refine GoI.runN 2 nfw1 ?_
   refine GoI.z nfw1 ?_
   refine PI.t 31 nfw1 ?_
   refine PI.q ?_
   refine rg139w1 (32) [] fun all4 _ => ?_
   refine GoI.z nfw1 ?_
   refine PI.r ?_
   exact FinI.mk _ nfw1 (by clear U; (simp_all [finR, nrmA, nrm, AV.content, formedE, nullB, noS]) <;> (rw [Bool.eq_iff_iff]; simp; omega))
  try simp only [hg2]
  refine GoI.runN 2 nfw1 ?_
  refine GoI.runN 2 nfw1 ?_
  refine GoI.runN 2 nfw1 ?_
  refine GoI.runN 1 nfw1 ?_
  refine GoI.grd 27 nfw1 (fun hg3 => ?_) (fun hg3 => ?_)
  ·
   try simp only [hg3]
   refine GoI.runN 2 nfw1 ?_
   refine GoI.z nfw1 ?_
   refine PI.t 31 nfw1 ?_
   refine PI.q ?_
   refine rg139w1 (32) [] fun all4 _ => ?_
   refine GoI.z nfw1 ?_
   refine PI.r ?_
   exact FinI.mk _ nfw1 (by clear U; (simp_all [finR, nrmA, nrm, AV.content, formedE, nullB, noS]) <;> (rw [Bool.eq_iff_iff]; simp; omega))
  try simp only [hg3]
  refine GoI.runN 2 nfw1 ?_
  refine GoI.z nfw1 ?_
  refine PI.d 31 nfw1 (fun hb1 => ?_) (fun hb1 => ?_)
  ·
   try simp only [hb1]
   refine PI.q ?_
   refine rg139w1 (32) [] fun all4 _ => ?_
   refine GoI.z nfw1 ?_
   refine PI.r ?_
   exact FinI.mk _ nfw1 (by clear U; (simp_all [finR, nrmA, nrm, AV.content, formedE, nullB, noS]) <;> (rw [Bool.eq_iff_iff]; simp; omega))
  try simp only [hb1]
  refine PI.s ?_
  refine PI.q ?_
  refine PI.q ?_
  refine rg139w1 (33) [] fun all5 _ => ?_
  refine GoI.z nfw1 ?_
  refine PI.b 0 ?_
  refine PI.q ?_
  refine rg139w1 (35) [] fun all6 _ => ?_
  refine GoI.z nfw1 ?_
  refine PI.d 34 nfw1 (fun hb2 => ?_) (fun hb2 => ?_)
  ·
   try simp only [hb2]
   refine PI.q ?_
   refine rg139w1 (44) [] fun all7 hall7 => ?_
   have hgd7_3 : (all7[3]?).bind (fun o => o.dst) = some 39 := by rw [← hall7]; kernel_rfl
   replace U := U.cons (hgd7_3)
   refine GoI.runN 2 nfw1 ?_
   refine GoI.runN 2 nfw1 ?_
   refine GoI.grd 39 nfw1 (fun hg4 => ?_) (fun hg4 => ?_)
   ·
    try simp only [hg4]
    refine GoI.runN 2 nfw1 ?_
    refine GoI.call nfw1 nfw1 (by exact okValid' v) ?_
    refine GoI.z nfw1 ?_
    refine PI.r ?_
    exact FinI.mk _ nfw1 (by clear U; (simp_all [finR, nrmA, nrm, AV.content, formedE, nullB, noS]) <;> (rw [Bool.eq_iff_iff]; simp; omega))
   try simp only [hg4]
   refine GoI.runN 2 nfw1 ?_
   refine GoI.runN 2 nfw1 ?_
   refine GoI.z nfw1 ?_
   refine PI.r ?_
   exact FinI.mk _ nfw1 (by clear U; (simp_all [finR, nrmA, nrm, AV.content, formedE, nullB, noS]) <;> (rw [Bool.eq_iff_iff]; simp; omega))
  try simp only [hb2]
  refine PI.q ?_
  refine rg139w1 (37) [] fun all8 _ => ?_
  refine GoI.z nfw1 ?_
  refine PI.d 44 nfw1 (fun hb3 => ?_) (fun hb3 => ?_)
  ·
   try simp only [hb3]
   refine PI.q ?_
   refine rd139w1 (42) [] fun all9 _ => ?_
   refine GoI.runN 2 nfw1 ?_
   refine GoI.call nfw1 nfw1 (by exact okNull') ?_
   refine GoI.z nfw1 ?_
   refine PI.r ?_
   exact FinI.mk _ nfw1 (by clear U; (simp_all [finR, nrmA, nrm, AV.content, formedE, nullB, noS]) <;> (rw [Bool.eq_iff_iff]; simp; omega))
  try simp only [hb3]
  refine PI.q ?_
  refine rg139w1 (39) [] fun all10 _ => ?_
  refine GoI.z nfw1 ?_
  refine PI.d 50 nfw1 (fun hb4 => ?_) (fun hb4 => ?_)
  ·
   try simp only [hb4]
   refine PI.q ?_
   refine rd139w1 (54) [] fun all11 hall11 => ?_
   have hgd11_4 : (all11[4]?).bind (fun o => o.dst) = some 56 := by rw [← hall11]; kernel_rfl
   have hgd11_9 : (all11[9]?).bind (fun o => o.dst) = some 61 := by rw [← hall11]; kernel_rfl
   replace U := U.cons (And.intro (hgd11_4) (hgd11_9))
   refine GoI.runN 2 nfw1 ?_
   refine GoI.call nfw1 nfw1 (by exact okNull') ?_
   refine GoI.runN 2 nfw1 ?_
   refine GoI.grd 56 nfw1 (fun hg5 => ?_) (fun hg5 => ?_)
   ·
    try simp only [hg5]
    refine GoI.runN 2 nfw1 ?_
    refine GoI.runN 2 nfw1 ?_
    refine GoI.runN 1 nfw1 ?_
    refine GoI.grd 61 nfw1 (fun hg6 => ?_) (fun hg6 => ?_)
    ·
     try simp only [hg6]
     refine GoI.runN 2 nfw1 ?_
     refine GoI.runN 2 nfw1 ?_
     refine GoI.z nfw1 ?_
     refine PI.r ?_
     exact FinI.mk _ nfw1 (by clear U; (simp_all [finR, nrmA, nrm, AV.content, formedE, nullB, noS]) <;> (rw [Bool.eq_iff_iff]; simp; omega))
    try simp only [hg6]
    refine GoI.runN 2 nfw1 ?_
    refine GoI.runN 2 nfw1 ?_
    refine GoI.z nfw1 ?_
    refine PI.r ?_
    exact FinI.mk _ nfw1 (by clear U; (simp_all [finR, nrmA, nrm, AV.content, formedE, nullB, noS]) <;> (rw [Bool.eq_iff_iff]; simp; omega))
   try simp only [hg5]
   refine GoI.runN 2 nfw1 ?_
   refine GoI.runN 2 nfw1 ?_
   refine GoI.runN 2 nfw1 ?_
   refine GoI.runN 2 nfw1 ?_
   refine GoI.z nfw1 ?_
   refine PI.r ?_
   exact FinI.mk _ nfw1 (by clear U; (simp_all [finR, nrmA, nrm, AV.content, formedE, nullB, noS]) <;> (rw [Bool.eq_iff_iff]; simp; omega))
  try simp only [hb4]
  refine PI.s ?_
  refine PI.q ?_
  refine rd139w1 (49) [] fun all12 hall12 => ?_
  have hgd12_3 : (all12[3]?).bind (fun o => o.dst) = some 69 := by rw [← hall12]; kernel_rfl
  replace U := U.cons (hgd12_3)
  refine GoI.runN 2 nfw1 ?_
  refine GoI.runN 2 nfw1 ?_
  refine GoI.grd 69 nfw1 (fun hg7 => ?_) (fun hg7 => ?_)
  ·
   try simp only [hg7]
   refine GoI.runN 2 nfw1 ?_
   refine GoI.call nfw1 nfw1 (by exact okNull') ?_
   refine GoI.runN 2 nfw1 ?_
   refine GoI.z nfw1 ?_
   refine PI.r ?_
   exact FinI.mk _ nfw1 (by clear U; (simp_all [finR, nrmA, nrm, AV.content, formedE, nullB, noS]) <;> (rw [Bool.eq_iff_iff]; simp; omega))
  try simp only [hg7]
  refine GoI.runN 2 nfw1 ?_
  refine GoI.runN 2 nfw1 ?_
  refine GoI.z nfw1 ?_
  refine PI.r ?_
  exact FinI.mk _ nfw1 (by clear U; (simp_all [finR, nrmA, nrm, AV.content, formedE, nullB, noS]) <;> (rw [Bool.eq_iff_iff]; simp; omega))
end Go.FE
namespace Go.FE
open Go.Proofs
theorem nfw2 {α : Type} {a b : α} (h : a = b := by simp only [goP, goN, mrk, Nat.reduceMul, Nat.one_mul, Nat.mul_one, eq_self, false_implies, implies_true, Nat.reduceLT, List.getElem?_toArray, isCall, List.contains_nil, List.contains_cons, Nat.reduceBEq, Bool.or_false, Bool.or_self, List.length_map, gOf, step, stepM, stepP, ev, okV, if_true, if_false, allocA, storeA, boxA, one1, tokN, tok1, buildA, rowA, nrmP, partV, partA, fieldA, fieldV, elemA, lenA, bltA, asSl, appA, makeA, makeR, cutA, bndA, binV, intOp, strOp, unV, eqB, nilB, sameT, List.all_cons, List.all_nil, Bool.and_self, Bool.and_true, Bool.true_and, List.map_cons, List.map_nil, List.nil_append, List.cons_append, List.append_nil, AV.bare, AV.content, AV.clean, AV.one, putD, List.set_cons_zero, List.set_cons_succ, List.reverse_cons, List.reverse_nil, List.getD_cons_zero, List.getD_cons_succ, List.getElem?_cons_zero, List.getElem?_cons_succ, Option.getD_some, Option.map_some, Option.map_none, Option.bind_some, List.length_cons, List.length_nil, lk, cellsA, fillA, fillS, isAggD, spl, nrm, nrmA, List.take_succ_cons, List.take_zero, List.drop_succ_cons, List.drop_zero, List.drop_nil, List.take_nil, Nat.reduceAdd, Nat.zero_add, Nat.add_zero, Nat.add_assoc, Nat.add_left_cancel_iff, reduceCtorEq, Prod.mk.injEq, List.cons.injEq, and_self, and_true, true_and, Nat.le_refl, Nat.reduceLeDiff, Nat.reduceEqDiff, List.getElem?_nil, Int.reduceToNat, Int.reduceLE, Int.reduceLT, ite_self, List.forall_mem_cons, List.not_mem_nil, false_and, and_false, Bool.false_eq_true, List.replicate_zero, List.replicate_succ, Int.toNat_natCast, neJ2, neJ2', neJ3, neJ3', callOf, callOf2, fnOf, argsA, args2, Array.isEmpty_empty, resLL, resVL, beq_self_eq_true, st3, zt3, it3, ct3, se3, Tryz.underlying3, st4, zt4, it4, ct4, se4, Tryz.underlying4, st9, zt9, it9, ct9, se9, Tryz.underlying9, st25, zt25, it25, ct25, pt25, eqs25, se25, Tryz.underlying25, st26, zt26, it26, ct26, se26, Tryz.underlying26, st28, zt28, it28, ct28, pt28, se28, Tryz.underlying28, Tryz.results191, Tryz.results164, Tryz.results106, U.out] <;> rfl) : a = b := h
mutual
def dpE : Ex → Nat
  | .mk _ _ _ _ args => dpEs args + 1
def dpEs : List Ex → Nat
  | [] => 0
  | e :: l => max (dpE e) (dpEs l)
end
theorem dpE_mk (op int : Int) (v : Vl) (name : ByteArray) (args : List Ex) : dpE (.mk op int v name args) = dpEs args + 1 := by rw [dpE]
theorem dpEs_nil : dpEs [] = 0 := by rw [dpEs]
theorem dpEs_app : ∀ (l : List Ex) (e : Ex), dpEs (l ++ [e]) = max (dpEs l) (dpE e)
  | [], e => by simp only [List.nil_append, dpEs]; omega
  | x :: l, e => by rw [List.cons_append, dpEs, dpEs, dpEs_app l e]; omega
theorem dpEs_succ {l : List Ex} {i : Nat} (h : i < l.length) : dpEs (l.take (i + 1)) = max (dpEs (l.take i)) (dpE l[i]) := by
  rw [List.take_succ_eq_append_getElem h, dpEs_app]
theorem dpEs_mem : ∀ {l : List Ex} {e : Ex}, e ∈ l → dpE e ≤ dpEs l
  | x :: l, e, h => by
    rw [dpEs]
    rcases List.mem_cons.1 h with rfl | h
    · omega
    · have := dpEs_mem h; omega
theorem exs_at {l : List Ex} {i : Nat} (h : i < l.length) : (l.map encE)[i]? = some (encE l[i]) := by simp [h]
abbrev aE (e : Ex) : AV := .agg 7 (encE e)
theorem aE_mk (op int : Int) (v : Vl) (name : ByteArray) (args : List Ex) : aE (.mk op int v name args) = aEx op int v name args := by unfold aE; rw [encE_mk]
inductive SmE (N : Nat) : Ex → Prop
  | mk {op int v name args} (h : args.length ≤ N) (h1 : ∀ a ∈ args, SmE N a) : SmE N (.mk op int v name args)
theorem SmE.len {N op int v name args} (h : SmE N (.mk op int v name args)) : args.length ≤ N := by cases h with | mk h _ => exact h
theorem SmE.arg {N op int v name args} (h : SmE N (.mk op int v name args)) : ∀ a ∈ args, SmE N a := by cases h with | mk _ h => exact h
theorem rg191w2 {T : List Rid} {p : Path} {Q : Exit → SL → Prop} {tm : List AV} {L : RL} {n : Nat} {c : Code} {l : List Oper} (n' : Nat) (Qs : List Nat) (h : ∀ all, (ro c).toList = all → GoI Tryz.prog T p all false Qs n 0 l tm L fun tm' L' => Q .normal ⟨tm', L', n'⟩) (hk : kd c = 0 := by kernel_rfl) (hr : rd c = false := by kernel_rfl) (hl : (ro c).toList = l := by dsimp only [ro, s1, s2, c1, c2, bc, bod, Tryz.f191, Option.getD_some] <;> exact rfl) (hn : n + (ro c).size = n' := by kernel_rfl) : PI Tryz.prog T p c Q ⟨tm, L, n⟩ := PI.rg n' Qs hk hr hl (fun h => by cases h) hn (h _ rfl)
set_option maxHeartbeats 1000000 in
set_option maxRecDepth 100000 in
theorem okDepthE1 : ∀ (n : Nat) (op int : Int) (v : Vl) (name : ByteArray) (args : List Ex) (most : Nat), dpEs args < n → most ≤ 1000000 → 1 ≤ most → SmE 1000000 (.mk op int v name args) → CallsOK Tryz.prog 191 [aEx op int v name args, aI most] (aI (min (dpEs args + 1) most : Nat)) := by
  intro n
  induction n with
  | zero => intro op int v name args most h; omega
  | succ n ih =>
  intro op int v name args most hd hm hm1 hs
  have hl := hs.len
  have hl' : args.length ≤ maxLen := by unfold maxLen; omega
  have U : Hid True := ⟨trivial⟩
  refine CallsOK.of_pi mixed Tryz.func191 (by kernel_rfl) (by kernel_rfl) (?_ : PI _ _ _ _ _ ⟨[aEx op int v name args, aI most, .und, .und, .und, .und, .und, .und, .und, .und, .und, .und, .und, .und, .und, .und, .und, .und, .und, .und, .und, .und, .und, .und, .und, .und], [], 0⟩)
  refine PI.q ?_
  refine rg191w2 (2) [] fun all1 _ => ?_
  refine GoI.z nfw2 ?_
  refine PI.q ?_
  refine rg191w2 (3) [] fun all2 _ => ?_
  refine GoI.z nfw2 ?_
  refine PI.q ?_
  refine PI.q ?_
  refine rg191w2 (5) [] fun all3 _ => ?_
  refine GoI.z nfw2 ?_
  refine PI.d 9 nfw2 (fun hb1 => ?_) (fun hb1 => ?_)
  ·
   try simp only [hb1]
   have h1 : most = 1 := by simp at hb1; omega
   refine PI.q ?_
   refine rg191w2 (6) [] fun all4 _ => ?_
   refine GoI.z nfw2 ?_
   refine PI.r ?_
   exact FinI.mk _ nfw2 (by clear U; (simp_all [finR, nrmA, nrm, AV.content]) <;> omega)
  try simp only [hb1]
  have h1 : 1 < most := by simp at hb1; omega
  refine PI.s ?_
  refine PI.q ?_
  refine PI.q ?_
  refine rg191w2 (9) [] fun all5 _ => ?_
  refine GoI.runN 2 nfw2 ?_
  refine GoI.z nfw2 ?_
  refine PI.b 0 ?_
  refine PI.lo (by kernel_rfl) (X := Nat) (fun i => (13, aI i) :: (5, aI (1 + min (dpEs (args.take i)) (most - 1) : Nat)) :: uk [7, 14, 15, 16, 17, 18, 19, 20, 21, 22, 23, 24]) (fun i => []) (fun k i => k = args.length - i ∧ i ≤ args.length) (args.length) (0) (GhI.of_wk ⟨by simp [ovr, uk, lessT, dpEs_nil], by simp [lessR, lk], by (try dsimp only); omega, keep0⟩) (by simp) ?_
  intro k1 x1 j1 hr1
  obtain ⟨rfl, hi1⟩ := hr1
  simp only [ovr, uk, List.set_cons_zero, List.set_cons_succ]
  refine PI.q ?_
  refine rg191w2 (j1 + 10) [] fun all6 _ => ?_
  refine GoI.z nfw2 ?_
  refine PI.q ?_
  refine PI.d 14 nfw2 (fun hb2 => ?_) (fun hb2 => ?_)
  ·
   try simp only [hb2]
   obtain ⟨hlt, hw⟩ := up hb2 hl'
   have hx := exs_at hlt
   have hts := dpEs_succ hlt
   have hs1 := hs.arg _ (List.getElem_mem hlt)
   have hdm := dpEs_mem (List.getElem_mem hlt)
   generalize he : args[x1] = e1
   rw [he] at hx hts hs1 hdm
   obtain ⟨op1, int1, v1, name1, args1⟩ := e1
   rw [encE_mk] at hx
   rw [dpE_mk] at hts hdm
   generalize hD : dpEs (args.take x1) = D
   generalize hE : dpEs args1 + 1 = E1
   rw [hD, hE] at hts
   have hw2 : IntKind.i64.wrap ((most : Int) - 1) = ((most - 1 : Nat) : Int) := by rw [w64 (by omega) (by omega)]; omega
   have hw3 : IntKind.i64.wrap (1 + ((min E1 (most - 1) : Nat) : Int)) = ((1 + min E1 (most - 1) : Nat) : Int) := by rw [w64 (by omega) (by omega)]; omega
   replace U := U.cons (And.intro (hw) (And.intro (hx) (And.intro (hw2) (And.intro (hw3) (And.intro (hD) (hE))))))
   refine PI.s ?_
   refine PI.q ?_
   refine PI.b 1 ?_
   refine PI.q ?_
   refine rg191w2 (j1 + 14) [] fun all7 _ => ?_
   refine GoI.runN 2 nfw2 ?_
   refine GoI.z nfw2 ?_
   refine rg191w2 (j1 + 22) [] fun all8 _ => ?_
   refine GoI.runN 2 nfw2 ?_
   refine GoI.runN 2 nfw2 ?_
   refine GoI.call nfw2 nfw2 (by exact ih _ _ _ _ _ _ (by omega) (by omega) (by omega) hs1) ?_
   refine GoI.runN 2 nfw2 ?_
   refine GoI.z nfw2 ?_
   refine rg191w2 (j1 + 24) [] fun all9 _ => ?_
   refine GoI.z nfw2 ?_
   refine ⟨args.length - (x1 + 1), x1 + 1, j1 + 15, by omega, ⟨rfl, by omega⟩, GhI.of_wk ⟨by simp [ovr, uk, lessT, hts]; omega, by simp [lessR, lk], by (try dsimp only); omega, keep0⟩⟩
  try simp only [hb2]
  have hge := dn hb2
  rw [List.take_of_length_le hge]
  refine PI.e 0 ?_
  refine PI.q ?_
  refine rg191w2 (j1 + 12) [] fun all10 _ => ?_
  refine GoI.z nfw2 ?_
  refine PI.r ?_
  exact FinI.mk _ nfw2 (by clear U; (simp_all [finR, nrmA, nrm, AV.content]) <;> omega)
theorem rg164w2 {T : List Rid} {p : Path} {Q : Exit → SL → Prop} {tm : List AV} {L : RL} {n : Nat} {c : Code} {l : List Oper} (n' : Nat) (Qs : List Nat) (h : ∀ all, (ro c).toList = all → GoI Tryz.prog T p all false Qs n 0 l tm L fun tm' L' => Q .normal ⟨tm', L', n'⟩) (hk : kd c = 0 := by kernel_rfl) (hr : rd c = false := by kernel_rfl) (hl : (ro c).toList = l := by dsimp only [ro, s1, s2, c1, c2, bc, bod, Tryz.f164, Option.getD_some] <;> exact rfl) (hn : n + (ro c).size = n' := by kernel_rfl) : PI Tryz.prog T p c Q ⟨tm, L, n⟩ := PI.rg n' Qs hk hr hl (fun h => by cases h) hn (h _ rfl)
theorem okDepthE (e : Ex) (hs : SmE 1000000 e) : CallsOK Tryz.prog 164 [aE e] (aI (min (dpE e) 25 : Nat)) := by
  obtain ⟨op, int, v, name, args⟩ := e
  rw [aE_mk, dpE_mk]
  have U : Hid True := ⟨trivial⟩
  refine CallsOK.of_pi mixed Tryz.func164 (by kernel_rfl) (by kernel_rfl) (?_ : PI _ _ _ _ _ ⟨[aEx op int v name args, .und, .und, .und, .und], [], 0⟩)
  refine PI.q ?_
  refine rg164w2 (2) [] fun all1 _ => ?_
  refine GoI.z nfw2 ?_
  refine PI.q ?_
  refine rg164w2 (5) [] fun all2 _ => ?_
  refine GoI.run nfw2 ?_
  refine GoI.call nfw2 nfw2 (by exact okDepthE1 _ _ _ _ _ _ 25 (Nat.lt_succ_self _) (by omega) (by omega) hs) ?_
  refine GoI.z nfw2 ?_
  refine PI.r ?_
  exact FinI.mk _ nfw2 (by clear U; first | (simp [finR, nrmA, nrm, AV.content]; done) | rfl)
theorem rg106w2 {T : List Rid} {p : Path} {Q : Exit → SL → Prop} {tm : List AV} {L : RL} {n : Nat} {c : Code} {l : List Oper} (n' : Nat) (Qs : List Nat) (h : ∀ all, (ro c).toList = all → GoI Tryz.prog T p all false Qs n 0 l tm L fun tm' L' => Q .normal ⟨tm', L', n'⟩) (hk : kd c = 0 := by kernel_rfl) (hr : rd c = false := by kernel_rfl) (hl : (ro c).toList = l := by dsimp only [ro, s1, s2, c1, c2, bc, bod, Tryz.f106, Option.getD_some] <;> exact rfl) (hn : n + (ro c).size = n' := by kernel_rfl) : PI Tryz.prog T p c Q ⟨tm, L, n⟩ := PI.rg n' Qs hk hr hl (fun h => by cases h) hn (h _ rfl)
set_option maxHeartbeats 1000000 in
set_option maxRecDepth 100000 in
theorem okDepthE1' : ∀ (n : Nat) (op int : Int) (v : Vl) (name : ByteArray) (args : List Ex), dpEs args < n → n ≤ 1000000 → SmE 1000000 (.mk op int v name args) → CallsOK Tryz.prog 106 [aEx op int v name args] (aI (dpEs args + 1 : Nat)) := by
  intro n
  induction n with
  | zero => intro op int v name args h; omega
  | succ n ih =>
  intro op int v name args hd hm hs
  have hl := hs.len
  have hl' : args.length ≤ maxLen := by unfold maxLen; omega
  have U : Hid True := ⟨trivial⟩
  refine CallsOK.of_pi mixed Tryz.func106 (by kernel_rfl) (by kernel_rfl) (?_ : PI _ _ _ _ _ ⟨[aEx op int v name args, .und, .und, .und, .und, .und, .und, .und, .und, .und, .und, .und, .und, .und, .und, .und, .und, .und, .und, .und, .und, .und], [], 0⟩)
  refine PI.q ?_
  refine rg106w2 (2) [] fun all1 _ => ?_
  refine GoI.z nfw2 ?_
  refine PI.q ?_
  refine rg106w2 (3) [] fun all2 _ => ?_
  refine GoI.z nfw2 ?_
  refine PI.q ?_
  refine PI.q ?_
  refine rg106w2 (4) [] fun all3 _ => ?_
  refine GoI.z nfw2 ?_
  refine PI.b 0 ?_
  refine PI.lo (by kernel_rfl) (X := Nat) (fun i => (4, aI i) :: (3, aI (dpEs (args.take i) : Nat)) :: uk [5, 6, 7, 8, 9, 10, 11, 12, 13, 14, 15, 16, 17, 18, 19]) (fun i => [(([0], 0), .var 28 [aI op, aI int, aI v.k, aI v.i, aS v.s, aS name, .sl (args.map encE) none])]) (fun k i => k = args.length - i ∧ i ≤ args.length) (args.length) (0) (GhI.of_wk ⟨by simp [ovr, uk, lessT, dpEs_nil], by simp [lessR, lk], by (try dsimp only); omega, keep0⟩) (by simp) ?_
  intro k1 x1 j1 hr1
  obtain ⟨rfl, hi1⟩ := hr1
  simp only [ovr, uk, List.set_cons_zero, List.set_cons_succ]
  refine PI.q ?_
  refine PI.q ?_
  refine rg106w2 (j1 + 9) [] fun all4 _ => ?_
  refine GoI.runN 2 nfw2 ?_
  refine GoI.runN 2 nfw2 ?_
  refine GoI.z nfw2 ?_
  refine PI.d 9 nfw2 (fun hb1 => ?_) (fun hb1 => ?_)
  ·
   try simp only [hb1]
   obtain ⟨hlt, hw⟩ := up hb1 hl'
   have hx := exs_at hlt
   have hts := dpEs_succ hlt
   have hs1 := hs.arg _ (List.getElem_mem hlt)
   have hdm := dpEs_mem (List.getElem_mem hlt)
   generalize he : args[x1] = e1
   rw [he] at hx hts hs1 hdm
   obtain ⟨op1, int1, v1, name1, args1⟩ := e1
   rw [encE_mk] at hx
   rw [dpE_mk] at hts hdm
   generalize hD : dpEs (args.take x1) = D
   generalize hE : dpEs args1 + 1 = E1
   rw [hD, hE] at hts
   replace U := U.cons (And.intro (hw) (And.intro (hx) (And.intro (hD) (hE))))
   refine PI.s ?_
   refine PI.q ?_
   refine PI.b 1 ?_
   refine rg106w2 (j1 + 18) [] fun all5 _ => ?_
   refine GoI.runN 2 nfw2 ?_
   refine GoI.runN 2 nfw2 ?_
   refine GoI.runN 2 nfw2 ?_
   refine GoI.call nfw2 nfw2 (by exact ih _ _ _ _ _ (by omega) (by omega) hs1) ?_
   refine GoI.z nfw2 ?_
   refine rg106w2 (j1 + 21) [] fun all6 _ => ?_
   refine GoI.runN 2 nfw2 ?_
   refine GoI.z nfw2 ?_
   refine ⟨args.length - (x1 + 1), x1 + 1, j1 + 17, by omega, ⟨rfl, by omega⟩, GhI.of_wk ⟨by simp [ovr, uk, lessT, hts]; omega, by simp [lessR, lk], by (try dsimp only); omega, keep0⟩⟩
  try simp only [hb1]
  have hge := dn hb1
  rw [List.take_of_length_le hge]
  have hw9 : IntKind.i64.wrap (((dpEs args : Nat) : Int) + 1) = ((dpEs args + 1 : Nat) : Int) := by rw [w64 (by omega) (by omega)]; omega
  replace U := U.cons (hw9)
  refine PI.e 0 ?_
  refine PI.q ?_
  refine rg106w2 (j1 + 12) [] fun all7 _ => ?_
  refine GoI.runN 2 nfw2 ?_
  refine GoI.z nfw2 ?_
  refine PI.r ?_
  exact FinI.mk _ nfw2 (by clear U; simp_all [finR, nrmA, nrm, AV.content])
end Go.FE
