/- Whether an expression is well-formed apart from its arguments. How deep expressions are nested. The kind of several expressions. -/
import Derived.Test.YtmblejfjbnoodaaGreatDoorN09
import Derived.Test.YtmblejfjbnoodaaGreatDoorN14
set_option linter.unusedVariables false
set_option linter.unusedSimpArgs false
namespace Go.FE
open Go.Proofs
theorem nfw1 {α : Type} {a b : α} (h : a = b := by simp only [goP, goN, mrk, Nat.reduceMul, Nat.one_mul, Nat.mul_one, eq_self, false_implies, implies_true, Nat.reduceLT, List.getElem?_toArray, isCall, List.contains_nil, List.contains_cons, Nat.reduceBEq, Bool.or_false, Bool.or_self, List.length_map, gOf, step, stepM, stepP, ev, okV, if_true, if_false, allocA, storeA, boxA, one1, tokN, tok1, buildA, rowA, nrmP, partV, partA, fieldA, fieldV, elemA, lenA, bltA, asSl, appA, makeA, makeR, cutA, bndA, binV, intOp, strOp, unV, eqB, nilB, sameT, List.all_cons, List.all_nil, Bool.and_self, Bool.and_true, Bool.true_and, List.map_cons, List.map_nil, List.nil_append, List.cons_append, List.append_nil, AV.bare, AV.content, AV.clean, AV.one, putD, List.set_cons_zero, List.set_cons_succ, List.reverse_cons, List.reverse_nil, List.getD_cons_zero, List.getD_cons_succ, List.getElem?_cons_zero, List.getElem?_cons_succ, Option.getD_some, Option.map_some, Option.map_none, Option.bind_some, List.length_cons, List.length_nil, lk, cellsA, fillA, fillS, isAggD, spl, nrm, nrmA, List.take_succ_cons, List.take_zero, List.drop_succ_cons, List.drop_zero, List.drop_nil, List.take_nil, Nat.reduceAdd, Nat.zero_add, Nat.add_zero, Nat.add_assoc, Nat.add_left_cancel_iff, reduceCtorEq, Prod.mk.injEq, List.cons.injEq, and_self, and_true, true_and, Nat.le_refl, Nat.reduceLeDiff, Nat.reduceEqDiff, List.getElem?_nil, Int.reduceToNat, Int.reduceLE, Int.reduceLT, ite_self, List.forall_mem_cons, List.not_mem_nil, false_and, and_false, Bool.false_eq_true, List.replicate_zero, List.replicate_succ, Int.toNat_natCast, neJ2, neJ2', neJ3, neJ3', callOf, callOf2, fnOf, argsA, args2, Array.isEmpty_empty, resLL, resVL, beq_self_eq_true, st3, zt3, it3, ct3, se3, Tryz.underlying3, st4, zt4, it4, ct4, se4, Tryz.underlying4, Tryz.results152, Tryz.results138, st9, zt9, it9, ct9, se9, Tryz.underlying9, st25, zt25, it25, ct25, pt25, eqs25, se25, Tryz.underlying25, st26, zt26, it26, ct26, se26, Tryz.underlying26, st28, zt28, it28, ct28, pt28, se28, Tryz.underlying28, st151, Tryz.underlying151, Tryz.results111, st146, Tryz.underlying146, Tryz.results139, nullV, U.out] <;> rfl) : a = b := h
/-- Whether an operator can have n arguments, and whether it is one of a bound expression. -/
def cntOp (op n : Int) : Bool × Bool :=
  if op == 1 || op == 2 then (n == 0, true)
  else if op == 4 || (op == 18 || (op == 20 || op == 21)) then (n == 1, true)
  else if op == 7 || (op == 8 || (op == 9 || (op == 10 || (op == 11 || (op == 12 || (op == 13 || (op == 14 || (op == 15 || (op == 16 || (op == 17 || op == 19)))))))))) then (n == 2, true)
  else if op == 5 || op == 6 then (decide (n ≥ 2), true)
  else if op == 22 then (n == 3, true)
  else if op == 23 then (decide (n ≥ 1), true)
  else if op == 24 then (n == 4, true)
  else (false, false)
theorem rg152w1 {T : List Rid} {p : Path} {Q : Exit → SL → Prop} {tm : List AV} {L : RL} {n : Nat} {c : Code} {l : List Oper} (n' : Nat) (Qs : List Nat) (h : ∀ all, (ro c).toList = all → GoI Tryz.prog T p all false Qs n 0 l tm L fun tm' L' => Q .normal ⟨tm', L', n'⟩) (hk : kd c = 0 := by kernel_rfl) (hr : rd c = false := by kernel_rfl) (hl : (ro c).toList = l := by dsimp only [ro, s1, s2, c1, c2, bc, bod, Tryz.f152, Option.getD_some] <;> exact rfl) (hn : n + (ro c).size = n' := by kernel_rfl) : PI Tryz.prog T p c Q ⟨tm, L, n⟩ := PI.rg n' Qs hk hr hl (fun h => by cases h) hn (h _ rfl)
set_option maxRecDepth 100000 in
theorem okCounts11 (op n : Int) : CallsOK Tryz.prog 152 [aI op, aI n] (.tup [aB (cntOp op n).1, aB (cntOp op n).2]) := by
  have U : Hid True := ⟨trivial⟩
  refine CallsOK.of_pi mixed Tryz.func152 (by kernel_rfl) (by kernel_rfl) (?_ : PI _ _ _ _ _ ⟨[aI op, aI n, .und, .und, .und, .und, .und, .und, .und, .und, .und, .und, .und, .und, .und, .und, .und, .und, .und, .und, .und, .und, .und, .und, .und, .und, .und, .und, .und, .und, .und, .und, .und, .und, .und, .und, .und, .und, .und, .und, .und, .und, .und, .und, .und, .und, .und, .und, .und, .und, .und], [], 0⟩)
  refine PI.q ?_
  refine rg152w1 (2) [] fun all1 _ => ?_
  refine GoI.z nfw1 ?_
  refine PI.q ?_
  refine PI.q ?_
  refine rg152w1 (3) [] fun all2 _ => ?_
  refine GoI.z nfw1 ?_
  refine PI.b 0 ?_
  refine PI.q ?_
  refine PI.q ?_
  refine rg152w1 (5) [] fun all3 _ => ?_
  refine GoI.z nfw1 ?_
  refine PI.d 7 nfw1 (fun hb1 => ?_) (fun hb1 => ?_)
  ·
   try simp only [hb1]
   refine PI.s ?_
   refine PI.t 7 nfw1 ?_
   refine PI.q ?_
   refine rg152w1 (9) [] fun all5 _ => ?_
   refine GoI.runN 2 nfw1 ?_
   refine GoI.z nfw1 ?_
   refine PI.r ?_
   exact FinI.mk _ nfw1 (by clear U; simp_all [finR, nrmA, nrm, AV.content, cntOp])
  try simp only [hb1]
  refine rg152w1 (7) [] fun all4 _ => ?_
  refine GoI.z nfw1 ?_
  refine PI.d 7 nfw1 (fun hb2 => ?_) (fun hb2 => ?_)
  ·
   try simp only [hb2]
   refine PI.q ?_
   refine rg152w1 (11) [] fun all5 _ => ?_
   refine GoI.runN 2 nfw1 ?_
   refine GoI.z nfw1 ?_
   refine PI.r ?_
   exact FinI.mk _ nfw1 (by clear U; simp_all [finR, nrmA, nrm, AV.content, cntOp])
  try simp only [hb2]
  refine PI.q ?_
  refine PI.q ?_
  refine rg152w1 (9) [] fun all6 _ => ?_
  refine GoI.z nfw1 ?_
  refine PI.d 12 nfw1 (fun hb3 => ?_) (fun hb3 => ?_)
  ·
   try simp only [hb3]
   refine PI.s ?_
   refine PI.t 12 nfw1 ?_
   refine PI.q ?_
   refine rg152w1 (13) [] fun all10 _ => ?_
   refine GoI.runN 2 nfw1 ?_
   refine GoI.z nfw1 ?_
   refine PI.r ?_
   exact FinI.mk _ nfw1 (by clear U; simp_all [finR, nrmA, nrm, AV.content, cntOp])
  try simp only [hb3]
  refine PI.q ?_
  refine rg152w1 (11) [] fun all7 _ => ?_
  refine GoI.z nfw1 ?_
  refine PI.d 12 nfw1 (fun hb4 => ?_) (fun hb4 => ?_)
  ·
   try simp only [hb4]
   refine PI.s ?_
   refine PI.t 12 nfw1 ?_
   refine PI.q ?_
   refine rg152w1 (15) [] fun all10 _ => ?_
   refine GoI.runN 2 nfw1 ?_
   refine GoI.z nfw1 ?_
   refine PI.r ?_
   exact FinI.mk _ nfw1 (by clear U; simp_all [finR, nrmA, nrm, AV.content, cntOp])
  try simp only [hb4]
  refine PI.q ?_
  refine rg152w1 (13) [] fun all8 _ => ?_
  refine GoI.z nfw1 ?_
  refine PI.d 12 nfw1 (fun hb5 => ?_) (fun hb5 => ?_)
  ·
   try simp only [hb5]
   refine PI.s ?_
   refine PI.t 12 nfw1 ?_
   refine PI.q ?_
   refine rg152w1 (17) [] fun all10 _ => ?_
   refine GoI.runN 2 nfw1 ?_
   refine GoI.z nfw1 ?_
   refine PI.r ?_
   exact FinI.mk _ nfw1 (by clear U; simp_all [finR, nrmA, nrm, AV.content, cntOp])
  try simp only [hb5]
  refine rg152w1 (15) [] fun all9 _ => ?_
  refine GoI.z nfw1 ?_
  refine PI.d 12 nfw1 (fun hb6 => ?_) (fun hb6 => ?_)
  ·
   try simp only [hb6]
   refine PI.q ?_
   refine rg152w1 (19) [] fun all10 _ => ?_
   refine GoI.runN 2 nfw1 ?_
   refine GoI.z nfw1 ?_
   refine PI.r ?_
   exact FinI.mk _ nfw1 (by clear U; simp_all [finR, nrmA, nrm, AV.content, cntOp])
  try simp only [hb6]
  refine PI.q ?_
  refine PI.q ?_
  refine rg152w1 (17) [] fun all11 _ => ?_
  refine GoI.z nfw1 ?_
  refine PI.d 19 nfw1 (fun hb7 => ?_) (fun hb7 => ?_)
  ·
   try simp only [hb7]
   refine PI.s ?_
   refine PI.t 19 nfw1 ?_
   refine PI.q ?_
   refine rg152w1 (21) [] fun all23 _ => ?_
   refine GoI.runN 2 nfw1 ?_
   refine GoI.z nfw1 ?_
   refine PI.r ?_
   exact FinI.mk _ nfw1 (by clear U; simp_all [finR, nrmA, nrm, AV.content, cntOp])
  try simp only [hb7]
  refine PI.q ?_
  refine rg152w1 (19) [] fun all12 _ => ?_
  refine GoI.z nfw1 ?_
  refine PI.d 19 nfw1 (fun hb8 => ?_) (fun hb8 => ?_)
  ·
   try simp only [hb8]
   refine PI.s ?_
   refine PI.t 19 nfw1 ?_
   refine PI.q ?_
   refine rg152w1 (23) [] fun all23 _ => ?_
   refine GoI.runN 2 nfw1 ?_
   refine GoI.z nfw1 ?_
   refine PI.r ?_
   exact FinI.mk _ nfw1 (by clear U; simp_all [finR, nrmA, nrm, AV.content, cntOp])
  try simp only [hb8]
  refine PI.q ?_
  refine rg152w1 (21) [] fun all13 _ => ?_
  refine GoI.z nfw1 ?_
  refine PI.d 19 nfw1 (fun hb9 => ?_) (fun hb9 => ?_)
  ·
   try simp only [hb9]
   refine PI.s ?_
   refine PI.t 19 nfw1 ?_
   refine PI.q ?_
   refine rg152w1 (25) [] fun all23 _ => ?_
   refine GoI.runN 2 nfw1 ?_
   refine GoI.z nfw1 ?_
   refine PI.r ?_
   exact FinI.mk _ nfw1 (by clear U; simp_all [finR, nrmA, nrm, AV.content, cntOp])
  try simp only [hb9]
  refine PI.q ?_
  refine rg152w1 (23) [] fun all14 _ => ?_
  refine GoI.z nfw1 ?_
  refine PI.d 19 nfw1 (fun hb10 => ?_) (fun hb10 => ?_)
  ·
   try simp only [hb10]
   refine PI.s ?_
   refine PI.t 19 nfw1 ?_
   refine PI.q ?_
   refine rg152w1 (27) [] fun all23 _ => ?_
   refine GoI.runN 2 nfw1 ?_
   refine GoI.z nfw1 ?_
   refine PI.r ?_
   exact FinI.mk _ nfw1 (by clear U; simp_all [finR, nrmA, nrm, AV.content, cntOp])
  try simp only [hb10]
  refine PI.q ?_
  refine rg152w1 (25) [] fun all15 _ => ?_
  refine GoI.z nfw1 ?_
  refine PI.d 19 nfw1 (fun hb11 => ?_) (fun hb11 => ?_)
  ·
   try simp only [hb11]
   refine PI.s ?_
   refine PI.t 19 nfw1 ?_
   refine PI.q ?_
   refine rg152w1 (29) [] fun all23 _ => ?_
   refine GoI.runN 2 nfw1 ?_
   refine GoI.z nfw1 ?_
   refine PI.r ?_
   exact FinI.mk _ nfw1 (by clear U; simp_all [finR, nrmA, nrm, AV.content, cntOp])
  try simp only [hb11]
  refine PI.q ?_
  refine rg152w1 (27) [] fun all16 _ => ?_
  refine GoI.z nfw1 ?_
  refine PI.d 19 nfw1 (fun hb12 => ?_) (fun hb12 => ?_)
  ·
   try simp only [hb12]
   refine PI.s ?_
   refine PI.t 19 nfw1 ?_
   refine PI.q ?_
   refine rg152w1 (31) [] fun all23 _ => ?_
   refine GoI.runN 2 nfw1 ?_
   refine GoI.z nfw1 ?_
   refine PI.r ?_
   exact FinI.mk _ nfw1 (by clear U; simp_all [finR, nrmA, nrm, AV.content, cntOp])
  try simp only [hb12]
  refine PI.q ?_
  refine rg152w1 (29) [] fun all17 _ => ?_
  refine GoI.z nfw1 ?_
  refine PI.d 19 nfw1 (fun hb13 => ?_) (fun hb13 => ?_)
  ·
   try simp only [hb13]
   refine PI.s ?_
   refine PI.t 19 nfw1 ?_
   refine PI.q ?_
   refine rg152w1 (33) [] fun all23 _ => ?_
   refine GoI.runN 2 nfw1 ?_
   refine GoI.z nfw1 ?_
   refine PI.r ?_
   exact FinI.mk _ nfw1 (by clear U; simp_all [finR, nrmA, nrm, AV.content, cntOp])
  try simp only [hb13]
  refine PI.q ?_
  refine rg152w1 (31) [] fun all18 _ => ?_
  refine GoI.z nfw1 ?_
  refine PI.d 19 nfw1 (fun hb14 => ?_) (fun hb14 => ?_)
  ·
   try simp only [hb14]
   refine PI.s ?_
   refine PI.t 19 nfw1 ?_
   refine PI.q ?_
   refine rg152w1 (35) [] fun all23 _ => ?_
   refine GoI.runN 2 nfw1 ?_
   refine GoI.z nfw1 ?_
   refine PI.r ?_
   exact FinI.mk _ nfw1 (by clear U; simp_all [finR, nrmA, nrm, AV.content, cntOp])
  try simp only [hb14]
  refine PI.q ?_
  refine rg152w1 (33) [] fun all19 _ => ?_
  refine GoI.z nfw1 ?_
  refine PI.d 19 nfw1 (fun hb15 => ?_) (fun hb15 => ?_)
  ·
   try simp only [hb15]
   refine PI.s ?_
   refine PI.t 19 nfw1 ?_
   refine PI.q ?_
   refine rg152w1 (37) [] fun all23 _ => ?_
   refine GoI.runN 2 nfw1 ?_
   refine GoI.z nfw1 ?_
   refine PI.r ?_
   exact FinI.mk _ nfw1 (by clear U; simp_all [finR, nrmA, nrm, AV.content, cntOp])
  try simp only [hb15]
  refine PI.q ?_
  refine rg152w1 (35) [] fun all20 _ => ?_
  refine GoI.z nfw1 ?_
  refine PI.d 19 nfw1 (fun hb16 => ?_) (fun hb16 => ?_)
  ·
   try simp only [hb16]
   refine PI.s ?_
   refine PI.t 19 nfw1 ?_
   refine PI.q ?_
   refine rg152w1 (39) [] fun all23 _ => ?_
   refine GoI.runN 2 nfw1 ?_
   refine GoI.z nfw1 ?_
   refine PI.r ?_
   exact FinI.mk _ nfw1 (by clear U; simp_all [finR, nrmA, nrm, AV.content, cntOp])
  try simp only [hb16]
  refine PI.q ?_
  refine rg152w1 (37) [] fun all21 _ => ?_
  refine GoI.z nfw1 ?_
  refine PI.d 19 nfw1 (fun hb17 => ?_) (fun hb17 => ?_)
  ·
   try simp only [hb17]
   refine PI.s ?_
   refine PI.t 19 nfw1 ?_
   refine PI.q ?_
   refine rg152w1 (41) [] fun all23 _ => ?_
   refine GoI.runN 2 nfw1 ?_
   refine GoI.z nfw1 ?_
   refine PI.r ?_
   exact FinI.mk _ nfw1 (by clear U; simp_all [finR, nrmA, nrm, AV.content, cntOp])
  try simp only [hb17]
  refine rg152w1 (39) [] fun all22 _ => ?_
  refine GoI.z nfw1 ?_
  refine PI.d 19 nfw1 (fun hb18 => ?_) (fun hb18 => ?_)
  ·
   try simp only [hb18]
   refine PI.q ?_
   refine rg152w1 (43) [] fun all23 _ => ?_
   refine GoI.runN 2 nfw1 ?_
   refine GoI.z nfw1 ?_
   refine PI.r ?_
   exact FinI.mk _ nfw1 (by clear U; simp_all [finR, nrmA, nrm, AV.content, cntOp])
  try simp only [hb18]
  refine PI.q ?_
  refine PI.q ?_
  refine rg152w1 (41) [] fun all24 _ => ?_
  refine GoI.z nfw1 ?_
  refine PI.d 34 nfw1 (fun hb19 => ?_) (fun hb19 => ?_)
  ·
   try simp only [hb19]
   refine PI.s ?_
   refine PI.t 34 nfw1 ?_
   refine PI.q ?_
   refine rg152w1 (45) [] fun all26 _ => ?_
   refine GoI.runN 2 nfw1 ?_
   refine GoI.z nfw1 ?_
   refine PI.r ?_
   exact FinI.mk _ nfw1 (by clear U; simp_all [finR, nrmA, nrm, AV.content, cntOp])
  try simp only [hb19]
  refine rg152w1 (43) [] fun all25 _ => ?_
  refine GoI.z nfw1 ?_
  refine PI.d 34 nfw1 (fun hb20 => ?_) (fun hb20 => ?_)
  ·
   try simp only [hb20]
   refine PI.q ?_
   refine rg152w1 (47) [] fun all26 _ => ?_
   refine GoI.runN 2 nfw1 ?_
   refine GoI.z nfw1 ?_
   refine PI.r ?_
   exact FinI.mk _ nfw1 (by clear U; simp_all [finR, nrmA, nrm, AV.content, cntOp])
  try simp only [hb20]
  refine PI.q ?_
  refine rg152w1 (45) [] fun all27 _ => ?_
  refine GoI.z nfw1 ?_
  refine PI.d 39 nfw1 (fun hb21 => ?_) (fun hb21 => ?_)
  ·
   try simp only [hb21]
   refine PI.q ?_
   refine rg152w1 (49) [] fun all28 _ => ?_
   refine GoI.runN 2 nfw1 ?_
   refine GoI.z nfw1 ?_
   refine PI.r ?_
   exact FinI.mk _ nfw1 (by clear U; simp_all [finR, nrmA, nrm, AV.content, cntOp])
  try simp only [hb21]
  refine PI.q ?_
  refine rg152w1 (47) [] fun all29 _ => ?_
  refine GoI.z nfw1 ?_
  refine PI.d 43 nfw1 (fun hb22 => ?_) (fun hb22 => ?_)
  ·
   try simp only [hb22]
   refine PI.q ?_
   refine rg152w1 (51) [] fun all30 _ => ?_
   refine GoI.runN 2 nfw1 ?_
   refine GoI.z nfw1 ?_
   refine PI.r ?_
   exact FinI.mk _ nfw1 (by clear U; simp_all [finR, nrmA, nrm, AV.content, cntOp])
  try simp only [hb22]
  refine PI.q ?_
  refine rg152w1 (49) [] fun all31 _ => ?_
  refine GoI.z nfw1 ?_
  refine PI.d 47 nfw1 (fun hb23 => ?_) (fun hb23 => ?_)
  ·
   try simp only [hb23]
   refine PI.q ?_
   refine rg152w1 (53) [] fun all32 _ => ?_
   refine GoI.runN 2 nfw1 ?_
   refine GoI.z nfw1 ?_
   refine PI.r ?_
   exact FinI.mk _ nfw1 (by clear U; simp_all [finR, nrmA, nrm, AV.content, cntOp])
  try simp only [hb23]
  refine PI.s ?_
  refine PI.q ?_
  refine rg152w1 (51) [] fun all33 _ => ?_
  refine GoI.z nfw1 ?_
  refine PI.r ?_
  exact FinI.mk _ nfw1 (by clear U; simp_all [finR, nrmA, nrm, AV.content, cntOp])
def nullB (v : Vl) : Bool := v.k == 0 && (v.i == 0 && noS v.s)
def formedE (op int : Int) (v : Vl) (name : ByteArray) (n : Int) : Bool :=
  if (!(cntOp op n).1 || !noS name) = true then false
  else if op == 1 then int == 0 && validV v
  else if op == 24 then (if (decide (int < 0) || decide (int ≥ 13)) = true then false else nullB v)
  else if op == 2 then nullB v
  else int == 0 && nullB v
abbrev aEx (op int : Int) (v : Vl) (name : ByteArray) (args : List Ex) : AV := .agg 7 [aI op, aI int, aI v.k, aI v.i, aS v.s, aS name, .sl (args.map encE) none]
theorem rg111w1 {T : List Rid} {p : Path} {Q : Exit → SL → Prop} {tm : List AV} {L : RL} {n : Nat} {c : Code} {l : List Oper} (n' : Nat) (Qs : List Nat) (h : ∀ all, (ro c).toList = all → GoI Tryz.prog T p all false Qs n 0 l tm L fun tm' L' => Q .normal ⟨tm', L', n'⟩) (hk : kd c = 0 := by kernel_rfl) (hr : rd c = false := by kernel_rfl) (hl : (ro c).toList = l := by dsimp only [ro, s1, s2, c1, c2, bc, bod, Tryz.f111, Option.getD_some] <;> exact rfl) (hn : n + (ro c).size = n' := by kernel_rfl) : PI Tryz.prog T p c Q ⟨tm, L, n⟩ := PI.rg n' Qs hk hr hl (fun h => by cases h) hn (h _ rfl)
set_option maxRecDepth 100000 in
theorem okFormed (op int : Int) (v : Vl) (name : ByteArray) (args : List Ex) : CallsOK Tryz.prog 111 [aEx op int v name args] (aB (formedE op int v name args.length)) := by
  have U : Hid True := ⟨trivial⟩
  refine CallsOK.of_pi mixed Tryz.func111 (by kernel_rfl) (by kernel_rfl) (?_ : PI _ _ _ _ _ ⟨[aEx op int v name args, .und, .und, .und, .und, .und, .und, .und, .und, .und, .und, .und, .und, .und, .und, .und, .und, .und, .und, .und, .und, .und, .und, .und, .und, .und, .und, .und, .und, .und, .und, .und, .und, .und, .und, .und, .und, .und, .und, .und, .und, .und, .und, .und, .und, .und, .und, .und, .und, .und, .und, .und, .und, .und, .und, .und, .und, .und], [], 0⟩)
  refine PI.q ?_
  refine rg111w1 (2) [] fun all1 _ => ?_
  refine GoI.z nfw1 ?_
  refine PI.q ?_
  refine rg111w1 (13) [] fun all2 _ => ?_
  refine GoI.runN 2 nfw1 ?_
  refine GoI.runN 2 nfw1 ?_
  refine GoI.run nfw1 ?_
  refine GoI.call nfw1 nfw1 (by exact okCounts11 _ _) ?_
  refine GoI.runN 2 nfw1 ?_
  refine GoI.runN 2 nfw1 ?_
  refine GoI.z nfw1 ?_
  refine PI.q ?_
  refine PI.q ?_
  refine rg111w1 (20) [] fun all3 hall3 => ?_
  have hgd3_2 : (all3[2]?).bind (fun o => o.dst) = some 16 := by rw [← hall3]; kernel_rfl
  replace U := U.cons (hgd3_2)
  refine GoI.runN 2 nfw1 ?_
  refine GoI.runN 1 nfw1 ?_
  refine GoI.grd 16 nfw1 (fun hg1 => ?_) (fun hg1 => ?_)
  ·
   try simp only [hg1]
   refine GoI.runN 2 nfw1 ?_
   refine GoI.z nfw1 ?_
   refine PI.t 20 nfw1 ?_
   refine PI.q ?_
   refine rg111w1 (21) [] fun all4 _ => ?_
   refine GoI.z nfw1 ?_
   refine PI.r ?_
   exact FinI.mk _ nfw1 (by clear U; simp_all [finR, nrmA, nrm, AV.content, formedE, nullB, noS])
  try simp only [hg1]
  refine GoI.runN 2 nfw1 ?_
  refine GoI.z nfw1 ?_
  refine PI.d 20 nfw1 (fun hb1 => ?_) (fun hb1 => ?_)
  ·
   try simp only [hb1]
   refine PI.q ?_
   refine rg111w1 (21) [] fun all4 _ => ?_
   refine GoI.z nfw1 ?_
   refine PI.r ?_
   exact FinI.mk _ nfw1 (by clear U; simp_all [finR, nrmA, nrm, AV.content, formedE, nullB, noS])
  try simp only [hb1]
  refine PI.s ?_
  refine PI.q ?_
  refine PI.q ?_
  refine rg111w1 (22) [] fun all5 _ => ?_
  refine GoI.z nfw1 ?_
  refine PI.b 0 ?_
  refine PI.q ?_
  refine PI.b 3 ?_
  refine PI.q ?_
  refine PI.b 2 ?_
  refine PI.q ?_
  refine PI.b 1 ?_
  refine PI.q ?_
  refine PI.q ?_
  refine PI.q ?_
  refine rg111w1 (24) [] fun all6 _ => ?_
  refine GoI.z nfw1 ?_
  refine PI.d 23 nfw1 (fun hb2 => ?_) (fun hb2 => ?_)
  ·
   try simp only [hb2]
   refine PI.e 1 ?_
   refine PI.q ?_
   refine PI.q ?_
   refine rg111w1 (33) [] fun all9 hall9 => ?_
   have hgd9_3 : (all9[3]?).bind (fun o => o.dst) = some 32 := by rw [← hall9]; kernel_rfl
   replace U := U.cons (hgd9_3)
   refine GoI.runN 2 nfw1 ?_
   refine GoI.runN 2 nfw1 ?_
   refine GoI.grd 32 nfw1 (fun hg2 => ?_) (fun hg2 => ?_)
   ·
    try simp only [hg2]
    refine GoI.runN 2 nfw1 ?_
    refine GoI.call nfw1 nfw1 (by exact okValid v) ?_
    refine GoI.z nfw1 ?_
    refine PI.r ?_
    exact FinI.mk _ nfw1 (by clear U; simp_all [finR, nrmA, nrm, AV.content, formedE, nullB, noS])
   try simp only [hg2]
   refine GoI.runN 2 nfw1 ?_
   refine GoI.runN 2 nfw1 ?_
   refine GoI.z nfw1 ?_
   refine PI.r ?_
   exact FinI.mk _ nfw1 (by clear U; simp_all [finR, nrmA, nrm, AV.content, formedE, nullB, noS])
  try simp only [hb2]
  refine PI.s ?_
  refine PI.q ?_
  refine PI.q ?_
  refine rg111w1 (26) [] fun all7 _ => ?_
  refine GoI.z nfw1 ?_
  refine PI.d 25 nfw1 (fun hb3 => ?_) (fun hb3 => ?_)
  ·
   try simp only [hb3]
   refine PI.e 2 ?_
   refine PI.q ?_
   refine rg111w1 (34) [] fun all10 hall10 => ?_
   have hgd10_3 : (all10[3]?).bind (fun o => o.dst) = some 40 := by rw [← hall10]; kernel_rfl
   replace U := U.cons (hgd10_3)
   refine GoI.runN 2 nfw1 ?_
   refine GoI.runN 2 nfw1 ?_
   refine GoI.grd 40 nfw1 (fun hg3 => ?_) (fun hg3 => ?_)
   ·
    try simp only [hg3]
    refine GoI.runN 2 nfw1 ?_
    refine GoI.z nfw1 ?_
    refine PI.t 44 nfw1 ?_
    refine PI.q ?_
    refine rg111w1 (35) [] fun all11 _ => ?_
    refine GoI.z nfw1 ?_
    refine PI.r ?_
    exact FinI.mk _ nfw1 (by clear U; simp_all [finR, nrmA, nrm, AV.content, formedE, nullB, noS])
   try simp only [hg3]
   refine GoI.runN 2 nfw1 ?_
   refine GoI.z nfw1 ?_
   refine PI.d 44 nfw1 (fun hb5 => ?_) (fun hb5 => ?_)
   ·
    try simp only [hb5]
    refine PI.q ?_
    refine rg111w1 (35) [] fun all11 _ => ?_
    refine GoI.z nfw1 ?_
    refine PI.r ?_
    exact FinI.mk _ nfw1 (by clear U; simp_all [finR, nrmA, nrm, AV.content, formedE, nullB, noS])
   try simp only [hb5]
   refine PI.s ?_
   refine PI.q ?_
   refine PI.q ?_
   refine rg111w1 (39) [] fun all12 _ => ?_
   refine GoI.runN 2 nfw1 ?_
   refine GoI.runN 2 nfw1 ?_
   refine GoI.z nfw1 ?_
   refine PI.r ?_
   exact FinI.mk _ nfw1 (by clear U; simp_all [finR, nrmA, nrm, AV.content, formedE, nullB, noS])
  try simp only [hb3]
  refine PI.s ?_
  refine PI.q ?_
  refine rg111w1 (28) [] fun all8 _ => ?_
  refine GoI.z nfw1 ?_
  refine PI.d 27 nfw1 (fun hb4 => ?_) (fun hb4 => ?_)
  ·
   try simp only [hb4]
   refine PI.e 3 ?_
   refine PI.q ?_
   refine PI.q ?_
   refine rg111w1 (33) [] fun all12 _ => ?_
   refine GoI.runN 2 nfw1 ?_
   refine GoI.runN 2 nfw1 ?_
   refine GoI.z nfw1 ?_
   refine PI.r ?_
   exact FinI.mk _ nfw1 (by clear U; simp_all [finR, nrmA, nrm, AV.content, formedE, nullB, noS])
  try simp only [hb4]
  refine PI.s ?_
  refine PI.e 0 ?_
  refine PI.q ?_
  refine rg111w1 (38) [] fun all13 hall13 => ?_
  have hgd13_3 : (all13[3]?).bind (fun o => o.dst) = some 52 := by rw [← hall13]; kernel_rfl
  replace U := U.cons (hgd13_3)
  refine GoI.runN 2 nfw1 ?_
  refine GoI.runN 2 nfw1 ?_
  refine GoI.grd 52 nfw1 (fun hg4 => ?_) (fun hg4 => ?_)
  ·
   try simp only [hg4]
   refine GoI.runN 2 nfw1 ?_
   refine GoI.runN 2 nfw1 ?_
   refine GoI.z nfw1 ?_
   refine PI.r ?_
   exact FinI.mk _ nfw1 (by clear U; simp_all [finR, nrmA, nrm, AV.content, formedE, nullB, noS])
  try simp only [hg4]
  refine GoI.runN 2 nfw1 ?_
  refine GoI.runN 2 nfw1 ?_
  refine GoI.z nfw1 ?_
  refine PI.r ?_
  exact FinI.mk _ nfw1 (by clear U; simp_all [finR, nrmA, nrm, AV.content, formedE, nullB, noS])
end Go.FE
namespace Go.FE
open Go.Proofs
theorem nfw2 {α : Type} {a b : α} (h : a = b := by simp only [goP, goN, mrk, Nat.reduceMul, Nat.one_mul, Nat.mul_one, eq_self, false_implies, implies_true, Nat.reduceLT, List.getElem?_toArray, isCall, List.contains_nil, List.contains_cons, Nat.reduceBEq, Bool.or_false, Bool.or_self, List.length_map, gOf, step, stepM, stepP, ev, okV, if_true, if_false, allocA, storeA, boxA, one1, tokN, tok1, buildA, rowA, nrmP, partV, partA, fieldA, fieldV, elemA, lenA, bltA, asSl, appA, makeA, makeR, cutA, bndA, binV, intOp, strOp, unV, eqB, nilB, sameT, List.all_cons, List.all_nil, Bool.and_self, Bool.and_true, Bool.true_and, List.map_cons, List.map_nil, List.nil_append, List.cons_append, List.append_nil, AV.bare, AV.content, AV.clean, AV.one, putD, List.set_cons_zero, List.set_cons_succ, List.reverse_cons, List.reverse_nil, List.getD_cons_zero, List.getD_cons_succ, List.getElem?_cons_zero, List.getElem?_cons_succ, Option.getD_some, Option.map_some, Option.map_none, Option.bind_some, List.length_cons, List.length_nil, lk, cellsA, fillA, fillS, isAggD, spl, nrm, nrmA, List.take_succ_cons, List.take_zero, List.drop_succ_cons, List.drop_zero, List.drop_nil, List.take_nil, Nat.reduceAdd, Nat.zero_add, Nat.add_zero, Nat.add_assoc, Nat.add_left_cancel_iff, reduceCtorEq, Prod.mk.injEq, List.cons.injEq, and_self, and_true, true_and, Nat.le_refl, Nat.reduceLeDiff, Nat.reduceEqDiff, List.getElem?_nil, Int.reduceToNat, Int.reduceLE, Int.reduceLT, ite_self, List.forall_mem_cons, List.not_mem_nil, false_and, and_false, Bool.false_eq_true, List.replicate_zero, List.replicate_succ, Int.toNat_natCast, neJ2, neJ2', neJ3, neJ3', callOf, callOf2, fnOf, argsA, args2, Array.isEmpty_empty, resLL, resVL, beq_self_eq_true, st3, zt3, it3, ct3, se3, Tryz.underlying3, st4, zt4, it4, ct4, se4, Tryz.underlying4, st9, zt9, it9, ct9, se9, Tryz.underlying9, st25, zt25, it25, ct25, pt25, eqs25, se25, Tryz.underlying25, st26, zt26, it26, ct26, se26, Tryz.underlying26, st28, zt28, it28, ct28, pt28, se28, Tryz.underlying28, Tryz.results191, Tryz.results164, Tryz.results106, U.out] <;> rfl) : a = b := h
mutual
def dpE : Ex → Nat
  | .mk _ _ _ _ args => dpEs args + 1
def dpEs : List Ex → Nat
  | [] => 0
  | e :: l => max (dpE e) (dpEs l)
end
theorem dpE_mk (op int : Int) (v : Vl) (name : ByteArray) (args : List Ex) : dpE (.mk op int v name args) = dpEs args + 1 := by rw [dpE]
theorem dpEs_nil : dpEs [] = 0 := by rw [dpEs]
theorem dpEs_app : ∀ (l : List Ex) (e : Ex), dpEs (l ++ [e]) = max (dpEs l) (dpE e)
  | [], e => by simp only [List.nil_append, dpEs]; omega
  | x :: l, e => by rw [List.cons_append, dpEs, dpEs, dpEs_app l e]; omega
theorem dpEs_succ {l : List Ex} {i : Nat} (h : i < l.length) : dpEs (l.take (i + 1)) = max (dpEs (l.take i)) (dpE l[i]) := by
  rw [List.take_succ_eq_append_getElem h, dpEs_app]
theorem dpEs_mem : ∀ {l : List Ex} {e : Ex}, e ∈ l → dpE e ≤ dpEs l
  | x :: l, e, h => by
    rw [dpEs]
    rcases List.mem_cons.1 h with rfl | h
    · omega
    · have := dpEs_mem h; omega
theorem exs_at {l : List Ex} {i : Nat} (h : i < l.length) : (l.map encE)[i]? = some (encE l[i]) := by simp [h]
abbrev aE (e : Ex) : AV := .agg 7 (encE e)
theorem aE_mk (op int : Int) (v : Vl) (name : ByteArray) (args : List Ex) : aE (.mk op int v name args) = aEx op int v name args := by unfold aE; rw [encE_mk]
inductive SmE (N : Nat) : Ex → Prop
  | mk {op int v name args} (h : args.length ≤ N) (h1 : ∀ a ∈ args, SmE N a) : SmE N (.mk op int v name args)
theorem SmE.len {N op int v name args} (h : SmE N (.mk op int v name args)) : args.length ≤ N := by cases h with | mk h _ => exact h
theorem SmE.arg {N op int v name args} (h : SmE N (.mk op int v name args)) : ∀ a ∈ args, SmE N a := by cases h with | mk _ h => exact h
theorem rg191w2 {T : List Rid} {p : Path} {Q : Exit → SL → Prop} {tm : List AV} {L : RL} {n : Nat} {c : Code} {l : List Oper} (n' : Nat) (Qs : List Nat) (h : ∀ all, (ro c).toList = all → GoI Tryz.prog T p all false Qs n 0 l tm L fun tm' L' => Q .normal ⟨tm', L', n'⟩) (hk : kd c = 0 := by kernel_rfl) (hr : rd c = false := by kernel_rfl) (hl : (ro c).toList = l := by dsimp only [ro, s1, s2, c1, c2, bc, bod, Tryz.f191, Option.getD_some] <;> exact rfl) (hn : n + (ro c).size = n' := by kernel_rfl) : PI Tryz.prog T p c Q ⟨tm, L, n⟩ := PI.rg n' Qs hk hr hl (fun h => by cases h) hn (h _ rfl)
set_option maxHeartbeats 1000000 in
set_option maxRecDepth 100000 in
theorem okDepthE1 : ∀ (n : Nat) (op int : Int) (v : Vl) (name : ByteArray) (args : List Ex) (most : Nat), dpEs args < n → most ≤ 1000000 → 1 ≤ most → SmE 1000000 (.mk op int v name args) → CallsOK Tryz.prog 191 [aEx op int v name args, aI most] (aI (min (dpEs args + 1) most : Nat)) := by
  intro n
  induction n with
  | zero => intro op int v name args most h; omega
  | succ n ih =>
  intro op int v name args most hd hm hm1 hs
  have hl := hs.len
  have hl' : args.length ≤ maxLen := by unfold maxLen; omega
  have U : Hid True := ⟨trivial⟩
  refine CallsOK.of_pi mixed Tryz.func191 (by kernel_rfl) (by kernel_rfl) (?_ : PI _ _ _ _ _ ⟨[aEx op int v name args, aI most, .und, .und, .und, .und, .und, .und, .und, .und, .und, .und, .und, .und, .und, .und, .und, .und, .und, .und, .und, .und, .und, .und, .und, .und], [], 0⟩)
  refine PI.q ?_
  refine rg191w2 (2) [] fun all1 _ => ?_
  refine GoI.z nfw2 ?_
  refine PI.q ?_
  refine rg191w2 (3) [] fun all2 _ => ?_
  refine GoI.z nfw2 ?_
  refine PI.q ?_
  refine PI.q ?_
  refine rg191w2 (5) [] fun all3 _ => ?_
  refine GoI.z nfw2 ?_
  refine PI.d 9 nfw2 (fun hb1 => ?_) (fun hb1 => ?_)
  ·
   try simp only [hb1]
   have h1 : most = 1 := by simp at hb1; omega
   refine PI.q ?_
   refine rg191w2 (6) [] fun all4 _ => ?_
   refine GoI.z nfw2 ?_
   refine PI.r ?_
   exact FinI.mk _ nfw2 (by clear U; (simp_all [finR, nrmA, nrm, AV.content]) <;> omega)
  try simp only [hb1]
  have h1 : 1 < most := by simp at hb1; omega
  refine PI.s ?_
  refine PI.q ?_
  refine PI.q ?_
  refine rg191w2 (9) [] fun all5 _ => ?_
  refine GoI.runN 2 nfw2 ?_
  refine GoI.z nfw2 ?_
  refine PI.b 0 ?_
  refine PI.lo (by kernel_rfl) (X := Nat) (fun i => (13, aI i) :: (5, aI (1 + min (dpEs (args.take i)) (most - 1) : Nat)) :: uk [7, 14, 15, 16, 17, 18, 19, 20, 21, 22, 23, 24]) (fun i => []) (fun k i => k = args.length - i ∧ i ≤ args.length) (args.length) (0) (GhI.of_wk ⟨by simp [ovr, uk, lessT, dpEs_nil], by simp [lessR, lk], by (try dsimp only); omega, keep0⟩) (by simp) ?_
  intro k1 x1 j1 hr1
  obtain ⟨rfl, hi1⟩ := hr1
  simp only [ovr, uk, List.set_cons_zero, List.set_cons_succ]
  refine PI.q ?_
  refine rg191w2 (j1 + 10) [] fun all6 _ => ?_
  refine GoI.z nfw2 ?_
  refine PI.q ?_
  refine PI.d 14 nfw2 (fun hb2 => ?_) (fun hb2 => ?_)
  ·
   try simp only [hb2]
   obtain ⟨hlt, hw⟩ := up hb2 hl'
   have hx := exs_at hlt
   have hts := dpEs_succ hlt
   have hs1 := hs.arg _ (List.getElem_mem hlt)
   have hdm := dpEs_mem (List.getElem_mem hlt)
   generalize he : args[x1] = e1
   rw [he] at hx hts hs1 hdm
   obtain ⟨op1, int1, v1, name1, args1⟩ := e1
   rw [encE_mk] at hx
   rw [dpE_mk] at hts hdm
   generalize hD : dpEs (args.take x1) = D
   generalize hE : dpEs args1 + 1 = E1
   rw [hD, hE] at hts
   have hw2 : IntKind.i64.wrap ((most : Int) - 1) = ((most - 1 : Nat) : Int) := by rw [w64 (by omega) (by omega)]; omega
   have hw3 : IntKind.i64.wrap (1 + ((min E1 (most - 1) : Nat) : Int)) = ((1 + min E1 (most - 1) : Nat) : Int) := by rw [w64 (by omega) (by omega)]; omega
   replace U := U.cons (And.intro (hw) (And.intro (hx) (And.intro (hw2) (And.intro (hw3) (And.intro (hD) (hE))))))
   refine PI.s ?_
   refine PI.q ?_
   refine PI.b 1 ?_
   refine PI.q ?_
   refine rg191w2 (j1 + 14) [] fun all7 _ => ?_
   refine GoI.runN 2 nfw2 ?_
   refine GoI.z nfw2 ?_
   refine rg191w2 (j1 + 22) [] fun all8 _ => ?_
   refine GoI.runN 2 nfw2 ?_
   refine GoI.runN 2 nfw2 ?_
   refine GoI.call nfw2 nfw2 (by exact ih _ _ _ _ _ _ (by omega) (by omega) (by omega) hs1) ?_
   refine GoI.runN 2 nfw2 ?_
   refine GoI.z nfw2 ?_
   refine rg191w2 (j1 + 24) [] fun all9 _ => ?_
   refine GoI.z nfw2 ?_
   refine ⟨args.length - (x1 + 1), x1 + 1, j1 + 15, by omega, ⟨rfl, by omega⟩, GhI.of_wk ⟨by simp [ovr, uk, lessT, hts]; omega, by simp [lessR, lk], by (try dsimp only); omega, keep0⟩⟩
  try simp only [hb2]
  have hge := dn hb2
  rw [List.take_of_length_le hge]
  refine PI.e 0 ?_
  refine PI.q ?_
  refine rg191w2 (j1 + 12) [] fun all10 _ => ?_
  refine GoI.z nfw2 ?_
  refine PI.r ?_
  exact FinI.mk _ nfw2 (by clear U; (simp_all [finR, nrmA, nrm, AV.content]) <;> omega)
theorem rg164w2 {T : List Rid} {p : Path} {Q : Exit → SL → Prop} {tm : List AV} {L : RL} {n : Nat} {c : Code} {l : List Oper} (n' : Nat) (Qs : List Nat) (h : ∀ all, (ro c).toList = all → GoI Tryz.prog T p all false Qs n 0 l tm L fun tm' L' => Q .normal ⟨tm', L', n'⟩) (hk : kd c = 0 := by kernel_rfl) (hr : rd c = false := by kernel_rfl) (hl : (ro c).toList = l := by dsimp only [ro, s1, s2, c1, c2, bc, bod, Tryz.f164, Option.getD_some] <;> exact rfl) (hn : n + (ro c).size = n' := by kernel_rfl) : PI Tryz.prog T p c Q ⟨tm, L, n⟩ := PI.rg n' Qs hk hr hl (fun h => by cases h) hn (h _ rfl)
theorem okDepthE (e : Ex) (hs : SmE 1000000 e) : CallsOK Tryz.prog 164 [aE e] (aI (min (dpE e) 25 : Nat)) := by
  obtain ⟨op, int, v, name, args⟩ := e
  rw [aE_mk, dpE_mk]
  have U : Hid True := ⟨trivial⟩
  refine CallsOK.of_pi mixed Tryz.func164 (by kernel_rfl) (by kernel_rfl) (?_ : PI _ _ _ _ _ ⟨[aEx op int v name args, .und, .und, .und, .und], [], 0⟩)
  refine PI.q ?_
  refine rg164w2 (2) [] fun all1 _ => ?_
  refine GoI.z nfw2 ?_
  refine PI.q ?_
  refine rg164w2 (5) [] fun all2 _ => ?_
  refine GoI.run nfw2 ?_
  refine GoI.call nfw2 nfw2 (by exact okDepthE1 _ _ _ _ _ _ 25 (Nat.lt_succ_self _) (by omega) (by omega) hs) ?_
  refine GoI.z nfw2 ?_
  refine PI.r ?_
  exact FinI.mk _ nfw2 (by clear U; first | (simp [finR, nrmA, nrm, AV.content]; done) | rfl)
end Go.FE
namespace Go.FE
open Go.Proofs
theorem nfw3 {α : Type} {a b : α} (h : a = b := by simp only [goP, goN, mrk, Nat.reduceMul, Nat.one_mul, Nat.mul_one, eq_self, false_implies, implies_true, Nat.reduceLT, List.getElem?_toArray, isCall, List.contains_nil, List.contains_cons, Nat.reduceBEq, Bool.or_false, Bool.or_self, List.length_map, gOf, step, stepM, stepP, ev, okV, if_true, if_false, allocA, storeA, boxA, one1, tokN, tok1, buildA, rowA, nrmP, partV, partA, fieldA, fieldV, elemA, lenA, bltA, asSl, appA, makeA, makeR, cutA, bndA, binV, intOp, strOp, unV, eqB, nilB, sameT, List.all_cons, List.all_nil, Bool.and_self, Bool.and_true, Bool.true_and, List.map_cons, List.map_nil, List.nil_append, List.cons_append, List.append_nil, AV.bare, AV.content, AV.clean, AV.one, putD, List.set_cons_zero, List.set_cons_succ, List.reverse_cons, List.reverse_nil, List.getD_cons_zero, List.getD_cons_succ, List.getElem?_cons_zero, List.getElem?_cons_succ, Option.getD_some, Option.map_some, Option.map_none, Option.bind_some, List.length_cons, List.length_nil, lk, cellsA, fillA, fillS, isAggD, spl, nrm, nrmA, List.take_succ_cons, List.take_zero, List.drop_succ_cons, List.drop_zero, List.drop_nil, List.take_nil, Nat.reduceAdd, Nat.zero_add, Nat.add_zero, Nat.add_assoc, Nat.add_left_cancel_iff, reduceCtorEq, Prod.mk.injEq, List.cons.injEq, and_self, and_true, true_and, Nat.le_refl, Nat.reduceLeDiff, Nat.reduceEqDiff, List.getElem?_nil, Int.reduceToNat, Int.reduceLE, Int.reduceLT, ite_self, List.forall_mem_cons, List.not_mem_nil, false_and, and_false, Bool.false_eq_true, List.replicate_zero, List.replicate_succ, Int.toNat_natCast, neJ2, neJ2', neJ3, neJ3', callOf, callOf2, fnOf, argsA, args2, Array.isEmpty_empty, resLL, resVL, beq_self_eq_true, st3, zt3, it3, ct3, se3, Tryz.underlying3, st4, zt4, it4, ct4, se4, Tryz.underlying4, st22, zt22, it22, ct22, se22, Tryz.underlying22, Tryz.results202, Tryz.results179, Tryz.results212, renA, renR, st77, Tryz.underlying77, Tryz.results201, Tryz.results178, U.out] <;> rfl) : a = b := h
def uniF : Int → List Int → Int × Bool
  | k, [] => (k, true)
  | k, x :: l => if x == 0 then uniF k l else if k != 0 && k != x then (0, false) else uniF x l
def uniK (l : List Int) : Int × Bool := uniF 0 l
theorem uniF_at {l : List Int} {i : Nat} (k : Int) (h : i < l.length) : uniF k (l.drop i) = if l[i] == 0 then uniF k (l.drop (i + 1)) else if k != 0 && k != l[i] then (0, false) else uniF l[i] (l.drop (i + 1)) := by
  rw [List.drop_eq_getElem_cons h, uniF]
theorem uniF_end {l : List Int} {i : Nat} (k : Int) (h : l.length ≤ i) : uniF k (l.drop i) = (k, true) := by rw [List.drop_of_length_le h, uniF]
structure UX where
  i : Nat
  k : Int
theorem rg202w3 {T : List Rid} {p : Path} {Q : Exit → SL → Prop} {tm : List AV} {L : RL} {n : Nat} {c : Code} {l : List Oper} (n' : Nat) (Qs : List Nat) (h : ∀ all, (ro c).toList = all → GoI Tryz.prog T p all false Qs n 0 l tm L fun tm' L' => Q .normal ⟨tm', L', n'⟩) (hk : kd c = 0 := by kernel_rfl) (hr : rd c = false := by kernel_rfl) (hl : (ro c).toList = l := by dsimp only [ro, s1, s2, c1, c2, bc, bod, Tryz.f202, Option.getD_some] <;> exact rfl) (hn : n + (ro c).size = n' := by kernel_rfl) : PI Tryz.prog T p c Q ⟨tm, L, n⟩ := PI.rg n' Qs hk hr hl (fun h => by cases h) hn (h _ rfl)
set_option maxRecDepth 100000 in
theorem okUnite (l : List Int) (hl : l.length ≤ maxLen) : CallsOK Tryz.prog 202 [ints l] (.tup [aI (uniK l).1, aB (uniK l).2]) := by
  have U : Hid True := ⟨trivial⟩
  refine CallsOK.of_pi mixed Tryz.func202 (by kernel_rfl) (by kernel_rfl) (?_ : PI _ _ _ _ _ ⟨[ints l, .und, .und, .und, .und, .und, .und, .und, .und, .und, .und, .und, .und, .und, .und, .und, .und, .und, .und, .und, .und, .und, .und, .und, .und], [], 0⟩)
  refine PI.q ?_
  refine rg202w3 (2) [] fun all1 _ => ?_
  refine GoI.z nfw3 ?_
  refine PI.q ?_
  refine rg202w3 (3) [] fun all2 _ => ?_
  refine GoI.z nfw3 ?_
  refine PI.q ?_
  refine PI.q ?_
  refine rg202w3 (6) [] fun all3 _ => ?_
  refine GoI.runN 2 nfw3 ?_
  refine GoI.z nfw3 ?_
  refine PI.b 0 ?_
  refine PI.lo (by kernel_rfl) (X := UX) (fun x => (9, aI x.i) :: (4, aI x.k) :: uk [2, 3, 6, 10, 11, 12, 13, 14, 15, 16, 17, 18, 19, 20, 21, 22, 23]) (fun _ => []) (fun k x => k = l.length - x.i ∧ x.i ≤ l.length ∧ uniK l = uniF x.k (l.drop x.i)) (l.length) (⟨0, 0⟩) (GhI.of_wk ⟨by simp [ovr, uk, lessT, neJ2, neJ2', neJ3, neJ3'], by simp [lessR, lk, neJ2, neJ2', neJ3, neJ3'], by (try dsimp only); omega, keep0⟩) (⟨rfl, Nat.zero_le _, rfl⟩) ?_
  intro k1 x1 j1 hr1
  obtain ⟨rfl, hi1, hu⟩ := hr1
  simp only [ovr, uk, List.set_cons_zero, List.set_cons_succ]
  refine PI.q ?_
  refine rg202w3 (j1 + 7) [] fun all4 _ => ?_
  refine GoI.z nfw3 ?_
  refine PI.q ?_
  refine PI.d 10 nfw3 (fun hb1 => ?_) (fun hb1 => ?_)
  ·
   try simp only [hb1]
   obtain ⟨hlt, hw⟩ := up hb1 hl
   have hx := ints_at hlt
   have ha := uniF_at x1.k hlt
   rw [← hu] at ha
   generalize hv : l[x1.i] = v
   rw [hv] at ha
   replace U := U.cons (And.intro (hw) (And.intro (hx) (hv)))
   refine PI.s ?_
   refine PI.q ?_
   refine PI.b 1 ?_
   refine PI.q ?_
   refine rg202w3 (j1 + 10) [] fun all5 _ => ?_
   refine GoI.runN 2 nfw3 ?_
   refine GoI.z nfw3 ?_
   refine PI.q ?_
   refine PI.q ?_
   refine rg202w3 (j1 + 12) [] fun all6 _ => ?_
   refine GoI.z nfw3 ?_
   refine PI.d 14 nfw3 (fun hb2 => ?_) (fun hb2 => ?_)
   ·
    try simp only [hb2]
    refine PI.e 1 ?_
    refine rg202w3 (j1 + 14) [] fun all10 _ => ?_
    refine GoI.z nfw3 ?_
    refine ⟨l.length - (x1.i + 1), ⟨x1.i + 1, x1.k⟩, j1 + 8, by omega, ⟨rfl, by dsimp only; omega, by dsimp only; rw [ha, if_pos hb2]⟩, GhI.of_wk ⟨by simp [ovr, uk, lessT, neJ2, neJ2', neJ3, neJ3'], by simp [lessR, lk, neJ2, neJ2', neJ3, neJ3'], by (try dsimp only); omega, keep0⟩⟩
   try simp only [hb2]
   refine PI.s ?_
   refine PI.q ?_
   refine PI.q ?_
   refine rg202w3 (j1 + 19) [] fun all7 hall7 => ?_
   have hgd7_2 : (all7[2]?).bind (fun o => o.dst) = some 17 := by rw [← hall7]; kernel_rfl
   replace U := U.cons (hgd7_2)
   refine GoI.runN 2 nfw3 ?_
   refine GoI.runN 1 nfw3 ?_
   refine GoI.grd 17 nfw3 (fun hg1 => ?_) (fun hg1 => ?_)
   ·
    try simp only [hg1]
    simp only [decide_eq_true_eq, decide_eq_false_iff_not, beq_iff_eq, beq_eq_false_iff_ne, ne_eq, bne_iff_ne, bne_eq_false_iff_eq, Decidable.not_not] at hg1
    refine GoI.runN 2 nfw3 ?_
    refine GoI.z nfw3 ?_
    refine PI.d 21 nfw3 (fun hb3 => ?_) (fun hb3 => ?_)
    ·
     try simp only [hb3]
     have hr : uniK l = (0, false) := by rw [ha, if_neg (by rw [hb2]; decide), if_pos (by simp_all)]
     rw [hr]
     clear hu
     refine PI.q ?_
     refine rg202w3 (j1 + 21) [] fun all8 _ => ?_
     refine GoI.z nfw3 ?_
     refine PI.r ?_
     exact FinI.mk _ nfw3 (by clear U; simp_all [finR, nrmA, nrm, AV.content])
    try simp only [hb3]
    have hr : uniK l = uniF v (l.drop (x1.i + 1)) := by rw [ha, if_neg (by rw [hb2]; decide), if_neg (by simp_all)]
    refine PI.s ?_
    refine rg202w3 (j1 + 21) [] fun all9 _ => ?_
    refine GoI.z nfw3 ?_
    refine rg202w3 (j1 + 23) [] fun all10 _ => ?_
    refine GoI.z nfw3 ?_
    refine ⟨l.length - (x1.i + 1), ⟨x1.i + 1, v⟩, j1 + 17, by omega, ⟨rfl, by dsimp only; omega, hr⟩, GhI.of_wk ⟨by simp [ovr, uk, lessT, neJ2, neJ2', neJ3, neJ3'], by simp [lessR, lk, neJ2, neJ2', neJ3, neJ3'], by (try dsimp only); omega, keep0⟩⟩
   try simp only [hg1]
   simp only [decide_eq_true_eq, decide_eq_false_iff_not, beq_iff_eq, beq_eq_false_iff_ne, ne_eq, bne_iff_ne, bne_eq_false_iff_eq, Decidable.not_not] at hg1
   refine GoI.runN 2 nfw3 ?_
   refine GoI.z nfw3 ?_
   refine PI.f 21 nfw3 ?_
   have hr : uniK l = uniF v (l.drop (x1.i + 1)) := by rw [ha, if_neg (by rw [hb2]; decide), if_neg (by simp_all)]
   refine PI.s ?_
   refine rg202w3 (j1 + 21) [] fun all9 _ => ?_
   refine GoI.z nfw3 ?_
   refine rg202w3 (j1 + 23) [] fun all10 _ => ?_
   refine GoI.z nfw3 ?_
   refine ⟨l.length - (x1.i + 1), ⟨x1.i + 1, v⟩, j1 + 17, by omega, ⟨rfl, by dsimp only; omega, hr⟩, GhI.of_wk ⟨by simp [ovr, uk, lessT, neJ2, neJ2', neJ3, neJ3'], by simp [lessR, lk, neJ2, neJ2', neJ3, neJ3'], by (try dsimp only); omega, keep0⟩⟩
  try simp only [hb1]
  have hge := dn hb1
  rw [uniF_end _ hge] at hu
  rw [hu]
  clear hu
  refine PI.e 0 ?_
  refine PI.q ?_
  refine rg202w3 (j1 + 10) [] fun all11 _ => ?_
  refine GoI.runN 2 nfw3 ?_
  refine GoI.z nfw3 ?_
  refine PI.r ?_
  exact FinI.mk _ nfw3 (by clear U; simp_all [finR, nrmA, nrm, AV.content])
theorem rg212w3 {T : List Rid} {p : Path} {Q : Exit → SL → Prop} {tm : List AV} {L : RL} {n : Nat} {c : Code} {l : List Oper} (n' : Nat) (Qs : List Nat) (h : ∀ all, (ro c).toList = all → GoI Tryz.prog T p all false Qs n 0 l tm L fun tm' L' => Q .normal ⟨tm', L', n'⟩) (hk : kd c = 0 := by kernel_rfl) (hr : rd c = false := by kernel_rfl) (hl : (ro c).toList = l := by dsimp only [ro, s1, s2, c1, c2, bc, bod, Tryz.f212, Option.getD_some] <;> exact rfl) (hn : n + (ro c).size = n' := by kernel_rfl) : PI Tryz.prog T p c Q ⟨tm, L, n⟩ := PI.rg n' Qs hk hr hl (fun h => by cases h) hn (h _ rfl)
set_option maxRecDepth 100000 in
theorem okCloneI2 {rs : Rid → Res} {p : Path} (v : Int) (r : List Int) (hr : r.length ≤ 1000000) : Calls2 Tryz.prog 212 [ints (v :: r)] [] rs p (.sl ((v :: r).map fun k => [aI k]) (some ((p, 0), 1))) [((p, 0), .tok 1 3 1)] := by
  have U : Hid True := ⟨trivial⟩
  replace U := U.cons (And.intro (rowLen (f := fun k : Int => [aI k]) (n := 1) (fun _ => rfl) r) ((show (r.length + 1) * 8 ≤ 140737488355328 by omega)))
  refine Calls2.of_pi ([]) mixed Tryz.func212 (by kernel_rfl) (by kernel_rfl) (by simp [lk, under_nil]) (by simp [lk, under_nil]) (by simp [lk, under_nil]) (by simp [lk, under_nil]) (by simp [lk, under_nil]) (?_ : PI _ _ _ _ _ ⟨[ints (v :: r), .und, .und, .und, .und, .und, .und, .und], [], 0⟩)
  refine PI.q ?_
  refine rg212w3 (1) [] fun all1 _ => ?_
  refine GoI.z nfw3 ?_
  refine PI.q ?_
  refine PI.q ?_
  refine rg212w3 (3) [] fun all2 _ => ?_
  refine GoI.z nfw3 ?_
  refine PI.d 4 nfw3 (fun hb1 => ?_) (fun hb1 => ?_)
  ·
   try simp only [hb1]
   cases hb1
  try simp only [hb1]
  refine PI.s ?_
  refine PI.q ?_
  refine rg212w3 (7) [] fun all4 _ => ?_
  refine GoI.runN 2 nfw3 ?_
  refine GoI.z nfw3 ?_
  refine PI.r ?_
  exact FinI.ren (3 :: p, 0) 0 under_self (by simp) (by simp [lk]) _ nfw3 ⟨by clear U; rfl, fin_keys (by dsimp only; simp [lk, under_self, under_nil]) (by dsimp only; simp [lk, under_self, under_nil])⟩
def allK (l : List Int) (k : Int) : Bool := l.all fun x => x == k || x == 0
theorem uniF_snoc {k0 : Int} (hk : k0 ≠ 0) : ∀ (l : List Int) (k : Int), ((uniF k (l ++ [k0])).2 && (uniF k (l ++ [k0])).1 == k0) = ((k == k0 || k == 0) && allK l k0)
  | [], k => by
    simp only [List.nil_append, uniF, allK, List.all_nil, Bool.and_true]
    rw [if_neg (by simpa using hk)]
    by_cases h0 : k = 0
    · subst h0; simp
    · by_cases h1 : k = k0
      · subst h1; simp
      · simp [h0, h1]
  | x :: l, k => by
    rw [List.cons_append, uniF]
    by_cases hx : x = 0
    · subst hx
      rw [if_pos (by decide), uniF_snoc hk l k]
      simp [allK]
    · rw [if_neg (by simpa using hx)]
      by_cases hb : (k != 0 && k != x) = true
      · rw [if_pos hb]
        simp at hb
        by_cases h1 : k = k0
        · subst h1
          simp [allK, Ne.symm hb.2, hx]
        · simp [h1, hb.1]
      · rw [if_neg hb, uniF_snoc hk l x]
        simp at hb
        by_cases h1 : x = k0
        · subst h1
          simp [allK]
          by_cases h2 : k = 0
          · simp [h2]
          · simp [hb h2]
        · simp [allK, h1, hx]
theorem allK_uni (l : List Int) {k : Int} (hk : k ≠ 0) : ((uniK (l ++ [k])).2 && (uniK (l ++ [k])).1 == k) = allK l k := by
  rw [uniK, uniF_snoc hk l 0]; simp
theorem rg201w3 {T : List Rid} {p : Path} {Q : Exit → SL → Prop} {tm : List AV} {L : RL} {n : Nat} {c : Code} {l : List Oper} (n' : Nat) (Qs : List Nat) (h : ∀ all, (ro c).toList = all → GoI Tryz.prog T p all false Qs n 0 l tm L fun tm' L' => Q .normal ⟨tm', L', n'⟩) (hk : kd c = 0 := by kernel_rfl) (hr : rd c = false := by kernel_rfl) (hl : (ro c).toList = l := by dsimp only [ro, s1, s2, c1, c2, bc, bod, Tryz.f201, Option.getD_some] <;> exact rfl) (hn : n + (ro c).size = n' := by kernel_rfl) : PI Tryz.prog T p c Q ⟨tm, L, n⟩ := PI.rg n' Qs hk hr hl (fun h => by cases h) hn (h _ rfl)
set_option maxRecDepth 100000 in
theorem okAllK (l : List Int) (k : Int) (hk : k ≠ 0) (hne : l ≠ []) (hl : l.length ≤ 100000) : CallsOK Tryz.prog 201 [ints l, aI k] (aB (allK l k)) := by
  obtain ⟨x, r, rfl⟩ : ∃ x r, l = x :: r := by cases l with | nil => exact absurd rfl hne | cons x r => exact ⟨x, r, rfl⟩
  have hu := allK_uni (x :: r) hk
  have hap : ((x :: r).length + 1) * 8 ≤ 140737488355328 := by simp at hl ⊢; omega
  have hap2 : (r.length + 1 + 1) * 8 ≤ 140737488355328 := by simp at hl ⊢; omega
  have U : Hid True := ⟨trivial⟩
  replace U := U.cons (And.intro (hap) (And.intro (hap2) (rowLen (f := fun k : Int => [aI k]) (n := 1) (fun _ => rfl) r)))
  refine CallsOK.of_pi mixed Tryz.func201 (by kernel_rfl) (by kernel_rfl) (?_ : PI _ _ _ _ _ ⟨[ints (x :: r), aI k, .und, .und, .und, .und, .und, .und, .und, .und, .und, .und, .und, .und, .und, .und, .und, .und, .und, .und, .und, .und], [], 0⟩)
  refine PI.q ?_
  refine rg201w3 (1) [] fun all1 _ => ?_
  refine GoI.z nfw3 ?_
  refine PI.q ?_
  refine rg201w3 (12) [] fun all2 _ => ?_
  refine GoI.run nfw3 ?_
  refine GoI.call2 nfw3 nfw3 (by exact okCloneI2 x r (by simp at hl; omega)) (by repeat (first | exact trivial | exact Or.inl rfl | exact Or.inr (Or.inl rfl) | exact Or.inr (Or.inr rfl) | apply And.intro)) (by first | exact .inr rfl | exact .inl rfl) (by exact fun h => by cases h) ?_
  try simp only [List.reverse_cons, List.reverse_nil, List.nil_append, List.cons_append, List.append_assoc]
  refine GoI.runN 2 nfw3 ?_
  refine GoI.run nfw3 ?_
  refine GoI.call nfw3 nfw3 (by have h0 := okUnite (x :: r ++ [k]) (by simp at hl ⊢; unfold maxLen; omega); simp only [ints, List.cons_append, List.map_cons, List.map_append, List.map_nil] at h0; exact h0) ?_
  refine GoI.runN 2 nfw3 ?_
  refine GoI.runN 2 nfw3 ?_
  refine GoI.z nfw3 ?_
  refine PI.q ?_
  refine rg201w3 (19) [] fun all3 hall3 => ?_
  have hgd3_1 : (all3[1]?).bind (fun o => o.dst) = some 17 := by rw [← hall3]; kernel_rfl
  replace U := U.cons (hgd3_1)
  refine GoI.runN 2 nfw3 ?_
  refine GoI.grd 17 nfw3 (fun hg1 => ?_) (fun hg1 => ?_)
  ·
   try simp only [hg1]
   refine GoI.runN 2 nfw3 ?_
   refine GoI.runN 2 nfw3 ?_
   refine GoI.z nfw3 ?_
   refine PI.r ?_
   exact FinI.mk _ nfw3 (by clear U; simp_all [finR, nrmA, nrm, AV.content])
  try simp only [hg1]
  refine GoI.runN 2 nfw3 ?_
  refine GoI.runN 2 nfw3 ?_
  refine GoI.z nfw3 ?_
  refine PI.r ?_
  exact FinI.mk _ nfw3 (by clear U; simp_all [finR, nrmA, nrm, AV.content])
end Go.FE
