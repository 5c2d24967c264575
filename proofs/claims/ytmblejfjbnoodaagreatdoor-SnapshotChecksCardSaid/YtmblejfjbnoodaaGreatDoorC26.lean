/- The document's kind of an expression. Expressions are checked. -/
import Derived.Test.YtmblejfjbnoodaaGreatDoorC09
import Derived.Test.YtmblejfjbnoodaaGreatDoorC25
set_option linter.unusedVariables false
set_option linter.unusedSimpArgs false
namespace Go.FE
open Go.Proofs
theorem nfw5 {α : Type} {a b : α} (h : a = b := by simp only [goP, goN, mrk, Nat.reduceMul, Nat.one_mul, Nat.mul_one, eq_self, false_implies, implies_true, Nat.reduceLT, List.getElem?_toArray, isCall, List.contains_nil, List.contains_cons, Nat.reduceBEq, Bool.or_false, Bool.or_self, List.length_map, gOf, step, stepM, stepP, ev, okV, if_true, if_false, allocA, storeA, boxA, one1, tokN, tok1, buildA, rowA, nrmP, partV, partA, fieldA, fieldV, elemA, lenA, bltA, asSl, appA, makeA, makeR, cutA, bndA, binV, intOp, strOp, unV, eqB, nilB, sameT, List.all_cons, List.all_nil, Bool.and_self, Bool.and_true, Bool.true_and, List.map_cons, List.map_nil, List.nil_append, List.cons_append, List.append_nil, AV.bare, AV.content, AV.clean, AV.one, putD, List.set_cons_zero, List.set_cons_succ, List.reverse_cons, List.reverse_nil, List.getD_cons_zero, List.getD_cons_succ, List.getElem?_cons_zero, List.getElem?_cons_succ, Option.getD_some, Option.map_some, Option.map_none, Option.bind_some, List.length_cons, List.length_nil, lk, cellsA, fillA, fillS, isAggD, spl, nrm, nrmA, List.take_succ_cons, List.take_zero, List.drop_succ_cons, List.drop_zero, List.drop_nil, List.take_nil, Nat.reduceAdd, Nat.zero_add, Nat.add_zero, Nat.add_assoc, Nat.add_left_cancel_iff, reduceCtorEq, Prod.mk.injEq, List.cons.injEq, and_self, and_true, true_and, Nat.le_refl, Nat.reduceLeDiff, Nat.reduceEqDiff, List.getElem?_nil, Int.reduceToNat, Int.reduceLE, Int.reduceLT, ite_self, List.forall_mem_cons, List.not_mem_nil, false_and, and_false, Bool.false_eq_true, List.replicate_zero, List.replicate_succ, Int.toNat_natCast, neJ2, neJ2', neJ3, neJ3', callOf, callOf2, fnOf, argsA, args2, Array.isEmpty_empty, resLL, resVL, beq_self_eq_true, cut0, st3, zt3, it3, ct3, se3, Tryz.underlying3, st4, zt4, it4, ct4, se4, Tryz.underlying4, st9, zt9, it9, ct9, se9, Tryz.underlying9, st22, zt22, it22, ct22, se22, Tryz.underlying22, st25, zt25, it25, ct25, pt25, eqs25, se25, Tryz.underlying25, st26, zt26, it26, ct26, se26, Tryz.underlying26, st28, zt28, it28, ct28, pt28, se28, Tryz.underlying28, st77, Tryz.underlying77, Tryz.results140, U.out] <;> rfl) : a = b := h
def resC (kinds : List Int) (op int : Int) (vk : Int) (l : List Int) : Int × Bool := if op == 2 then (kinds.getD int.toNat 0, true) else resE op vk l
theorem kinds_at {kinds : List Int} {k : Int} (h0 : 0 ≤ k) (h : k < kinds.length) : (kinds.map fun k => [aI k])[k.toNat]? = some [aI (kinds.getD k.toNat 0)] := by
  have : k.toNat < kinds.length := by omega
  simp [this]
theorem cnt_known {op n : Int} (h : (cntOp op n).2 = true) : op = 1 ∨ op = 2 ∨ (4 ≤ op ∧ op ≤ 24) := by
  unfold cntOp at h
  repeat' split at h
  all_goals first | (cases h; done) | (rename_i hc; simp at hc; omega)
theorem rg140w5 {T : List Rid} {p : Path} {Q : Exit → SL → Prop} {tm : List AV} {L : RL} {n : Nat} {c : Code} {l : List Oper} (n' : Nat) (Qs : List Nat) (h : ∀ all, (ro c).toList = all → GoI Tryz.prog T p all false Qs n 0 l tm L fun tm' L' => Q .normal ⟨tm', L', n'⟩) (hk : kd c = 0 := by kernel_rfl) (hr : rd c = false := by kernel_rfl) (hl : (ro c).toList = l := by dsimp only [ro, s1, s2, c1, c2, bc, bod, Tryz.f140, Option.getD_some] <;> exact rfl) (hn : n + (ro c).size = n' := by kernel_rfl) : PI Tryz.prog T p c Q ⟨tm, L, n⟩ := PI.rg n' Qs hk hr hl (fun h => by cases h) hn (h _ rfl)
set_option maxHeartbeats 1000000 in
set_option maxRecDepth 100000 in
theorem okResE' (op int : Int) (v : Vl) (name : ByteArray) (args : List Ex) (l kinds : List Int) (hl : l.length ≤ 100000) (hne : op ≠ 1 → op ≠ 2 → l ≠ []) (hc : op = 2 → 0 ≤ int ∧ int < kinds.length) (hk : op = 1 ∨ op = 2 ∨ (4 ≤ op ∧ op ≤ 24)) : CallsOK Tryz.prog 140 [aEx op int v name args, ints l, ints kinds] (.tup [aI (resC kinds op int v.k l).1, aB (resC kinds op int v.k l).2]) := by
  have hl' : l.length ≤ maxLen := by unfold maxLen; omega
  have hd : (l.map fun k => [aI k]).drop 1 = (l.drop 1).map fun k => [aI k] := by simp
  have ht : (l.map fun k => [aI k]).take 1 = (l.take 1).map fun k => [aI k] := by simp
  have hdt : ((l.drop 1).map fun k => [aI k]).take (l.length - 1) = (l.drop 1).map fun k => [aI k] := by rw [List.take_of_length_le (by simp)]
  have hd1 : (l.drop 1).length = l.length - 1 := by simp
  have h1 : op ≠ 1 → op ≠ 2 → 1 ≤ l.length := fun h h2 => by have := hne h h2; cases l with | nil => exact absurd rfl this | cons x l => simp
  have U : Hid True := ⟨trivial⟩
  replace U := U.cons (And.intro (hd) (And.intro (ht) (And.intro (hd1) (And.intro (hdt) (rowLen (f := fun k : Int => [aI k]) (n := 1) (fun _ => rfl) l)))))
  refine CallsOK.of_pi mixed Tryz.func140 (by kernel_rfl) (by kernel_rfl) (?_ : PI _ _ _ _ _ ⟨[aEx op int v name args, ints l, ints kinds, .und, .und, .und, .und, .und, .und, .und, .und, .und, .und, .und, .und, .und, .und, .und, .und, .und, .und, .und, .und, .und, .und, .und, .und, .und, .und, .und, .und, .und, .und, .und, .und, .und, .und, .und, .und, .und, .und, .und, .und, .und, .und, .und, .und, .und, .und, .und, .und, .und, .und, .und, .und, .und, .und, .und, .und, .und, .und, .und, .und, .und, .und, .und, .und, .und, .und, .und, .und, .und, .und, .und, .und, .und, .und, .und, .und, .und, .und, .und, .und, .und, .und, .und, .und], [], 0⟩)
  refine PI.q ?_
  refine rg140w5 (3) [] fun all1 _ => ?_
  refine GoI.runN 2 nfw5 ?_
  refine GoI.z nfw5 ?_
  refine PI.q ?_
  refine PI.q ?_
  refine rg140w5 (5) [] fun all2 _ => ?_
  refine GoI.z nfw5 ?_
  refine PI.b 0 ?_
  refine PI.q ?_
  refine rg140w5 (7) [] fun all3 _ => ?_
  refine GoI.z nfw5 ?_
  refine PI.d 14 nfw5 (fun hb1 => ?_) (fun hb1 => ?_)
  ·
   try simp only [hb1]
   refine PI.q ?_
   refine rg140w5 (12) [] fun all4 _ => ?_
   refine GoI.runN 2 nfw5 ?_
   refine GoI.runN 2 nfw5 ?_
   refine GoI.z nfw5 ?_
   refine PI.r ?_
   exact FinI.mk _ nfw5 (by clear U; simp_all [finR, nrmA, nrm, AV.content, resE, resC])
  try simp only [hb1]
  refine PI.q ?_
  refine rg140w5 (9) [] fun all5 _ => ?_
  refine GoI.z nfw5 ?_
  refine PI.d 19 nfw5 (fun hb2 => ?_) (fun hb2 => ?_)
  ·
   try simp only [hb2]
   obtain ⟨hc0, hc1⟩ := hc (by simpa using hb2)
   have hx := kinds_at hc0 hc1
   replace U := U.cons (And.intro (hc0) (And.intro (hc1) (hx)))
   refine PI.q ?_
   refine rg140w5 (16) [] fun all6 _ => ?_
   refine GoI.runN 2 nfw5 ?_
   refine GoI.runN 2 nfw5 ?_
   refine GoI.runN 2 nfw5 ?_
   refine GoI.z nfw5 ?_
   refine PI.r ?_
   exact FinI.mk _ nfw5 (by clear U; simp_all [finR, nrmA, nrm, AV.content, resE, resC])
  try simp only [hb2]
  have hne' := hne (by simpa using hb1) (by simpa using hb2)
  have h1' := h1 (by simpa using hb1) (by simpa using hb2)
  have h1i : (1 : Int) ≤ (l.length : Int) := by omega
  replace U := U.cons (And.intro (h1') (h1i))
  refine PI.q ?_
  refine PI.q ?_
  refine rg140w5 (11) [] fun all7 _ => ?_
  refine GoI.z nfw5 ?_
  refine PI.d 26 nfw5 (fun hb3 => ?_) (fun hb3 => ?_)
  ·
   try simp only [hb3]
   refine PI.s ?_
   refine PI.t 26 nfw5 ?_
   refine PI.q ?_
   refine rg140w5 (15) [] fun all10 _ => ?_
   refine GoI.run nfw5 ?_
   refine GoI.call nfw5 nfw5 (by exact okAllK' _ _ (by first | omega | (simp; omega))) ?_
   refine GoI.z nfw5 ?_
   refine PI.r ?_
   exact FinI.mk _ nfw5 (by clear U; simp_all [finR, nrmA, nrm, AV.content, resE, resC])
  try simp only [hb3]
  refine PI.q ?_
  refine rg140w5 (13) [] fun all8 _ => ?_
  refine GoI.z nfw5 ?_
  refine PI.d 26 nfw5 (fun hb4 => ?_) (fun hb4 => ?_)
  ·
   try simp only [hb4]
   refine PI.s ?_
   refine PI.t 26 nfw5 ?_
   refine PI.q ?_
   refine rg140w5 (17) [] fun all10 _ => ?_
   refine GoI.run nfw5 ?_
   refine GoI.call nfw5 nfw5 (by exact okAllK' _ _ (by first | omega | (simp; omega))) ?_
   refine GoI.z nfw5 ?_
   refine PI.r ?_
   exact FinI.mk _ nfw5 (by clear U; simp_all [finR, nrmA, nrm, AV.content, resE, resC])
  try simp only [hb4]
  refine rg140w5 (15) [] fun all9 _ => ?_
  refine GoI.z nfw5 ?_
  refine PI.d 26 nfw5 (fun hb5 => ?_) (fun hb5 => ?_)
  ·
   try simp only [hb5]
   refine PI.q ?_
   refine rg140w5 (19) [] fun all10 _ => ?_
   refine GoI.run nfw5 ?_
   refine GoI.call nfw5 nfw5 (by exact okAllK' _ _ (by first | omega | (simp; omega))) ?_
   refine GoI.z nfw5 ?_
   refine PI.r ?_
   exact FinI.mk _ nfw5 (by clear U; simp_all [finR, nrmA, nrm, AV.content, resE, resC])
  try simp only [hb5]
  refine PI.q ?_
  refine PI.q ?_
  refine rg140w5 (17) [] fun all11 _ => ?_
  refine GoI.z nfw5 ?_
  refine PI.d 32 nfw5 (fun hb6 => ?_) (fun hb6 => ?_)
  ·
   try simp only [hb6]
   refine PI.s ?_
   refine PI.t 32 nfw5 ?_
   refine PI.q ?_
   refine rg140w5 (24) [] fun all17 _ => ?_
   refine GoI.run nfw5 ?_
   refine GoI.call nfw5 nfw5 (by exact okJoin11 _ (by first | omega | (simp; omega))) ?_
   refine GoI.runN 2 nfw5 ?_
   refine GoI.runN 2 nfw5 ?_
   refine GoI.z nfw5 ?_
   refine PI.q ?_
   refine rg140w5 (27) [] fun all18 _ => ?_
   refine GoI.runN 2 nfw5 ?_
   refine GoI.z nfw5 ?_
   refine PI.r ?_
   exact FinI.mk _ nfw5 (by clear U; simp_all [finR, nrmA, nrm, AV.content, resE, resC])
  try simp only [hb6]
  refine PI.q ?_
  refine rg140w5 (19) [] fun all12 _ => ?_
  refine GoI.z nfw5 ?_
  refine PI.d 32 nfw5 (fun hb7 => ?_) (fun hb7 => ?_)
  ·
   try simp only [hb7]
   refine PI.s ?_
   refine PI.t 32 nfw5 ?_
   refine PI.q ?_
   refine rg140w5 (26) [] fun all17 _ => ?_
   refine GoI.run nfw5 ?_
   refine GoI.call nfw5 nfw5 (by exact okJoin11 _ (by first | omega | (simp; omega))) ?_
   refine GoI.runN 2 nfw5 ?_
   refine GoI.runN 2 nfw5 ?_
   refine GoI.z nfw5 ?_
   refine PI.q ?_
   refine rg140w5 (29) [] fun all18 _ => ?_
   refine GoI.runN 2 nfw5 ?_
   refine GoI.z nfw5 ?_
   refine PI.r ?_
   exact FinI.mk _ nfw5 (by clear U; simp_all [finR, nrmA, nrm, AV.content, resE, resC])
  try simp only [hb7]
  refine PI.q ?_
  refine rg140w5 (21) [] fun all13 _ => ?_
  refine GoI.z nfw5 ?_
  refine PI.d 32 nfw5 (fun hb8 => ?_) (fun hb8 => ?_)
  ·
   try simp only [hb8]
   refine PI.s ?_
   refine PI.t 32 nfw5 ?_
   refine PI.q ?_
   refine rg140w5 (28) [] fun all17 _ => ?_
   refine GoI.run nfw5 ?_
   refine GoI.call nfw5 nfw5 (by exact okJoin11 _ (by first | omega | (simp; omega))) ?_
   refine GoI.runN 2 nfw5 ?_
   refine GoI.runN 2 nfw5 ?_
   refine GoI.z nfw5 ?_
   refine PI.q ?_
   refine rg140w5 (31) [] fun all18 _ => ?_
   refine GoI.runN 2 nfw5 ?_
   refine GoI.z nfw5 ?_
   refine PI.r ?_
   exact FinI.mk _ nfw5 (by clear U; simp_all [finR, nrmA, nrm, AV.content, resE, resC])
  try simp only [hb8]
  refine PI.q ?_
  refine rg140w5 (23) [] fun all14 _ => ?_
  refine GoI.z nfw5 ?_
  refine PI.d 32 nfw5 (fun hb9 => ?_) (fun hb9 => ?_)
  ·
   try simp only [hb9]
   refine PI.s ?_
   refine PI.t 32 nfw5 ?_
   refine PI.q ?_
   refine rg140w5 (30) [] fun all17 _ => ?_
   refine GoI.run nfw5 ?_
   refine GoI.call nfw5 nfw5 (by exact okJoin11 _ (by first | omega | (simp; omega))) ?_
   refine GoI.runN 2 nfw5 ?_
   refine GoI.runN 2 nfw5 ?_
   refine GoI.z nfw5 ?_
   refine PI.q ?_
   refine rg140w5 (33) [] fun all18 _ => ?_
   refine GoI.runN 2 nfw5 ?_
   refine GoI.z nfw5 ?_
   refine PI.r ?_
   exact FinI.mk _ nfw5 (by clear U; simp_all [finR, nrmA, nrm, AV.content, resE, resC])
  try simp only [hb9]
  refine PI.q ?_
  refine rg140w5 (25) [] fun all15 _ => ?_
  refine GoI.z nfw5 ?_
  refine PI.d 32 nfw5 (fun hb10 => ?_) (fun hb10 => ?_)
  ·
   try simp only [hb10]
   refine PI.s ?_
   refine PI.t 32 nfw5 ?_
   refine PI.q ?_
   refine rg140w5 (32) [] fun all17 _ => ?_
   refine GoI.run nfw5 ?_
   refine GoI.call nfw5 nfw5 (by exact okJoin11 _ (by first | omega | (simp; omega))) ?_
   refine GoI.runN 2 nfw5 ?_
   refine GoI.runN 2 nfw5 ?_
   refine GoI.z nfw5 ?_
   refine PI.q ?_
   refine rg140w5 (35) [] fun all18 _ => ?_
   refine GoI.runN 2 nfw5 ?_
   refine GoI.z nfw5 ?_
   refine PI.r ?_
   exact FinI.mk _ nfw5 (by clear U; simp_all [finR, nrmA, nrm, AV.content, resE, resC])
  try simp only [hb10]
  refine rg140w5 (27) [] fun all16 _ => ?_
  refine GoI.z nfw5 ?_
  refine PI.d 32 nfw5 (fun hb11 => ?_) (fun hb11 => ?_)
  ·
   try simp only [hb11]
   refine PI.q ?_
   refine rg140w5 (34) [] fun all17 _ => ?_
   refine GoI.run nfw5 ?_
   refine GoI.call nfw5 nfw5 (by exact okJoin11 _ (by first | omega | (simp; omega))) ?_
   refine GoI.runN 2 nfw5 ?_
   refine GoI.runN 2 nfw5 ?_
   refine GoI.z nfw5 ?_
   refine PI.q ?_
   refine rg140w5 (37) [] fun all18 _ => ?_
   refine GoI.runN 2 nfw5 ?_
   refine GoI.z nfw5 ?_
   refine PI.r ?_
   exact FinI.mk _ nfw5 (by clear U; simp_all [finR, nrmA, nrm, AV.content, resE, resC])
  try simp only [hb11]
  refine PI.q ?_
  refine PI.q ?_
  refine rg140w5 (29) [] fun all19 _ => ?_
  refine GoI.z nfw5 ?_
  refine PI.d 45 nfw5 (fun hb12 => ?_) (fun hb12 => ?_)
  ·
   try simp only [hb12]
   refine PI.s ?_
   refine PI.t 45 nfw5 ?_
   refine PI.q ?_
   refine rg140w5 (33) [] fun all25 _ => ?_
   refine GoI.run nfw5 ?_
   refine GoI.call nfw5 nfw5 (by exact okAllK' _ _ (by first | omega | (simp; omega))) ?_
   refine GoI.z nfw5 ?_
   refine PI.r ?_
   exact FinI.mk _ nfw5 (by clear U; simp_all [finR, nrmA, nrm, AV.content, resE, resC])
  try simp only [hb12]
  refine PI.q ?_
  refine rg140w5 (31) [] fun all20 _ => ?_
  refine GoI.z nfw5 ?_
  refine PI.d 45 nfw5 (fun hb13 => ?_) (fun hb13 => ?_)
  ·
   try simp only [hb13]
   refine PI.s ?_
   refine PI.t 45 nfw5 ?_
   refine PI.q ?_
   refine rg140w5 (35) [] fun all25 _ => ?_
   refine GoI.run nfw5 ?_
   refine GoI.call nfw5 nfw5 (by exact okAllK' _ _ (by first | omega | (simp; omega))) ?_
   refine GoI.z nfw5 ?_
   refine PI.r ?_
   exact FinI.mk _ nfw5 (by clear U; simp_all [finR, nrmA, nrm, AV.content, resE, resC])
  try simp only [hb13]
  refine PI.q ?_
  refine rg140w5 (33) [] fun all21 _ => ?_
  refine GoI.z nfw5 ?_
  refine PI.d 45 nfw5 (fun hb14 => ?_) (fun hb14 => ?_)
  ·
   try simp only [hb14]
   refine PI.s ?_
   refine PI.t 45 nfw5 ?_
   refine PI.q ?_
   refine rg140w5 (37) [] fun all25 _ => ?_
   refine GoI.run nfw5 ?_
   refine GoI.call nfw5 nfw5 (by exact okAllK' _ _ (by first | omega | (simp; omega))) ?_
   refine GoI.z nfw5 ?_
   refine PI.r ?_
   exact FinI.mk _ nfw5 (by clear U; simp_all [finR, nrmA, nrm, AV.content, resE, resC])
  try simp only [hb14]
  refine PI.q ?_
  refine rg140w5 (35) [] fun all22 _ => ?_
  refine GoI.z nfw5 ?_
  refine PI.d 45 nfw5 (fun hb15 => ?_) (fun hb15 => ?_)
  ·
   try simp only [hb15]
   refine PI.s ?_
   refine PI.t 45 nfw5 ?_
   refine PI.q ?_
   refine rg140w5 (39) [] fun all25 _ => ?_
   refine GoI.run nfw5 ?_
   refine GoI.call nfw5 nfw5 (by exact okAllK' _ _ (by first | omega | (simp; omega))) ?_
   refine GoI.z nfw5 ?_
   refine PI.r ?_
   exact FinI.mk _ nfw5 (by clear U; simp_all [finR, nrmA, nrm, AV.content, resE, resC])
  try simp only [hb15]
  refine PI.q ?_
  refine rg140w5 (37) [] fun all23 _ => ?_
  refine GoI.z nfw5 ?_
  refine PI.d 45 nfw5 (fun hb16 => ?_) (fun hb16 => ?_)
  ·
   try simp only [hb16]
   refine PI.s ?_
   refine PI.t 45 nfw5 ?_
   refine PI.q ?_
   refine rg140w5 (41) [] fun all25 _ => ?_
   refine GoI.run nfw5 ?_
   refine GoI.call nfw5 nfw5 (by exact okAllK' _ _ (by first | omega | (simp; omega))) ?_
   refine GoI.z nfw5 ?_
   refine PI.r ?_
   exact FinI.mk _ nfw5 (by clear U; simp_all [finR, nrmA, nrm, AV.content, resE, resC])
  try simp only [hb16]
  refine rg140w5 (39) [] fun all24 _ => ?_
  refine GoI.z nfw5 ?_
  refine PI.d 45 nfw5 (fun hb17 => ?_) (fun hb17 => ?_)
  ·
   try simp only [hb17]
   refine PI.q ?_
   refine rg140w5 (43) [] fun all25 _ => ?_
   refine GoI.run nfw5 ?_
   refine GoI.call nfw5 nfw5 (by exact okAllK' _ _ (by first | omega | (simp; omega))) ?_
   refine GoI.z nfw5 ?_
   refine PI.r ?_
   exact FinI.mk _ nfw5 (by clear U; simp_all [finR, nrmA, nrm, AV.content, resE, resC])
  try simp only [hb17]
  refine PI.q ?_
  refine rg140w5 (41) [] fun all26 _ => ?_
  refine GoI.z nfw5 ?_
  refine PI.d 54 nfw5 (fun hb18 => ?_) (fun hb18 => ?_)
  ·
   try simp only [hb18]
   refine PI.q ?_
   refine rg140w5 (45) [] fun all27 _ => ?_
   refine GoI.run nfw5 ?_
   refine GoI.call nfw5 nfw5 (by exact okAllK' _ _ (by first | omega | (simp; omega))) ?_
   refine GoI.z nfw5 ?_
   refine PI.r ?_
   exact FinI.mk _ nfw5 (by clear U; simp_all [finR, nrmA, nrm, AV.content, resE, resC])
  try simp only [hb18]
  refine PI.q ?_
  refine rg140w5 (43) [] fun all28 _ => ?_
  refine GoI.z nfw5 ?_
  refine PI.d 58 nfw5 (fun hb19 => ?_) (fun hb19 => ?_)
  ·
   try simp only [hb19]
   refine PI.q ?_
   refine rg140w5 (47) [] fun all29 _ => ?_
   refine GoI.run nfw5 ?_
   refine GoI.call nfw5 nfw5 (by exact okAllK' _ _ (by first | omega | (simp; omega))) ?_
   refine GoI.z nfw5 ?_
   refine PI.r ?_
   exact FinI.mk _ nfw5 (by clear U; simp_all [finR, nrmA, nrm, AV.content, resE, resC])
  try simp only [hb19]
  refine PI.q ?_
  refine rg140w5 (45) [] fun all30 _ => ?_
  refine GoI.z nfw5 ?_
  refine PI.d 62 nfw5 (fun hb20 => ?_) (fun hb20 => ?_)
  ·
   try simp only [hb20]
   refine PI.q ?_
   refine rg140w5 (47) [] fun all31 _ => ?_
   refine GoI.z nfw5 ?_
   refine PI.r ?_
   exact FinI.mk _ nfw5 (by clear U; simp_all [finR, nrmA, nrm, AV.content, resE, resC])
  try simp only [hb20]
  refine PI.q ?_
  refine rg140w5 (47) [] fun all32 _ => ?_
  refine GoI.z nfw5 ?_
  refine PI.d 64 nfw5 (fun hb21 => ?_) (fun hb21 => ?_)
  ·
   try simp only [hb21]
   refine PI.q ?_
   refine rg140w5 (55) [] fun all33 _ => ?_
   refine GoI.runN 2 nfw5 ?_
   refine GoI.call nfw5 nfw5 (by exact okJoin11 _ (by first | omega | (simp; omega))) ?_
   refine GoI.runN 2 nfw5 ?_
   refine GoI.runN 2 nfw5 ?_
   refine GoI.z nfw5 ?_
   refine PI.q ?_
   refine rg140w5 (64) [] fun all34 hall34 => ?_
   have hgd34_2 : (all34[2]?).bind (fun o => o.dst) = some 74 := by rw [← hall34]; kernel_rfl
   replace U := U.cons (hgd34_2)
   refine GoI.runN 2 nfw5 ?_
   refine GoI.runN 1 nfw5 ?_
   refine GoI.grd 74 nfw5 (fun hg1 => ?_) (fun hg1 => ?_)
   ·
    try simp only [hg1]
    refine GoI.runN 2 nfw5 ?_
    refine GoI.call nfw5 nfw5 (by exact okAllK' _ _ (by first | omega | (simp; omega))) ?_
    refine GoI.runN 2 nfw5 ?_
    refine GoI.z nfw5 ?_
    refine PI.r ?_
    exact FinI.mk _ nfw5 (by clear U; simp_all [finR, nrmA, nrm, AV.content, resE, resC])
   try simp only [hg1]
   refine GoI.runN 2 nfw5 ?_
   refine GoI.runN 2 nfw5 ?_
   refine GoI.z nfw5 ?_
   refine PI.r ?_
   exact FinI.mk _ nfw5 (by clear U; simp_all [finR, nrmA, nrm, AV.content, resE, resC])
  try simp only [hb21]
  refine PI.q ?_
  refine rg140w5 (49) [] fun all35 _ => ?_
  refine GoI.z nfw5 ?_
  refine PI.d 79 nfw5 (fun hb22 => ?_) (fun hb22 => ?_)
  ·
   try simp only [hb22]
   refine PI.q ?_
   refine rg140w5 (55) [] fun all36 _ => ?_
   refine GoI.run nfw5 ?_
   refine GoI.call nfw5 nfw5 (by exact okJoin11 _ (by first | omega | (simp; omega))) ?_
   refine GoI.runN 2 nfw5 ?_
   refine GoI.z nfw5 ?_
   refine PI.r ?_
   exact FinI.mk _ nfw5 (by clear U; simp_all [finR, nrmA, nrm, AV.content, resE, resC])
  try simp only [hb22]
  have h24 : op = 24 := by
    simp only [beq_eq_false_iff_ne, ne_eq] at *
    omega
  subst h24
  refine PI.s ?_
  refine PI.q ?_
  refine rg140w5 (53) [] fun all37 _ => ?_
  refine GoI.run nfw5 ?_
  refine GoI.call nfw5 nfw5 (by exact okAllK' _ _ (by first | omega | (simp; omega))) ?_
  refine GoI.z nfw5 ?_
  refine PI.r ?_
  exact FinI.mk _ nfw5 (by clear U; simp_all [finR, nrmA, nrm, AV.content, resE, resC])
mutual
def chkE (kinds : List Int) : Ex → Int × Int
  | .mk op int v name args =>
    if (cntOp op args.length).2 = false then (0, 7)
    else if formedE op int v name args.length = false then (0, 8)
    else if op == 2 then (if (decide (int < 0) || decide (int ≥ kinds.length)) = true then (0, 13) else (kinds.getD int.toNat 0, 0))
    else match (chkEs kinds args).find? (fun r => r.2 != 0) with
      | some r => (0, r.2)
      | none => if (resE op v.k ((chkEs kinds args).map (·.1))).2 = false then (0, 7) else ((resE op v.k ((chkEs kinds args).map (·.1))).1, 0)
def chkEs (kinds : List Int) : List Ex → List (Int × Int)
  | [] => []
  | e :: l => chkE kinds e :: chkEs kinds l
end
theorem chkEs_map (kinds : List Int) : ∀ l : List Ex, chkEs kinds l = l.map (chkE kinds)
  | [] => by simp [chkEs]
  | e :: l => by rw [chkEs, chkEs_map kinds l]; rfl
def chkR (kinds : List Int) (op int : Int) (v : Vl) (name : ByteArray) (rs : List (Int × Int)) : Int × Int :=
  if (cntOp op rs.length).2 = false then (0, 7)
  else if formedE op int v name rs.length = false then (0, 8)
  else if op == 2 then (if (decide (int < 0) || decide (int ≥ kinds.length)) = true then (0, 13) else (kinds.getD int.toNat 0, 0))
  else match rs.find? (fun r => r.2 != 0) with
    | some r => (0, r.2)
    | none => if (resE op v.k (rs.map (·.1))).2 = false then (0, 7) else ((resE op v.k (rs.map (·.1))).1, 0)
theorem chkE_mk (kinds : List Int) (op int : Int) (v : Vl) (name : ByteArray) (args : List Ex) : chkE kinds (.mk op int v name args) = chkR kinds op int v name (args.map (chkE kinds)) := by
  rw [chkE, chkEs_map]
  unfold chkR
  rw [List.length_map]
theorem formed_ne {op int n : Int} {v : Vl} {name : ByteArray} (h : formedE op int v name n = true) (h1 : op ≠ 1) (h2 : op ≠ 2) : n ≠ 0 := by
  unfold formedE at h
  split at h
  · cases h
  · rename_i hc
    intro h0
    subst h0
    apply hc
    have : (cntOp op 0).1 = false := by
      unfold cntOp
      rw [if_neg (by simp; omega)]
      repeat' split
      all_goals first | rfl | (simp; done)
    rw [this]; rfl
theorem formed_col {int n : Int} {v : Vl} {name : ByteArray} (h : formedE 2 int v name n = true) : n = 0 := by
  unfold formedE at h
  split at h
  · cases h
  · rename_i hc
    simp [cntOp] at hc
    exact hc.1
theorem find_ok {rs : List (Int × Int)} (h : ∀ j (hj : j < rs.length), rs[j].2 = 0) : rs.find? (fun r => r.2 != 0) = none :=
  List.find?_eq_none.2 fun a ha => by obtain ⟨j, hj, e⟩ := List.mem_iff_getElem.1 ha; rw [← e, h j hj]; decide
theorem find_er {rs : List (Int × Int)} {i : Nat} (hi : i < rs.length) (h : ∀ j (hj : j < rs.length), j < i → rs[j].2 = 0) (he : rs[i].2 ≠ 0) : rs.find? (fun r => r.2 != 0) = some rs[i] := by
  rw [List.find?_eq_some_iff_getElem]
  exact ⟨by simpa using he, i, hi, rfl, fun j hj => by rw [h j (by omega) hj]; rfl⟩
end Go.FE
namespace Go.FE
open Go.Proofs
theorem nfw6 {α : Type} {a b : α} (h : a = b := by simp only [goP, goN, mrk, Nat.reduceMul, Nat.one_mul, Nat.mul_one, eq_self, false_implies, implies_true, Nat.reduceLT, List.getElem?_toArray, isCall, List.contains_nil, List.contains_cons, Nat.reduceBEq, Bool.or_false, Bool.or_self, List.length_map, gOf, step, stepM, stepP, ev, okV, if_true, if_false, allocA, storeA, boxA, one1, tokN, tok1, buildA, rowA, nrmP, partV, partA, fieldA, fieldV, elemA, lenA, bltA, asSl, appA, makeA, makeR, cutA, bndA, binV, intOp, strOp, unV, eqB, nilB, sameT, List.all_cons, List.all_nil, Bool.and_self, Bool.and_true, Bool.true_and, List.map_cons, List.map_nil, List.nil_append, List.cons_append, List.append_nil, AV.bare, AV.content, AV.clean, AV.one, putD, List.set_cons_zero, List.set_cons_succ, List.reverse_cons, List.reverse_nil, List.getD_cons_zero, List.getD_cons_succ, List.getElem?_cons_zero, List.getElem?_cons_succ, Option.getD_some, Option.map_some, Option.map_none, Option.bind_some, List.length_cons, List.length_nil, lk, cellsA, fillA, fillS, isAggD, spl, nrm, nrmA, List.take_succ_cons, List.take_zero, List.drop_succ_cons, List.drop_zero, List.drop_nil, List.take_nil, Nat.reduceAdd, Nat.zero_add, Nat.add_zero, Nat.add_assoc, Nat.add_left_cancel_iff, reduceCtorEq, Prod.mk.injEq, List.cons.injEq, and_self, and_true, true_and, Nat.le_refl, Nat.reduceLeDiff, Nat.reduceEqDiff, List.getElem?_nil, Int.reduceToNat, Int.reduceLE, Int.reduceLT, ite_self, List.forall_mem_cons, List.not_mem_nil, false_and, and_false, Bool.false_eq_true, List.replicate_zero, List.replicate_succ, Int.toNat_natCast, neJ2, neJ2', neJ3, neJ3', callOf, callOf2, fnOf, argsA, args2, Array.isEmpty_empty, resLL, resVL, beq_self_eq_true, st3, zt3, it3, ct3, se3, Tryz.underlying3, st4, zt4, it4, ct4, se4, Tryz.underlying4, st9, zt9, it9, ct9, se9, Tryz.underlying9, st22, zt22, it22, ct22, se22, Tryz.underlying22, st25, zt25, it25, ct25, pt25, eqs25, se25, Tryz.underlying25, st26, zt26, it26, ct26, se26, Tryz.underlying26, st28, zt28, it28, ct28, pt28, se28, Tryz.underlying28, st36, zt36, it36, ct36, se36, Tryz.underlying36, st77, Tryz.underlying77, st94, Tryz.underlying94, st151, Tryz.underlying151, Tryz.results165, U.out] <;> rfl) : a = b := h
theorem chk_1 {kinds : List Int} {op int : Int} {v : Vl} {name : ByteArray} {rs : List (Int × Int)} (h : (cntOp op rs.length).2 = false) : chkR kinds op int v name rs = (0, 7) := by unfold chkR; rw [if_pos h]
theorem chk_2 {kinds : List Int} {op int : Int} {v : Vl} {name : ByteArray} {rs : List (Int × Int)} (h : (cntOp op rs.length).2 = true) (h2 : formedE op int v name rs.length = false) : chkR kinds op int v name rs = (0, 8) := by
  unfold chkR; rw [if_neg (by rw [h]; decide), if_pos h2]
theorem chk_3 {kinds : List Int} {op int : Int} {v : Vl} {name : ByteArray} {rs : List (Int × Int)} (h : (cntOp op rs.length).2 = true) (h2 : formedE op int v name rs.length = true) (h3 : op = 2) :
    chkR kinds op int v name rs = if (decide (int < 0) || decide (int ≥ kinds.length)) = true then (0, 13) else (kinds.getD int.toNat 0, 0) := by
  unfold chkR; rw [if_neg (by rw [h]; decide), if_neg (by rw [h2]; decide), if_pos (by simpa using h3)]
theorem chk_4 {kinds : List Int} {op int : Int} {v : Vl} {name : ByteArray} {rs : List (Int × Int)} (h : (cntOp op rs.length).2 = true) (h2 : formedE op int v name rs.length = true) (h3 : op ≠ 2) :
    chkR kinds op int v name rs = match rs.find? (fun r => r.2 != 0) with
    | some r => (0, r.2)
    | none => if (resE op v.k (rs.map (·.1))).2 = false then (0, 7) else ((resE op v.k (rs.map (·.1))).1, 0) := by
  unfold chkR; rw [if_neg (by rw [h]; decide), if_neg (by rw [h2]; decide), if_neg (by simpa using h3)]; try rfl
theorem map_snoc {α β : Type} {f : α → β} {l : List α} {i : Nat} (h : i < l.length) : (l.take (i + 1)).map f = (l.take i).map f ++ [f l[i]] := by
  rw [List.take_succ_eq_append_getElem h, List.map_append]; rfl
theorem ok_ex {kinds : List Int} {args : List Ex} {i : Nat} (h : ∀ j (hj : j < args.length), j < i → (chkE kinds args[j]).2 = 0) (hi : i < args.length) (h1 : (chkE kinds args[i]).2 = 0) : ∀ j (hj : j < args.length), j < i + 1 → (chkE kinds args[j]).2 = 0 := fun j hj hji => by
  rcases Nat.lt_or_ge j i with h2 | h2
  · exact h j hj h2
  · have e : j = i := by omega
    subst e; exact h1
theorem rg165w6 {T : List Rid} {p : Path} {Q : Exit → SL → Prop} {tm : List AV} {L : RL} {n : Nat} {c : Code} {l : List Oper} (n' : Nat) (Qs : List Nat) (h : ∀ all, (ro c).toList = all → GoI Tryz.prog T p all false Qs n 0 l tm L fun tm' L' => Q .normal ⟨tm', L', n'⟩) (hk : kd c = 0 := by kernel_rfl) (hr : rd c = false := by kernel_rfl) (hl : (ro c).toList = l := by dsimp only [ro, s1, s2, c1, c2, bc, bod, Tryz.f165, Option.getD_some] <;> exact rfl) (hn : n + (ro c).size = n' := by kernel_rfl) : PI Tryz.prog T p c Q ⟨tm, L, n⟩ := PI.rg n' Qs hk hr hl (fun h => by cases h) hn (h _ rfl)
set_option maxHeartbeats 2000000 in
set_option maxRecDepth 100000 in
theorem okChk1 (kinds : List Int) : ∀ (n : Nat) (op int : Int) (v : Vl) (name : ByteArray) (args : List Ex), dpEs args < n → SmE 100000 (.mk op int v name args) → CallsOK Tryz.prog 165 [aEx op int v name args, ints kinds] (.tup [aI (chkR kinds op int v name (args.map (chkE kinds))).1, aI (chkR kinds op int v name (args.map (chkE kinds))).2]) := by
  intro n
  induction n with
  | zero => intro op int v name args h; omega
  | succ n ih =>
  intro op int v name args hd hs
  have hl := hs.len
  have hl' : args.length ≤ maxLen := by unfold maxLen; omega
  have hrl : (args.map (chkE kinds)).length = args.length := List.length_map ..
  generalize hRS : chkR kinds op int v name (args.map (chkE kinds)) = RS
  have U : Hid True := ⟨trivial⟩
  refine CallsOK.of_pi mixed Tryz.func165 (by kernel_rfl) (by kernel_rfl) (?_ : PI _ _ _ _ _ ⟨[aEx op int v name args, ints kinds, .und, .und, .und, .und, .und, .und, .und, .und, .und, .und, .und, .und, .und, .und, .und, .und, .und, .und, .und, .und, .und, .und, .und, .und, .und, .und, .und, .und, .und, .und, .und, .und, .und, .und, .und, .und, .und, .und, .und, .und, .und, .und, .und, .und, .und, .und, .und, .und, .und, .und, .und, .und, .und, .und, .und, .und, .und, .und, .und, .und, .und, .und, .und, .und, .und, .und, .und, .und, .und, .und, .und, .und, .und, .und, .und], [], 0⟩)
  refine PI.q ?_
  refine rg165w6 (3) [] fun all1 _ => ?_
  refine GoI.runN 2 nfw6 ?_
  refine GoI.z nfw6 ?_
  refine PI.q ?_
  refine PI.q ?_
  refine rg165w6 (14) [] fun all2 _ => ?_
  refine GoI.runN 2 nfw6 ?_
  refine GoI.runN 2 nfw6 ?_
  refine GoI.run nfw6 ?_
  refine GoI.call nfw6 nfw6 (by exact okCounts11 _ _) ?_
  refine GoI.runN 2 nfw6 ?_
  refine GoI.runN 2 nfw6 ?_
  refine GoI.z nfw6 ?_
  refine PI.q ?_
  refine rg165w6 (16) [] fun all3 _ => ?_
  refine GoI.z nfw6 ?_
  refine PI.d 25 nfw6 (fun hb1 => ?_) (fun hb1 => ?_)
  ·
   try simp only [hb1]
   have hc : (cntOp op args.length).2 = false := by simpa using hb1
   rw [← hrl] at hc
   rw [chk_1 hc] at hRS
   subst hRS
   refine PI.q ?_
   refine rg165w6 (18) [] fun all4 _ => ?_
   refine GoI.z nfw6 ?_
   refine PI.r ?_
   exact FinI.mk _ nfw6 (by clear U; (try subst hRS); simp [finR, nrmA, nrm, AV.content])
  try simp only [hb1]
  have hc : (cntOp op args.length).2 = true := by simpa using hb1
  have hc' := hc
  rw [← hrl] at hc'
  refine PI.s ?_
  refine PI.q ?_
  refine PI.q ?_
  refine rg165w6 (19) [] fun all5 _ => ?_
  refine GoI.run nfw6 ?_
  refine GoI.call nfw6 nfw6 (by exact okFormed _ _ _ _ _) ?_
  refine GoI.z nfw6 ?_
  refine PI.d 28 nfw6 (fun hb2 => ?_) (fun hb2 => ?_)
  ·
   try simp only [hb2]
   have hf : formedE op int v name args.length = false := by simpa using hb2
   rw [← hrl] at hf
   rw [chk_2 hc' hf] at hRS
   subst hRS
   refine PI.q ?_
   refine rg165w6 (21) [] fun all6 _ => ?_
   refine GoI.z nfw6 ?_
   refine PI.r ?_
   exact FinI.mk _ nfw6 (by clear U; (try subst hRS); simp [finR, nrmA, nrm, AV.content])
  try simp only [hb2]
  have hf : formedE op int v name args.length = true := by simpa using hb2
  have hf' := hf
  rw [← hrl] at hf'
  refine PI.s ?_
  refine PI.q ?_
  refine PI.q ?_
  refine rg165w6 (22) [] fun all7 _ => ?_
  refine GoI.runN 2 nfw6 ?_
  refine GoI.z nfw6 ?_
  refine PI.d 31 nfw6 (fun hb3 => ?_) (fun hb3 => ?_)
  ·
   try simp only [hb3]
   have h2 : op = 2 := by simpa using hb3
   rw [chk_3 hc' hf' h2] at hRS
   refine PI.q ?_
   refine PI.q ?_
   refine rg165w6 (32) [] fun all8 hall8 => ?_
   have hgd8_3 : (all8[3]?).bind (fun o => o.dst) = some 35 := by rw [← hall8]; kernel_rfl
   replace U := U.cons (hgd8_3)
   refine GoI.runN 2 nfw6 ?_
   refine GoI.runN 2 nfw6 ?_
   refine GoI.grd 35 nfw6 (fun hg1 => ?_) (fun hg1 => ?_)
   ·
    try simp only [hg1]
    refine GoI.runN 2 nfw6 ?_
    refine GoI.runN 2 nfw6 ?_
    refine GoI.z nfw6 ?_
    refine PI.t 41 nfw6 ?_
    rw [if_pos (by simp_all)] at hRS
    subst hRS
    refine PI.q ?_
    refine rg165w6 (34) [] fun all9 _ => ?_
    refine GoI.z nfw6 ?_
    refine PI.r ?_
    exact FinI.mk _ nfw6 (by clear U; (try subst hRS); simp [finR, nrmA, nrm, AV.content])
   try simp only [hg1]
   refine GoI.runN 2 nfw6 ?_
   refine GoI.runN 2 nfw6 ?_
   refine GoI.z nfw6 ?_
   refine PI.d 41 nfw6 (fun hb4 => ?_) (fun hb4 => ?_)
   ·
    try simp only [hb4]
    rw [if_pos (by simp_all)] at hRS
    subst hRS
    refine PI.q ?_
    refine rg165w6 (34) [] fun all9 _ => ?_
    refine GoI.z nfw6 ?_
    refine PI.r ?_
    exact FinI.mk _ nfw6 (by clear U; (try subst hRS); simp [finR, nrmA, nrm, AV.content])
   try simp only [hb4]
   have h40 : 0 ≤ int := by simp_all
   have h41 : int < (kinds.length : Int) := by simp_all
   have hy := kinds_at h40 h41
   rw [if_neg (by simp; omega)] at hRS
   subst hRS
   replace U := U.cons (And.intro (h40) (And.intro (h41) (hy)))
   refine PI.s ?_
   refine PI.q ?_
   refine rg165w6 (39) [] fun all10 _ => ?_
   refine GoI.runN 2 nfw6 ?_
   refine GoI.runN 2 nfw6 ?_
   refine GoI.runN 2 nfw6 ?_
   refine GoI.z nfw6 ?_
   refine PI.r ?_
   exact FinI.mk _ nfw6 (by clear U; (try subst hRS); simp [finR, nrmA, nrm, AV.content])
  try simp only [hb3]
  have h2 : op ≠ 2 := by simpa using hb3
  rw [chk_4 hc' hf' h2] at hRS
  refine PI.s ?_
  refine PI.q ?_
  refine rg165w6 (23) [] fun all11 _ => ?_
  refine GoI.z nfw6 ?_
  refine PI.q ?_
  refine PI.q ?_
  refine rg165w6 (27) [] fun all12 _ => ?_
  refine GoI.runN 2 nfw6 ?_
  refine GoI.z nfw6 ?_
  refine PI.b 0 ?_
  refine PI.lo (by kernel_rfl) (X := Nat) (fun i => (50, aI i) :: (8, .sl (((args.take i).map fun e => (chkE kinds e).1).map fun k => [aI k]) (some (([22], 0), i))) :: uk [4, 5, 10, 11, 12, 51, 52, 53, 54, 55, 56, 57, 58, 59, 60, 61, 62, 63, 64, 65, 66, 67]) (fun i => [(([0], 0), .var 28 [aI op, aI int, aI v.k, aI v.i, aS v.s, aS name, .sl (args.map encE) none]), (([22], 0), .tok i 3 1)]) (fun k i => k = args.length - i ∧ i ≤ args.length ∧ ∀ j (hj : j < args.length), j < i → (chkE kinds args[j]).2 = 0) (args.length) (0) (GhI.of_wk ⟨by simp [ovr, uk, lessT, neJ2, neJ2', neJ3, neJ3'], by simp [lessR, lk, neJ2, neJ2', neJ3, neJ3'], by (try dsimp only); omega, keep0⟩) (⟨rfl, Nat.zero_le _, fun j hj hji => by omega⟩) ?_
  intro k1 x1 j1 hr1
  obtain ⟨rfl, hi1, hok⟩ := hr1
  simp only [ovr, uk, List.set_cons_zero, List.set_cons_succ]
  refine PI.q ?_
  refine rg165w6 (j1 + 28) [] fun all13 _ => ?_
  refine GoI.z nfw6 ?_
  refine PI.q ?_
  refine PI.d 51 nfw6 (fun hb5 => ?_) (fun hb5 => ?_)
  ·
   try simp only [hb5]
   obtain ⟨hlt, hw⟩ := up hb5 hl'
   have hx := exs_at hlt
   have hts : (args.take (x1 + 1)).map (fun e => (chkE kinds e).1) = (args.take x1).map (fun e => (chkE kinds e).1) ++ [(chkE kinds args[x1]).1] := map_snoc hlt
   have hs1 := hs.arg _ (List.getElem_mem hlt)
   have hdm := dpEs_mem (List.getElem_mem hlt)
   have hme : (args.map (chkE kinds))[x1]'(by simpa using hlt) = chkE kinds args[x1] := by simp
   have hap : ((args.take x1).length + 1) * 8 ≤ 140737488355328 := by simp; omega
   generalize hR : chkE kinds args[x1] = R
   rw [hR] at hts hme
   generalize he : args[x1] = e1
   rw [he] at hx hs1 hdm hR
   obtain ⟨op1, int1, v1, name1, args1⟩ := e1
   rw [encE_mk] at hx
   rw [dpE_mk] at hdm
   rw [chkE_mk] at hR
   have hR2 : chkE kinds args[x1] = R := by rw [he, chkE_mk, hR]
   replace U := U.cons (And.intro (hw) (And.intro (hx) (And.intro (hap) (hR))))
   refine PI.s ?_
   refine PI.q ?_
   refine PI.b 1 ?_
   refine PI.q ?_
   refine rg165w6 (j1 + 32) [] fun all14 _ => ?_
   refine GoI.runN 2 nfw6 ?_
   refine GoI.z nfw6 ?_
   refine PI.q ?_
   refine rg165w6 (j1 + 40) [] fun all15 _ => ?_
   refine GoI.runN 2 nfw6 ?_
   refine GoI.call nfw6 nfw6 (by exact ih _ _ _ _ _ (by omega) hs1) ?_
   refine GoI.runN 2 nfw6 ?_
   refine GoI.runN 2 nfw6 ?_
   refine GoI.z nfw6 ?_
   refine PI.q ?_
   refine PI.q ?_
   refine rg165w6 (j1 + 42) [] fun all16 _ => ?_
   refine GoI.z nfw6 ?_
   refine PI.d 61 nfw6 (fun hb6 => ?_) (fun hb6 => ?_)
   ·
    try simp only [hb6]
    have h6 : R.2 ≠ 0 := by simpa using hb6
    rw [find_er (i := x1) (by simpa using hlt) (fun j hj hji => by simpa using hok j (by simpa using hj) hji) (by rw [hme]; exact h6), hme] at hRS
    subst hRS
    refine PI.q ?_
    refine rg165w6 (j1 + 45) [] fun all17 _ => ?_
    refine GoI.runN 2 nfw6 ?_
    refine GoI.z nfw6 ?_
    refine PI.r ?_
    exact FinI.mk _ nfw6 (by clear U; (try subst hRS); simp [finR, nrmA, nrm, AV.content])
   try simp only [hb6]
   have h6 : R.2 = 0 := by simpa using hb6
   refine PI.s ?_
   refine rg165w6 (j1 + 47) [] fun all18 _ => ?_
   refine GoI.runN 2 nfw6 ?_
   refine GoI.runN 2 nfw6 ?_
   refine GoI.z nfw6 ?_
   refine rg165w6 (j1 + 49) [] fun all19 _ => ?_
   refine GoI.z nfw6 ?_
   refine ⟨args.length - (x1 + 1), x1 + 1, j1 + 22, by omega, ⟨rfl, by omega, ok_ex hok hlt (by rw [hR2]; exact h6)⟩, GhI.of_wk ⟨by simp only [ovr, uk, lessT, hts, List.map_append, List.map_cons, List.map_nil]; simp [lessT], by simp [lessR, lk], by (try dsimp only); omega, keep0⟩⟩
  try simp only [hb5]
  have hge := dn hb5
  rw [List.take_of_length_le hge]
  have hne : op ≠ 1 → (args.map fun e => (chkE kinds e).1) ≠ [] := fun h1 h => by
    have := formed_ne hf h1 h2
    have h := congrArg List.length h
    simp at h
    rw [h] at this
    exact this rfl
  rw [find_ok (fun j hj => by simpa using hok j (by simpa using hj) (by simp at hj; omega))] at hRS
  dsimp only at hRS
  rw [List.map_map] at hRS
  have hcm : ((fun r : Int × Int => r.1) ∘ chkE kinds) = fun e => (chkE kinds e).1 := rfl
  rw [hcm] at hRS
  refine PI.e 0 ?_
  refine PI.q ?_
  refine rg165w6 (j1 + 36) [] fun all20 _ => ?_
  refine GoI.runN 2 nfw6 ?_
  refine GoI.call nfw6 nfw6 (by exact okResE op int v name args _ (by simp; omega) hne) ?_
  refine GoI.runN 2 nfw6 ?_
  refine GoI.runN 2 nfw6 ?_
  refine GoI.z nfw6 ?_
  refine PI.q ?_
  refine PI.q ?_
  refine rg165w6 (j1 + 38) [] fun all21 _ => ?_
  refine GoI.z nfw6 ?_
  refine PI.d 75 nfw6 (fun hb7 => ?_) (fun hb7 => ?_)
  ·
   try simp only [hb7]
   have h7 : (resE op v.k (args.map fun e => (chkE kinds e).1)).2 = false := by simpa using hb7
   rw [if_pos h7] at hRS
   refine PI.q ?_
   refine rg165w6 (j1 + 40) [] fun all22 _ => ?_
   refine GoI.z nfw6 ?_
   refine PI.r ?_
   exact FinI.mk _ nfw6 (by clear U; (try subst hRS); simp [finR, nrmA, nrm, AV.content])
  try simp only [hb7]
  have h7 : (resE op v.k (args.map fun e => (chkE kinds e).1)).2 = true := by simpa using hb7
  rw [if_neg (by rw [h7]; decide)] at hRS
  refine PI.s ?_
  refine PI.q ?_
  refine rg165w6 (j1 + 41) [] fun all23 _ => ?_
  refine GoI.runN 2 nfw6 ?_
  refine GoI.z nfw6 ?_
  refine PI.r ?_
  exact FinI.mk _ nfw6 (by clear U; (try subst hRS); simp [finR, nrmA, nrm, AV.content])
end Go.FE
