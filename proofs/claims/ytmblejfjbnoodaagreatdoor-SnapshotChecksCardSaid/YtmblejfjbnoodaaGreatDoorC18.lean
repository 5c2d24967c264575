/- Cloned rows; rows in order. Equal multisets of rows; bags; counts. Counts of rows by key. Rows shared with another bag, and the others. Union, difference, intersection, distinct rows. Rows in order, as the document orders them. The document's order of rows, distinct rows, rows of nulls. Plain law of counted rows. The document's distinct rows, counts, repetitions. The document's multisets. The document's difference, intersection, union. Sums of parts. -/
import Derived.Test.YtmblejfjbnoodaaGreatDoorC09
import Derived.Test.YtmblejfjbnoodaaGreatDoorC15
import Derived.Test.YtmblejfjbnoodaaGreatDoorC17
set_option linter.unusedVariables false
set_option linter.unusedSimpArgs false
namespace Go.FE
open Go.Proofs
theorem nf11 {α : Type} {a b : α} (h : a = b := by simp only [goP, goN, mrk, Nat.reduceMul, Nat.one_mul, Nat.mul_one, eq_self, false_implies, implies_true, Nat.reduceLT, List.getElem?_toArray, isCall, List.contains_nil, List.contains_cons, Nat.reduceBEq, Bool.or_false, Bool.or_self, List.length_map, gOf, step, stepM, stepP, ev, okV, if_true, if_false, allocA, storeA, boxA, one1, tokN, tok1, buildA, rowA, nrmP, partV, partA, fieldA, fieldV, elemA, lenA, bltA, asSl, appA, makeA, makeR, cutA, bndA, binV, intOp, strOp, unV, eqB, nilB, sameT, List.all_cons, List.all_nil, Bool.and_self, Bool.and_true, Bool.true_and, List.map_cons, List.map_nil, List.nil_append, List.cons_append, List.append_nil, AV.bare, AV.content, AV.clean, AV.one, putD, List.set_cons_zero, List.set_cons_succ, List.reverse_cons, List.reverse_nil, List.getD_cons_zero, List.getD_cons_succ, List.getElem?_cons_zero, List.getElem?_cons_succ, Option.getD_some, Option.map_some, Option.map_none, Option.bind_some, List.length_cons, List.length_nil, lk, cellsA, fillA, fillS, isAggD, spl, nrm, nrmA, List.take_succ_cons, List.take_zero, List.drop_succ_cons, List.drop_zero, List.drop_nil, List.take_nil, Nat.reduceAdd, Nat.zero_add, Nat.add_zero, Nat.add_assoc, Nat.add_left_cancel_iff, reduceCtorEq, Prod.mk.injEq, List.cons.injEq, and_self, and_true, true_and, Nat.le_refl, Nat.reduceLeDiff, Nat.reduceEqDiff, List.getElem?_nil, Int.reduceToNat, Int.reduceLE, Int.reduceLT, ite_self, List.forall_mem_cons, List.not_mem_nil, false_and, and_false, Bool.false_eq_true, List.replicate_zero, List.replicate_succ, Int.toNat_natCast, neJ2, neJ2', neJ3, neJ3', callOf, callOf2, fnOf, argsA, args2, Array.isEmpty_empty, resLL, resVL, beq_self_eq_true, st3, zt3, it3, ct3, se3, Tryz.underlying3, st4, zt4, it4, ct4, se4, Tryz.underlying4, st9, zt9, it9, ct9, se9, Tryz.underlying9, st25, zt25, it25, ct25, pt25, eqs25, se25, Tryz.underlying25, st49, zt49, it49, ct49, se49, Tryz.underlying49, Tryz.results172, st22, zt22, it22, ct22, se22, Tryz.underlying22, Tryz.results212, st23, zt23, it23, ct23, se23, Tryz.underlying23, st122, Tryz.underlying122, Tryz.results173, appR, newR, storeP, Tryz.results133, Int.natCast_nonneg, renA, renR, Tryz.results97, U.out] <;> rfl) : a = b := h
theorem rg172v11 {T : List Rid} {p : Path} {Q : Exit → SL → Prop} {tm : List AV} {L : RL} {n : Nat} {c : Code} {l : List Oper} (n' : Nat) (Qs : List Nat) (h : ∀ all, (ro c).toList = all → GoI Tryz.prog T p all false Qs n 0 l tm L fun tm' L' => Q .normal ⟨tm', L', n'⟩) (hk : kd c = 0 := by kernel_rfl) (hr : rd c = false := by kernel_rfl) (hl : (ro c).toList = l := by dsimp only [ro, s1, s2, c1, c2, bc, bod, Tryz.f172, Option.getD_some] <;> exact rfl) (hn : n + (ro c).size = n' := by kernel_rfl) : PI Tryz.prog T p c Q ⟨tm, L, n⟩ := PI.rg n' Qs hk hr hl (fun h => by cases h) hn (h _ rfl)
theorem okClone0 : CallsOK Tryz.prog 172 [.sl [] none] (.sl [] none) := by
  have U : Hid True := ⟨trivial⟩
  refine CallsOK.of_pi mixed Tryz.func172 (by kernel_rfl) (by kernel_rfl) (?_ : PI _ _ _ _ _ ⟨[.sl [] none, .und, .und, .und, .und, .und, .und, .und], [], 0⟩)
  refine PI.q ?_
  refine rg172v11 (1) [] fun all1 _ => ?_
  refine GoI.z nf11 ?_
  refine PI.q ?_
  refine PI.q ?_
  refine rg172v11 (3) [] fun all2 _ => ?_
  refine GoI.z nf11 ?_
  refine PI.u 4 nf11 ?_ ?_
  ·
   refine PI.q ?_
   refine rg172v11 (4) [] fun all3 _ => ?_
   refine GoI.z nf11 ?_
   refine PI.r ?_
   exact FinI.mk _ nf11 (by clear U; rfl)
  refine PI.s ?_
  refine PI.q ?_
  refine rg172v11 (7) [] fun all4 _ => ?_
  refine GoI.runN 2 nf11 ?_
  refine GoI.z nf11 ?_
  refine PI.r ?_
  exact FinI.mk _ nf11 (by clear U; rfl)
theorem okClone1 (v : Vl) (r : Row) (hr : r.length ≤ 1000000) : CallsOK Tryz.prog 172 [aRow (v :: r)] (aRow (v :: r)) := by
  have U : Hid True := ⟨trivial⟩
  replace U := U.cons (And.intro (rowLen (f := encV) (n := 3) (fun _ => rfl) r) ((show (r.length + 1) * 32 ≤ 140737488355328 by omega)))
  refine CallsOK.of_pi mixed Tryz.func172 (by kernel_rfl) (by kernel_rfl) (?_ : PI _ _ _ _ _ ⟨[aRow (v :: r), .und, .und, .und, .und, .und, .und, .und], [], 0⟩)
  refine PI.q ?_
  refine rg172v11 (1) [] fun all1 _ => ?_
  refine GoI.z nf11 ?_
  refine PI.q ?_
  refine PI.q ?_
  refine rg172v11 (3) [] fun all2 _ => ?_
  refine GoI.z nf11 ?_
  refine PI.d 4 nf11 (fun hb1 => ?_) (fun hb1 => ?_)
  ·
   try simp only [hb1]
   cases hb1
  try simp only [hb1]
  refine PI.s ?_
  refine PI.q ?_
  refine rg172v11 (7) [] fun all4 _ => ?_
  refine GoI.runN 2 nf11 ?_
  refine GoI.z nf11 ?_
  refine PI.r ?_
  exact FinI.mk _ nf11 (by clear U; simp [finR, nrmA, nrm, AV.content])
theorem okClone (r : Row) (hr : r.length ≤ 1000000) : CallsOK Tryz.prog 172 [aRow r] (aRow r) := by
  cases r with
  | nil => exact okClone0
  | cons v r => exact okClone1 v r (by simp at hr; omega)
theorem rg173v11 {T : List Rid} {p : Path} {Q : Exit → SL → Prop} {tm : List AV} {L : RL} {n : Nat} {c : Code} {l : List Oper} (n' : Nat) (Qs : List Nat) (h : ∀ all, (ro c).toList = all → GoI Tryz.prog T p all false Qs n 0 l tm L fun tm' L' => Q .normal ⟨tm', L', n'⟩) (hk : kd c = 0 := by kernel_rfl) (hr : rd c = false := by kernel_rfl) (hl : (ro c).toList = l := by dsimp only [ro, s1, s2, c1, c2, bc, bod, Tryz.f173, Option.getD_some] <;> exact rfl) (hn : n + (ro c).size = n' := by kernel_rfl) : PI Tryz.prog T p c Q ⟨tm, L, n⟩ := PI.rg n' Qs hk hr hl (fun h => by cases h) hn (h _ rfl)
theorem okSortStable {id : Rid} {rs : Rid → Res} {p : Path} {s : Nat} (l : List Row) (N : Nat) (hid : ¬ Under p id) (hrs : rs id = arrR s l) (hN : N = l.length) (hl : N ≤ 1000000) :
    Calls2 Tryz.prog 173 [aArr id s N, aCmp] [id] rs p (.tup []) [(id, arrR s (srt l))] := by
  have U : Hid True := ⟨trivial⟩
  replace U := U.cons (And.intro (nu1 hid) (nu2 hid))
  refine Calls2.of_pi ([(id, arrR s l)]) mixed Tryz.func173 (by kernel_rfl) (by kernel_rfl) (by simp [lk, hrs, hid]) (by simp [lk, hrs, hid]) (by simp [lk, hrs, hid]) (by simp [lk, hrs, hid]) (by simp [lk, hrs, hid]) (?_ : PI _ _ _ _ _ ⟨[aArr id s N, aCmp, .und, .und, .und, .und, .und, .und, .und], [(id, arrR s l)], 0⟩)
  refine rg173v11 (5) [4] fun all1 _ => ?_
  refine GoI.runN 2 nf11 ?_
  refine GoI.runN 2 nf11 ?_
  refine GoI.call2e nf11 nf11 (by exact okStable l N (fun h => hid h.tail) (by repeat (first | exact lk_hd | refine lk_tl (by simp <;> omega) ?_)) hN hl) (by first | exact .inr rfl | exact .inl rfl) (by exact fun h => by cases h) ?_
  try simp only [List.reverse_cons, List.reverse_nil, List.nil_append, List.cons_append, List.append_assoc]
  refine GoI.z nf11 ?_
  exact FinI.mk _ nf11 ⟨by clear U; rfl, fin_keys (by simp [lk, under_self, nu1 hid, nu2 hid]) (by simp [lk, under_self, nu1 hid, nu2 hid])⟩
theorem rws_take {l : List Row} {i : Nat} (h : i < l.length) : (l.take (i + 1)).map (fun r => [aRow r]) = (l.take i).map (fun r => [aRow r]) ++ [[aRow l[i]]] := by
  rw [List.take_succ_eq_append_getElem h, List.map_append]; rfl
set_option maxHeartbeats 1000000 in
set_option maxRecDepth 100000 in
/-- The clones of rows, in order, in a row of the caller's own. -/
theorem rg133v11 {T : List Rid} {p : Path} {Q : Exit → SL → Prop} {tm : List AV} {L : RL} {n : Nat} {c : Code} {l : List Oper} (n' : Nat) (Qs : List Nat) (h : ∀ all, (ro c).toList = all → GoI Tryz.prog T p all false Qs n 0 l tm L fun tm' L' => Q .normal ⟨tm', L', n'⟩) (hk : kd c = 0 := by kernel_rfl) (hr : rd c = false := by kernel_rfl) (hl : (ro c).toList = l := by dsimp only [ro, s1, s2, c1, c2, bc, bod, Tryz.f133, Option.getD_some] <;> exact rfl) (hn : n + (ro c).size = n' := by kernel_rfl) : PI Tryz.prog T p c Q ⟨tm, L, n⟩ := PI.rg n' Qs hk hr hl (fun h => by cases h) hn (h _ rfl)
theorem okSorted {rs : Rid → Res} {p : Path} (l : List Row) (hl : l.length ≤ 1000000) (hr : ∀ r ∈ l, r.length ≤ 1000000) : Calls2 Tryz.prog 133 [aRows l, aCmp] [] rs p (aArr (p, 0) (l.length + 1) l.length) [((p, 0), arrR (l.length + 1) (srt l))] := by
  have hl' : l.length ≤ maxLen := by unfold maxLen; omega
  have hb24 : 24 * l.length ≤ 281474976710656 := by omega
  have hb63 : l.length ≤ 9223372036854775807 := by omega
  have U : Hid True := ⟨trivial⟩
  replace U := U.cons (And.intro (hb24) (hb63))
  refine Calls2.of_pi ([]) mixed Tryz.func133 (by kernel_rfl) (by kernel_rfl) (by simp [lk, under_nil]) (by simp [lk, under_nil]) (by simp [lk, under_nil]) (by simp [lk, under_nil]) (by simp [lk, under_nil]) (?_ : PI _ _ _ _ _ ⟨[aRows l, aCmp, .und, .und, .und, .und, .und, .und, .und, .und, .und, .und, .und, .und, .und, .und, .und, .und, .und, .und, .und, .und, .und, .und, .und, .und, .und], [], 0⟩)
  refine PI.q ?_
  refine rg133v11 (1) [] fun all1 _ => ?_
  refine GoI.z nf11 ?_
  refine PI.q ?_
  refine rg133v11 (5) [] fun all2 _ => ?_
  refine GoI.runN 2 nf11 ?_
  refine GoI.z nf11 ?_
  refine PI.q ?_
  refine PI.q ?_
  refine PI.pg (by kernel_rfl) (GhI.thw (3 :: p, 0) 0 49 1 5 (by simp [lk]) rfl (by simp only [List.map_cons, List.map_nil, thwA_none, thwA_hit, thwA_v, thwA_und, thwA_miss (show ((0 :: p, 0) : Rid) ≠ (3 :: p, 0) by simp)]; rfl)) ?_
  refine rg133v11 (8) [] fun all3 _ => ?_
  refine GoI.runN 2 nf11 ?_
  refine GoI.z nf11 ?_
  refine PI.b 0 ?_
  refine PI.lo (by kernel_rfl) (X := Nat) (fun i => (5, aArr (3 :: p, 0) (i + 1) i) :: (13, aI i) :: uk [7, 14, 15, 16, 17, 18, 19, 20, 21, 22]) (fun i => [((3 :: p, 0), arrR (i + 1) (l.take i))]) (fun k i => k = l.length - i ∧ i ≤ l.length) (l.length) (0) (GhI.of_wk ⟨by simp [ovr, uk, lessT], by simp [lessR, lk, Int.natCast_nonneg, hb24, hb63, renA, renR, neJ2, neJ2', neJ3, neJ3'], by (try dsimp only); omega, by simp [keepR, lk, under_self, Int.natCast_nonneg, hb24, hb63, renA, renR, neJ2, neJ2', neJ3, neJ3']⟩) (by simp) ?_
  intro k1 x1 j1 hr1
  obtain ⟨rfl, hi1⟩ := hr1
  simp only [ovr, uk, List.set_cons_zero, List.set_cons_succ]
  refine PI.q ?_
  refine rg133v11 (j1 + 9) [] fun all4 _ => ?_
  refine GoI.z nf11 ?_
  refine PI.q ?_
  refine PI.d 14 nf11 (fun hb1 => ?_) (fun hb1 => ?_)
  ·
   try simp only [hb1]
   obtain ⟨hlt, hw⟩ := up hb1 hl'
   have hx := rows_at hlt
   have ht : (l.take x1).length = x1 := by simp; omega
   have hbb : (x1 + 1) * 24 ≤ 140737488355328 := by omega
   have hts := rws_take hlt
   replace U := U.cons (And.intro (hw) (And.intro (hx) (And.intro (ht) (hbb))))
   refine PI.s ?_
   refine PI.q ?_
   refine PI.b 1 ?_
   refine PI.q ?_
   refine rg133v11 (j1 + 12) [] fun all5 _ => ?_
   refine GoI.runN 2 nf11 ?_
   refine GoI.z nf11 ?_
   refine rg133v11 (j1 + 18) [] fun all6 _ => ?_
   refine GoI.runN 2 nf11 ?_
   refine GoI.call nf11 nf11 (by exact okClone _ (hr _ (List.getElem_mem _))) ?_
   refine GoI.runN 2 nf11 ?_
   refine GoI.z nf11 ?_
   refine rg133v11 (j1 + 20) [] fun all7 _ => ?_
   refine GoI.z nf11 ?_
   refine ⟨l.length - (x1 + 1), x1 + 1, j1 + 12, by omega, ⟨rfl, by omega⟩, GhI.of_wk ⟨by simp [ovr, uk, lessT], by simp only [lessR, arrR, hts]; simp [lk], by (try dsimp only); omega, by simp only [keepR, arrR, hts]; simp [lk, under_self]⟩⟩
  try simp only [hb1]
  have hge := dn hb1
  have hxe : x1 = l.length := by omega
  subst hxe
  simp only [List.take_length]
  refine PI.e 0 ?_
  refine PI.q ?_
  refine rg133v11 (j1 + 12) [2] fun all8 _ => ?_
  refine GoI.runN 2 nf11 ?_
  refine GoI.call2e nf11 nf11 (by exact okSortStable _ _ (nul (by omega)) (by repeat (first | exact lk_hd | refine lk_tl (by simp <;> omega) ?_)) (by simp) (by omega)) (by first | exact .inr rfl | exact .inl rfl) (by exact fun h => by cases h) ?_
  try simp only [List.reverse_cons, List.reverse_nil, List.nil_append, List.cons_append, List.append_assoc]
  refine GoI.z nf11 ?_
  refine PI.q ?_
  refine rg133v11 (j1 + 14) [] fun all9 _ => ?_
  refine GoI.z nf11 ?_
  refine PI.r ?_
  exact FinI.ren (3 :: p, 0) 0 under_self (by simp) (by simp [lk]) _ nf11 ⟨by clear U; rfl, fin_keys (by dsimp only; simp [lk, under_self, under_nil]) (by dsimp only; simp [lk, under_self, under_nil])⟩
/-- What is in a row of the call's own, handed back. -/
theorem frz_sl (l : List Row) (k : Nat) (hk : k = l.length) : (((l.map fun r => [aRow r]).take k).map (List.map nrmC)) = l.map fun r => [aRow r] := by
  subst hk
  rw [List.take_of_length_le (by simp), List.map_map]
  rfl
theorem rg97v11 {T : List Rid} {p : Path} {Q : Exit → SL → Prop} {tm : List AV} {L : RL} {n : Nat} {c : Code} {l : List Oper} (n' : Nat) (Qs : List Nat) (h : ∀ all, (ro c).toList = all → GoI Tryz.prog T p all false Qs n 0 l tm L fun tm' L' => Q .normal ⟨tm', L', n'⟩) (hk : kd c = 0 := by kernel_rfl) (hr : rd c = false := by kernel_rfl) (hl : (ro c).toList = l := by dsimp only [ro, s1, s2, c1, c2, bc, bod, Tryz.f97, Option.getD_some] <;> exact rfl) (hn : n + (ro c).size = n' := by kernel_rfl) : PI Tryz.prog T p c Q ⟨tm, L, n⟩ := PI.rg n' Qs hk hr hl (fun h => by cases h) hn (h _ rfl)
theorem okSort (l : List Row) (hl : l.length ≤ 1000000) (hr : ∀ r ∈ l, r.length ≤ 1000000) : CallsOK Tryz.prog 97 [aRows l] (aRows (srt l)) := by
  have U : Hid True := ⟨trivial⟩
  refine CallsOK.of_pi mixed Tryz.func97 (by kernel_rfl) (by kernel_rfl) (?_ : PI _ _ _ _ _ ⟨[aRows l, .und, .und, .und, .und], [], 0⟩)
  refine PI.q ?_
  refine rg97v11 (1) [] fun all1 _ => ?_
  refine GoI.z nf11 ?_
  refine PI.q ?_
  refine rg97v11 (4) [] fun all2 _ => ?_
  refine GoI.run nf11 ?_
  refine GoI.call2 nf11 nf11 (by exact okSorted l hl hr) (by repeat (first | exact trivial | exact Or.inl rfl | exact Or.inr (Or.inl rfl) | exact Or.inr (Or.inr rfl) | apply And.intro)) (by first | exact .inr rfl | exact .inl rfl) (by exact fun h => by cases h) ?_
  try simp only [List.reverse_cons, List.reverse_nil, List.nil_append, List.cons_append, List.append_assoc]
  refine GoI.z nf11 ?_
  refine PI.r ?_
  exact FinI.gh _ (GhI.frz ([2], 0) (l.length + 1) 49 1 l.length ((srt l).map fun r => [aRow r]) (by simp [lk]) (by simp [srt_len]) rfl) _ nf11 (by clear U; simp [finR, nrmA, nrm, AV.content, frzA, frz_sl (srt l) l.length (srt_len l).symm])
end Go.FE
namespace Go.FE
open Go.Proofs
theorem nf12 {α : Type} {a b : α} (h : a = b := by simp only [goP, goN, mrk, Nat.reduceMul, Nat.one_mul, Nat.mul_one, eq_self, false_implies, implies_true, Nat.reduceLT, List.getElem?_toArray, isCall, List.contains_nil, List.contains_cons, Nat.reduceBEq, Bool.or_false, Bool.or_self, List.length_map, gOf, step, stepM, stepP, ev, okV, if_true, if_false, allocA, storeA, boxA, one1, tokN, tok1, buildA, rowA, nrmP, partV, partA, fieldA, fieldV, elemA, lenA, bltA, asSl, appA, makeA, makeR, cutA, bndA, binV, intOp, strOp, unV, eqB, nilB, sameT, List.all_cons, List.all_nil, Bool.and_self, Bool.and_true, Bool.true_and, List.map_cons, List.map_nil, List.nil_append, List.cons_append, List.append_nil, AV.bare, AV.content, AV.clean, AV.one, putD, List.set_cons_zero, List.set_cons_succ, List.reverse_cons, List.reverse_nil, List.getD_cons_zero, List.getD_cons_succ, List.getElem?_cons_zero, List.getElem?_cons_succ, Option.getD_some, Option.map_some, Option.map_none, Option.bind_some, List.length_cons, List.length_nil, lk, cellsA, fillA, fillS, isAggD, spl, nrm, nrmA, List.take_succ_cons, List.take_zero, List.drop_succ_cons, List.drop_zero, List.drop_nil, List.take_nil, Nat.reduceAdd, Nat.zero_add, Nat.add_zero, Nat.add_assoc, Nat.add_left_cancel_iff, reduceCtorEq, Prod.mk.injEq, List.cons.injEq, and_self, and_true, true_and, Nat.le_refl, Nat.reduceLeDiff, Nat.reduceEqDiff, List.getElem?_nil, Int.reduceToNat, Int.reduceLE, Int.reduceLT, ite_self, List.forall_mem_cons, List.not_mem_nil, false_and, and_false, Bool.false_eq_true, List.replicate_zero, List.replicate_succ, Int.toNat_natCast, neJ2, neJ2', neJ3, neJ3', callOf, callOf2, fnOf, argsA, args2, Array.isEmpty_empty, resLL, resVL, beq_self_eq_true, st3, zt3, it3, ct3, se3, Tryz.underlying3, st4, zt4, it4, ct4, se4, Tryz.underlying4, st9, zt9, it9, ct9, se9, Tryz.underlying9, st23, zt23, it23, ct23, se23, Tryz.underlying23, st25, zt25, it25, ct25, pt25, eqs25, se25, Tryz.underlying25, st49, zt49, it49, ct49, se49, Tryz.underlying49, st86, Tryz.underlying86, Tryz.results104, Int.natCast_nonneg, Tryz.results67, st22, zt22, it22, ct22, se22, Tryz.underlying22, st42, zt42, it42, ct42, pt42, se42, Tryz.underlying42, Tryz.results29, Tryz.results58, U.out] <;> rfl) : a = b := h
def OkL (l : List Row) : Prop := l.length ≤ 1000000 ∧ ∀ r ∈ l, r.length ≤ 1000000
theorem rg58v12 {T : List Rid} {p : Path} {Q : Exit → SL → Prop} {tm : List AV} {L : RL} {n : Nat} {c : Code} {l : List Oper} (n' : Nat) (Qs : List Nat) (h : ∀ all, (ro c).toList = all → GoI Tryz.prog T p all false Qs n 0 l tm L fun tm' L' => Q .normal ⟨tm', L', n'⟩) (hk : kd c = 0 := by kernel_rfl) (hr : rd c = false := by kernel_rfl) (hl : (ro c).toList = l := by dsimp only [ro, s1, s2, c1, c2, bc, bod, Tryz.f58, Option.getD_some] <;> exact rfl) (hn : n + (ro c).size = n' := by kernel_rfl) : PI Tryz.prog T p c Q ⟨tm, L, n⟩ := PI.rg n' Qs hk hr hl (fun h => by cases h) hn (h _ rfl)
theorem okBag (k : List Int) (l : List Row) (hk : k.length ≤ 1000000) (hl : OkL l) : CallsOK Tryz.prog 58 [ints k, aRows l] (aBag ⟨k, srt l⟩) := by
  have U : Hid True := ⟨trivial⟩
  replace U := U.cons (And.intro (rowLen (f := fun k : Int => [aI k]) (n := 1) (fun _ => rfl) k) ((show k.length * 8 ≤ 140737488355328 by omega)))
  refine CallsOK.of_pi mixed Tryz.func58 (by kernel_rfl) (by kernel_rfl) (?_ : PI _ _ _ _ _ ⟨[ints k, aRows l, .und, .und, .und, .und, .und, .und, .und, .und, .und], [], 0⟩)
  refine PI.q ?_
  refine rg58v12 (1) [] fun all1 _ => ?_
  refine GoI.z nf12 ?_
  refine PI.q ?_
  refine rg58v12 (8) [] fun all2 _ => ?_
  refine GoI.runN 2 nf12 ?_
  refine GoI.runN 2 nf12 ?_
  refine GoI.call nf12 nf12 (by exact okSort l hl.1 hl.2) ?_
  refine GoI.z nf12 ?_
  refine PI.r ?_
  exact FinI.mk _ nf12 (by clear U; simp [finR, nrmA, nrm, AV.content])
end Go.FE
namespace Go.FE
open Go.Proofs
theorem nf13 {α : Type} {a b : α} (h : a = b := by simp only [goP, goN, mrk, Nat.reduceMul, Nat.one_mul, Nat.mul_one, eq_self, false_implies, implies_true, Nat.reduceLT, List.getElem?_toArray, isCall, List.contains_nil, List.contains_cons, Nat.reduceBEq, Bool.or_false, Bool.or_self, List.length_map, gOf, step, stepM, stepP, ev, okV, if_true, if_false, allocA, storeA, boxA, one1, tokN, tok1, buildA, rowA, nrmP, partV, partA, fieldA, fieldV, elemA, lenA, bltA, asSl, appA, makeA, makeR, cutA, bndA, binV, intOp, strOp, unV, eqB, nilB, sameT, List.all_cons, List.all_nil, Bool.and_self, Bool.and_true, Bool.true_and, List.map_cons, List.map_nil, List.nil_append, List.cons_append, List.append_nil, AV.bare, AV.content, AV.clean, AV.one, putD, List.set_cons_zero, List.set_cons_succ, List.reverse_cons, List.reverse_nil, List.getD_cons_zero, List.getD_cons_succ, List.getElem?_cons_zero, List.getElem?_cons_succ, Option.getD_some, Option.map_some, Option.map_none, Option.bind_some, List.length_cons, List.length_nil, lk, cellsA, fillA, fillS, isAggD, spl, nrm, nrmA, List.take_succ_cons, List.take_zero, List.drop_succ_cons, List.drop_zero, List.drop_nil, List.take_nil, Nat.reduceAdd, Nat.zero_add, Nat.add_zero, Nat.add_assoc, Nat.add_left_cancel_iff, reduceCtorEq, Prod.mk.injEq, List.cons.injEq, and_self, and_true, true_and, Nat.le_refl, Nat.reduceLeDiff, Nat.reduceEqDiff, List.getElem?_nil, Int.reduceToNat, Int.reduceLE, Int.reduceLT, ite_self, List.forall_mem_cons, List.not_mem_nil, false_and, and_false, Bool.false_eq_true, List.replicate_zero, List.replicate_succ, Int.toNat_natCast, neJ2, neJ2', neJ3, neJ3', callOf, callOf2, fnOf, argsA, args2, Array.isEmpty_empty, resLL, resVL, beq_self_eq_true, lookA, look, Option.getD_none, updA, unMk, st3, zt3, it3, ct3, se3, Tryz.underlying3, st9, zt9, it9, ct9, se9, Tryz.underlying9, st23, zt23, it23, ct23, se23, Tryz.underlying23, st25, zt25, it25, ct25, pt25, eqs25, se25, Tryz.underlying25, st49, zt49, it49, ct49, se49, Tryz.underlying49, st74, zt74, it74, ct74, mt74, se74, Tryz.underlying74, Tryz.results102, Int.natCast_nonneg, renA, renR, U.out] <;> rfl) : a = b := h
structure KeyOK (r : Row) : Prop where
  ok : OkRow r
  ln : (keyR r).length ≤ 140737488355328
abbrev MF := ByteArray → Option Int
def upd (f : MF) (s : ByteArray) (n : Int) : MF := fun s' => if s' = s then some n else f s'
def cntStep (f : MF) (r : Row) : MF := upd f (keyB r) ((f (keyB r)).getD 0 + 1)
def cntF (l : List Row) : MF := l.foldl cntStep fun _ => none
theorem cntF_succ {l : List Row} {i : Nat} (h : i < l.length) : cntF (l.take (i + 1)) = fun s' => if s' = keyB l[i] then some ((cntF (l.take i) (keyB l[i])).getD 0 + 1) else cntF (l.take i) s' := by
  rw [List.take_succ_eq_append_getElem h, cntF, List.foldl_append]; rfl
theorem cntF_snoc (l : List Row) (r : Row) (s : ByteArray) : (cntF (l ++ [r]) s).getD 0 = (cntF l s).getD 0 + if s = keyB r then 1 else 0 := by
  rw [cntF, List.foldl_append]
  show (cntStep (cntF l) r s).getD 0 = _
  unfold cntStep upd
  split
  · rename_i h; subst h; simp
  · simp
theorem cntF_count (l : List Row) (s : ByteArray) : (cntF l s).getD 0 = ((l.countP fun r => decide (s = keyB r) : Nat) : Int) := by
  have : ∀ n, n = l.length → (cntF l s).getD 0 = ((l.countP fun r => decide (s = keyB r) : Nat) : Int) := by
    intro n
    induction n generalizing l with
    | zero => intro h; have := List.eq_nil_of_length_eq_zero h.symm; subst this; rfl
    | succ n ih =>
      intro h
      have hne : l ≠ [] := by intro e; subst e; simp at h
      rw [← List.dropLast_concat_getLast hne, cntF_snoc, ih _ (by simp; omega), List.countP_append]
      simp only [List.countP_cons, List.countP_nil]
      by_cases hc : s = keyB (l.getLast hne) <;> simp [hc]
  exact this _ rfl
theorem cntF_le (l : List Row) (s : ByteArray) : 0 ≤ (cntF l s).getD 0 ∧ (cntF l s).getD 0 ≤ l.length := by
  rw [cntF_count]
  have := List.countP_le_length (l := l) (p := fun r => decide (s = keyB r))
  omega
theorem rg102v13 {T : List Rid} {p : Path} {Q : Exit → SL → Prop} {tm : List AV} {L : RL} {n : Nat} {c : Code} {l : List Oper} (n' : Nat) (Qs : List Nat) (h : ∀ all, (ro c).toList = all → GoI Tryz.prog T p all false Qs n 0 l tm L fun tm' L' => Q .normal ⟨tm', L', n'⟩) (hk : kd c = 0 := by kernel_rfl) (hr : rd c = false := by kernel_rfl) (hl : (ro c).toList = l := by dsimp only [ro, s1, s2, c1, c2, bc, bod, Tryz.f102, Option.getD_some] <;> exact rfl) (hn : n + (ro c).size = n' := by kernel_rfl) : PI Tryz.prog T p c Q ⟨tm, L, n⟩ := PI.rg n' Qs hk hr hl (fun h => by cases h) hn (h _ rfl)
set_option maxHeartbeats 1000000 in
set_option maxRecDepth 100000 in
theorem okCounts {rs : Rid → Res} {p : Path} (l : List Row) (hl : l.length ≤ 1000000) (hr : ∀ r ∈ l, KeyOK r) : Calls2 Tryz.prog 102 [aRows l] [] rs p (.mp (p, 0)) [((p, 0), .map 9 3 false (cntF l))] := by
  have hl' : l.length ≤ maxLen := by unfold maxLen; omega
  have U : Hid True := ⟨trivial⟩
  refine Calls2.of_pi ([]) mixed Tryz.func102 (by kernel_rfl) (by kernel_rfl) (by simp [lk, under_nil]) (by simp [lk, under_nil]) (by simp [lk, under_nil]) (by simp [lk, under_nil]) (by simp [lk, under_nil]) (?_ : PI _ _ _ _ _ ⟨[aRows l, .und, .und, .und, .und, .und, .und, .und, .und, .und, .und, .und, .und, .und, .und, .und, .und, .und, .und, .und], [], 0⟩)
  refine PI.q ?_
  refine rg102v13 (1) [] fun all1 _ => ?_
  refine GoI.z nf13 ?_
  refine PI.q ?_
  refine rg102v13 (3) [] fun all2 _ => ?_
  refine GoI.z nf13 ?_
  refine PI.q ?_
  refine PI.q ?_
  refine rg102v13 (6) [] fun all3 _ => ?_
  refine GoI.runN 2 nf13 ?_
  refine GoI.z nf13 ?_
  refine PI.b 0 ?_
  refine PI.lo (by kernel_rfl) (X := Nat) (fun i => (9, aI i) :: uk [5, 10, 11, 12, 13, 14, 15, 16, 17, 18]) (fun i => [((1 :: p, 0), .map 9 3 false (cntF (l.take i)))]) (fun k i => k = l.length - i ∧ i ≤ l.length) (l.length) (0) (GhI.of_wk ⟨by simp [ovr, uk, lessT], by simp [lessR, lk]; rfl, by (try dsimp only); omega, by simp [keepR, lk, under_self]⟩) (by simp) ?_
  intro k1 x1 j1 hr1
  obtain ⟨rfl, hi1⟩ := hr1
  simp only [ovr, uk, List.set_cons_zero, List.set_cons_succ]
  refine PI.q ?_
  refine rg102v13 (j1 + 7) [] fun all4 _ => ?_
  refine GoI.z nf13 ?_
  refine PI.q ?_
  refine PI.d 10 nf13 (fun hb1 => ?_) (fun hb1 => ?_)
  ·
   try simp only [hb1]
   obtain ⟨hlt, hw⟩ := up hb1 hl'
   have hx := rows_at hlt
   have hts := cntF_succ hlt
   have hle := cntF_le (l.take x1) (keyB l[x1])
   have hlen : (l.take x1).length ≤ l.length := by simp; omega
   have hw2 : IntKind.i64.wrap ((cntF (l.take x1) (keyB l[x1])).getD 0 + 1) = (cntF (l.take x1) (keyB l[x1])).getD 0 + 1 := w64 (by omega) (by omega)
   replace U := U.cons (And.intro (hw) (And.intro (hx) (hw2)))
   refine PI.s ?_
   refine PI.q ?_
   refine PI.b 1 ?_
   refine PI.q ?_
   refine rg102v13 (j1 + 10) [] fun all5 _ => ?_
   refine GoI.runN 2 nf13 ?_
   refine GoI.z nf13 ?_
   refine rg102v13 (j1 + 16) [] fun all6 _ => ?_
   refine GoI.runN 2 nf13 ?_
   refine GoI.call nf13 nf13 (by exact okKey _ (hr _ (List.getElem_mem _)).ok (hr _ (List.getElem_mem _)).ln) ?_
   refine GoI.runN 2 nf13 ?_
   refine GoI.z nf13 ?_
   refine rg102v13 (j1 + 18) [] fun all7 _ => ?_
   refine GoI.z nf13 ?_
   refine ⟨l.length - (x1 + 1), x1 + 1, j1 + 12, by omega, ⟨rfl, by omega⟩, GhI.of_wk ⟨by simp [ovr, uk, lessT], by simp [lessR, lk, Int.natCast_nonneg, renA, renR, neJ2, neJ2', neJ3, neJ3', hts], by (try dsimp only); omega, by simp [keepR, lk, under_self, Int.natCast_nonneg, renA, renR, neJ2, neJ2', neJ3, neJ3', hts]⟩⟩
  try simp only [hb1]
  have hge := dn hb1
  have hxe : x1 = l.length := by omega
  subst hxe
  simp only [List.take_length]
  refine PI.e 0 ?_
  refine PI.q ?_
  refine rg102v13 (j1 + 9) [] fun all8 _ => ?_
  refine GoI.z nf13 ?_
  refine PI.r ?_
  exact FinI.ren (1 :: p, 0) 0 under_self (by simp) (by simp [lk]) _ nf13 ⟨by clear U; rfl, fin_keys (by dsimp only; simp [lk, under_self, under_nil]) (by dsimp only; simp [lk, under_self, under_nil])⟩
end Go.FE
namespace Go.FE
open Go.Proofs
theorem nf14 {α : Type} {a b : α} (h : a = b := by simp only [goP, goN, mrk, Nat.reduceMul, Nat.one_mul, Nat.mul_one, eq_self, false_implies, implies_true, Nat.reduceLT, List.getElem?_toArray, isCall, List.contains_nil, List.contains_cons, Nat.reduceBEq, Bool.or_false, Bool.or_self, List.length_map, gOf, step, stepM, stepP, ev, okV, if_true, if_false, allocA, storeA, boxA, one1, tokN, tok1, buildA, rowA, nrmP, partV, partA, fieldA, fieldV, elemA, lenA, bltA, asSl, appA, makeA, makeR, cutA, bndA, binV, intOp, strOp, unV, eqB, nilB, sameT, List.all_cons, List.all_nil, Bool.and_self, Bool.and_true, Bool.true_and, List.map_cons, List.map_nil, List.nil_append, List.cons_append, List.append_nil, AV.bare, AV.content, AV.clean, AV.one, putD, List.set_cons_zero, List.set_cons_succ, List.reverse_cons, List.reverse_nil, List.getD_cons_zero, List.getD_cons_succ, List.getElem?_cons_zero, List.getElem?_cons_succ, Option.getD_some, Option.map_some, Option.map_none, Option.bind_some, List.length_cons, List.length_nil, lk, cellsA, fillA, fillS, isAggD, spl, nrm, nrmA, List.take_succ_cons, List.take_zero, List.drop_succ_cons, List.drop_zero, List.drop_nil, List.take_nil, Nat.reduceAdd, Nat.zero_add, Nat.add_zero, Nat.add_assoc, Nat.add_left_cancel_iff, reduceCtorEq, Prod.mk.injEq, List.cons.injEq, and_self, and_true, true_and, Nat.le_refl, Nat.reduceLeDiff, Nat.reduceEqDiff, List.getElem?_nil, Int.reduceToNat, Int.reduceLE, Int.reduceLT, ite_self, List.forall_mem_cons, List.not_mem_nil, false_and, and_false, Bool.false_eq_true, List.replicate_zero, List.replicate_succ, Int.toNat_natCast, neJ2, neJ2', neJ3, neJ3', callOf, callOf2, fnOf, argsA, args2, Array.isEmpty_empty, resLL, resVL, beq_self_eq_true, lookA, look, Option.getD_none, updA, unMk, st3, zt3, it3, ct3, se3, Tryz.underlying3, st4, zt4, it4, ct4, se4, Tryz.underlying4, st9, zt9, it9, ct9, se9, Tryz.underlying9, st22, zt22, it22, ct22, se22, Tryz.underlying22, st23, zt23, it23, ct23, se23, Tryz.underlying23, st25, zt25, it25, ct25, pt25, eqs25, se25, Tryz.underlying25, st42, zt42, it42, ct42, pt42, se42, Tryz.underlying42, st49, zt49, it49, ct49, se49, Tryz.underlying49, st74, zt74, it74, ct74, mt74, se74, Tryz.underlying74, Tryz.results64, U.out] <;> rfl) : a = b := h
structure SpS where
  f : MF
  x : List Row
  y : List Row
def splStep (st : SpS) (r : Row) : SpS := if (st.f (keyB r)).getD 0 > 0 then ⟨upd st.f (keyB r) ((st.f (keyB r)).getD 0 - 1), st.x ++ [r], st.y⟩ else ⟨st.f, st.x, st.y ++ [r]⟩
def splR (a b : List Row) : SpS := a.foldl splStep ⟨cntF b, [], []⟩
theorem splR_snoc (a b : List Row) (r : Row) : splR (a ++ [r]) b = splStep (splR a b) r := by rw [splR, List.foldl_append]; rfl
theorem splR_succ {a : List Row} (b : List Row) {i : Nat} (h : i < a.length) : splR (a.take (i + 1)) b = splStep (splR (a.take i) b) a[i] := by rw [List.take_succ_eq_append_getElem h, splR_snoc]
theorem snoc_ind {α : Type} {P : List α → Prop} (h0 : P []) (h1 : ∀ l a, P l → P (l ++ [a])) : ∀ l, P l := by
  have : ∀ n (l : List α), n = l.length → P l := by
    intro n
    induction n with
    | zero => intro l h; have := List.eq_nil_of_length_eq_zero h.symm; subst this; exact h0
    | succ n ih =>
      intro l h
      have hne : l ≠ [] := by intro e; subst e; simp at h
      rw [← List.dropLast_concat_getLast hne]
      exact h1 _ _ (ih _ (by simp; omega))
  exact fun l => this _ l rfl
theorem splR_bd (b a : List Row) : (splR a b).x.length + (splR a b).y.length = a.length ∧ ∀ s, 0 ≤ ((splR a b).f s).getD 0 ∧ ((splR a b).f s).getD 0 ≤ b.length := by
  induction a using snoc_ind with
  | h0 => exact ⟨rfl, fun s => cntF_le b s⟩
  | h1 a r ih =>
    rw [splR_snoc, splStep]
    split
    · rename_i hp
      refine ⟨by simp; omega, fun s => ?_⟩
      simp only [upd]
      split
      · have := ih.2 (keyB r); simp; omega
      · exact ih.2 s
    · exact ⟨by simp; omega, ih.2⟩
theorem rg64v14 {T : List Rid} {p : Path} {Q : Exit → SL → Prop} {tm : List AV} {L : RL} {n : Nat} {c : Code} {l : List Oper} (n' : Nat) (Qs : List Nat) (h : ∀ all, (ro c).toList = all → GoI Tryz.prog T p all false Qs n 0 l tm L fun tm' L' => Q .normal ⟨tm', L', n'⟩) (hk : kd c = 0 := by kernel_rfl) (hr : rd c = false := by kernel_rfl) (hl : (ro c).toList = l := by dsimp only [ro, s1, s2, c1, c2, bc, bod, Tryz.f64, Option.getD_some] <;> exact rfl) (hn : n + (ro c).size = n' := by kernel_rfl) : PI Tryz.prog T p c Q ⟨tm, L, n⟩ := PI.rg n' Qs hk hr hl (fun h => by cases h) hn (h _ rfl)
set_option maxHeartbeats 1000000 in
set_option maxRecDepth 100000 in
theorem okSplit (a b : Bag) (ha : a.rows.length ≤ 1000000) (hb : b.rows.length ≤ 1000000) (hra : ∀ r ∈ a.rows, KeyOK r) (hrb : ∀ r ∈ b.rows, KeyOK r) : CallsOK Tryz.prog 64 [aBag a, aBag b] (.tup [aRows (splR a.rows b.rows).x, aRows (splR a.rows b.rows).y]) := by
  have hl' : a.rows.length ≤ maxLen := by unfold maxLen; omega
  have U : Hid True := ⟨trivial⟩
  refine CallsOK.of_pi mixed Tryz.func64 (by kernel_rfl) (by kernel_rfl) (?_ : PI _ _ _ _ _ ⟨[aBag a, aBag b, .und, .und, .und, .und, .und, .und, .und, .und, .und, .und, .und, .und, .und, .und, .und, .und, .und, .und, .und, .und, .und, .und, .und, .und, .und, .und, .und, .und, .und, .und, .und, .und, .und, .und, .und, .und, .und, .und, .und, .und, .und], [], 0⟩)
  refine PI.q ?_
  refine rg64v14 (4) [] fun all1 _ => ?_
  refine GoI.runN 2 nf14 ?_
  refine GoI.z nf14 ?_
  refine PI.q ?_
  refine rg64v14 (8) [] fun all2 _ => ?_
  refine GoI.runN 2 nf14 ?_
  refine GoI.call2 nf14 nf14 (by exact okCounts b.rows hb hrb) (by repeat (first | exact trivial | exact Or.inl rfl | exact Or.inr (Or.inl rfl) | exact Or.inr (Or.inr rfl) | apply And.intro)) (by first | exact .inr rfl | exact .inl rfl) (by exact fun h => by cases h) ?_
  try simp only [List.reverse_cons, List.reverse_nil, List.nil_append, List.cons_append, List.append_assoc]
  refine GoI.z nf14 ?_
  refine PI.q ?_
  refine rg64v14 (10) [] fun all3 _ => ?_
  refine GoI.z nf14 ?_
  refine PI.q ?_
  refine PI.q ?_
  refine rg64v14 (14) [] fun all4 _ => ?_
  refine GoI.runN 2 nf14 ?_
  refine GoI.z nf14 ?_
  refine PI.b 0 ?_
  refine PI.lo (by kernel_rfl) (X := Nat) (fun i => (18, aI i) :: (7, .sl ((splR (a.rows.take i) b.rows).x.map fun r => [aRow r]) (some (([8], 0), (splR (a.rows.take i) b.rows).x.length))) :: (8, .sl ((splR (a.rows.take i) b.rows).y.map fun r => [aRow r]) (some (([9], 0), (splR (a.rows.take i) b.rows).y.length))) :: uk [10, 11, 19, 20, 21, 22, 23, 24, 25, 26, 27, 28, 29, 30, 31, 32, 33, 34, 35, 36, 37, 38, 39, 40]) (fun i => [(([6], 0), .map 9 3 false (splR (a.rows.take i) b.rows).f), (([8], 0), .tok (splR (a.rows.take i) b.rows).x.length 49 1), (([9], 0), .tok (splR (a.rows.take i) b.rows).y.length 49 1)]) (fun k i => k = a.rows.length - i ∧ i ≤ a.rows.length) (a.rows.length) (0) (GhI.of_wk ⟨by simp [ovr, uk, lessT, splR], by simp [lessR, lk, splR], by (try dsimp only); omega, keep0⟩) (by simp) ?_
  intro k1 x1 j1 hr1
  obtain ⟨rfl, hi1⟩ := hr1
  simp only [ovr, uk, List.set_cons_zero, List.set_cons_succ]
  refine PI.q ?_
  refine rg64v14 (j1 + 15) [] fun all5 _ => ?_
  refine GoI.z nf14 ?_
  refine PI.q ?_
  refine PI.d 19 nf14 (fun hb1 => ?_) (fun hb1 => ?_)
  ·
   try simp only [hb1]
   obtain ⟨hlt, hw⟩ := up hb1 hl'
   have hx := rows_at hlt
   have hts := splR_succ b.rows hlt
   have hbd := splR_bd b.rows (a.rows.take x1)
   have hlen : (a.rows.take x1).length = x1 := by simp; omega
   generalize hst : splR (a.rows.take x1) b.rows = st
   rw [hst] at hts hbd
   have hv := hbd.2 (keyB a.rows[x1])
   have hb1' : (st.x.length + 1) * 24 ≤ 140737488355328 := by omega
   have hb2' : (st.y.length + 1) * 24 ≤ 140737488355328 := by omega
   have hw2 : IntKind.i64.wrap ((st.f (keyB a.rows[x1])).getD 0 - 1) = (st.f (keyB a.rows[x1])).getD 0 - 1 := w64 (by omega) (by omega)
   replace U := U.cons (And.intro (hw) (And.intro (hx) (And.intro (hw2) (And.intro (hb1') (hb2')))))
   refine PI.s ?_
   refine PI.q ?_
   refine PI.b 1 ?_
   refine PI.q ?_
   refine rg64v14 (j1 + 18) [] fun all6 _ => ?_
   refine GoI.runN 2 nf14 ?_
   refine GoI.z nf14 ?_
   refine PI.q ?_
   refine rg64v14 (j1 + 21) [] fun all7 _ => ?_
   refine GoI.run nf14 ?_
   refine GoI.call nf14 nf14 (by exact okKey _ (hra _ (List.getElem_mem _)).ok (hra _ (List.getElem_mem _)).ln) ?_
   refine GoI.z nf14 ?_
   refine PI.q ?_
   refine rg64v14 (j1 + 25) [] fun all8 _ => ?_
   refine GoI.runN 2 nf14 ?_
   refine GoI.z nf14 ?_
   refine PI.d 27 nf14 (fun hb2 => ?_) (fun hb2 => ?_)
   ·
    try simp only [hb2]
    have hc : (st.f (keyB a.rows[x1])).getD 0 > 0 := by simpa using hb2
    rw [splStep, if_pos hc] at hts
    refine PI.q ?_
    refine rg64v14 (j1 + 30) [] fun all9 _ => ?_
    refine GoI.runN 2 nf14 ?_
    refine GoI.runN 2 nf14 ?_
    refine GoI.z nf14 ?_
    refine rg64v14 (j1 + 35) [] fun all10 _ => ?_
    refine GoI.runN 2 nf14 ?_
    refine GoI.runN 2 nf14 ?_
    refine GoI.z nf14 ?_
    refine rg64v14 (j1 + 37) [] fun all12 _ => ?_
    refine GoI.z nf14 ?_
    refine ⟨a.rows.length - (x1 + 1), x1 + 1, j1 + 23, by omega, ⟨rfl, by omega⟩, GhI.of_wk ⟨by simp [ovr, uk, lessT, hts], by simp [lessR, lk, hts] <;> rfl, by (try dsimp only); omega, keep0⟩⟩
   try simp only [hb2]
   have hc : ¬ (st.f (keyB a.rows[x1])).getD 0 > 0 := by simpa using hb2
   rw [splStep, if_neg hc] at hts
   refine rg64v14 (j1 + 30) [] fun all11 _ => ?_
   refine GoI.runN 2 nf14 ?_
   refine GoI.runN 2 nf14 ?_
   refine GoI.z nf14 ?_
   refine rg64v14 (j1 + 32) [] fun all12 _ => ?_
   refine GoI.z nf14 ?_
   refine ⟨a.rows.length - (x1 + 1), x1 + 1, j1 + 18, by omega, ⟨rfl, by omega⟩, GhI.of_wk ⟨by simp [ovr, uk, lessT, hts], by simp [lessR, lk, hts] <;> rfl, by (try dsimp only); omega, keep0⟩⟩
  try simp only [hb1]
  have hge := dn hb1
  have hxe : x1 = a.rows.length := by omega
  subst hxe
  simp only [List.take_length]
  refine PI.e 0 ?_
  refine PI.q ?_
  refine rg64v14 (j1 + 19) [] fun all13 _ => ?_
  refine GoI.runN 2 nf14 ?_
  refine GoI.z nf14 ?_
  refine PI.r ?_
  exact FinI.mk _ nf14 (by clear U; first | (simp [finR, nrmA, nrm, AV.content]; done) | rfl)
end Go.FE
namespace Go.FE
open Go.Proofs
theorem nf15 {α : Type} {a b : α} (h : a = b := by simp only [goP, goN, mrk, Nat.reduceMul, Nat.one_mul, Nat.mul_one, eq_self, false_implies, implies_true, Nat.reduceLT, List.getElem?_toArray, isCall, List.contains_nil, List.contains_cons, Nat.reduceBEq, Bool.or_false, Bool.or_self, List.length_map, gOf, step, stepM, stepP, ev, okV, if_true, if_false, allocA, storeA, boxA, one1, tokN, tok1, buildA, rowA, nrmP, partV, partA, fieldA, fieldV, elemA, lenA, bltA, asSl, appA, makeA, makeR, cutA, bndA, binV, intOp, strOp, unV, eqB, nilB, sameT, List.all_cons, List.all_nil, Bool.and_self, Bool.and_true, Bool.true_and, List.map_cons, List.map_nil, List.nil_append, List.cons_append, List.append_nil, AV.bare, AV.content, AV.clean, AV.one, putD, List.set_cons_zero, List.set_cons_succ, List.reverse_cons, List.reverse_nil, List.getD_cons_zero, List.getD_cons_succ, List.getElem?_cons_zero, List.getElem?_cons_succ, Option.getD_some, Option.map_some, Option.map_none, Option.bind_some, List.length_cons, List.length_nil, lk, cellsA, fillA, fillS, isAggD, spl, nrm, nrmA, List.take_succ_cons, List.take_zero, List.drop_succ_cons, List.drop_zero, List.drop_nil, List.take_nil, Nat.reduceAdd, Nat.zero_add, Nat.add_zero, Nat.add_assoc, Nat.add_left_cancel_iff, reduceCtorEq, Prod.mk.injEq, List.cons.injEq, and_self, and_true, true_and, Nat.le_refl, Nat.reduceLeDiff, Nat.reduceEqDiff, List.getElem?_nil, Int.reduceToNat, Int.reduceLE, Int.reduceLT, ite_self, List.forall_mem_cons, List.not_mem_nil, false_and, and_false, Bool.false_eq_true, List.replicate_zero, List.replicate_succ, Int.toNat_natCast, neJ2, neJ2', neJ3, neJ3', callOf, callOf2, fnOf, argsA, args2, Array.isEmpty_empty, resLL, resVL, beq_self_eq_true, st3, zt3, it3, ct3, se3, Tryz.underlying3, st9, zt9, it9, ct9, se9, Tryz.underlying9, st22, zt22, it22, ct22, se22, Tryz.underlying22, st23, zt23, it23, ct23, se23, Tryz.underlying23, st25, zt25, it25, ct25, pt25, eqs25, se25, Tryz.underlying25, st42, zt42, it42, ct42, pt42, se42, Tryz.underlying42, st49, zt49, it49, ct49, se49, Tryz.underlying49, st88, Tryz.underlying88, Tryz.results25, Tryz.results27, Tryz.results23, newB, oldB, decide_true, decide_false, Bool.not_true, Bool.not_false, Bool.true_or, Bool.false_or, Bool.or_true, lookA, look, Option.getD_none, updA, unMk, st4, zt4, it4, ct4, se4, Tryz.underlying4, st100, zt100, it100, ct100, mt100, se100, Tryz.underlying100, Tryz.results38, U.out] <;> rfl) : a = b := h
structure OkBag (b : Bag) : Prop where
  k : b.kinds.length ≤ 1000000
  l : b.rows.length ≤ 400000
  r : ∀ r ∈ b.rows, KeyOK r ∧ r.length ≤ 1000000
theorem splR_mem (b a : List Row) : (∀ r, r ∈ (splR a b).x → r ∈ a) ∧ ∀ r, r ∈ (splR a b).y → r ∈ a := by
  induction a using snoc_ind with
  | h0 => exact ⟨fun r h => (by cases h), fun r h => (by cases h)⟩
  | h1 a r ih =>
    rw [splR_snoc, splStep]
    split
    · exact ⟨fun q hq => by rcases List.mem_append.1 hq with h | h <;> simp_all, fun q hq => by simp_all⟩
    · exact ⟨fun q hq => by simp_all, fun q hq => by rcases List.mem_append.1 hq with h | h <;> simp_all⟩
theorem rg25v15 {T : List Rid} {p : Path} {Q : Exit → SL → Prop} {tm : List AV} {L : RL} {n : Nat} {c : Code} {l : List Oper} (n' : Nat) (Qs : List Nat) (h : ∀ all, (ro c).toList = all → GoI Tryz.prog T p all false Qs n 0 l tm L fun tm' L' => Q .normal ⟨tm', L', n'⟩) (hk : kd c = 0 := by kernel_rfl) (hr : rd c = false := by kernel_rfl) (hl : (ro c).toList = l := by dsimp only [ro, s1, s2, c1, c2, bc, bod, Tryz.f25, Option.getD_some] <;> exact rfl) (hn : n + (ro c).size = n' := by kernel_rfl) : PI Tryz.prog T p c Q ⟨tm, L, n⟩ := PI.rg n' Qs hk hr hl (fun h => by cases h) hn (h _ rfl)
theorem okExcept (a b : Bag) (ha : OkBag a) (hb : OkBag b) : CallsOK Tryz.prog 25 [aBag a, aBag b] (aBag ⟨a.kinds, srt (splR a.rows b.rows).y⟩) := by
  have hbd := (splR_bd b.rows a.rows).1
  have hl := ha.l
  have U : Hid True := ⟨trivial⟩
  refine CallsOK.of_pi mixed Tryz.func25 (by kernel_rfl) (by kernel_rfl) (?_ : PI _ _ _ _ _ ⟨[aBag a, aBag b, .und, .und, .und, .und, .und, .und, .und, .und, .und, .und, .und, .und, .und, .und, .und], [], 0⟩)
  refine PI.q ?_
  refine rg25v15 (3) [] fun all1 _ => ?_
  refine GoI.runN 2 nf15 ?_
  refine GoI.z nf15 ?_
  refine PI.q ?_
  refine rg25v15 (11) [] fun all2 _ => ?_
  refine GoI.runN 2 nf15 ?_
  refine GoI.call nf15 nf15 (by exact okSplit a b (by have := ha.l; omega) (by have := hb.l; omega) (fun r h => (ha.r r h).1) (fun r h => (hb.r r h).1)) ?_
  refine GoI.runN 2 nf15 ?_
  refine GoI.runN 2 nf15 ?_
  refine GoI.z nf15 ?_
  refine PI.q ?_
  refine rg25v15 (16) [] fun all3 _ => ?_
  refine GoI.runN 2 nf15 ?_
  refine GoI.run nf15 ?_
  refine GoI.call nf15 nf15 (by exact okBag _ _ ha.k ⟨by omega, fun r h => (ha.r r ((splR_mem _ _).2 r h)).2⟩) ?_
  refine GoI.z nf15 ?_
  refine PI.r ?_
  exact FinI.mk _ nf15 (by clear U; first | (simp [finR, nrmA, nrm, AV.content]; done) | rfl)
structure DsS where
  f : MF
  x : List Row
def dstStep (st : DsS) (r : Row) : DsS := if (st.f (keyB r)).getD 0 != 0 then st else ⟨upd st.f (keyB r) 1, st.x ++ [r]⟩
def dstR (a : List Row) : DsS := a.foldl dstStep ⟨fun _ => none, []⟩
end Go.FE
namespace Go.FE
open Go.Proofs
structure MX where
  i : Nat
  j : Nat
  o : List Row
structure MgI (a b : List Row) (x : MX) : Prop where
  hi : x.i ≤ a.length
  hj : x.j ≤ b.length
  pm : x.o.Perm (a.take x.i ++ b.take x.j)
  sd : Sd x.o
  la : ∀ r ∈ x.o, ∀ s ∈ a.drop x.i, cmpR r s ≤ 0
  lb : ∀ r ∈ x.o, ∀ s ∈ b.drop x.j, cmpR r s ≤ 0
theorem sd_snoc {o : List Row} {r : Row} (h : Sd o) (hr : ∀ s ∈ o, cmpR s r ≤ 0) : Sd (o ++ [r]) := by
  unfold Sd
  rw [List.pairwise_append]
  exact ⟨h, List.pairwise_singleton _ _, fun x hx y hy => by rw [List.mem_singleton.1 hy]; exact hr x hx⟩
theorem sd_drop {a : List Row} (h : Sd a) {i : Nat} (hi : i < a.length) : ∀ s ∈ a.drop (i + 1), cmpR a[i] s ≤ 0 := by
  have h1 : (a.drop i).Pairwise fun x y => cmpR x y ≤ 0 := List.Pairwise.sublist (List.drop_sublist i a) h
  rw [List.drop_eq_getElem_cons hi, List.pairwise_cons] at h1
  exact h1.1
theorem MgI.left {a b : List Row} {x : MX} (h : MgI a b x) (ha : Sd a) (hi : x.i < a.length) (hc : ∀ s ∈ b.drop x.j, cmpR a[x.i] s ≤ 0) : MgI a b ⟨x.i + 1, x.j, x.o ++ [a[x.i]]⟩ := by
  have hm : a[x.i] ∈ a.drop x.i := by rw [List.drop_eq_getElem_cons hi]; exact List.mem_cons_self
  have hsub : ∀ s, s ∈ a.drop (x.i + 1) → s ∈ a.drop x.i := fun s hs => by rw [List.drop_eq_getElem_cons hi]; exact List.mem_cons_of_mem _ hs
  refine ⟨hi, h.hj, ?_, sd_snoc h.sd (fun s hs => h.la s hs _ hm), fun r hr s hs => ?_, fun r hr s hs => ?_⟩
  · show (x.o ++ [a[x.i]]).Perm (a.take (x.i + 1) ++ b.take x.j)
    rw [List.take_succ_eq_append_getElem hi]
    refine (h.pm.append_right _).trans ?_
    rw [List.append_assoc, List.append_assoc]
    exact List.perm_append_comm.append_left _
  · rcases List.mem_append.1 hr with hr | hr
    · exact h.la r hr s (hsub s hs)
    · rw [List.mem_singleton.1 hr]; exact sd_drop ha hi s hs
  · rcases List.mem_append.1 hr with hr | hr
    · exact h.lb r hr s hs
    · rw [List.mem_singleton.1 hr]; exact hc s hs
theorem MgI.fin {a b : List Row} {x : MX} (h : MgI a b x) (hi : a.length ≤ x.i) (hj : b.length ≤ x.j) : x.o = srt (a ++ b) := by
  refine srt_of h.sd ?_
  have := h.pm
  rwa [List.take_of_length_le hi, List.take_of_length_le hj] at this
end Go.FE
namespace Go.FE
open Go.Proofs
end Go.FE
namespace Go.FE
open Go.Proofs
instance : DecidableEq Vl := fun a b => decidable_of_iff (cmpV a b = 0) ⟨fun h => cmpV_eq h, fun h => by subst h; exact preV.refl a⟩
/-- How often a row is among rows. -/
def cntR (l : List Row) (r : Row) : Nat := l.countP fun s => eqR s r
theorem cntR_snoc (l : List Row) (x r : Row) : cntR (l ++ [x]) r = cntR l r + if x = r then 1 else 0 := by
  unfold cntR
  rw [List.countP_append]
  simp only [List.countP_cons, List.countP_nil, Nat.zero_add]
  by_cases h : x = r
  · rw [if_pos h, if_pos (eqR_iff.2 h)]
  · rw [if_neg h, if_neg (by rw [eqR_iff]; exact h)]
theorem cntR_append (a b : List Row) (r : Row) : cntR (a ++ b) r = cntR a r + cntR b r := List.countP_append
theorem cntR_zero {l : List Row} {r : Row} : cntR l r = 0 ↔ r ∉ l := by
  unfold cntR
  rw [List.countP_eq_zero]
  constructor
  · intro h hm; exact h r hm (eqR_iff.2 rfl)
  · intro h s hs he; rw [eqR_iff.1 he] at hs; exact h hs
theorem cntR_pos {l : List Row} {r : Row} : 0 < cntR l r ↔ r ∈ l := by
  constructor
  · intro h; exact Classical.byContradiction fun hn => by have := cntR_zero.2 hn; omega
  · intro h; exact Nat.pos_of_ne_zero fun h0 => cntR_zero.1 h0 h
theorem cntR_cons (x : Row) (l : List Row) (r : Row) : cntR (x :: l) r = cntR l r + if x = r then 1 else 0 := by
  unfold cntR
  rw [List.countP_cons]
  by_cases h : x = r
  · rw [if_pos h, if_pos (eqR_iff.2 h)]
  · rw [if_neg h, if_neg (by rw [eqR_iff]; exact h)]
theorem perm_of_cnt : ∀ {a b : List Row}, (∀ r, cntR a r = cntR b r) → a.Perm b
  | [], b, h => by
    cases b with
    | nil => exact .refl _
    | cons x b => have := h x; rw [cntR_cons, if_pos rfl] at this; simp [cntR] at this
  | x :: a, b, h => by
    have hx : x ∈ b := cntR_pos.1 (by have := h x; rw [cntR_cons, if_pos rfl] at this; omega)
    obtain ⟨s, t, rfl⟩ := List.append_of_mem hx
    have : a.Perm (s ++ t) := perm_of_cnt fun r => by
      have := h r
      rw [cntR_cons, cntR_append, cntR_cons] at this
      rw [cntR_append]; omega
    exact (this.cons x).trans List.perm_middle.symm
def newAt (l : List Row) (i : Nat) : Bool := i == 0 || !eqR (gt' l (i - 1)) (gt' l i)
def ddN (l : List Row) : Nat → List Row
  | 0 => []
  | i + 1 => if newAt l i = true then ddN l i ++ [gt' l i] else ddN l i
def cnN (l : List Row) : Nat → List Int
  | 0 => []
  | i + 1 => if newAt l i = true then cnN l i ++ [1] else (cnN l i).set ((cnN l i).length - 1) ((cnN l i).getD ((cnN l i).length - 1) 0 + 1)
def Ss (l : List Row) : Prop := l.Pairwise fun a b => cmpR a b < 0
structure DdI (l : List Row) (i : Nat) : Prop where
  ss : Ss (ddN l i)
  mem : ∀ r, r ∈ ddN l i ↔ r ∈ l.take i
  last : 0 < i → ∃ init, ddN l i = init ++ [gt' l (i - 1)]
  cn : cnN l i = (ddN l i).map fun r => (cntR (l.take i) r : Int)
  len : (ddN l i).length ≤ i
theorem gt_at {l : List Row} {i : Nat} (h : i < l.length) : gt' l i = l[i] := by simp [gt', h]
theorem ddI {l : List Row} (hs : Sd l) : ∀ i, i ≤ l.length → DdI l i
  | 0, _ => ⟨.nil, fun r => by simp [ddN], fun h => by omega, by simp [cnN, ddN], Nat.le_refl _⟩
  | i + 1, h => by
    have hi : i < l.length := by omega
    have ih := ddI hs i (by omega)
    have htk : l.take (i + 1) = l.take i ++ [gt' l i] := by rw [List.take_succ_eq_append_getElem hi, gt_at hi]
    have hmem : ∀ r ∈ ddN l i, cmpR r (gt' l i) ≤ 0 := fun r hr => by
      have h1 := (ih.mem r).1 hr
      obtain ⟨k, hk, e⟩ := List.mem_iff_getElem.1 h1
      simp only [List.length_take] at hk
      rw [List.getElem_take] at e
      have := (List.pairwise_iff_getElem.1 hs) k i (by omega) hi (by omega)
      rw [gt_at hi, ← e]; exact this
    by_cases hn : newAt l i = true
    · have hlt : ∀ r ∈ ddN l i, cmpR r (gt' l i) < 0 := fun r hr => by
        have h1 := hmem r hr
        have hi0 : i ≠ 0 := by rintro rfl; simp [ddN] at hr
        have h2 : eqR (gt' l (i - 1)) (gt' l i) = false := by
          unfold newAt at hn
          simp only [Bool.or_eq_true, beq_iff_eq, Bool.not_eq_true'] at hn
          exact hn.resolve_left hi0
        obtain ⟨k, hk, e⟩ := List.mem_iff_getElem.1 ((ih.mem r).1 hr)
        simp only [List.length_take] at hk
        rw [List.getElem_take] at e
        have h3 : cmpR r (gt' l (i - 1)) ≤ 0 := by
          rw [gt_at (by omega : i - 1 < l.length), ← e]
          rcases Nat.lt_or_ge k (i - 1) with h4 | h4
          · exact (List.pairwise_iff_getElem.1 hs) k (i - 1) (by omega) (by omega) h4
          · have : k = i - 1 := by omega
            subst this; exact Int.le_of_eq (preR.refl _)
        have h5 : cmpR (gt' l (i - 1)) (gt' l i) < 0 := by
          have h6 : cmpR (gt' l (i - 1)) (gt' l i) ≤ 0 := by
            rw [gt_at (by omega : i - 1 < l.length), gt_at hi]
            exact (List.pairwise_iff_getElem.1 hs) (i - 1) i (by omega) hi (by omega)
          have h7 : cmpR (gt' l (i - 1)) (gt' l i) ≠ 0 := fun e => by
            rw [eqR_false] at h2; exact h2 (cmpR_eq e)
          omega
        exact preR.tr2 h3 h5
      have hne : ∀ r ∈ ddN l i, gt' l i ≠ r := fun r hr e => by
        have := hlt r hr
        rw [e, preR.refl] at this; omega
      refine ⟨?_, fun r => ?_, fun _ => ⟨ddN l i, by rw [ddN, if_pos hn]; simp⟩, ?_, ?_⟩
      · rw [ddN, if_pos hn]
        unfold Ss
        rw [List.pairwise_append]
        exact ⟨ih.ss, List.pairwise_singleton _ _, fun x hx y hy => by rw [List.mem_singleton.1 hy]; exact hlt x hx⟩
      · rw [ddN, if_pos hn, htk, List.mem_append, List.mem_append, ih.mem]
      · rw [cnN, ddN, if_pos hn, if_pos hn, List.map_append, ih.cn, htk]
        congr 1
        · exact List.map_congr_left fun r hr => by rw [cntR_snoc, if_neg (hne r hr)]; simp
        · simp only [List.map_cons, List.map_nil, List.cons.injEq, and_true]
          rw [cntR_snoc, if_pos rfl, cntR_zero.2 (fun hm => hne _ ((ih.mem _).2 hm) rfl)]
          rfl
      · rw [ddN, if_pos hn]; have := ih.len; simp; omega
    · have hi0 : i ≠ 0 := by rintro rfl; exact hn rfl
      have he : gt' l (i - 1) = gt' l i := by
        unfold newAt at hn
        simp only [Bool.or_eq_true, beq_iff_eq, Bool.not_eq_true', not_or, Bool.not_eq_false] at hn
        exact eqR_iff.1 hn.2
      obtain ⟨init, hin⟩ := ih.last (by omega)
      refine ⟨?_, fun r => ?_, fun _ => ⟨init, by rw [ddN, if_neg hn, hin, he]; simp⟩, ?_, ?_⟩
      · rw [ddN, if_neg hn]; exact ih.ss
      · rw [ddN, if_neg hn, htk, List.mem_append, ih.mem]
        constructor
        · exact .inl
        · rintro (h1 | h1)
          · exact h1
          · rw [List.mem_singleton.1 h1, ← he]
            exact (ih.mem _).1 (by rw [hin]; simp)
      · have hss := ih.ss
        rw [cnN, ddN, if_neg hn, if_neg hn, ih.cn, htk]
        rw [hin] at hss ⊢
        have hne : ∀ r ∈ init, gt' l i ≠ r := fun r hr e => by
          unfold Ss at hss
          rw [List.pairwise_append] at hss
          have := hss.2.2 r hr (gt' l (i - 1)) (by simp)
          rw [he, e, preR.refl] at this; omega
        have hm : ∀ f : Row → Int, (init ++ [gt' l (i - 1)]).map f = init.map f ++ [f (gt' l (i - 1))] := fun f => by simp
        rw [hm, hm]
        have hl : (init.map (fun r => (cntR (l.take i) r : Int)) ++ [(cntR (l.take i) (gt' l (i - 1)) : Int)]).length - 1 = (init.map (fun r => (cntR (l.take i) r : Int))).length := by simp
        rw [hl, List.set_append_right _ _ (Nat.le_refl _)]
        simp only [Nat.sub_self, List.set_cons_zero]
        rw [List.getD_eq_getElem?_getD, List.getElem?_append_right (Nat.le_refl _)]
        simp only [Nat.sub_self, List.getElem?_cons_zero, Option.getD_some]
        congr 1
        · exact List.map_congr_left fun r hr => by rw [cntR_snoc, if_neg (hne r hr)]; simp
        · rw [cntR_snoc, if_pos he.symm]; simp
      · rw [ddN, if_neg hn]; have := ih.len; omega
/-- The rows without repetition, in order. -/
def dd (l : List Row) : List Row := ddN (srt l) l.length
theorem dd_I (l : List Row) : DdI (srt l) l.length := ddI (srt_sd l) _ (by rw [srt_len]; exact Nat.le_refl _)
theorem dd_ss (l : List Row) : Ss (dd l) := (dd_I l).ss
theorem dd_mem (l : List Row) (r : Row) : r ∈ dd l ↔ r ∈ l := by
  rw [dd, (dd_I l).mem, List.take_of_length_le (by rw [srt_len]; exact Nat.le_refl _)]
  exact (srt_perm l).mem_iff
theorem ss_cnt {l : List Row} (h : Ss l) (r : Row) : cntR l r = if r ∈ l then 1 else 0 := by
  induction l with
  | nil => simp [cntR]
  | cons x l ih =>
    unfold Ss at h
    rw [List.pairwise_cons] at h
    rw [cntR_cons, ih h.2]
    by_cases hx : x = r
    · subst hx
      have : x ∉ l := fun hm => by have := h.1 x hm; rw [preR.refl] at this; omega
      simp [this]
    · simp [hx, Ne.symm hx]
theorem ss_sd {l : List Row} (h : Ss l) : Sd l := h.imp fun h => Int.le_of_lt h
theorem ss_unique {a b : List Row} (ha : Ss a) (hb : Ss b) (h : ∀ r, r ∈ a ↔ r ∈ b) : a = b :=
  sd_unique (ss_sd ha) (ss_sd hb) (perm_of_cnt fun r => by rw [ss_cnt ha, ss_cnt hb]; simp [h r])
end Go.FE
namespace Go.FE
open Go.Proofs
end Go.FE
namespace Go.FE
open Go.Proofs
structure PrX where
  i : Nat
  j : Nat
structure PrI (oa ob : List Row) (i j : Nat) : Prop where
  hi : i ≤ oa.length
  hj : j ≤ ob.length
  lo : ∀ p (hp : p < ob.length), p < j → ∀ q (hq : q < oa.length), i ≤ q → cmpR ob[p] oa[q] < 0
end Go.FE
namespace Go.FE
open Go.Proofs
def exS (a b : List Row) : List Row := (dd a).flatMap fun r => List.replicate (cntR a r - cntR b r) r
structure OkBag' (b : Bag) : Prop where
  l : b.rows.length ≤ 400000
  r : ∀ r ∈ b.rows, r.length ≤ 1000000
end Go.FE
namespace Go.FE
open Go.Proofs
theorem shr20 (x : Int) : x.fdiv (2 ^ (min 20 IntKind.i64.bits)) = x / 1048576 := by
  have : min 20 IntKind.i64.bits = 20 := by decide
  rw [this, Int.fdiv_eq_ediv_of_nonneg _ (by decide)]
  rfl
theorem and20 (x : Int) : IntKind.i64.wrap ((BitVec.ofInt IntKind.i64.bits x &&& BitVec.ofInt IntKind.i64.bits 1048575).toNat : Int) = x % 1048576 := by
  have h1 : (BitVec.ofInt IntKind.i64.bits x &&& BitVec.ofInt IntKind.i64.bits 1048575).toNat = (x % 2 ^ 64).toNat % 2 ^ 20 := by
    rw [BitVec.toNat_and]
    have : (BitVec.ofInt IntKind.i64.bits 1048575).toNat = 2 ^ 20 - 1 := by decide
    rw [this, Nat.and_two_pow_sub_one_eq_mod, BitVec.toNat_ofInt]
    rfl
  rw [h1]
  have h2 : (((x % 2 ^ 64).toNat % 2 ^ 20 : Nat) : Int) = x % 1048576 := by omega
  rw [h2, w64 (by omega) (by omega)]
theorem shl20 {x : Int} (h : -8796093022208 ≤ x) (h' : x ≤ 8796093022207) : IntKind.i64.wrap (x * 2 ^ (min 20 IntKind.i64.bits)) = x * 1048576 := by
  have : min 20 IntKind.i64.bits = 20 := by decide
  rw [this]
  exact w64 (by omega) (by omega)
def sumI (vs : List Vl) : Int := (vs.map (·.i)).sum
theorem sumI_succ {l : List Vl} {i : Nat} (h : i < l.length) : sumI (l.take (i + 1)) = sumI (l.take i) + l[i].i := by
  rw [List.take_succ_eq_append_getElem h, sumI, List.map_append, List.sum_append]; simp [sumI]
end Go.FE
