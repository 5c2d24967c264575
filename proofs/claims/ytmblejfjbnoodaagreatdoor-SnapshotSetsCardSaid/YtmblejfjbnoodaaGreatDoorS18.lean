/- Cloned rows; rows in order. Equal multisets of rows; bags; counts. Counts of rows by key. Rows shared with another bag, and the others. Union, difference, intersection, distinct rows. -/
import Derived.Test.YtmblejfjbnoodaaGreatDoorS09
import Derived.Test.YtmblejfjbnoodaaGreatDoorS17
set_option linter.unusedVariables false
set_option linter.unusedSimpArgs false
namespace Go.FE
open Go.Proofs
theorem nf11 {α : Type} {a b : α} (h : a = b := by simp only [goP, goN, mrk, Nat.reduceMul, Nat.one_mul, Nat.mul_one, eq_self, false_implies, implies_true, Nat.reduceLT, List.getElem?_toArray, isCall, List.contains_nil, List.contains_cons, Nat.reduceBEq, Bool.or_false, Bool.or_self, List.length_map, gOf, step, stepM, stepP, ev, okV, if_true, if_false, allocA, storeA, boxA, one1, tokN, tok1, buildA, rowA, nrmP, partV, partA, fieldA, fieldV, elemA, lenA, bltA, asSl, appA, makeA, makeR, cutA, bndA, binV, intOp, strOp, unV, eqB, nilB, sameT, List.all_cons, List.all_nil, Bool.and_self, Bool.and_true, Bool.true_and, List.map_cons, List.map_nil, List.nil_append, List.cons_append, List.append_nil, AV.bare, AV.content, AV.clean, AV.one, putD, List.set_cons_zero, List.set_cons_succ, List.reverse_cons, List.reverse_nil, List.getD_cons_zero, List.getD_cons_succ, List.getElem?_cons_zero, List.getElem?_cons_succ, Option.getD_some, Option.map_some, Option.map_none, Option.bind_some, List.length_cons, List.length_nil, lk, cellsA, fillA, fillS, isAggD, spl, nrm, nrmA, List.take_succ_cons, List.take_zero, List.drop_succ_cons, List.drop_zero, List.drop_nil, List.take_nil, Nat.reduceAdd, Nat.zero_add, Nat.add_zero, Nat.add_assoc, Nat.add_left_cancel_iff, reduceCtorEq, Prod.mk.injEq, List.cons.injEq, and_self, and_true, true_and, Nat.le_refl, Nat.reduceLeDiff, Nat.reduceEqDiff, List.getElem?_nil, Int.reduceToNat, Int.reduceLE, Int.reduceLT, ite_self, List.forall_mem_cons, List.not_mem_nil, false_and, and_false, Bool.false_eq_true, List.replicate_zero, List.replicate_succ, Int.toNat_natCast, neJ2, neJ2', neJ3, neJ3', callOf, callOf2, fnOf, argsA, args2, Array.isEmpty_empty, resLL, resVL, beq_self_eq_true, st3, zt3, it3, ct3, se3, Tryz.underlying3, st4, zt4, it4, ct4, se4, Tryz.underlying4, st9, zt9, it9, ct9, se9, Tryz.underlying9, st25, zt25, it25, ct25, pt25, eqs25, se25, Tryz.underlying25, st49, zt49, it49, ct49, se49, Tryz.underlying49, Tryz.results172, st22, zt22, it22, ct22, se22, Tryz.underlying22, Tryz.results212, st23, zt23, it23, ct23, se23, Tryz.underlying23, st122, Tryz.underlying122, Tryz.results173, appR, newR, storeP, Tryz.results133, Int.natCast_nonneg, renA, renR, Tryz.results97, U.out] <;> rfl) : a = b := h
theorem rg172v11 {T : List Rid} {p : Path} {Q : Exit → SL → Prop} {tm : List AV} {L : RL} {n : Nat} {c : Code} {l : List Oper} (n' : Nat) (Qs : List Nat) (h : ∀ all, (ro c).toList = all → GoI Tryz.prog T p all false Qs n 0 l tm L fun tm' L' => Q .normal ⟨tm', L', n'⟩) (hk : kd c = 0 := by kernel_rfl) (hr : rd c = false := by kernel_rfl) (hl : (ro c).toList = l := by dsimp only [ro, s1, s2, c1, c2, bc, bod, Tryz.f172, Option.getD_some] <;> exact rfl) (hn : n + (ro c).size = n' := by kernel_rfl) : PI Tryz.prog T p c Q ⟨tm, L, n⟩ := PI.rg n' Qs hk hr hl (fun h => by cases h) hn (h _ rfl)
theorem okClone0 : CallsOK Tryz.prog 172 [.sl [] none] (.sl [] none) := by
  have U : Hid True := ⟨trivial⟩
  refine CallsOK.of_pi mixed Tryz.func172 (by kernel_rfl) (by kernel_rfl) (?_ : PI _ _ _ _ _ ⟨[.sl [] none, .und, .und, .und, .und, .und, .und, .und], [], 0⟩)
  refine PI.q ?_
  refine rg172v11 (1) [] fun all1 _ => ?_
  refine GoI.z nf11 ?_
  refine PI.q ?_
  refine PI.q ?_
  refine rg172v11 (3) [] fun all2 _ => ?_
  refine GoI.z nf11 ?_
  refine PI.u 4 nf11 ?_ ?_
  ·
   refine PI.q ?_
   refine rg172v11 (4) [] fun all3 _ => ?_
   refine GoI.z nf11 ?_
   refine PI.r ?_
   exact FinI.mk _ nf11 (by clear U; rfl)
  refine PI.s ?_
  refine PI.q ?_
  refine rg172v11 (7) [] fun all4 _ => ?_
  refine GoI.runN 2 nf11 ?_
  refine GoI.z nf11 ?_
  refine PI.r ?_
  exact FinI.mk _ nf11 (by clear U; rfl)
theorem okClone1 (v : Vl) (r : Row) (hr : r.length ≤ 1000000) : CallsOK Tryz.prog 172 [aRow (v :: r)] (aRow (v :: r)) := by
  have U : Hid True := ⟨trivial⟩
  replace U := U.cons (And.intro (rowLen (f := encV) (n := 3) (fun _ => rfl) r) ((show (r.length + 1) * 32 ≤ 140737488355328 by omega)))
  refine CallsOK.of_pi mixed Tryz.func172 (by kernel_rfl) (by kernel_rfl) (?_ : PI _ _ _ _ _ ⟨[aRow (v :: r), .und, .und, .und, .und, .und, .und, .und], [], 0⟩)
  refine PI.q ?_
  refine rg172v11 (1) [] fun all1 _ => ?_
  refine GoI.z nf11 ?_
  refine PI.q ?_
  refine PI.q ?_
  refine rg172v11 (3) [] fun all2 _ => ?_
  refine GoI.z nf11 ?_
  refine PI.d 4 nf11 (fun hb1 => ?_) (fun hb1 => ?_)
  ·
   try simp only [hb1]
   cases hb1
  try simp only [hb1]
  refine PI.s ?_
  refine PI.q ?_
  refine rg172v11 (7) [] fun all4 _ => ?_
  refine GoI.runN 2 nf11 ?_
  refine GoI.z nf11 ?_
  refine PI.r ?_
  exact FinI.mk _ nf11 (by clear U; simp [finR, nrmA, nrm, AV.content])
theorem okClone (r : Row) (hr : r.length ≤ 1000000) : CallsOK Tryz.prog 172 [aRow r] (aRow r) := by
  cases r with
  | nil => exact okClone0
  | cons v r => exact okClone1 v r (by simp at hr; omega)
theorem rg173v11 {T : List Rid} {p : Path} {Q : Exit → SL → Prop} {tm : List AV} {L : RL} {n : Nat} {c : Code} {l : List Oper} (n' : Nat) (Qs : List Nat) (h : ∀ all, (ro c).toList = all → GoI Tryz.prog T p all false Qs n 0 l tm L fun tm' L' => Q .normal ⟨tm', L', n'⟩) (hk : kd c = 0 := by kernel_rfl) (hr : rd c = false := by kernel_rfl) (hl : (ro c).toList = l := by dsimp only [ro, s1, s2, c1, c2, bc, bod, Tryz.f173, Option.getD_some] <;> exact rfl) (hn : n + (ro c).size = n' := by kernel_rfl) : PI Tryz.prog T p c Q ⟨tm, L, n⟩ := PI.rg n' Qs hk hr hl (fun h => by cases h) hn (h _ rfl)
theorem okSortStable {id : Rid} {rs : Rid → Res} {p : Path} {s : Nat} (l : List Row) (N : Nat) (hid : ¬ Under p id) (hrs : rs id = arrR s l) (hN : N = l.length) (hl : N ≤ 1000000) :
    Calls2 Tryz.prog 173 [aArr id s N, aCmp] [id] rs p (.tup []) [(id, arrR s (srt l))] := by
  have U : Hid True := ⟨trivial⟩
  replace U := U.cons (And.intro (nu1 hid) (nu2 hid))
  refine Calls2.of_pi ([(id, arrR s l)]) mixed Tryz.func173 (by kernel_rfl) (by kernel_rfl) (by simp [lk, hrs, hid]) (by simp [lk, hrs, hid]) (by simp [lk, hrs, hid]) (by simp [lk, hrs, hid]) (by simp [lk, hrs, hid]) (?_ : PI _ _ _ _ _ ⟨[aArr id s N, aCmp, .und, .und, .und, .und, .und, .und, .und], [(id, arrR s l)], 0⟩)
  refine rg173v11 (5) [4] fun all1 _ => ?_
  refine GoI.runN 2 nf11 ?_
  refine GoI.runN 2 nf11 ?_
  refine GoI.call2e nf11 nf11 (by exact okStable l N (fun h => hid h.tail) (by repeat (first | exact lk_hd | refine lk_tl (by simp <;> omega) ?_)) hN hl) (by first | exact .inr rfl | exact .inl rfl) (by exact fun h => by cases h) ?_
  try simp only [List.reverse_cons, List.reverse_nil, List.nil_append, List.cons_append, List.append_assoc]
  refine GoI.z nf11 ?_
  exact FinI.mk _ nf11 ⟨by clear U; rfl, fin_keys (by simp [lk, under_self, nu1 hid, nu2 hid]) (by simp [lk, under_self, nu1 hid, nu2 hid])⟩
theorem rws_take {l : List Row} {i : Nat} (h : i < l.length) : (l.take (i + 1)).map (fun r => [aRow r]) = (l.take i).map (fun r => [aRow r]) ++ [[aRow l[i]]] := by
  rw [List.take_succ_eq_append_getElem h, List.map_append]; rfl
set_option maxHeartbeats 1000000 in
set_option maxRecDepth 100000 in
/-- The clones of rows, in order, in a row of the caller's own. -/
theorem rg133v11 {T : List Rid} {p : Path} {Q : Exit → SL → Prop} {tm : List AV} {L : RL} {n : Nat} {c : Code} {l : List Oper} (n' : Nat) (Qs : List Nat) (h : ∀ all, (ro c).toList = all → GoI Tryz.prog T p all false Qs n 0 l tm L fun tm' L' => Q .normal ⟨tm', L', n'⟩) (hk : kd c = 0 := by kernel_rfl) (hr : rd c = false := by kernel_rfl) (hl : (ro c).toList = l := by dsimp only [ro, s1, s2, c1, c2, bc, bod, Tryz.f133, Option.getD_some] <;> exact rfl) (hn : n + (ro c).size = n' := by kernel_rfl) : PI Tryz.prog T p c Q ⟨tm, L, n⟩ := PI.rg n' Qs hk hr hl (fun h => by cases h) hn (h _ rfl)
theorem okSorted {rs : Rid → Res} {p : Path} (l : List Row) (hl : l.length ≤ 1000000) (hr : ∀ r ∈ l, r.length ≤ 1000000) : Calls2 Tryz.prog 133 [aRows l, aCmp] [] rs p (aArr (p, 0) (l.length + 1) l.length) [((p, 0), arrR (l.length + 1) (srt l))] := by
  have hl' : l.length ≤ maxLen := by unfold maxLen; omega
  have hb24 : 24 * l.length ≤ 281474976710656 := by omega
  have hb63 : l.length ≤ 9223372036854775807 := by omega
  have U : Hid True := ⟨trivial⟩
  replace U := U.cons (And.intro (hb24) (hb63))
  refine Calls2.of_pi ([]) mixed Tryz.func133 (by kernel_rfl) (by kernel_rfl) (by simp [lk, under_nil]) (by simp [lk, under_nil]) (by simp [lk, under_nil]) (by simp [lk, under_nil]) (by simp [lk, under_nil]) (?_ : PI _ _ _ _ _ ⟨[aRows l, aCmp, .und, .und, .und, .und, .und, .und, .und, .und, .und, .und, .und, .und, .und, .und, .und, .und, .und, .und, .und, .und, .und, .und, .und, .und, .und], [], 0⟩)
  refine PI.q ?_
  refine rg133v11 (1) [] fun all1 _ => ?_
  refine GoI.z nf11 ?_
  refine PI.q ?_
  refine rg133v11 (5) [] fun all2 _ => ?_
  refine GoI.runN 2 nf11 ?_
  refine GoI.z nf11 ?_
  refine PI.q ?_
  refine PI.q ?_
  refine PI.pg (by kernel_rfl) (GhI.thw (3 :: p, 0) 0 49 1 5 (by simp [lk]) rfl (by simp only [List.map_cons, List.map_nil, thwA_none, thwA_hit, thwA_v, thwA_und, thwA_miss (show ((0 :: p, 0) : Rid) ≠ (3 :: p, 0) by simp)]; rfl)) ?_
  refine rg133v11 (8) [] fun all3 _ => ?_
  refine GoI.runN 2 nf11 ?_
  refine GoI.z nf11 ?_
  refine PI.b 0 ?_
  refine PI.lo (by kernel_rfl) (X := Nat) (fun i => (5, aArr (3 :: p, 0) (i + 1) i) :: (13, aI i) :: uk [7, 14, 15, 16, 17, 18, 19, 20, 21, 22]) (fun i => [((3 :: p, 0), arrR (i + 1) (l.take i))]) (fun k i => k = l.length - i ∧ i ≤ l.length) (l.length) (0) (GhI.of_wk ⟨by simp [ovr, uk, lessT], by simp [lessR, lk, Int.natCast_nonneg, hb24, hb63, renA, renR, neJ2, neJ2', neJ3, neJ3'], by (try dsimp only); omega, by simp [keepR, lk, under_self, Int.natCast_nonneg, hb24, hb63, renA, renR, neJ2, neJ2', neJ3, neJ3']⟩) (by simp) ?_
  intro k1 x1 j1 hr1
  obtain ⟨rfl, hi1⟩ := hr1
  simp only [ovr, uk, List.set_cons_zero, List.set_cons_succ]
  refine PI.q ?_
  refine rg133v11 (j1 + 9) [] fun all4 _ => ?_
  refine GoI.z nf11 ?_
  refine PI.q ?_
  refine PI.d 14 nf11 (fun hb1 => ?_) (fun hb1 => ?_)
  ·
   try simp only [hb1]
   obtain ⟨hlt, hw⟩ := up hb1 hl'
   have hx := rows_at hlt
   have ht : (l.take x1).length = x1 := by simp; omega
   have hbb : (x1 + 1) * 24 ≤ 140737488355328 := by omega
   have hts := rws_take hlt
   replace U := U.cons (And.intro (hw) (And.intro (hx) (And.intro (ht) (hbb))))
   refine PI.s ?_
   refine PI.q ?_
   refine PI.b 1 ?_
   refine PI.q ?_
   refine rg133v11 (j1 + 12) [] fun all5 _ => ?_
   refine GoI.runN 2 nf11 ?_
   refine GoI.z nf11 ?_
   refine rg133v11 (j1 + 18) [] fun all6 _ => ?_
   refine GoI.runN 2 nf11 ?_
   refine GoI.call nf11 nf11 (by exact okClone _ (hr _ (List.getElem_mem _))) ?_
   refine GoI.runN 2 nf11 ?_
   refine GoI.z nf11 ?_
   refine rg133v11 (j1 + 20) [] fun all7 _ => ?_
   refine GoI.z nf11 ?_
   refine ⟨l.length - (x1 + 1), x1 + 1, j1 + 12, by omega, ⟨rfl, by omega⟩, GhI.of_wk ⟨by simp [ovr, uk, lessT], by simp only [lessR, arrR, hts]; simp [lk], by (try dsimp only); omega, by simp only [keepR, arrR, hts]; simp [lk, under_self]⟩⟩
  try simp only [hb1]
  have hge := dn hb1
  have hxe : x1 = l.length := by omega
  subst hxe
  simp only [List.take_length]
  refine PI.e 0 ?_
  refine PI.q ?_
  refine rg133v11 (j1 + 12) [2] fun all8 _ => ?_
  refine GoI.runN 2 nf11 ?_
  refine GoI.call2e nf11 nf11 (by exact okSortStable _ _ (nul (by omega)) (by repeat (first | exact lk_hd | refine lk_tl (by simp <;> omega) ?_)) (by simp) (by omega)) (by first | exact .inr rfl | exact .inl rfl) (by exact fun h => by cases h) ?_
  try simp only [List.reverse_cons, List.reverse_nil, List.nil_append, List.cons_append, List.append_assoc]
  refine GoI.z nf11 ?_
  refine PI.q ?_
  refine rg133v11 (j1 + 14) [] fun all9 _ => ?_
  refine GoI.z nf11 ?_
  refine PI.r ?_
  exact FinI.ren (3 :: p, 0) 0 under_self (by simp) (by simp [lk]) _ nf11 ⟨by clear U; rfl, fin_keys (by dsimp only; simp [lk, under_self, under_nil]) (by dsimp only; simp [lk, under_self, under_nil])⟩
/-- What is in a row of the call's own, handed back. -/
theorem frz_sl (l : List Row) (k : Nat) (hk : k = l.length) : (((l.map fun r => [aRow r]).take k).map (List.map nrmC)) = l.map fun r => [aRow r] := by
  subst hk
  rw [List.take_of_length_le (by simp), List.map_map]
  rfl
theorem rg97v11 {T : List Rid} {p : Path} {Q : Exit → SL → Prop} {tm : List AV} {L : RL} {n : Nat} {c : Code} {l : List Oper} (n' : Nat) (Qs : List Nat) (h : ∀ all, (ro c).toList = all → GoI Tryz.prog T p all false Qs n 0 l tm L fun tm' L' => Q .normal ⟨tm', L', n'⟩) (hk : kd c = 0 := by kernel_rfl) (hr : rd c = false := by kernel_rfl) (hl : (ro c).toList = l := by dsimp only [ro, s1, s2, c1, c2, bc, bod, Tryz.f97, Option.getD_some] <;> exact rfl) (hn : n + (ro c).size = n' := by kernel_rfl) : PI Tryz.prog T p c Q ⟨tm, L, n⟩ := PI.rg n' Qs hk hr hl (fun h => by cases h) hn (h _ rfl)
theorem okSort (l : List Row) (hl : l.length ≤ 1000000) (hr : ∀ r ∈ l, r.length ≤ 1000000) : CallsOK Tryz.prog 97 [aRows l] (aRows (srt l)) := by
  have U : Hid True := ⟨trivial⟩
  refine CallsOK.of_pi mixed Tryz.func97 (by kernel_rfl) (by kernel_rfl) (?_ : PI _ _ _ _ _ ⟨[aRows l, .und, .und, .und, .und], [], 0⟩)
  refine PI.q ?_
  refine rg97v11 (1) [] fun all1 _ => ?_
  refine GoI.z nf11 ?_
  refine PI.q ?_
  refine rg97v11 (4) [] fun all2 _ => ?_
  refine GoI.run nf11 ?_
  refine GoI.call2 nf11 nf11 (by exact okSorted l hl hr) (by repeat (first | exact trivial | exact Or.inl rfl | exact Or.inr (Or.inl rfl) | exact Or.inr (Or.inr rfl) | apply And.intro)) (by first | exact .inr rfl | exact .inl rfl) (by exact fun h => by cases h) ?_
  try simp only [List.reverse_cons, List.reverse_nil, List.nil_append, List.cons_append, List.append_assoc]
  refine GoI.z nf11 ?_
  refine PI.r ?_
  exact FinI.gh _ (GhI.frz ([2], 0) (l.length + 1) 49 1 l.length ((srt l).map fun r => [aRow r]) (by simp [lk]) (by simp [srt_len]) rfl) _ nf11 (by clear U; simp [finR, nrmA, nrm, AV.content, frzA, frz_sl (srt l) l.length (srt_len l).symm])
end Go.FE
namespace Go.FE
open Go.Proofs
theorem nf12 {α : Type} {a b : α} (h : a = b := by simp only [goP, goN, mrk, Nat.reduceMul, Nat.one_mul, Nat.mul_one, eq_self, false_implies, implies_true, Nat.reduceLT, List.getElem?_toArray, isCall, List.contains_nil, List.contains_cons, Nat.reduceBEq, Bool.or_false, Bool.or_self, List.length_map, gOf, step, stepM, stepP, ev, okV, if_true, if_false, allocA, storeA, boxA, one1, tokN, tok1, buildA, rowA, nrmP, partV, partA, fieldA, fieldV, elemA, lenA, bltA, asSl, appA, makeA, makeR, cutA, bndA, binV, intOp, strOp, unV, eqB, nilB, sameT, List.all_cons, List.all_nil, Bool.and_self, Bool.and_true, Bool.true_and, List.map_cons, List.map_nil, List.nil_append, List.cons_append, List.append_nil, AV.bare, AV.content, AV.clean, AV.one, putD, List.set_cons_zero, List.set_cons_succ, List.reverse_cons, List.reverse_nil, List.getD_cons_zero, List.getD_cons_succ, List.getElem?_cons_zero, List.getElem?_cons_succ, Option.getD_some, Option.map_some, Option.map_none, Option.bind_some, List.length_cons, List.length_nil, lk, cellsA, fillA, fillS, isAggD, spl, nrm, nrmA, List.take_succ_cons, List.take_zero, List.drop_succ_cons, List.drop_zero, List.drop_nil, List.take_nil, Nat.reduceAdd, Nat.zero_add, Nat.add_zero, Nat.add_assoc, Nat.add_left_cancel_iff, reduceCtorEq, Prod.mk.injEq, List.cons.injEq, and_self, and_true, true_and, Nat.le_refl, Nat.reduceLeDiff, Nat.reduceEqDiff, List.getElem?_nil, Int.reduceToNat, Int.reduceLE, Int.reduceLT, ite_self, List.forall_mem_cons, List.not_mem_nil, false_and, and_false, Bool.false_eq_true, List.replicate_zero, List.replicate_succ, Int.toNat_natCast, neJ2, neJ2', neJ3, neJ3', callOf, callOf2, fnOf, argsA, args2, Array.isEmpty_empty, resLL, resVL, beq_self_eq_true, st3, zt3, it3, ct3, se3, Tryz.underlying3, st4, zt4, it4, ct4, se4, Tryz.underlying4, st9, zt9, it9, ct9, se9, Tryz.underlying9, st23, zt23, it23, ct23, se23, Tryz.underlying23, st25, zt25, it25, ct25, pt25, eqs25, se25, Tryz.underlying25, st49, zt49, it49, ct49, se49, Tryz.underlying49, st86, Tryz.underlying86, Tryz.results104, Int.natCast_nonneg, Tryz.results67, st22, zt22, it22, ct22, se22, Tryz.underlying22, st42, zt42, it42, ct42, pt42, se42, Tryz.underlying42, Tryz.results29, Tryz.results58, U.out] <;> rfl) : a = b := h
theorem rg104v12 {T : List Rid} {p : Path} {Q : Exit → SL → Prop} {tm : List AV} {L : RL} {n : Nat} {c : Code} {l : List Oper} (n' : Nat) (Qs : List Nat) (h : ∀ all, (ro c).toList = all → GoI Tryz.prog T p all false Qs n 0 l tm L fun tm' L' => Q .normal ⟨tm', L', n'⟩) (hk : kd c = 0 := by kernel_rfl) (hr : rd c = false := by kernel_rfl) (hl : (ro c).toList = l := by dsimp only [ro, s1, s2, c1, c2, bc, bod, Tryz.f104, Option.getD_some] <;> exact rfl) (hn : n + (ro c).size = n' := by kernel_rfl) : PI Tryz.prog T p c Q ⟨tm, L, n⟩ := PI.rg n' Qs hk hr hl (fun h => by cases h) hn (h _ rfl)
set_option maxRecDepth 100000 in
theorem okEqualFunc (a b : List Row) : CallsOK Tryz.prog 104 [aRows a, aRows b, aFn 105] (aB (eqRs a b)) := by
  refine CallsOK.bd (by kernel_rfl) 1 fun hbd => ?_
  have hl : a.length ≤ maxLen := rows_len hbd (by simp)
  have h0 : eqRs a b = eqRs (a.drop 0) (b.drop 0) := by simp
  have U : Hid True := ⟨trivial⟩
  refine CallsOK.of_pi mixed Tryz.func104 (by kernel_rfl) (by kernel_rfl) (?_ : PI _ _ _ _ _ ⟨[aRows a, aRows b, aFn 105, .und, .und, .und, .und, .und, .und, .und, .und, .und, .und, .und, .und, .und, .und, .und, .und, .und, .und, .und, .und, .und, .und, .und, .und, .und, .und, .und, .und, .und], [], 0⟩)
  refine PI.q ?_
  refine rg104v12 (1) [] fun all1 _ => ?_
  refine GoI.z nf12 ?_
  refine PI.q ?_
  refine PI.q ?_
  refine rg104v12 (6) [] fun all2 _ => ?_
  refine GoI.runN 2 nf12 ?_
  refine GoI.runN 2 nf12 ?_
  refine GoI.z nf12 ?_
  refine PI.d 14 nf12 (fun hb1 => ?_) (fun hb1 => ?_)
  ·
   try simp only [hb1]
   refine PI.q ?_
   refine rg104v12 (7) [] fun all3 _ => ?_
   refine GoI.z nf12 ?_
   refine PI.r ?_
   exact FinI.mk _ nf12 (by clear U; first | (rw [ha, List.drop_of_length_le hge, List.drop_of_length_le (by omega)]; rfl) | (rw [ha, hs]; simp_all [finR, nrmA, nrm, AV.content]; done) | (have : eqRs a b = false := by { rw [← Bool.not_eq_true]; intro h; have := eqRs_len h; simp at hb1; omega }; rw [this]; rfl))
  try simp only [hb1]
  have hlen : a.length = b.length := by simp at hb1; omega
  refine PI.s ?_
  refine PI.q ?_
  refine PI.q ?_
  refine rg104v12 (9) [] fun all4 _ => ?_
  refine GoI.runN 2 nf12 ?_
  refine GoI.z nf12 ?_
  refine PI.b 0 ?_
  refine PI.lo (by kernel_rfl) (X := Nat) (fun i => (17, aI i) :: uk [6, 7, 8, 9, 18, 19, 20, 21, 22, 23, 24, 25, 26, 27, 28, 29, 30, 31]) (fun _ => []) (fun k i => k = a.length - i ∧ i ≤ a.length ∧ eqRs a b = eqRs (a.drop i) (b.drop i)) (a.length) (0) (GhI.of_wk ⟨by simp [ovr, uk, lessT, neJ2, neJ2', neJ3, neJ3'], by simp [lessR, lk, neJ2, neJ2', neJ3, neJ3'], by (try dsimp only); omega, keep0⟩) (by simp) ?_
  intro k1 x1 j1 hr1
  obtain ⟨rfl, hi1, ha⟩ := hr1
  simp only [ovr, uk, List.set_cons_zero, List.set_cons_succ]
  refine PI.q ?_
  refine rg104v12 (j1 + 10) [] fun all5 _ => ?_
  refine GoI.z nf12 ?_
  refine PI.q ?_
  refine PI.d 18 nf12 (fun hb2 => ?_) (fun hb2 => ?_)
  ·
   try simp only [hb2]
   obtain ⟨hlt, hw⟩ := up hb2 hl
   have hlt' : x1 < b.length := by omega
   have hx := rows_at hlt
   have hy := rows_at hlt'
   have hs := eqRs_at hlt hlt'
   replace U := U.cons (And.intro (hw) (And.intro (hx) (hy)))
   refine PI.s ?_
   refine PI.q ?_
   refine PI.b 1 ?_
   refine PI.q ?_
   refine rg104v12 (j1 + 15) [] fun all6 _ => ?_
   refine GoI.runN 2 nf12 ?_
   refine GoI.runN 2 nf12 ?_
   refine GoI.z nf12 ?_
   refine PI.q ?_
   refine rg104v12 (j1 + 20) [] fun all7 _ => ?_
   refine GoI.runN 2 nf12 ?_
   refine GoI.runN 2 nf12 ?_
   refine GoI.z nf12 ?_
   refine PI.q ?_
   refine rg104v12 (j1 + 25) [] fun all8 _ => ?_
   refine GoI.runN 2 nf12 ?_
   refine GoI.run nf12 ?_
   refine GoI.call nf12 nf12 (by exact okEqR _ _) ?_
   refine GoI.z nf12 ?_
   refine PI.d 30 nf12 (fun hb3 => ?_) (fun hb3 => ?_)
   ·
    try simp only [hb3]
    refine PI.q ?_
    refine rg104v12 (j1 + 26) [] fun all9 _ => ?_
    refine GoI.z nf12 ?_
    refine PI.r ?_
    exact FinI.mk _ nf12 (by clear U; first | (rw [ha, List.drop_of_length_le hge, List.drop_of_length_le (by omega)]; rfl) | (rw [ha, hs]; simp_all [finR, nrmA, nrm, AV.content]; done) | (have : eqRs a b = false := by { rw [← Bool.not_eq_true]; intro h; have := eqRs_len h; simp at hb1; omega }; rw [this]; rfl))
   try simp only [hb3]
   refine PI.s ?_
   refine rg104v12 (j1 + 27) [] fun all10 _ => ?_
   refine GoI.z nf12 ?_
   refine ⟨a.length - (x1 + 1), x1 + 1, j1 + 18, by omega, ⟨rfl, by omega, by rw [ha, hs]; simp_all⟩, GhI.of_wk ⟨by simp [ovr, uk, lessT, neJ2, neJ2', neJ3, neJ3'], by simp [lessR, lk, neJ2, neJ2', neJ3, neJ3'], by (try dsimp only); omega, keep0⟩⟩
  try simp only [hb2]
  have hge := dn hb2
  refine PI.e 0 ?_
  refine PI.q ?_
  refine rg104v12 (j1 + 11) [] fun all11 _ => ?_
  refine GoI.z nf12 ?_
  refine PI.r ?_
  exact FinI.mk _ nf12 (by clear U; first | (rw [ha, List.drop_of_length_le hge, List.drop_of_length_le (by omega)]; rfl) | (rw [ha, hs]; simp_all [finR, nrmA, nrm, AV.content]; done) | (have : eqRs a b = false := by { rw [← Bool.not_eq_true]; intro h; have := eqRs_len h; simp at hb1; omega }; rw [this]; rfl))
def OkL (l : List Row) : Prop := l.length ≤ 1000000 ∧ ∀ r ∈ l, r.length ≤ 1000000
def sameR (a b : List Row) : Bool := eqRs (srt a) (srt b)
theorem sameR_iff {a b : List Row} : sameR a b = true ↔ a.Perm b := by rw [sameR, eqRs_iff, perm_srt]
theorem rg67v12 {T : List Rid} {p : Path} {Q : Exit → SL → Prop} {tm : List AV} {L : RL} {n : Nat} {c : Code} {l : List Oper} (n' : Nat) (Qs : List Nat) (h : ∀ all, (ro c).toList = all → GoI Tryz.prog T p all false Qs n 0 l tm L fun tm' L' => Q .normal ⟨tm', L', n'⟩) (hk : kd c = 0 := by kernel_rfl) (hr : rd c = false := by kernel_rfl) (hl : (ro c).toList = l := by dsimp only [ro, s1, s2, c1, c2, bc, bod, Tryz.f67, Option.getD_some] <;> exact rfl) (hn : n + (ro c).size = n' := by kernel_rfl) : PI Tryz.prog T p c Q ⟨tm, L, n⟩ := PI.rg n' Qs hk hr hl (fun h => by cases h) hn (h _ rfl)
theorem okSameT (a b : List Row) (ha : OkL a) (hb : OkL b) : CallsOK Tryz.prog 67 [aRows a, aRows b] (aB (sameR a b)) := by
  have U : Hid True := ⟨trivial⟩
  refine CallsOK.of_pi mixed Tryz.func67 (by kernel_rfl) (by kernel_rfl) (?_ : PI _ _ _ _ _ ⟨[aRows a, aRows b, .und, .und, .und, .und, .und, .und, .und, .und], [], 0⟩)
  refine PI.q ?_
  refine rg67v12 (1) [] fun all1 _ => ?_
  refine GoI.z nf12 ?_
  refine PI.q ?_
  refine rg67v12 (7) [] fun all2 _ => ?_
  refine GoI.run nf12 ?_
  refine GoI.call nf12 nf12 (by first | exact okSort a ha.1 ha.2 | exact okSort b hb.1 hb.2) ?_
  refine GoI.run nf12 ?_
  refine GoI.call nf12 nf12 (by first | exact okSort a ha.1 ha.2 | exact okSort b hb.1 hb.2) ?_
  refine GoI.call nf12 nf12 (by exact okEqualFunc _ _) ?_
  refine GoI.z nf12 ?_
  refine PI.r ?_
  exact FinI.mk _ nf12 (by clear U; first | (simp [finR, nrmA, nrm, AV.content]; done) | rfl)
theorem rg29v12 {T : List Rid} {p : Path} {Q : Exit → SL → Prop} {tm : List AV} {L : RL} {n : Nat} {c : Code} {l : List Oper} (n' : Nat) (Qs : List Nat) (h : ∀ all, (ro c).toList = all → GoI Tryz.prog T p all false Qs n 0 l tm L fun tm' L' => Q .normal ⟨tm', L', n'⟩) (hk : kd c = 0 := by kernel_rfl) (hr : rd c = false := by kernel_rfl) (hl : (ro c).toList = l := by dsimp only [ro, s1, s2, c1, c2, bc, bod, Tryz.f29, Option.getD_some] <;> exact rfl) (hn : n + (ro c).size = n' := by kernel_rfl) : PI Tryz.prog T p c Q ⟨tm, L, n⟩ := PI.rg n' Qs hk hr hl (fun h => by cases h) hn (h _ rfl)
theorem okSame (a b : Bag) (ha : OkL a.rows) (hb : OkL b.rows) : CallsOK Tryz.prog 29 [aBag a, aBag b] (aB (sameR a.rows b.rows)) := by
  have U : Hid True := ⟨trivial⟩
  refine CallsOK.of_pi mixed Tryz.func29 (by kernel_rfl) (by kernel_rfl) (?_ : PI _ _ _ _ _ ⟨[aBag a, aBag b, .und, .und, .und, .und, .und, .und, .und, .und], [], 0⟩)
  refine PI.q ?_
  refine rg29v12 (3) [] fun all1 _ => ?_
  refine GoI.runN 2 nf12 ?_
  refine GoI.z nf12 ?_
  refine PI.q ?_
  refine rg29v12 (9) [] fun all2 _ => ?_
  refine GoI.runN 2 nf12 ?_
  refine GoI.runN 2 nf12 ?_
  refine GoI.call nf12 nf12 (by exact okSameT _ _ ha hb) ?_
  refine GoI.z nf12 ?_
  refine PI.r ?_
  exact FinI.mk _ nf12 (by clear U; first | (simp [finR, nrmA, nrm, AV.content]; done) | rfl)
theorem rg58v12 {T : List Rid} {p : Path} {Q : Exit → SL → Prop} {tm : List AV} {L : RL} {n : Nat} {c : Code} {l : List Oper} (n' : Nat) (Qs : List Nat) (h : ∀ all, (ro c).toList = all → GoI Tryz.prog T p all false Qs n 0 l tm L fun tm' L' => Q .normal ⟨tm', L', n'⟩) (hk : kd c = 0 := by kernel_rfl) (hr : rd c = false := by kernel_rfl) (hl : (ro c).toList = l := by dsimp only [ro, s1, s2, c1, c2, bc, bod, Tryz.f58, Option.getD_some] <;> exact rfl) (hn : n + (ro c).size = n' := by kernel_rfl) : PI Tryz.prog T p c Q ⟨tm, L, n⟩ := PI.rg n' Qs hk hr hl (fun h => by cases h) hn (h _ rfl)
theorem okBag (k : List Int) (l : List Row) (hk : k.length ≤ 1000000) (hl : OkL l) : CallsOK Tryz.prog 58 [ints k, aRows l] (aBag ⟨k, srt l⟩) := by
  have U : Hid True := ⟨trivial⟩
  replace U := U.cons (And.intro (rowLen (f := fun k : Int => [aI k]) (n := 1) (fun _ => rfl) k) ((show k.length * 8 ≤ 140737488355328 by omega)))
  refine CallsOK.of_pi mixed Tryz.func58 (by kernel_rfl) (by kernel_rfl) (?_ : PI _ _ _ _ _ ⟨[ints k, aRows l, .und, .und, .und, .und, .und, .und, .und, .und, .und], [], 0⟩)
  refine PI.q ?_
  refine rg58v12 (1) [] fun all1 _ => ?_
  refine GoI.z nf12 ?_
  refine PI.q ?_
  refine rg58v12 (8) [] fun all2 _ => ?_
  refine GoI.runN 2 nf12 ?_
  refine GoI.runN 2 nf12 ?_
  refine GoI.call nf12 nf12 (by exact okSort l hl.1 hl.2) ?_
  refine GoI.z nf12 ?_
  refine PI.r ?_
  exact FinI.mk _ nf12 (by clear U; simp [finR, nrmA, nrm, AV.content])
end Go.FE
namespace Go.FE
open Go.Proofs
theorem nf13 {α : Type} {a b : α} (h : a = b := by simp only [goP, goN, mrk, Nat.reduceMul, Nat.one_mul, Nat.mul_one, eq_self, false_implies, implies_true, Nat.reduceLT, List.getElem?_toArray, isCall, List.contains_nil, List.contains_cons, Nat.reduceBEq, Bool.or_false, Bool.or_self, List.length_map, gOf, step, stepM, stepP, ev, okV, if_true, if_false, allocA, storeA, boxA, one1, tokN, tok1, buildA, rowA, nrmP, partV, partA, fieldA, fieldV, elemA, lenA, bltA, asSl, appA, makeA, makeR, cutA, bndA, binV, intOp, strOp, unV, eqB, nilB, sameT, List.all_cons, List.all_nil, Bool.and_self, Bool.and_true, Bool.true_and, List.map_cons, List.map_nil, List.nil_append, List.cons_append, List.append_nil, AV.bare, AV.content, AV.clean, AV.one, putD, List.set_cons_zero, List.set_cons_succ, List.reverse_cons, List.reverse_nil, List.getD_cons_zero, List.getD_cons_succ, List.getElem?_cons_zero, List.getElem?_cons_succ, Option.getD_some, Option.map_some, Option.map_none, Option.bind_some, List.length_cons, List.length_nil, lk, cellsA, fillA, fillS, isAggD, spl, nrm, nrmA, List.take_succ_cons, List.take_zero, List.drop_succ_cons, List.drop_zero, List.drop_nil, List.take_nil, Nat.reduceAdd, Nat.zero_add, Nat.add_zero, Nat.add_assoc, Nat.add_left_cancel_iff, reduceCtorEq, Prod.mk.injEq, List.cons.injEq, and_self, and_true, true_and, Nat.le_refl, Nat.reduceLeDiff, Nat.reduceEqDiff, List.getElem?_nil, Int.reduceToNat, Int.reduceLE, Int.reduceLT, ite_self, List.forall_mem_cons, List.not_mem_nil, false_and, and_false, Bool.false_eq_true, List.replicate_zero, List.replicate_succ, Int.toNat_natCast, neJ2, neJ2', neJ3, neJ3', callOf, callOf2, fnOf, argsA, args2, Array.isEmpty_empty, resLL, resVL, beq_self_eq_true, lookA, look, Option.getD_none, updA, unMk, st3, zt3, it3, ct3, se3, Tryz.underlying3, st9, zt9, it9, ct9, se9, Tryz.underlying9, st23, zt23, it23, ct23, se23, Tryz.underlying23, st25, zt25, it25, ct25, pt25, eqs25, se25, Tryz.underlying25, st49, zt49, it49, ct49, se49, Tryz.underlying49, st74, zt74, it74, ct74, mt74, se74, Tryz.underlying74, Tryz.results102, Int.natCast_nonneg, renA, renR, U.out] <;> rfl) : a = b := h
structure KeyOK (r : Row) : Prop where
  ok : OkRow r
  ln : (keyR r).length ≤ 140737488355328
abbrev MF := ByteArray → Option Int
def upd (f : MF) (s : ByteArray) (n : Int) : MF := fun s' => if s' = s then some n else f s'
def cntStep (f : MF) (r : Row) : MF := upd f (keyB r) ((f (keyB r)).getD 0 + 1)
def cntF (l : List Row) : MF := l.foldl cntStep fun _ => none
theorem cntF_succ {l : List Row} {i : Nat} (h : i < l.length) : cntF (l.take (i + 1)) = fun s' => if s' = keyB l[i] then some ((cntF (l.take i) (keyB l[i])).getD 0 + 1) else cntF (l.take i) s' := by
  rw [List.take_succ_eq_append_getElem h, cntF, List.foldl_append]; rfl
theorem cntF_snoc (l : List Row) (r : Row) (s : ByteArray) : (cntF (l ++ [r]) s).getD 0 = (cntF l s).getD 0 + if s = keyB r then 1 else 0 := by
  rw [cntF, List.foldl_append]
  show (cntStep (cntF l) r s).getD 0 = _
  unfold cntStep upd
  split
  · rename_i h; subst h; simp
  · simp
theorem cntF_count (l : List Row) (s : ByteArray) : (cntF l s).getD 0 = ((l.countP fun r => decide (s = keyB r) : Nat) : Int) := by
  have : ∀ n, n = l.length → (cntF l s).getD 0 = ((l.countP fun r => decide (s = keyB r) : Nat) : Int) := by
    intro n
    induction n generalizing l with
    | zero => intro h; have := List.eq_nil_of_length_eq_zero h.symm; subst this; rfl
    | succ n ih =>
      intro h
      have hne : l ≠ [] := by intro e; subst e; simp at h
      rw [← List.dropLast_concat_getLast hne, cntF_snoc, ih _ (by simp; omega), List.countP_append]
      simp only [List.countP_cons, List.countP_nil]
      by_cases hc : s = keyB (l.getLast hne) <;> simp [hc]
  exact this _ rfl
theorem cntF_le (l : List Row) (s : ByteArray) : 0 ≤ (cntF l s).getD 0 ∧ (cntF l s).getD 0 ≤ l.length := by
  rw [cntF_count]
  have := List.countP_le_length (l := l) (p := fun r => decide (s = keyB r))
  omega
theorem rg102v13 {T : List Rid} {p : Path} {Q : Exit → SL → Prop} {tm : List AV} {L : RL} {n : Nat} {c : Code} {l : List Oper} (n' : Nat) (Qs : List Nat) (h : ∀ all, (ro c).toList = all → GoI Tryz.prog T p all false Qs n 0 l tm L fun tm' L' => Q .normal ⟨tm', L', n'⟩) (hk : kd c = 0 := by kernel_rfl) (hr : rd c = false := by kernel_rfl) (hl : (ro c).toList = l := by dsimp only [ro, s1, s2, c1, c2, bc, bod, Tryz.f102, Option.getD_some] <;> exact rfl) (hn : n + (ro c).size = n' := by kernel_rfl) : PI Tryz.prog T p c Q ⟨tm, L, n⟩ := PI.rg n' Qs hk hr hl (fun h => by cases h) hn (h _ rfl)
set_option maxHeartbeats 1000000 in
set_option maxRecDepth 100000 in
theorem okCounts {rs : Rid → Res} {p : Path} (l : List Row) (hl : l.length ≤ 1000000) (hr : ∀ r ∈ l, KeyOK r) : Calls2 Tryz.prog 102 [aRows l] [] rs p (.mp (p, 0)) [((p, 0), .map 9 3 false (cntF l))] := by
  have hl' : l.length ≤ maxLen := by unfold maxLen; omega
  have U : Hid True := ⟨trivial⟩
  refine Calls2.of_pi ([]) mixed Tryz.func102 (by kernel_rfl) (by kernel_rfl) (by simp [lk, under_nil]) (by simp [lk, under_nil]) (by simp [lk, under_nil]) (by simp [lk, under_nil]) (by simp [lk, under_nil]) (?_ : PI _ _ _ _ _ ⟨[aRows l, .und, .und, .und, .und, .und, .und, .und, .und, .und, .und, .und, .und, .und, .und, .und, .und, .und, .und, .und], [], 0⟩)
  refine PI.q ?_
  refine rg102v13 (1) [] fun all1 _ => ?_
  refine GoI.z nf13 ?_
  refine PI.q ?_
  refine rg102v13 (3) [] fun all2 _ => ?_
  refine GoI.z nf13 ?_
  refine PI.q ?_
  refine PI.q ?_
  refine rg102v13 (6) [] fun all3 _ => ?_
  refine GoI.runN 2 nf13 ?_
  refine GoI.z nf13 ?_
  refine PI.b 0 ?_
  refine PI.lo (by kernel_rfl) (X := Nat) (fun i => (9, aI i) :: uk [5, 10, 11, 12, 13, 14, 15, 16, 17, 18]) (fun i => [((1 :: p, 0), .map 9 3 false (cntF (l.take i)))]) (fun k i => k = l.length - i ∧ i ≤ l.length) (l.length) (0) (GhI.of_wk ⟨by simp [ovr, uk, lessT], by simp [lessR, lk]; rfl, by (try dsimp only); omega, by simp [keepR, lk, under_self]⟩) (by simp) ?_
  intro k1 x1 j1 hr1
  obtain ⟨rfl, hi1⟩ := hr1
  simp only [ovr, uk, List.set_cons_zero, List.set_cons_succ]
  refine PI.q ?_
  refine rg102v13 (j1 + 7) [] fun all4 _ => ?_
  refine GoI.z nf13 ?_
  refine PI.q ?_
  refine PI.d 10 nf13 (fun hb1 => ?_) (fun hb1 => ?_)
  ·
   try simp only [hb1]
   obtain ⟨hlt, hw⟩ := up hb1 hl'
   have hx := rows_at hlt
   have hts := cntF_succ hlt
   have hle := cntF_le (l.take x1) (keyB l[x1])
   have hlen : (l.take x1).length ≤ l.length := by simp; omega
   have hw2 : IntKind.i64.wrap ((cntF (l.take x1) (keyB l[x1])).getD 0 + 1) = (cntF (l.take x1) (keyB l[x1])).getD 0 + 1 := w64 (by omega) (by omega)
   replace U := U.cons (And.intro (hw) (And.intro (hx) (hw2)))
   refine PI.s ?_
   refine PI.q ?_
   refine PI.b 1 ?_
   refine PI.q ?_
   refine rg102v13 (j1 + 10) [] fun all5 _ => ?_
   refine GoI.runN 2 nf13 ?_
   refine GoI.z nf13 ?_
   refine rg102v13 (j1 + 16) [] fun all6 _ => ?_
   refine GoI.runN 2 nf13 ?_
   refine GoI.call nf13 nf13 (by exact okKey _ (hr _ (List.getElem_mem _)).ok (hr _ (List.getElem_mem _)).ln) ?_
   refine GoI.runN 2 nf13 ?_
   refine GoI.z nf13 ?_
   refine rg102v13 (j1 + 18) [] fun all7 _ => ?_
   refine GoI.z nf13 ?_
   refine ⟨l.length - (x1 + 1), x1 + 1, j1 + 12, by omega, ⟨rfl, by omega⟩, GhI.of_wk ⟨by simp [ovr, uk, lessT], by simp [lessR, lk, Int.natCast_nonneg, renA, renR, neJ2, neJ2', neJ3, neJ3', hts], by (try dsimp only); omega, by simp [keepR, lk, under_self, Int.natCast_nonneg, renA, renR, neJ2, neJ2', neJ3, neJ3', hts]⟩⟩
  try simp only [hb1]
  have hge := dn hb1
  have hxe : x1 = l.length := by omega
  subst hxe
  simp only [List.take_length]
  refine PI.e 0 ?_
  refine PI.q ?_
  refine rg102v13 (j1 + 9) [] fun all8 _ => ?_
  refine GoI.z nf13 ?_
  refine PI.r ?_
  exact FinI.ren (1 :: p, 0) 0 under_self (by simp) (by simp [lk]) _ nf13 ⟨by clear U; rfl, fin_keys (by dsimp only; simp [lk, under_self, under_nil]) (by dsimp only; simp [lk, under_self, under_nil])⟩
end Go.FE
namespace Go.FE
open Go.Proofs
theorem nf14 {α : Type} {a b : α} (h : a = b := by simp only [goP, goN, mrk, Nat.reduceMul, Nat.one_mul, Nat.mul_one, eq_self, false_implies, implies_true, Nat.reduceLT, List.getElem?_toArray, isCall, List.contains_nil, List.contains_cons, Nat.reduceBEq, Bool.or_false, Bool.or_self, List.length_map, gOf, step, stepM, stepP, ev, okV, if_true, if_false, allocA, storeA, boxA, one1, tokN, tok1, buildA, rowA, nrmP, partV, partA, fieldA, fieldV, elemA, lenA, bltA, asSl, appA, makeA, makeR, cutA, bndA, binV, intOp, strOp, unV, eqB, nilB, sameT, List.all_cons, List.all_nil, Bool.and_self, Bool.and_true, Bool.true_and, List.map_cons, List.map_nil, List.nil_append, List.cons_append, List.append_nil, AV.bare, AV.content, AV.clean, AV.one, putD, List.set_cons_zero, List.set_cons_succ, List.reverse_cons, List.reverse_nil, List.getD_cons_zero, List.getD_cons_succ, List.getElem?_cons_zero, List.getElem?_cons_succ, Option.getD_some, Option.map_some, Option.map_none, Option.bind_some, List.length_cons, List.length_nil, lk, cellsA, fillA, fillS, isAggD, spl, nrm, nrmA, List.take_succ_cons, List.take_zero, List.drop_succ_cons, List.drop_zero, List.drop_nil, List.take_nil, Nat.reduceAdd, Nat.zero_add, Nat.add_zero, Nat.add_assoc, Nat.add_left_cancel_iff, reduceCtorEq, Prod.mk.injEq, List.cons.injEq, and_self, and_true, true_and, Nat.le_refl, Nat.reduceLeDiff, Nat.reduceEqDiff, List.getElem?_nil, Int.reduceToNat, Int.reduceLE, Int.reduceLT, ite_self, List.forall_mem_cons, List.not_mem_nil, false_and, and_false, Bool.false_eq_true, List.replicate_zero, List.replicate_succ, Int.toNat_natCast, neJ2, neJ2', neJ3, neJ3', callOf, callOf2, fnOf, argsA, args2, Array.isEmpty_empty, resLL, resVL, beq_self_eq_true, lookA, look, Option.getD_none, updA, unMk, st3, zt3, it3, ct3, se3, Tryz.underlying3, st4, zt4, it4, ct4, se4, Tryz.underlying4, st9, zt9, it9, ct9, se9, Tryz.underlying9, st22, zt22, it22, ct22, se22, Tryz.underlying22, st23, zt23, it23, ct23, se23, Tryz.underlying23, st25, zt25, it25, ct25, pt25, eqs25, se25, Tryz.underlying25, st42, zt42, it42, ct42, pt42, se42, Tryz.underlying42, st49, zt49, it49, ct49, se49, Tryz.underlying49, st74, zt74, it74, ct74, mt74, se74, Tryz.underlying74, Tryz.results64, U.out] <;> rfl) : a = b := h
structure SpS where
  f : MF
  x : List Row
  y : List Row
def splStep (st : SpS) (r : Row) : SpS := if (st.f (keyB r)).getD 0 > 0 then ⟨upd st.f (keyB r) ((st.f (keyB r)).getD 0 - 1), st.x ++ [r], st.y⟩ else ⟨st.f, st.x, st.y ++ [r]⟩
def splR (a b : List Row) : SpS := a.foldl splStep ⟨cntF b, [], []⟩
theorem splR_snoc (a b : List Row) (r : Row) : splR (a ++ [r]) b = splStep (splR a b) r := by rw [splR, List.foldl_append]; rfl
theorem splR_succ {a : List Row} (b : List Row) {i : Nat} (h : i < a.length) : splR (a.take (i + 1)) b = splStep (splR (a.take i) b) a[i] := by rw [List.take_succ_eq_append_getElem h, splR_snoc]
theorem snoc_ind {α : Type} {P : List α → Prop} (h0 : P []) (h1 : ∀ l a, P l → P (l ++ [a])) : ∀ l, P l := by
  have : ∀ n (l : List α), n = l.length → P l := by
    intro n
    induction n with
    | zero => intro l h; have := List.eq_nil_of_length_eq_zero h.symm; subst this; exact h0
    | succ n ih =>
      intro l h
      have hne : l ≠ [] := by intro e; subst e; simp at h
      rw [← List.dropLast_concat_getLast hne]
      exact h1 _ _ (ih _ (by simp; omega))
  exact fun l => this _ l rfl
theorem splR_bd (b a : List Row) : (splR a b).x.length + (splR a b).y.length = a.length ∧ ∀ s, 0 ≤ ((splR a b).f s).getD 0 ∧ ((splR a b).f s).getD 0 ≤ b.length := by
  induction a using snoc_ind with
  | h0 => exact ⟨rfl, fun s => cntF_le b s⟩
  | h1 a r ih =>
    rw [splR_snoc, splStep]
    split
    · rename_i hp
      refine ⟨by simp; omega, fun s => ?_⟩
      simp only [upd]
      split
      · have := ih.2 (keyB r); simp; omega
      · exact ih.2 s
    · exact ⟨by simp; omega, ih.2⟩
theorem rg64v14 {T : List Rid} {p : Path} {Q : Exit → SL → Prop} {tm : List AV} {L : RL} {n : Nat} {c : Code} {l : List Oper} (n' : Nat) (Qs : List Nat) (h : ∀ all, (ro c).toList = all → GoI Tryz.prog T p all false Qs n 0 l tm L fun tm' L' => Q .normal ⟨tm', L', n'⟩) (hk : kd c = 0 := by kernel_rfl) (hr : rd c = false := by kernel_rfl) (hl : (ro c).toList = l := by dsimp only [ro, s1, s2, c1, c2, bc, bod, Tryz.f64, Option.getD_some] <;> exact rfl) (hn : n + (ro c).size = n' := by kernel_rfl) : PI Tryz.prog T p c Q ⟨tm, L, n⟩ := PI.rg n' Qs hk hr hl (fun h => by cases h) hn (h _ rfl)
set_option maxHeartbeats 1000000 in
set_option maxRecDepth 100000 in
theorem okSplit (a b : Bag) (ha : a.rows.length ≤ 1000000) (hb : b.rows.length ≤ 1000000) (hra : ∀ r ∈ a.rows, KeyOK r) (hrb : ∀ r ∈ b.rows, KeyOK r) : CallsOK Tryz.prog 64 [aBag a, aBag b] (.tup [aRows (splR a.rows b.rows).x, aRows (splR a.rows b.rows).y]) := by
  have hl' : a.rows.length ≤ maxLen := by unfold maxLen; omega
  have U : Hid True := ⟨trivial⟩
  refine CallsOK.of_pi mixed Tryz.func64 (by kernel_rfl) (by kernel_rfl) (?_ : PI _ _ _ _ _ ⟨[aBag a, aBag b, .und, .und, .und, .und, .und, .und, .und, .und, .und, .und, .und, .und, .und, .und, .und, .und, .und, .und, .und, .und, .und, .und, .und, .und, .und, .und, .und, .und, .und, .und, .und, .und, .und, .und, .und, .und, .und, .und, .und, .und, .und], [], 0⟩)
  refine PI.q ?_
  refine rg64v14 (4) [] fun all1 _ => ?_
  refine GoI.runN 2 nf14 ?_
  refine GoI.z nf14 ?_
  refine PI.q ?_
  refine rg64v14 (8) [] fun all2 _ => ?_
  refine GoI.runN 2 nf14 ?_
  refine GoI.call2 nf14 nf14 (by exact okCounts b.rows hb hrb) (by repeat (first | exact trivial | exact Or.inl rfl | exact Or.inr (Or.inl rfl) | exact Or.inr (Or.inr rfl) | apply And.intro)) (by first | exact .inr rfl | exact .inl rfl) (by exact fun h => by cases h) ?_
  try simp only [List.reverse_cons, List.reverse_nil, List.nil_append, List.cons_append, List.append_assoc]
  refine GoI.z nf14 ?_
  refine PI.q ?_
  refine rg64v14 (10) [] fun all3 _ => ?_
  refine GoI.z nf14 ?_
  refine PI.q ?_
  refine PI.q ?_
  refine rg64v14 (14) [] fun all4 _ => ?_
  refine GoI.runN 2 nf14 ?_
  refine GoI.z nf14 ?_
  refine PI.b 0 ?_
  refine PI.lo (by kernel_rfl) (X := Nat) (fun i => (18, aI i) :: (7, .sl ((splR (a.rows.take i) b.rows).x.map fun r => [aRow r]) (some (([8], 0), (splR (a.rows.take i) b.rows).x.length))) :: (8, .sl ((splR (a.rows.take i) b.rows).y.map fun r => [aRow r]) (some (([9], 0), (splR (a.rows.take i) b.rows).y.length))) :: uk [10, 11, 19, 20, 21, 22, 23, 24, 25, 26, 27, 28, 29, 30, 31, 32, 33, 34, 35, 36, 37, 38, 39, 40]) (fun i => [(([6], 0), .map 9 3 false (splR (a.rows.take i) b.rows).f), (([8], 0), .tok (splR (a.rows.take i) b.rows).x.length 49 1), (([9], 0), .tok (splR (a.rows.take i) b.rows).y.length 49 1)]) (fun k i => k = a.rows.length - i ∧ i ≤ a.rows.length) (a.rows.length) (0) (GhI.of_wk ⟨by simp [ovr, uk, lessT, splR], by simp [lessR, lk, splR], by (try dsimp only); omega, keep0⟩) (by simp) ?_
  intro k1 x1 j1 hr1
  obtain ⟨rfl, hi1⟩ := hr1
  simp only [ovr, uk, List.set_cons_zero, List.set_cons_succ]
  refine PI.q ?_
  refine rg64v14 (j1 + 15) [] fun all5 _ => ?_
  refine GoI.z nf14 ?_
  refine PI.q ?_
  refine PI.d 19 nf14 (fun hb1 => ?_) (fun hb1 => ?_)
  ·
   try simp only [hb1]
   obtain ⟨hlt, hw⟩ := up hb1 hl'
   have hx := rows_at hlt
   have hts := splR_succ b.rows hlt
   have hbd := splR_bd b.rows (a.rows.take x1)
   have hlen : (a.rows.take x1).length = x1 := by simp; omega
   generalize hst : splR (a.rows.take x1) b.rows = st
   rw [hst] at hts hbd
   have hv := hbd.2 (keyB a.rows[x1])
   have hb1' : (st.x.length + 1) * 24 ≤ 140737488355328 := by omega
   have hb2' : (st.y.length + 1) * 24 ≤ 140737488355328 := by omega
   have hw2 : IntKind.i64.wrap ((st.f (keyB a.rows[x1])).getD 0 - 1) = (st.f (keyB a.rows[x1])).getD 0 - 1 := w64 (by omega) (by omega)
   replace U := U.cons (And.intro (hw) (And.intro (hx) (And.intro (hw2) (And.intro (hb1') (hb2')))))
   refine PI.s ?_
   refine PI.q ?_
   refine PI.b 1 ?_
   refine PI.q ?_
   refine rg64v14 (j1 + 18) [] fun all6 _ => ?_
   refine GoI.runN 2 nf14 ?_
   refine GoI.z nf14 ?_
   refine PI.q ?_
   refine rg64v14 (j1 + 21) [] fun all7 _ => ?_
   refine GoI.run nf14 ?_
   refine GoI.call nf14 nf14 (by exact okKey _ (hra _ (List.getElem_mem _)).ok (hra _ (List.getElem_mem _)).ln) ?_
   refine GoI.z nf14 ?_
   refine PI.q ?_
   refine rg64v14 (j1 + 25) [] fun all8 _ => ?_
   refine GoI.runN 2 nf14 ?_
   refine GoI.z nf14 ?_
   refine PI.d 27 nf14 (fun hb2 => ?_) (fun hb2 => ?_)
   ·
    try simp only [hb2]
    have hc : (st.f (keyB a.rows[x1])).getD 0 > 0 := by simpa using hb2
    rw [splStep, if_pos hc] at hts
    refine PI.q ?_
    refine rg64v14 (j1 + 30) [] fun all9 _ => ?_
    refine GoI.runN 2 nf14 ?_
    refine GoI.runN 2 nf14 ?_
    refine GoI.z nf14 ?_
    refine rg64v14 (j1 + 35) [] fun all10 _ => ?_
    refine GoI.runN 2 nf14 ?_
    refine GoI.runN 2 nf14 ?_
    refine GoI.z nf14 ?_
    refine rg64v14 (j1 + 37) [] fun all12 _ => ?_
    refine GoI.z nf14 ?_
    refine ⟨a.rows.length - (x1 + 1), x1 + 1, j1 + 23, by omega, ⟨rfl, by omega⟩, GhI.of_wk ⟨by simp [ovr, uk, lessT, hts], by simp [lessR, lk, hts] <;> rfl, by (try dsimp only); omega, keep0⟩⟩
   try simp only [hb2]
   have hc : ¬ (st.f (keyB a.rows[x1])).getD 0 > 0 := by simpa using hb2
   rw [splStep, if_neg hc] at hts
   refine rg64v14 (j1 + 30) [] fun all11 _ => ?_
   refine GoI.runN 2 nf14 ?_
   refine GoI.runN 2 nf14 ?_
   refine GoI.z nf14 ?_
   refine rg64v14 (j1 + 32) [] fun all12 _ => ?_
   refine GoI.z nf14 ?_
   refine ⟨a.rows.length - (x1 + 1), x1 + 1, j1 + 18, by omega, ⟨rfl, by omega⟩, GhI.of_wk ⟨by simp [ovr, uk, lessT, hts], by simp [lessR, lk, hts] <;> rfl, by (try dsimp only); omega, keep0⟩⟩
  try simp only [hb1]
  have hge := dn hb1
  have hxe : x1 = a.rows.length := by omega
  subst hxe
  simp only [List.take_length]
  refine PI.e 0 ?_
  refine PI.q ?_
  refine rg64v14 (j1 + 19) [] fun all13 _ => ?_
  refine GoI.runN 2 nf14 ?_
  refine GoI.z nf14 ?_
  refine PI.r ?_
  exact FinI.mk _ nf14 (by clear U; first | (simp [finR, nrmA, nrm, AV.content]; done) | rfl)
end Go.FE
namespace Go.FE
open Go.Proofs
theorem nf15 {α : Type} {a b : α} (h : a = b := by simp only [goP, goN, mrk, Nat.reduceMul, Nat.one_mul, Nat.mul_one, eq_self, false_implies, implies_true, Nat.reduceLT, List.getElem?_toArray, isCall, List.contains_nil, List.contains_cons, Nat.reduceBEq, Bool.or_false, Bool.or_self, List.length_map, gOf, step, stepM, stepP, ev, okV, if_true, if_false, allocA, storeA, boxA, one1, tokN, tok1, buildA, rowA, nrmP, partV, partA, fieldA, fieldV, elemA, lenA, bltA, asSl, appA, makeA, makeR, cutA, bndA, binV, intOp, strOp, unV, eqB, nilB, sameT, List.all_cons, List.all_nil, Bool.and_self, Bool.and_true, Bool.true_and, List.map_cons, List.map_nil, List.nil_append, List.cons_append, List.append_nil, AV.bare, AV.content, AV.clean, AV.one, putD, List.set_cons_zero, List.set_cons_succ, List.reverse_cons, List.reverse_nil, List.getD_cons_zero, List.getD_cons_succ, List.getElem?_cons_zero, List.getElem?_cons_succ, Option.getD_some, Option.map_some, Option.map_none, Option.bind_some, List.length_cons, List.length_nil, lk, cellsA, fillA, fillS, isAggD, spl, nrm, nrmA, List.take_succ_cons, List.take_zero, List.drop_succ_cons, List.drop_zero, List.drop_nil, List.take_nil, Nat.reduceAdd, Nat.zero_add, Nat.add_zero, Nat.add_assoc, Nat.add_left_cancel_iff, reduceCtorEq, Prod.mk.injEq, List.cons.injEq, and_self, and_true, true_and, Nat.le_refl, Nat.reduceLeDiff, Nat.reduceEqDiff, List.getElem?_nil, Int.reduceToNat, Int.reduceLE, Int.reduceLT, ite_self, List.forall_mem_cons, List.not_mem_nil, false_and, and_false, Bool.false_eq_true, List.replicate_zero, List.replicate_succ, Int.toNat_natCast, neJ2, neJ2', neJ3, neJ3', callOf, callOf2, fnOf, argsA, args2, Array.isEmpty_empty, resLL, resVL, beq_self_eq_true, st3, zt3, it3, ct3, se3, Tryz.underlying3, st9, zt9, it9, ct9, se9, Tryz.underlying9, st22, zt22, it22, ct22, se22, Tryz.underlying22, st23, zt23, it23, ct23, se23, Tryz.underlying23, st25, zt25, it25, ct25, pt25, eqs25, se25, Tryz.underlying25, st42, zt42, it42, ct42, pt42, se42, Tryz.underlying42, st49, zt49, it49, ct49, se49, Tryz.underlying49, st88, Tryz.underlying88, Tryz.results25, Tryz.results27, Tryz.results23, newB, oldB, decide_true, decide_false, Bool.not_true, Bool.not_false, Bool.true_or, Bool.false_or, Bool.or_true, lookA, look, Option.getD_none, updA, unMk, st4, zt4, it4, ct4, se4, Tryz.underlying4, st100, zt100, it100, ct100, mt100, se100, Tryz.underlying100, Tryz.results38, U.out] <;> rfl) : a = b := h
structure OkBag (b : Bag) : Prop where
  k : b.kinds.length ≤ 1000000
  l : b.rows.length ≤ 400000
  r : ∀ r ∈ b.rows, KeyOK r ∧ r.length ≤ 1000000
theorem splR_mem (b a : List Row) : (∀ r, r ∈ (splR a b).x → r ∈ a) ∧ ∀ r, r ∈ (splR a b).y → r ∈ a := by
  induction a using snoc_ind with
  | h0 => exact ⟨fun r h => (by cases h), fun r h => (by cases h)⟩
  | h1 a r ih =>
    rw [splR_snoc, splStep]
    split
    · exact ⟨fun q hq => by rcases List.mem_append.1 hq with h | h <;> simp_all, fun q hq => by simp_all⟩
    · exact ⟨fun q hq => by simp_all, fun q hq => by rcases List.mem_append.1 hq with h | h <;> simp_all⟩
theorem rg25v15 {T : List Rid} {p : Path} {Q : Exit → SL → Prop} {tm : List AV} {L : RL} {n : Nat} {c : Code} {l : List Oper} (n' : Nat) (Qs : List Nat) (h : ∀ all, (ro c).toList = all → GoI Tryz.prog T p all false Qs n 0 l tm L fun tm' L' => Q .normal ⟨tm', L', n'⟩) (hk : kd c = 0 := by kernel_rfl) (hr : rd c = false := by kernel_rfl) (hl : (ro c).toList = l := by dsimp only [ro, s1, s2, c1, c2, bc, bod, Tryz.f25, Option.getD_some] <;> exact rfl) (hn : n + (ro c).size = n' := by kernel_rfl) : PI Tryz.prog T p c Q ⟨tm, L, n⟩ := PI.rg n' Qs hk hr hl (fun h => by cases h) hn (h _ rfl)
theorem okExcept (a b : Bag) (ha : OkBag a) (hb : OkBag b) : CallsOK Tryz.prog 25 [aBag a, aBag b] (aBag ⟨a.kinds, srt (splR a.rows b.rows).y⟩) := by
  have hbd := (splR_bd b.rows a.rows).1
  have hl := ha.l
  have U : Hid True := ⟨trivial⟩
  refine CallsOK.of_pi mixed Tryz.func25 (by kernel_rfl) (by kernel_rfl) (?_ : PI _ _ _ _ _ ⟨[aBag a, aBag b, .und, .und, .und, .und, .und, .und, .und, .und, .und, .und, .und, .und, .und, .und, .und], [], 0⟩)
  refine PI.q ?_
  refine rg25v15 (3) [] fun all1 _ => ?_
  refine GoI.runN 2 nf15 ?_
  refine GoI.z nf15 ?_
  refine PI.q ?_
  refine rg25v15 (11) [] fun all2 _ => ?_
  refine GoI.runN 2 nf15 ?_
  refine GoI.call nf15 nf15 (by exact okSplit a b (by have := ha.l; omega) (by have := hb.l; omega) (fun r h => (ha.r r h).1) (fun r h => (hb.r r h).1)) ?_
  refine GoI.runN 2 nf15 ?_
  refine GoI.runN 2 nf15 ?_
  refine GoI.z nf15 ?_
  refine PI.q ?_
  refine rg25v15 (16) [] fun all3 _ => ?_
  refine GoI.runN 2 nf15 ?_
  refine GoI.run nf15 ?_
  refine GoI.call nf15 nf15 (by exact okBag _ _ ha.k ⟨by omega, fun r h => (ha.r r ((splR_mem _ _).2 r h)).2⟩) ?_
  refine GoI.z nf15 ?_
  refine PI.r ?_
  exact FinI.mk _ nf15 (by clear U; first | (simp [finR, nrmA, nrm, AV.content]; done) | rfl)
theorem rg27v15 {T : List Rid} {p : Path} {Q : Exit → SL → Prop} {tm : List AV} {L : RL} {n : Nat} {c : Code} {l : List Oper} (n' : Nat) (Qs : List Nat) (h : ∀ all, (ro c).toList = all → GoI Tryz.prog T p all false Qs n 0 l tm L fun tm' L' => Q .normal ⟨tm', L', n'⟩) (hk : kd c = 0 := by kernel_rfl) (hr : rd c = false := by kernel_rfl) (hl : (ro c).toList = l := by dsimp only [ro, s1, s2, c1, c2, bc, bod, Tryz.f27, Option.getD_some] <;> exact rfl) (hn : n + (ro c).size = n' := by kernel_rfl) : PI Tryz.prog T p c Q ⟨tm, L, n⟩ := PI.rg n' Qs hk hr hl (fun h => by cases h) hn (h _ rfl)
theorem okIntersect (a b : Bag) (ha : OkBag a) (hb : OkBag b) : CallsOK Tryz.prog 27 [aBag a, aBag b] (aBag ⟨a.kinds, srt (splR a.rows b.rows).x⟩) := by
  have hbd := (splR_bd b.rows a.rows).1
  have hl := ha.l
  have U : Hid True := ⟨trivial⟩
  refine CallsOK.of_pi mixed Tryz.func27 (by kernel_rfl) (by kernel_rfl) (?_ : PI _ _ _ _ _ ⟨[aBag a, aBag b, .und, .und, .und, .und, .und, .und, .und, .und, .und, .und, .und, .und, .und, .und, .und], [], 0⟩)
  refine PI.q ?_
  refine rg27v15 (3) [] fun all1 _ => ?_
  refine GoI.runN 2 nf15 ?_
  refine GoI.z nf15 ?_
  refine PI.q ?_
  refine rg27v15 (11) [] fun all2 _ => ?_
  refine GoI.runN 2 nf15 ?_
  refine GoI.call nf15 nf15 (by exact okSplit a b (by have := ha.l; omega) (by have := hb.l; omega) (fun r h => (ha.r r h).1) (fun r h => (hb.r r h).1)) ?_
  refine GoI.runN 2 nf15 ?_
  refine GoI.runN 2 nf15 ?_
  refine GoI.z nf15 ?_
  refine PI.q ?_
  refine rg27v15 (16) [] fun all3 _ => ?_
  refine GoI.runN 2 nf15 ?_
  refine GoI.run nf15 ?_
  refine GoI.call nf15 nf15 (by exact okBag _ _ ha.k ⟨by omega, fun r h => (ha.r r ((splR_mem _ _).1 r h)).2⟩) ?_
  refine GoI.z nf15 ?_
  refine PI.r ?_
  exact FinI.mk _ nf15 (by clear U; first | (simp [finR, nrmA, nrm, AV.content]; done) | rfl)
theorem rg23v15 {T : List Rid} {p : Path} {Q : Exit → SL → Prop} {tm : List AV} {L : RL} {n : Nat} {c : Code} {l : List Oper} (n' : Nat) (Qs : List Nat) (h : ∀ all, (ro c).toList = all → GoI Tryz.prog T p all false Qs n 0 l tm L fun tm' L' => Q .normal ⟨tm', L', n'⟩) (hk : kd c = 0 := by kernel_rfl) (hr : rd c = false := by kernel_rfl) (hl : (ro c).toList = l := by dsimp only [ro, s1, s2, c1, c2, bc, bod, Tryz.f23, Option.getD_some] <;> exact rfl) (hn : n + (ro c).size = n' := by kernel_rfl) : PI Tryz.prog T p c Q ⟨tm, L, n⟩ := PI.rg n' Qs hk hr hl (fun h => by cases h) hn (h _ rfl)
theorem rd23v15 {T : List Rid} {p : Path} {Q : Exit → SL → Prop} {tm : List AV} {L : RL} {n : Nat} {c : Code} {l : List Oper} (n' : Nat) (Qs : List Nat) (h : ∀ all, (ro c).toList = all → GoI Tryz.prog T p all true Qs n 0 l tm L fun tm' L' => Q .normal ⟨tm', L', n'⟩) (hk : kd c = 0 := by kernel_rfl) (hr : rd c = true := by kernel_rfl) (hl : (ro c).toList = l := by dsimp only [ro, s1, s2, c1, c2, bc, bod, Tryz.f23, Option.getD_some] <;> exact rfl) (hn : n + (ro c).size = n' := by kernel_rfl) (hd : drawOK (ro c) Qs = true := by kernel_rfl) : PI Tryz.prog T p c Q ⟨tm, L, n⟩ := PI.rg n' Qs hk hr hl (fun _ => hd) hn (h _ rfl)
theorem okUnion (a b : Bag) (ha : OkBag a) (hb : OkBag b) : CallsOK Tryz.prog 23 [aBag a, aBag b] (aBag ⟨a.kinds, srt (a.rows ++ b.rows)⟩) := by
  have hl := ha.l
  have hl' := hb.l
  have U : Hid True := ⟨trivial⟩
  replace U := U.cons (And.intro (rowLen (f := fun r : Row => [aRow r]) (n := 1) (fun _ => rfl) a.rows) (And.intro (rowLen (f := fun r : Row => [aRow r]) (n := 1) (fun _ => rfl) b.rows) (And.intro ((show a.rows.length * 24 ≤ 140737488355328 by omega)) ((show (a.rows.length + b.rows.length) * 24 ≤ 140737488355328 by omega)))))
  refine CallsOK.of_pi mixed Tryz.func23 (by kernel_rfl) (by kernel_rfl) (?_ : PI _ _ _ _ _ ⟨[aBag a, aBag b, .und, .und, .und, .und, .und, .und, .und, .und, .und, .und, .und, .und, .und], [], 0⟩)
  refine PI.q ?_
  refine rg23v15 (3) [] fun all1 _ => ?_
  refine GoI.runN 2 nf15 ?_
  refine GoI.z nf15 ?_
  refine PI.q ?_
  refine rd23v15 (14) [2000001, 1000005, 2000007, 1000008, 2000004] fun all2 _ => ?_
  refine GoI.runN 2 nf15 ?_
  refine GoI.runN 2 nf15 ?_
  refine GoI.runN 2 nf15 ?_
  refine GoI.runN 2 nf15 ?_
  refine GoI.run nf15 ?_
  refine GoI.call nf15 nf15 (by rw [← List.map_append]; exact okBag _ _ ha.k ⟨by simp; omega, fun r h => by rcases List.mem_append.1 h with h | h; exact (ha.r r h).2; exact (hb.r r h).2⟩) ?_
  refine GoI.z nf15 ?_
  refine PI.r ?_
  exact FinI.mk _ nf15 (by clear U; first | (simp [finR, nrmA, nrm, AV.content]; done) | rfl)
structure DsS where
  f : MF
  x : List Row
def dstStep (st : DsS) (r : Row) : DsS := if (st.f (keyB r)).getD 0 != 0 then st else ⟨upd st.f (keyB r) 1, st.x ++ [r]⟩
def dstR (a : List Row) : DsS := a.foldl dstStep ⟨fun _ => none, []⟩
end Go.FE
