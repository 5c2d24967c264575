/- Sums. Aggregates. The document's aggregates. -/
import Derived.Test.YtmblejfjbnoodaaGreatDoorN09
import Derived.Test.YtmblejfjbnoodaaGreatDoorN19
set_option linter.unusedVariables false
set_option linter.unusedSimpArgs false
namespace Go.FE
open Go.Proofs
theorem nf21 {α : Type} {a b : α} (h : a = b := by simp only [goP, goN, mrk, Nat.reduceMul, Nat.one_mul, Nat.mul_one, eq_self, false_implies, implies_true, Nat.reduceLT, List.getElem?_toArray, isCall, List.contains_nil, List.contains_cons, Nat.reduceBEq, Bool.or_false, Bool.or_self, List.length_map, gOf, step, stepM, stepP, ev, okV, if_true, if_false, allocA, storeA, boxA, one1, tokN, tok1, buildA, rowA, nrmP, partV, partA, fieldA, fieldV, elemA, lenA, bltA, asSl, appA, makeA, makeR, cutA, bndA, binV, intOp, strOp, unV, eqB, nilB, sameT, List.all_cons, List.all_nil, Bool.and_self, Bool.and_true, Bool.true_and, List.map_cons, List.map_nil, List.nil_append, List.cons_append, List.append_nil, AV.bare, AV.content, AV.clean, AV.one, putD, List.set_cons_zero, List.set_cons_succ, List.reverse_cons, List.reverse_nil, List.getD_cons_zero, List.getD_cons_succ, List.getElem?_cons_zero, List.getElem?_cons_succ, Option.getD_some, Option.map_some, Option.map_none, Option.bind_some, List.length_cons, List.length_nil, lk, cellsA, fillA, fillS, isAggD, spl, nrm, nrmA, List.take_succ_cons, List.take_zero, List.drop_succ_cons, List.drop_zero, List.drop_nil, List.take_nil, Nat.reduceAdd, Nat.zero_add, Nat.add_zero, Nat.add_assoc, Nat.add_left_cancel_iff, reduceCtorEq, Prod.mk.injEq, List.cons.injEq, and_self, and_true, true_and, Nat.le_refl, Nat.reduceLeDiff, Nat.reduceEqDiff, List.getElem?_nil, Int.reduceToNat, Int.reduceLE, Int.reduceLT, ite_self, List.forall_mem_cons, List.not_mem_nil, false_and, and_false, Bool.false_eq_true, List.replicate_zero, List.replicate_succ, Int.toNat_natCast, neJ2, neJ2', neJ3, neJ3', callOf, callOf2, fnOf, argsA, args2, Array.isEmpty_empty, resLL, resVL, beq_self_eq_true, st3, zt3, it3, ct3, se3, Tryz.underlying3, st4, zt4, it4, ct4, se4, Tryz.underlying4, st9, zt9, it9, ct9, se9, Tryz.underlying9, st25, zt25, it25, ct25, pt25, eqs25, se25, Tryz.underlying25, st49, zt49, it49, ct49, se49, Tryz.underlying49, Tryz.results95, Int.natCast_nonneg, U.out] <;> rfl) : a = b := h
def inV (v : Vl) : Prop := -1125899906842624 ≤ v.i ∧ v.i ≤ 1125899906842624
structure SmX where
  i : Nat
  hi : Int
  lo : Int
structure SmI (l : List Vl) (x : SmX) : Prop where
  le : x.i ≤ l.length
  sm : x.hi * 1048576 + x.lo = sumI (l.take x.i)
  l0 : 0 ≤ x.lo
  l1 : x.lo ≤ x.i * 1048575
  h0 : -(x.i * 1073741824) ≤ x.hi
  h1 : x.hi ≤ x.i * 1073741824
theorem intV_null {n : Int} (h : n < -1125899906842624 ∨ 1125899906842624 < n) : intV n = nullV := by
  unfold intV orNull
  have : validV ⟨1, n, .empty⟩ = false := by
    unfold validV
    simp only [beq_iff_eq]
    rcases h with h | h
    · simp [show ¬ (-1125899906842624 ≤ n) by omega]
    · simp [show ¬ (n ≤ 1125899906842624) by omega]
  rw [this]; rfl
theorem rg95v21 {T : List Rid} {p : Path} {Q : Exit → SL → Prop} {tm : List AV} {L : RL} {n : Nat} {c : Code} {l : List Oper} (n' : Nat) (Qs : List Nat) (h : ∀ all, (ro c).toList = all → GoI Tryz.prog T p all false Qs n 0 l tm L fun tm' L' => Q .normal ⟨tm', L', n'⟩) (hk : kd c = 0 := by kernel_rfl) (hr : rd c = false := by kernel_rfl) (hl : (ro c).toList = l := by dsimp only [ro, s1, s2, c1, c2, bc, bod, Tryz.f95, Option.getD_some] <;> exact rfl) (hn : n + (ro c).size = n' := by kernel_rfl) : PI Tryz.prog T p c Q ⟨tm, L, n⟩ := PI.rg n' Qs hk hr hl (fun h => by cases h) hn (h _ rfl)
set_option maxHeartbeats 1000000 in
set_option maxRecDepth 100000 in
theorem okSum (l : List Vl) (hl : l.length ≤ 100000) (hv : ∀ v ∈ l, inV v) : CallsOK Tryz.prog 95 [aRow l] (aVal (intV (sumI l))) := by
  have hl' : l.length ≤ maxLen := by unfold maxLen; omega
  have U : Hid True := ⟨trivial⟩
  replace U := U.cons (And.intro (shr20) (and20))
  refine CallsOK.of_pi mixed Tryz.func95 (by kernel_rfl) (by kernel_rfl) (?_ : PI _ _ _ _ _ ⟨[aRow l, .und, .und, .und, .und, .und, .und, .und, .und, .und, .und, .und, .und, .und, .und, .und, .und, .und, .und, .und, .und, .und, .und, .und, .und, .und, .und, .und, .und, .und, .und, .und, .und, .und, .und, .und, .und, .und, .und, .und, .und, .und, .und, .und, .und, .und, .und, .und, .und, .und, .und], [], 0⟩)
  refine PI.q ?_
  refine rg95v21 (1) [] fun all1 _ => ?_
  refine GoI.z nf21 ?_
  refine PI.q ?_
  refine rg95v21 (3) [] fun all2 _ => ?_
  refine GoI.z nf21 ?_
  refine PI.q ?_
  refine PI.q ?_
  refine rg95v21 (6) [] fun all3 _ => ?_
  refine GoI.runN 2 nf21 ?_
  refine GoI.z nf21 ?_
  refine PI.b 0 ?_
  refine PI.lo (by kernel_rfl) (X := SmX) (fun x => (10, aI x.i) :: (3, aI x.hi) :: (4, aI x.lo) :: uk [6, 11, 12, 13, 14, 15, 16, 17, 18, 19, 20, 21, 22, 23, 24]) (fun _ => [(([0], 0), .var 25 [aI 0, aI 0, aS .empty])]) (fun k x => k = l.length - x.i ∧ SmI l x) (l.length) (⟨0, 0, 0⟩) (GhI.of_wk ⟨by simp [ovr, uk, lessT, neJ2, neJ2', neJ3, neJ3'], by simp [lessR, lk, neJ2, neJ2', neJ3, neJ3'], by (try dsimp only); omega, keep0⟩) (⟨rfl, Nat.zero_le _, by simp [sumI], by decide, by decide, by decide, by decide⟩) ?_
  intro k1 x1 j1 hr1
  obtain ⟨rfl, hM⟩ := hr1
  have q1 := hM.le
  have q2 := hM.sm
  have q3 := hM.l0
  have q4 := hM.l1
  have q5 := hM.h0
  have q6 := hM.h1
  simp only [ovr, uk, List.set_cons_zero, List.set_cons_succ]
  refine PI.q ?_
  refine rg95v21 (j1 + 7) [] fun all4 _ => ?_
  refine GoI.z nf21 ?_
  refine PI.q ?_
  refine PI.d 11 nf21 (fun hb1 => ?_) (fun hb1 => ?_)
  ·
   try simp only [hb1]
   obtain ⟨hlt, hw⟩ := up hb1 hl'
   have hx := row_at hlt
   have hvi := hv _ (List.getElem_mem hlt)
   unfold inV at hvi
   have hts := sumI_succ hlt
   generalize hz : l[x1.i].i = z
   have w1 : IntKind.i64.wrap (x1.hi + z / 1048576) = x1.hi + z / 1048576 := w64 (by omega) (by omega)
   have w2 : IntKind.i64.wrap (x1.lo + z % 1048576) = x1.lo + z % 1048576 := w64 (by omega) (by omega)
   replace U := U.cons (And.intro (hw) (And.intro (hx) (And.intro (hz) (And.intro (w1) (w2)))))
   refine PI.s ?_
   refine PI.q ?_
   refine PI.b 1 ?_
   refine PI.q ?_
   refine rg95v21 (j1 + 11) [] fun all5 _ => ?_
   refine GoI.runN 2 nf21 ?_
   refine GoI.z nf21 ?_
   refine PI.q ?_
   refine rg95v21 (j1 + 17) [] fun all6 _ => ?_
   refine GoI.runN 2 nf21 ?_
   refine GoI.runN 2 nf21 ?_
   refine GoI.z nf21 ?_
   refine rg95v21 (j1 + 23) [] fun all7 _ => ?_
   refine GoI.runN 2 nf21 ?_
   refine GoI.runN 2 nf21 ?_
   refine GoI.z nf21 ?_
   refine rg95v21 (j1 + 25) [] fun all8 _ => ?_
   refine GoI.z nf21 ?_
   refine ⟨l.length - (x1.i + 1), ⟨x1.i + 1, x1.hi + z / 1048576, x1.lo + z % 1048576⟩, j1 + 19, by omega, ⟨rfl, by dsimp only; omega, by dsimp only; rw [hts]; omega, by dsimp only; omega, by dsimp only; omega, by dsimp only; omega, by dsimp only; omega⟩, GhI.of_wk ⟨by simp [ovr, uk, lessT, neJ2, neJ2', neJ3, neJ3'], by simp [lessR, lk, neJ2, neJ2', neJ3, neJ3'], by (try dsimp only); omega, keep0⟩⟩
  try simp only [hb1]
  have hge := dn hb1
  rw [List.take_of_length_le hge] at q2
  have w3 : IntKind.i64.wrap (x1.hi + x1.lo / 1048576) = x1.hi + x1.lo / 1048576 := w64 (by omega) (by omega)
  generalize hH : x1.hi + x1.lo / 1048576 = H
  generalize hL : x1.lo % 1048576 = L
  have hS : H * 1048576 + L = sumI l := by omega
  have hL0 : 0 ≤ L ∧ L < 1048576 := by omega
  rw [hH] at w3
  replace U := U.cons (And.intro (w3) (And.intro (hH) (hL)))
  refine PI.e 0 ?_
  refine PI.q ?_
  refine rg95v21 (j1 + 12) [] fun all9 _ => ?_
  refine GoI.runN 2 nf21 ?_
  refine GoI.runN 2 nf21 ?_
  refine GoI.z nf21 ?_
  refine PI.q ?_
  refine rg95v21 (j1 + 15) [] fun all10 _ => ?_
  refine GoI.runN 2 nf21 ?_
  refine GoI.z nf21 ?_
  refine PI.q ?_
  refine PI.q ?_
  refine rg95v21 (j1 + 21) [] fun all11 hall11 => ?_
  have hgd11_2 : (all11[2]?).bind (fun o => o.dst) = some 33 := by rw [← hall11]; kernel_rfl
  replace U := U.cons (hgd11_2)
  refine GoI.runN 2 nf21 ?_
  refine GoI.runN 1 nf21 ?_
  refine GoI.grd 33 nf21 (fun hg1 => ?_) (fun hg1 => ?_)
  ·
   try simp only [hg1]
   have hc : H < -2147483648 := by simpa using hg1
   have hn := intV_null (n := sumI l) (by omega)
   refine GoI.runN 2 nf21 ?_
   refine GoI.z nf21 ?_
   refine PI.t 36 nf21 ?_
   refine PI.q ?_
   refine rg95v21 (j1 + 23) [] fun all12 _ => ?_
   refine GoI.call nf21 nf21 (by exact okNull) ?_
   refine GoI.z nf21 ?_
   refine PI.r ?_
   exact FinI.mk _ nf21 (by clear U; first | (rw [hn]; rfl) | rfl)
  try simp only [hg1]
  have hc : ¬ H < -2147483648 := by simpa using hg1
  refine GoI.runN 2 nf21 ?_
  refine GoI.z nf21 ?_
  refine PI.d 36 nf21 (fun hb2 => ?_) (fun hb2 => ?_)
  ·
   try simp only [hb2]
   have hc2 : H > 2147483648 := by simpa using hb2
   have hn := intV_null (n := sumI l) (by omega)
   refine PI.q ?_
   refine rg95v21 (j1 + 23) [] fun all12 _ => ?_
   refine GoI.call nf21 nf21 (by exact okNull) ?_
   refine GoI.z nf21 ?_
   refine PI.r ?_
   exact FinI.mk _ nf21 (by clear U; first | (rw [hn]; rfl) | rfl)
  try simp only [hb2]
  have hc2 : ¬ H > 2147483648 := by simpa using hb2
  have w4 := shl20 (x := H) (by omega) (by omega)
  have w5 : IntKind.i64.wrap (H * 1048576 + L) = sumI l := by rw [hS]; exact w64 (by omega) (by omega)
  replace U := U.cons (And.intro (w4) (w5))
  refine PI.s ?_
  refine PI.q ?_
  refine rg95v21 (j1 + 26) [] fun all13 _ => ?_
  refine GoI.runN 2 nf21 ?_
  refine GoI.runN 2 nf21 ?_
  refine GoI.z nf21 ?_
  refine PI.q ?_
  refine PI.q ?_
  refine rg95v21 (j1 + 32) [] fun all14 hall14 => ?_
  have hgd14_2 : (all14[2]?).bind (fun o => o.dst) = some 44 := by rw [← hall14]; kernel_rfl
  replace U := U.cons (hgd14_2)
  refine GoI.runN 2 nf21 ?_
  refine GoI.runN 1 nf21 ?_
  refine GoI.grd 44 nf21 (fun hg2 => ?_) (fun hg2 => ?_)
  ·
   try simp only [hg2]
   have hc3 : sumI l < -1125899906842624 := by simpa using hg2
   have hn := intV_null (n := sumI l) (by omega)
   refine GoI.runN 2 nf21 ?_
   refine GoI.z nf21 ?_
   refine PI.t 47 nf21 ?_
   refine PI.q ?_
   refine rg95v21 (j1 + 34) [] fun all15 _ => ?_
   refine GoI.call nf21 nf21 (by exact okNull) ?_
   refine GoI.z nf21 ?_
   refine PI.r ?_
   exact FinI.mk _ nf21 (by clear U; first | (rw [hn]; rfl) | rfl)
  try simp only [hg2]
  refine GoI.runN 2 nf21 ?_
  refine GoI.z nf21 ?_
  refine PI.d 47 nf21 (fun hb3 => ?_) (fun hb3 => ?_)
  ·
   try simp only [hb3]
   have hc3 : sumI l > 1125899906842624 := by simpa using hb3
   have hn := intV_null (n := sumI l) (by omega)
   refine PI.q ?_
   refine rg95v21 (j1 + 34) [] fun all15 _ => ?_
   refine GoI.call nf21 nf21 (by exact okNull) ?_
   refine GoI.z nf21 ?_
   refine PI.r ?_
   exact FinI.mk _ nf21 (by clear U; first | (rw [hn]; rfl) | rfl)
  try simp only [hb3]
  refine PI.s ?_
  refine PI.q ?_
  refine rg95v21 (j1 + 35) [] fun all16 _ => ?_
  refine GoI.run nf21 ?_
  refine GoI.call nf21 nf21 (by exact okInt _) ?_
  refine GoI.z nf21 ?_
  refine PI.r ?_
  exact FinI.mk _ nf21 (by clear U; first | (rw [hn]; rfl) | rfl)
end Go.FE
namespace Go.FE
open Go.Proofs
theorem nf22 {α : Type} {a b : α} (h : a = b := by simp only [goP, goN, mrk, Nat.reduceMul, Nat.one_mul, Nat.mul_one, eq_self, false_implies, implies_true, Nat.reduceLT, List.getElem?_toArray, isCall, List.contains_nil, List.contains_cons, Nat.reduceBEq, Bool.or_false, Bool.or_self, List.length_map, gOf, step, stepM, stepP, ev, okV, if_true, if_false, allocA, storeA, boxA, one1, tokN, tok1, buildA, rowA, nrmP, partV, partA, fieldA, fieldV, elemA, lenA, bltA, asSl, appA, makeA, makeR, cutA, bndA, binV, intOp, strOp, unV, eqB, nilB, sameT, List.all_cons, List.all_nil, Bool.and_self, Bool.and_true, Bool.true_and, List.map_cons, List.map_nil, List.nil_append, List.cons_append, List.append_nil, AV.bare, AV.content, AV.clean, AV.one, putD, List.set_cons_zero, List.set_cons_succ, List.reverse_cons, List.reverse_nil, List.getD_cons_zero, List.getD_cons_succ, List.getElem?_cons_zero, List.getElem?_cons_succ, Option.getD_some, Option.map_some, Option.map_none, Option.bind_some, List.length_cons, List.length_nil, lk, cellsA, fillA, fillS, isAggD, spl, nrm, nrmA, List.take_succ_cons, List.take_zero, List.drop_succ_cons, List.drop_zero, List.drop_nil, List.take_nil, Nat.reduceAdd, Nat.zero_add, Nat.add_zero, Nat.add_assoc, Nat.add_left_cancel_iff, reduceCtorEq, Prod.mk.injEq, List.cons.injEq, and_self, and_true, true_and, Nat.le_refl, Nat.reduceLeDiff, Nat.reduceEqDiff, List.getElem?_nil, Int.reduceToNat, Int.reduceLE, Int.reduceLT, ite_self, List.forall_mem_cons, List.not_mem_nil, false_and, and_false, Bool.false_eq_true, List.replicate_zero, List.replicate_succ, Int.toNat_natCast, neJ2, neJ2', neJ3, neJ3', callOf, callOf2, fnOf, argsA, args2, Array.isEmpty_empty, resLL, resVL, beq_self_eq_true, st3, zt3, it3, ct3, se3, Tryz.underlying3, st4, zt4, it4, ct4, se4, Tryz.underlying4, st9, zt9, it9, ct9, se9, Tryz.underlying9, st23, zt23, it23, ct23, se23, Tryz.underlying23, st25, zt25, it25, ct25, pt25, eqs25, se25, Tryz.underlying25, st48, zt48, it48, ct48, pt48, eqs48, se48, Tryz.underlying48, st49, zt49, it49, ct49, se49, Tryz.underlying49, Tryz.results56, Int.natCast_nonneg, neK, neK', U.out] <;> rfl) : a = b := h
def colV (rows : List Row) (i : Nat) : List Vl := (rows.map fun r => r.getD i nullV).filter fun v => v.k != 0
theorem colV_new {l : List Row} {c i : Nat} (h : i < l.length) (hk : ((l[i].getD c nullV).k != 0) = true) : colV (l.take (i + 1)) c = colV (l.take i) c ++ [l[i].getD c nullV] := by
  rw [List.take_succ_eq_append_getElem h, colV, List.map_append, List.filter_append]
  have : List.filter (fun v : Vl => v.k != 0) [l[i].getD c nullV] = [l[i].getD c nullV] := by rw [List.filter_cons, if_pos hk]; rfl
  rw [List.map_cons, List.map_nil, this]; rfl
theorem colV_old {l : List Row} {c i : Nat} (h : i < l.length) (hk : ((l[i].getD c nullV).k != 0) = false) : colV (l.take (i + 1)) c = colV (l.take i) c := by
  rw [List.take_succ_eq_append_getElem h, colV, List.map_append, List.filter_append]
  have : List.filter (fun v : Vl => v.k != 0) [l[i].getD c nullV] = [] := by rw [List.filter_cons, if_neg (by rw [hk]; decide)]; rfl
  rw [List.map_cons, List.map_nil, this, List.append_nil]; rfl
theorem colV_len (l : List Row) (c : Nat) : (colV l c).length ≤ l.length := by
  have := List.length_filter_le (fun v : Vl => v.k != 0) (l.map fun r => r.getD c nullV)
  simpa [colV] using this
theorem colV_in {l : List Row} {c : Nat} (h : ∀ r ∈ l, ∀ v ∈ r, inV v) : ∀ v ∈ colV l c, inV v := by
  intro v hv
  rw [colV, List.mem_filter] at hv
  obtain ⟨r, hr, e⟩ := List.mem_map.1 hv.1
  rw [← e, List.getD_eq_getElem?_getD]
  by_cases hc : c < r.length
  · rw [List.getElem?_eq_getElem hc]; exact h r hr _ (List.getElem_mem hc)
  · rw [List.getElem?_eq_none (by omega)]; unfold inV nullV; decide
def bstep (op : Int) (b v : Vl) : Vl := if (op == 3 && decide (cmpV v b < 0)) || (op == 4 && decide (cmpV v b > 0)) then v else b
def bestV (op : Int) (vs : List Vl) : Vl := vs.foldl (bstep op) (vs.getD 0 nullV)
theorem best_succ {op : Int} {l : List Vl} (b : Vl) {i : Nat} (h : i < l.length) : (l.take (i + 1)).foldl (bstep op) b = bstep op ((l.take i).foldl (bstep op) b) l[i] := by
  rw [List.take_succ_eq_append_getElem h, List.foldl_append]; rfl
def aggV (rows : List Row) (a : Ag) : Vl :=
  if a.arg < 0 then intV rows.length else
  let vs := colV rows a.arg.toNat
  if a.op == 1 then intV vs.length else if vs.length = 0 then nullV else if a.op == 2 then intV (sumI vs) else bestV a.op vs
theorem rg56v22 {T : List Rid} {p : Path} {Q : Exit → SL → Prop} {tm : List AV} {L : RL} {n : Nat} {c : Code} {l : List Oper} (n' : Nat) (Qs : List Nat) (h : ∀ all, (ro c).toList = all → GoI Tryz.prog T p all false Qs n 0 l tm L fun tm' L' => Q .normal ⟨tm', L', n'⟩) (hk : kd c = 0 := by kernel_rfl) (hr : rd c = false := by kernel_rfl) (hl : (ro c).toList = l := by dsimp only [ro, s1, s2, c1, c2, bc, bod, Tryz.f56, Option.getD_some] <;> exact rfl) (hn : n + (ro c).size = n' := by kernel_rfl) : PI Tryz.prog T p c Q ⟨tm, L, n⟩ := PI.rg n' Qs hk hr hl (fun h => by cases h) hn (h _ rfl)
set_option maxHeartbeats 2000000 in
set_option maxRecDepth 100000 in
theorem okAggregate (rows : List Row) (a : Ag) (hl : rows.length ≤ 100000) (hr : ∀ r ∈ rows, r.length ≤ 100000) (hv : ∀ r ∈ rows, ∀ v ∈ r, inV v) : CallsOK Tryz.prog 56 [aRows rows, .agg 2 (encA a)] (aVal (aggV rows a)) := by
  have hl' : rows.length ≤ maxLen := by unfold maxLen; omega
  have U : Hid True := ⟨trivial⟩
  refine CallsOK.of_pi mixed Tryz.func56 (by kernel_rfl) (by kernel_rfl) (?_ : PI _ _ _ _ _ ⟨[aRows rows, .agg 2 (encA a), .und, .und, .und, .und, .und, .und, .und, .und, .und, .und, .und, .und, .und, .und, .und, .und, .und, .und, .und, .und, .und, .und, .und, .und, .und, .und, .und, .und, .und, .und, .und, .und, .und, .und, .und, .und, .und, .und, .und, .und, .und, .und, .und, .und, .und, .und, .und, .und, .und, .und, .und, .und, .und, .und, .und, .und, .und, .und, .und, .und, .und, .und, .und, .und, .und, .und, .und, .und, .und, .und, .und, .und, .und, .und, .und, .und, .und, .und, .und, .und, .und, .und, .und, .und, .und, .und, .und, .und, .und, .und, .und, .und, .und, .und], [], 0⟩)
  refine PI.q ?_
  refine rg56v22 (2) [] fun all1 _ => ?_
  refine GoI.z nf22 ?_
  refine PI.q ?_
  refine PI.q ?_
  refine rg56v22 (5) [] fun all2 _ => ?_
  refine GoI.runN 2 nf22 ?_
  refine GoI.z nf22 ?_
  refine PI.d 14 nf22 (fun hb1 => ?_) (fun hb1 => ?_)
  ·
   try simp only [hb1]
   have hneg : a.arg < 0 := by simpa using hb1
   refine PI.q ?_
   refine rg56v22 (9) [] fun all3 _ => ?_
   refine GoI.runN 2 nf22 ?_
   refine GoI.call nf22 nf22 (by exact okInt _) ?_
   refine GoI.z nf22 ?_
   refine PI.r ?_
   exact FinI.mk _ nf22 (by clear U; simp_all [finR, nrmA, nrm, AV.content, aggV])
  try simp only [hb1]
  have hneg : ¬ a.arg < 0 := by simpa using hb1
  have hge0 : 0 ≤ a.arg := by omega
  replace U := U.cons (hge0)
  refine PI.s ?_
  refine PI.q ?_
  refine rg56v22 (6) [] fun all4 _ => ?_
  refine GoI.z nf22 ?_
  refine PI.q ?_
  refine PI.q ?_
  refine rg56v22 (9) [] fun all5 _ => ?_
  refine GoI.runN 2 nf22 ?_
  refine GoI.z nf22 ?_
  refine PI.b 0 ?_
  refine PI.lo (by kernel_rfl) (X := Nat) (fun i => (20, aI i) :: (5, .sl ((colV (rows.take i) a.arg.toNat).map encV) (some (([5], 0), (colV (rows.take i) a.arg.toNat).length))) :: uk [7, 21, 22, 23, 24, 25, 26, 27, 28, 29, 30, 31, 32, 33, 34, 35, 36, 37, 38, 39, 40, 41, 42, 43, 44, 45, 46]) (fun i => [(([0], 0), .var 48 [aI a.op, aI a.arg]), (([1], 0), .var 25 [aI 0, aI 0, aS .empty]), (([5], 0), .tok (colV (rows.take i) a.arg.toNat).length 25 3)]) (fun k i => k = rows.length - i ∧ i ≤ rows.length) (rows.length) (0) (GhI.of_wk ⟨by simp [ovr, uk, lessT, neJ2, neJ2', neJ3, neJ3', colV], by simp [lessR, lk, neJ2, neJ2', neJ3, neJ3', colV], by (try dsimp only); omega, keep0⟩) (by simp) ?_
  intro k1 x1 j1 hr1
  obtain ⟨rfl, hi1⟩ := hr1
  have hcl := colV_len (rows.take x1) a.arg.toNat
  have htl : (rows.take x1).length ≤ 100000 := by simp; omega
  have hap : ((colV (rows.take x1) a.arg.toNat).length + 1) * 32 ≤ 140737488355328 := by omega
  replace U := U.cons (And.intro hap hge0)
  simp only [ovr, uk, List.set_cons_zero, List.set_cons_succ]
  refine PI.q ?_
  refine rg56v22 (j1 + 10) [] fun all6 _ => ?_
  refine GoI.z nf22 ?_
  refine PI.q ?_
  refine PI.d 21 nf22 (fun hb2 => ?_) (fun hb2 => ?_)
  ·
   try simp only [hb2]
   obtain ⟨hlt, hw⟩ := up hb2 hl'
   have hx := rows_at hlt
   replace U := U.cons (And.intro (hw) (hx))
   refine PI.s ?_
   refine PI.q ?_
   refine PI.b 1 ?_
   refine PI.q ?_
   refine rg56v22 (j1 + 13) [] fun all7 _ => ?_
   refine GoI.runN 2 nf22 ?_
   refine GoI.z nf22 ?_
   refine PI.q ?_
   refine rg56v22 (j1 + 27) [] fun all8 hall8 => ?_
   have hgd8_5 : (all8[5]?).bind (fun o => o.dst) = some 29 := by rw [← hall8]; kernel_rfl
   replace U := U.cons (hgd8_5)
   refine GoI.runN 2 nf22 ?_
   refine GoI.runN 2 nf22 ?_
   refine GoI.runN 2 nf22 ?_
   refine GoI.grd 29 nf22 (fun hg1 => ?_) (fun hg1 => ?_)
   ·
    try simp only [hg1]
    have hc : a.arg.toNat < rows[x1].length := by simp at hg1; omega
    have hcc : a.arg < (rows[x1].length : Int) := by omega
    have hy := row_at (l := rows[x1]) hc
    have hgd : rows[x1].getD a.arg.toNat nullV = rows[x1][a.arg.toNat] := by rw [List.getD_eq_getElem?_getD, List.getElem?_eq_getElem hc]; rfl
    replace U := U.cons (And.intro (hy) (hcc))
    refine GoI.runN 2 nf22 ?_
    refine GoI.runN 2 nf22 ?_
    refine GoI.runN 2 nf22 ?_
    refine GoI.z nf22 ?_
    refine PI.d 37 nf22 (fun hb3 => ?_) (fun hb3 => ?_)
    ·
     try simp only [hb3]
     have hts := colV_new hlt (by rw [hgd]; exact hb3)
     rw [hgd] at hts
     refine rg56v22 (j1 + 36) [] fun all9 _ => ?_
     refine GoI.runN 2 nf22 ?_
     refine GoI.runN 2 nf22 ?_
     refine GoI.runN 2 nf22 ?_
     refine GoI.runN 2 nf22 ?_
     refine GoI.z nf22 ?_
     refine rg56v22 (j1 + 38) [] fun all10 _ => ?_
     refine GoI.z nf22 ?_
     refine ⟨rows.length - (x1 + 1), x1 + 1, j1 + 29, by omega, ⟨rfl, by omega⟩, GhI.of_wk ⟨by simp [ovr, uk, lessT, neJ2, neJ2', neJ3, neJ3', hts], by simp [lessR, lk, neJ2, neJ2', neJ3, neJ3', hts], by (try dsimp only); omega, keep0⟩⟩
    try simp only [hb3]
    have hts := colV_old hlt (by rw [hgd]; exact hb3)
    refine PI.s ?_
    refine rg56v22 (j1 + 29) [] fun all10 _ => ?_
    refine GoI.z nf22 ?_
    refine ⟨rows.length - (x1 + 1), x1 + 1, j1 + 20, by omega, ⟨rfl, by omega⟩, GhI.of_wk ⟨by simp [ovr, uk, lessT, neJ2, neJ2', neJ3, neJ3', hts], by simp [lessR, lk, neJ2, neJ2', neJ3, neJ3', hts], by (try dsimp only); omega, keep0⟩⟩
   try simp only [hg1]
   have hc : ¬ a.arg.toNat < rows[x1].length := by simp at hg1; omega
   have hts := colV_old (c := a.arg.toNat) hlt (by rw [List.getD_eq_getElem?_getD, List.getElem?_eq_none (by omega)]; rfl)
   refine GoI.runN 2 nf22 ?_
   refine GoI.runN 2 nf22 ?_
   refine GoI.runN 2 nf22 ?_
   refine GoI.z nf22 ?_
   refine PI.f 37 nf22 ?_
   refine PI.s ?_
   refine rg56v22 (j1 + 29) [] fun all10 _ => ?_
   refine GoI.z nf22 ?_
   refine ⟨rows.length - (x1 + 1), x1 + 1, j1 + 20, by omega, ⟨rfl, by omega⟩, GhI.of_wk ⟨by simp [ovr, uk, lessT, neJ2, neJ2', neJ3, neJ3', hts], by simp [lessR, lk, neJ2, neJ2', neJ3, neJ3', hts], by (try dsimp only); omega, keep0⟩⟩
  try simp only [hb2]
  have hge := dn hb2
  have hxe : x1 = rows.length := by omega
  subst hxe
  simp only [List.take_length]
  rw [List.take_length] at hcl hap
  have hvs : aggV rows a = if a.op == 1 then intV (colV rows a.arg.toNat).length else if (colV rows a.arg.toNat).length = 0 then nullV else if a.op == 2 then intV (sumI (colV rows a.arg.toNat)) else bestV a.op (colV rows a.arg.toNat) := by unfold aggV; rw [if_neg hneg]
  have hin := colV_in (c := a.arg.toNat) hv
  generalize hC : colV rows a.arg.toNat = C
  rw [hC] at hvs hcl hap hin
  refine PI.e 0 ?_
  refine PI.q ?_
  refine PI.b 2 ?_
  refine PI.q ?_
  refine rg56v22 (j1 + 14) [] fun all11 _ => ?_
  refine GoI.runN 2 nf22 ?_
  refine GoI.z nf22 ?_
  refine PI.d 47 nf22 (fun hb4 => ?_) (fun hb4 => ?_)
  ·
   try simp only [hb4]
   refine PI.q ?_
   refine rg56v22 (j1 + 18) [] fun all12 _ => ?_
   refine GoI.runN 2 nf22 ?_
   refine GoI.call nf22 nf22 (by exact okInt _) ?_
   refine GoI.z nf22 ?_
   refine PI.r ?_
   exact FinI.mk _ nf22 (by clear U; simp_all [finR, nrmA, nrm, AV.content, aggV])
  try simp only [hb4]
  refine PI.q ?_
  refine rg56v22 (j1 + 18) [] fun all13 _ => ?_
  refine GoI.runN 2 nf22 ?_
  refine GoI.z nf22 ?_
  refine PI.d 54 nf22 (fun hb5 => ?_) (fun hb5 => ?_)
  ·
   try simp only [hb5]
   refine PI.q ?_
   refine rg56v22 (j1 + 20) [] fun all14 _ => ?_
   refine GoI.call nf22 nf22 (by exact okNull) ?_
   refine GoI.z nf22 ?_
   refine PI.r ?_
   exact FinI.mk _ nf22 (by clear U; simp_all [finR, nrmA, nrm, AV.content, aggV])
  try simp only [hb5]
  have hpos : 0 < C.length := by cases C with | nil => simp at hb5 | cons x C => simp
  have hx0 := row_at (l := C) hpos
  have hlen0 : C.length ≠ 0 := by omega
  have hCl : C.length ≤ maxLen := by unfold maxLen; omega
  replace U := U.cons (And.intro (hx0) (hpos))
  refine PI.q ?_
  refine rg56v22 (j1 + 22) [] fun all15 _ => ?_
  refine GoI.runN 2 nf22 ?_
  refine GoI.z nf22 ?_
  refine PI.d 59 nf22 (fun hb6 => ?_) (fun hb6 => ?_)
  ·
   try simp only [hb6]
   refine PI.q ?_
   refine rg56v22 (j1 + 25) [] fun all16 _ => ?_
   refine GoI.run nf22 ?_
   refine GoI.call nf22 nf22 (by exact okSum _ (by omega) hin) ?_
   refine GoI.z nf22 ?_
   refine PI.r ?_
   exact FinI.mk _ nf22 (by clear U; simp_all [finR, nrmA, nrm, AV.content, aggV])
  try simp only [hb6]
  refine PI.s ?_
  refine PI.q ?_
  refine rg56v22 (j1 + 27) [] fun all17 _ => ?_
  refine GoI.runN 2 nf22 ?_
  refine GoI.runN 2 nf22 ?_
  refine GoI.z nf22 ?_
  refine PI.q ?_
  refine PI.q ?_
  refine rg56v22 (j1 + 30) [] fun all18 _ => ?_
  refine GoI.runN 2 nf22 ?_
  refine GoI.z nf22 ?_
  refine PI.b 3 ?_
  refine PI.lo (by kernel_rfl) (X := Nat) (fun i => (70, aI i) :: uk [10, 11, 71, 72, 73, 74, 75, 76, 77, 78, 79, 80, 81, 82, 83, 84, 85, 86, 87, 88, 89, 90, 91, 92, 93, 94]) (fun i => [(([0], 0), .var 48 [aI a.op, aI a.arg]), (([1], 0), .var 25 [aI 0, aI 0, aS .empty]), (([j1 + 25], 0), .var 25 (encV ((C.take i).foldl (bstep a.op) C[0])))]) (fun k i => k = C.length - i ∧ i ≤ C.length) (C.length) (0) (GhI.of_wk ⟨by simp [ovr, uk, lessT, neJ2, neJ2', neJ3, neJ3', colV], by simp [lessR, lk, neJ2, neJ2', neJ3, neJ3', colV], by (try dsimp only); omega, keep0⟩) (by simp) ?_
  intro k2 x2 j2 hr2
  obtain ⟨rfl, hi2⟩ := hr2
  generalize hB : (C.take x2).foldl (bstep a.op) C[0] = B
  simp only [ovr, uk, List.set_cons_zero, List.set_cons_succ]
  refine PI.q ?_
  refine rg56v22 (j2 + (j1 + 31)) [] fun all19 _ => ?_
  refine GoI.z nf22 ?_
  refine PI.q ?_
  refine PI.d 71 nf22 (fun hb7 => ?_) (fun hb7 => ?_)
  ·
   try simp only [hb7]
   obtain ⟨hlt2, hw2⟩ := up hb7 hCl
   have hx2 := row_at hlt2
   have hbs := best_succ (op := a.op) C[0] hlt2
   rw [hB] at hbs
   replace U := U.cons (And.intro (hw2) (hx2))
   refine PI.s ?_
   refine PI.q ?_
   refine PI.b 4 ?_
   refine PI.q ?_
   refine rg56v22 (j2 + (j1 + 35)) [] fun all20 _ => ?_
   refine GoI.runN 2 nf22 ?_
   refine GoI.z nf22 ?_
   refine PI.q ?_
   refine rg56v22 (j2 + (j1 + 39)) [] fun all21 _ => ?_
   refine GoI.runN 2 nf22 ?_
   refine GoI.call nf22 nf22 (by exact okCmpV _ _) ?_
   refine GoI.z nf22 ?_
   refine PI.q ?_
   refine rg56v22 (j2 + (j1 + 55)) [] fun all22 hall22 => ?_
   have hgd22_3 : (all22[3]?).bind (fun o => o.dst) = some 80 := by rw [← hall22]; kernel_rfl
   have hgd22_7 : (all22[7]?).bind (fun o => o.dst) = some 84 := by rw [← hall22]; kernel_rfl
   have hgd22_11 : (all22[11]?).bind (fun o => o.dst) = some 88 := by rw [← hall22]; kernel_rfl
   replace U := U.cons (And.intro (hgd22_3) (And.intro (hgd22_7) (hgd22_11)))
   refine GoI.runN 2 nf22 ?_
   refine GoI.runN 2 nf22 ?_
   refine GoI.grd 80 nf22 (fun hg2 => ?_) (fun hg2 => ?_)
   ·
    try simp only [hg2]
    refine GoI.runN 2 nf22 ?_
    refine GoI.runN 2 nf22 ?_
    refine GoI.grd 84 nf22 (fun hg3 => ?_) (fun hg3 => ?_)
    ·
     try simp only [hg3]
     have hbb : bstep a.op B C[x2] = C[x2] := by unfold bstep; rw [hg2, hg3]; rfl
     rw [hbb] at hbs
     refine GoI.runN 2 nf22 ?_
     refine GoI.runN 2 nf22 ?_
     refine GoI.runN 2 nf22 ?_
     refine GoI.z nf22 ?_
     refine PI.t 92 nf22 ?_
     refine rg56v22 (j2 + (j1 + 57)) [] fun all23 _ => ?_
     refine GoI.z nf22 ?_
     refine rg56v22 (j2 + (j1 + 59)) [] fun all24 _ => ?_
     refine GoI.z nf22 ?_
     refine ⟨C.length - (x2 + 1), x2 + 1, j2 + 29, by omega, ⟨rfl, by omega⟩, GhI.of_wk ⟨by simp [ovr, uk, lessT], by simp [lessR, lk, hbs, neK, neK', neJ2, neJ2'], by (try dsimp only); omega, keep0⟩⟩
    try simp only [hg3]
    refine GoI.runN 2 nf22 ?_
    refine GoI.runN 2 nf22 ?_
    refine GoI.grd 88 nf22 (fun hg4 => ?_) (fun hg4 => ?_)
    ·
     try simp only [hg4]
     have h3 : a.op = 3 := (by simpa using hg2); have h4 : a.op = 4 := (by simpa using hg4); omega
    try simp only [hg4]
    have hbb : bstep a.op B C[x2] = B := by unfold bstep; rw [hg2, hg3, hg4]; rfl
    rw [hbb] at hbs
    refine GoI.runN 2 nf22 ?_
    refine GoI.z nf22 ?_
    refine PI.f 92 nf22 ?_
    refine PI.s ?_
    refine rg56v22 (j2 + (j1 + 57)) [] fun all24 _ => ?_
    refine GoI.z nf22 ?_
    refine ⟨C.length - (x2 + 1), x2 + 1, j2 + 27, by omega, ⟨rfl, by omega⟩, GhI.of_wk ⟨by simp [ovr, uk, lessT], by simp [lessR, lk, hbs, neK, neK', neJ2, neJ2'], by (try dsimp only); omega, keep0⟩⟩
   try simp only [hg2]
   refine GoI.runN 2 nf22 ?_
   refine GoI.runN 2 nf22 ?_
   refine GoI.runN 2 nf22 ?_
   refine GoI.runN 2 nf22 ?_
   refine GoI.grd 88 nf22 (fun hg5 => ?_) (fun hg5 => ?_)
   ·
    try simp only [hg5]
    refine GoI.runN 2 nf22 ?_
    refine GoI.z nf22 ?_
    refine PI.d 92 nf22 (fun hb8 => ?_) (fun hb8 => ?_)
    ·
     try simp only [hb8]
     have hbb : bstep a.op B C[x2] = C[x2] := by unfold bstep; rw [hg2, hg5, hb8]; rfl
     rw [hbb] at hbs
     refine rg56v22 (j2 + (j1 + 57)) [] fun all23 _ => ?_
     refine GoI.z nf22 ?_
     refine rg56v22 (j2 + (j1 + 59)) [] fun all24 _ => ?_
     refine GoI.z nf22 ?_
     refine ⟨C.length - (x2 + 1), x2 + 1, j2 + 29, by omega, ⟨rfl, by omega⟩, GhI.of_wk ⟨by simp [ovr, uk, lessT], by simp [lessR, lk, hbs, neK, neK', neJ2, neJ2'], by (try dsimp only); omega, keep0⟩⟩
    try simp only [hb8]
    have hbb : bstep a.op B C[x2] = B := by unfold bstep; rw [hg2, hg5, hb8]; rfl
    rw [hbb] at hbs
    refine PI.s ?_
    refine rg56v22 (j2 + (j1 + 57)) [] fun all24 _ => ?_
    refine GoI.z nf22 ?_
    refine ⟨C.length - (x2 + 1), x2 + 1, j2 + 27, by omega, ⟨rfl, by omega⟩, GhI.of_wk ⟨by simp [ovr, uk, lessT], by simp [lessR, lk, hbs, neK, neK', neJ2, neJ2'], by (try dsimp only); omega, keep0⟩⟩
   try simp only [hg5]
   have hbb : bstep a.op B C[x2] = B := by unfold bstep; rw [hg2, hg5]; rfl
   rw [hbb] at hbs
   refine GoI.runN 2 nf22 ?_
   refine GoI.z nf22 ?_
   refine PI.f 92 nf22 ?_
   refine PI.s ?_
   refine rg56v22 (j2 + (j1 + 57)) [] fun all24 _ => ?_
   refine GoI.z nf22 ?_
   refine ⟨C.length - (x2 + 1), x2 + 1, j2 + 27, by omega, ⟨rfl, by omega⟩, GhI.of_wk ⟨by simp [ovr, uk, lessT], by simp [lessR, lk, hbs, neK, neK', neJ2, neJ2'], by (try dsimp only); omega, keep0⟩⟩
  try simp only [hb7]
  have hge2 := dn hb7
  rw [List.take_of_length_le hge2] at hB
  have hbe : bestV a.op C = B := by unfold bestV; rw [← hB, List.getD_eq_getElem?_getD, List.getElem?_eq_getElem hpos]; rfl
  refine PI.e 3 ?_
  refine PI.q ?_
  refine rg56v22 (j2 + (j1 + 33)) [] fun all25 _ => ?_
  refine GoI.z nf22 ?_
  refine PI.r ?_
  exact FinI.mk _ nf22 (by clear U; simp_all [finR, nrmA, nrm, AV.content, aggV])
end Go.FE
namespace Go.FE
open Go.Proofs
structure TdM (z : Int) : Prop where
  e : z = z.tdiv 1048576 * 1048576 + z.tmod 1048576
  l : -1048576 < z.tmod 1048576
  h : z.tmod 1048576 < 1048576
structure SmJ (l : List Vl) (x : SmX) : Prop where
  le : x.i ≤ l.length
  sm : x.hi * 1048576 + x.lo = sumI (l.take x.i)
  l0 : -(x.i * 1048576) ≤ x.lo
  l1 : x.lo ≤ x.i * 1048576
  h0 : -(x.i * 1073741825) ≤ x.hi
  h1 : x.hi ≤ x.i * 1073741825
end Go.FE
