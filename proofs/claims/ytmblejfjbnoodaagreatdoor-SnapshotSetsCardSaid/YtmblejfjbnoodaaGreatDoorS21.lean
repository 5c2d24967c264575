/- Aggregates. The document's aggregates. What kinds a grouping has. The document's kinds of a grouping. -/
import Derived.Test.YtmblejfjbnoodaaGreatDoorS09
import Derived.Test.YtmblejfjbnoodaaGreatDoorS20
set_option linter.unusedVariables false
set_option linter.unusedSimpArgs false
namespace Go.FE
open Go.Proofs
theorem nf22 {α : Type} {a b : α} (h : a = b := by simp only [goP, goN, mrk, Nat.reduceMul, Nat.one_mul, Nat.mul_one, eq_self, false_implies, implies_true, Nat.reduceLT, List.getElem?_toArray, isCall, List.contains_nil, List.contains_cons, Nat.reduceBEq, Bool.or_false, Bool.or_self, List.length_map, gOf, step, stepM, stepP, ev, okV, if_true, if_false, allocA, storeA, boxA, one1, tokN, tok1, buildA, rowA, nrmP, partV, partA, fieldA, fieldV, elemA, lenA, bltA, asSl, appA, makeA, makeR, cutA, bndA, binV, intOp, strOp, unV, eqB, nilB, sameT, List.all_cons, List.all_nil, Bool.and_self, Bool.and_true, Bool.true_and, List.map_cons, List.map_nil, List.nil_append, List.cons_append, List.append_nil, AV.bare, AV.content, AV.clean, AV.one, putD, List.set_cons_zero, List.set_cons_succ, List.reverse_cons, List.reverse_nil, List.getD_cons_zero, List.getD_cons_succ, List.getElem?_cons_zero, List.getElem?_cons_succ, Option.getD_some, Option.map_some, Option.map_none, Option.bind_some, List.length_cons, List.length_nil, lk, cellsA, fillA, fillS, isAggD, spl, nrm, nrmA, List.take_succ_cons, List.take_zero, List.drop_succ_cons, List.drop_zero, List.drop_nil, List.take_nil, Nat.reduceAdd, Nat.zero_add, Nat.add_zero, Nat.add_assoc, Nat.add_left_cancel_iff, reduceCtorEq, Prod.mk.injEq, List.cons.injEq, and_self, and_true, true_and, Nat.le_refl, Nat.reduceLeDiff, Nat.reduceEqDiff, List.getElem?_nil, Int.reduceToNat, Int.reduceLE, Int.reduceLT, ite_self, List.forall_mem_cons, List.not_mem_nil, false_and, and_false, Bool.false_eq_true, List.replicate_zero, List.replicate_succ, Int.toNat_natCast, neJ2, neJ2', neJ3, neJ3', callOf, callOf2, fnOf, argsA, args2, Array.isEmpty_empty, resLL, resVL, beq_self_eq_true, st3, zt3, it3, ct3, se3, Tryz.underlying3, st4, zt4, it4, ct4, se4, Tryz.underlying4, st9, zt9, it9, ct9, se9, Tryz.underlying9, st23, zt23, it23, ct23, se23, Tryz.underlying23, st25, zt25, it25, ct25, pt25, eqs25, se25, Tryz.underlying25, st48, zt48, it48, ct48, pt48, eqs48, se48, Tryz.underlying48, st49, zt49, it49, ct49, se49, Tryz.underlying49, Tryz.results56, Int.natCast_nonneg, neK, neK', U.out] <;> rfl) : a = b := h
def colV (rows : List Row) (i : Nat) : List Vl := (rows.map fun r => r.getD i nullV).filter fun v => v.k != 0
theorem colV_new {l : List Row} {c i : Nat} (h : i < l.length) (hk : ((l[i].getD c nullV).k != 0) = true) : colV (l.take (i + 1)) c = colV (l.take i) c ++ [l[i].getD c nullV] := by
  rw [List.take_succ_eq_append_getElem h, colV, List.map_append, List.filter_append]
  have : List.filter (fun v : Vl => v.k != 0) [l[i].getD c nullV] = [l[i].getD c nullV] := by rw [List.filter_cons, if_pos hk]; rfl
  rw [List.map_cons, List.map_nil, this]; rfl
theorem colV_old {l : List Row} {c i : Nat} (h : i < l.length) (hk : ((l[i].getD c nullV).k != 0) = false) : colV (l.take (i + 1)) c = colV (l.take i) c := by
  rw [List.take_succ_eq_append_getElem h, colV, List.map_append, List.filter_append]
  have : List.filter (fun v : Vl => v.k != 0) [l[i].getD c nullV] = [] := by rw [List.filter_cons, if_neg (by rw [hk]; decide)]; rfl
  rw [List.map_cons, List.map_nil, this, List.append_nil]; rfl
theorem colV_len (l : List Row) (c : Nat) : (colV l c).length ≤ l.length := by
  have := List.length_filter_le (fun v : Vl => v.k != 0) (l.map fun r => r.getD c nullV)
  simpa [colV] using this
theorem colV_in {l : List Row} {c : Nat} (h : ∀ r ∈ l, ∀ v ∈ r, inV v) : ∀ v ∈ colV l c, inV v := by
  intro v hv
  rw [colV, List.mem_filter] at hv
  obtain ⟨r, hr, e⟩ := List.mem_map.1 hv.1
  rw [← e, List.getD_eq_getElem?_getD]
  by_cases hc : c < r.length
  · rw [List.getElem?_eq_getElem hc]; exact h r hr _ (List.getElem_mem hc)
  · rw [List.getElem?_eq_none (by omega)]; unfold inV nullV; decide
def bstep (op : Int) (b v : Vl) : Vl := if (op == 3 && decide (cmpV v b < 0)) || (op == 4 && decide (cmpV v b > 0)) then v else b
def bestV (op : Int) (vs : List Vl) : Vl := vs.foldl (bstep op) (vs.getD 0 nullV)
theorem best_succ {op : Int} {l : List Vl} (b : Vl) {i : Nat} (h : i < l.length) : (l.take (i + 1)).foldl (bstep op) b = bstep op ((l.take i).foldl (bstep op) b) l[i] := by
  rw [List.take_succ_eq_append_getElem h, List.foldl_append]; rfl
def aggV (rows : List Row) (a : Ag) : Vl :=
  if a.arg < 0 then intV rows.length else
  let vs := colV rows a.arg.toNat
  if a.op == 1 then intV vs.length else if vs.length = 0 then nullV else if a.op == 2 then intV (sumI vs) else bestV a.op vs
theorem rg56v22 {T : List Rid} {p : Path} {Q : Exit → SL → Prop} {tm : List AV} {L : RL} {n : Nat} {c : Code} {l : List Oper} (n' : Nat) (Qs : List Nat) (h : ∀ all, (ro c).toList = all → GoI Tryz.prog T p all false Qs n 0 l tm L fun tm' L' => Q .normal ⟨tm', L', n'⟩) (hk : kd c = 0 := by kernel_rfl) (hr : rd c = false := by kernel_rfl) (hl : (ro c).toList = l := by dsimp only [ro, s1, s2, c1, c2, bc, bod, Tryz.f56, Option.getD_some] <;> exact rfl) (hn : n + (ro c).size = n' := by kernel_rfl) : PI Tryz.prog T p c Q ⟨tm, L, n⟩ := PI.rg n' Qs hk hr hl (fun h => by cases h) hn (h _ rfl)
set_option maxHeartbeats 2000000 in
set_option maxRecDepth 100000 in
theorem okAggregate (rows : List Row) (a : Ag) (hl : rows.length ≤ 100000) (hr : ∀ r ∈ rows, r.length ≤ 100000) (hv : ∀ r ∈ rows, ∀ v ∈ r, inV v) : CallsOK Tryz.prog 56 [aRows rows, .agg 2 (encA a)] (aVal (aggV rows a)) := by
  have hl' : rows.length ≤ maxLen := by unfold maxLen; omega
  have U : Hid True := ⟨trivial⟩
  refine CallsOK.of_pi mixed Tryz.func56 (by kernel_rfl) (by kernel_rfl) (?_ : PI _ _ _ _ _ ⟨[aRows rows, .agg 2 (encA a), .und, .und, .und, .und, .und, .und, .und, .und, .und, .und, .und, .und, .und, .und, .und, .und, .und, .und, .und, .und, .und, .und, .und, .und, .und, .und, .und, .und, .und, .und, .und, .und, .und, .und, .und, .und, .und, .und, .und, .und, .und, .und, .und, .und, .und, .und, .und, .und, .und, .und, .und, .und, .und, .und, .und, .und, .und, .und, .und, .und, .und, .und, .und, .und, .und, .und, .und, .und, .und, .und, .und, .und, .und, .und, .und, .und, .und, .und, .und, .und, .und, .und, .und, .und, .und, .und, .und, .und, .und, .und, .und, .und, .und, .und], [], 0⟩)
  refine PI.q ?_
  refine rg56v22 (2) [] fun all1 _ => ?_
  refine GoI.z nf22 ?_
  refine PI.q ?_
  refine PI.q ?_
  refine rg56v22 (5) [] fun all2 _ => ?_
  refine GoI.runN 2 nf22 ?_
  refine GoI.z nf22 ?_
  refine PI.d 14 nf22 (fun hb1 => ?_) (fun hb1 => ?_)
  ·
   try simp only [hb1]
   have hneg : a.arg < 0 := by simpa using hb1
   refine PI.q ?_
   refine rg56v22 (9) [] fun all3 _ => ?_
   refine GoI.runN 2 nf22 ?_
   refine GoI.call nf22 nf22 (by exact okInt _) ?_
   refine GoI.z nf22 ?_
   refine PI.r ?_
   exact FinI.mk _ nf22 (by clear U; simp_all [finR, nrmA, nrm, AV.content, aggV])
  try simp only [hb1]
  have hneg : ¬ a.arg < 0 := by simpa using hb1
  have hge0 : 0 ≤ a.arg := by omega
  replace U := U.cons (hge0)
  refine PI.s ?_
  refine PI.q ?_
  refine rg56v22 (6) [] fun all4 _ => ?_
  refine GoI.z nf22 ?_
  refine PI.q ?_
  refine PI.q ?_
  refine rg56v22 (9) [] fun all5 _ => ?_
  refine GoI.runN 2 nf22 ?_
  refine GoI.z nf22 ?_
  refine PI.b 0 ?_
  refine PI.lo (by kernel_rfl) (X := Nat) (fun i => (20, aI i) :: (5, .sl ((colV (rows.take i) a.arg.toNat).map encV) (some (([5], 0), (colV (rows.take i) a.arg.toNat).length))) :: uk [7, 21, 22, 23, 24, 25, 26, 27, 28, 29, 30, 31, 32, 33, 34, 35, 36, 37, 38, 39, 40, 41, 42, 43, 44, 45, 46]) (fun i => [(([0], 0), .var 48 [aI a.op, aI a.arg]), (([1], 0), .var 25 [aI 0, aI 0, aS .empty]), (([5], 0), .tok (colV (rows.take i) a.arg.toNat).length 25 3)]) (fun k i => k = rows.length - i ∧ i ≤ rows.length) (rows.length) (0) (GhI.of_wk ⟨by simp [ovr, uk, lessT, neJ2, neJ2', neJ3, neJ3', colV], by simp [lessR, lk, neJ2, neJ2', neJ3, neJ3', colV], by (try dsimp only); omega, keep0⟩) (by simp) ?_
  intro k1 x1 j1 hr1
  obtain ⟨rfl, hi1⟩ := hr1
  have hcl := colV_len (rows.take x1) a.arg.toNat
  have htl : (rows.take x1).length ≤ 100000 := by simp; omega
  have hap : ((colV (rows.take x1) a.arg.toNat).length + 1) * 32 ≤ 140737488355328 := by omega
  replace U := U.cons (And.intro hap hge0)
  simp only [ovr, uk, List.set_cons_zero, List.set_cons_succ]
  refine PI.q ?_
  refine rg56v22 (j1 + 10) [] fun all6 _ => ?_
  refine GoI.z nf22 ?_
  refine PI.q ?_
  refine PI.d 21 nf22 (fun hb2 => ?_) (fun hb2 => ?_)
  ·
   try simp only [hb2]
   obtain ⟨hlt, hw⟩ := up hb2 hl'
   have hx := rows_at hlt
   replace U := U.cons (And.intro (hw) (hx))
   refine PI.s ?_
   refine PI.q ?_
   refine PI.b 1 ?_
   refine PI.q ?_
   refine rg56v22 (j1 + 13) [] fun all7 _ => ?_
   refine GoI.runN 2 nf22 ?_
   refine GoI.z nf22 ?_
   refine PI.q ?_
   refine rg56v22 (j1 + 27) [] fun all8 hall8 => ?_
   have hgd8_5 : (all8[5]?).bind (fun o => o.dst) = some 29 := by rw [← hall8]; kernel_rfl
   replace U := U.cons (hgd8_5)
   refine GoI.runN 2 nf22 ?_
   refine GoI.runN 2 nf22 ?_
   refine GoI.runN 2 nf22 ?_
   refine GoI.grd 29 nf22 (fun hg1 => ?_) (fun hg1 => ?_)
   ·
    try simp only [hg1]
    have hc : a.arg.toNat < rows[x1].length := by simp at hg1; omega
    have hcc : a.arg < (rows[x1].length : Int) := by omega
    have hy := row_at (l := rows[x1]) hc
    have hgd : rows[x1].getD a.arg.toNat nullV = rows[x1][a.arg.toNat] := by rw [List.getD_eq_getElem?_getD, List.getElem?_eq_getElem hc]; rfl
    replace U := U.cons (And.intro (hy) (hcc))
    refine GoI.runN 2 nf22 ?_
    refine GoI.runN 2 nf22 ?_
    refine GoI.runN 2 nf22 ?_
    refine GoI.z nf22 ?_
    refine PI.d 37 nf22 (fun hb3 => ?_) (fun hb3 => ?_)
    ·
     try simp only [hb3]
     have hts := colV_new hlt (by rw [hgd]; exact hb3)
     rw [hgd] at hts
     refine rg56v22 (j1 + 36) [] fun all9 _ => ?_
     refine GoI.runN 2 nf22 ?_
     refine GoI.runN 2 nf22 ?_
     refine GoI.runN 2 nf22 ?_
     refine GoI.runN 2 nf22 ?_
     refine GoI.z nf22 ?_
     refine rg56v22 (j1 + 38) [] fun all10 _ => ?_
     refine GoI.z nf22 ?_
     refine ⟨rows.length - (x1 + 1), x1 + 1, j1 + 29, by omega, ⟨rfl, by omega⟩, GhI.of_wk ⟨by simp [ovr, uk, lessT, neJ2, neJ2', neJ3, neJ3', hts], by simp [lessR, lk, neJ2, neJ2', neJ3, neJ3', hts], by (try dsimp only); omega, keep0⟩⟩
    try simp only [hb3]
    have hts := colV_old hlt (by rw [hgd]; exact hb3)
    refine PI.s ?_
    refine rg56v22 (j1 + 29) [] fun all10 _ => ?_
    refine GoI.z nf22 ?_
    refine ⟨rows.length - (x1 + 1), x1 + 1, j1 + 20, by omega, ⟨rfl, by omega⟩, GhI.of_wk ⟨by simp [ovr, uk, lessT, neJ2, neJ2', neJ3, neJ3', hts], by simp [lessR, lk, neJ2, neJ2', neJ3, neJ3', hts], by (try dsimp only); omega, keep0⟩⟩
   try simp only [hg1]
   have hc : ¬ a.arg.toNat < rows[x1].length := by simp at hg1; omega
   have hts := colV_old (c := a.arg.toNat) hlt (by rw [List.getD_eq_getElem?_getD, List.getElem?_eq_none (by omega)]; rfl)
   refine GoI.runN 2 nf22 ?_
   refine GoI.runN 2 nf22 ?_
   refine GoI.runN 2 nf22 ?_
   refine GoI.z nf22 ?_
   refine PI.f 37 nf22 ?_
   refine PI.s ?_
   refine rg56v22 (j1 + 29) [] fun all10 _ => ?_
   refine GoI.z nf22 ?_
   refine ⟨rows.length - (x1 + 1), x1 + 1, j1 + 20, by omega, ⟨rfl, by omega⟩, GhI.of_wk ⟨by simp [ovr, uk, lessT, neJ2, neJ2', neJ3, neJ3', hts], by simp [lessR, lk, neJ2, neJ2', neJ3, neJ3', hts], by (try dsimp only); omega, keep0⟩⟩
  try simp only [hb2]
  have hge := dn hb2
  have hxe : x1 = rows.length := by omega
  subst hxe
  simp only [List.take_length]
  rw [List.take_length] at hcl hap
  have hvs : aggV rows a = if a.op == 1 then intV (colV rows a.arg.toNat).length else if (colV rows a.arg.toNat).length = 0 then nullV else if a.op == 2 then intV (sumI (colV rows a.arg.toNat)) else bestV a.op (colV rows a.arg.toNat) := by unfold aggV; rw [if_neg hneg]
  have hin := colV_in (c := a.arg.toNat) hv
  generalize hC : colV rows a.arg.toNat = C
  rw [hC] at hvs hcl hap hin
  refine PI.e 0 ?_
  refine PI.q ?_
  refine PI.b 2 ?_
  refine PI.q ?_
  refine rg56v22 (j1 + 14) [] fun all11 _ => ?_
  refine GoI.runN 2 nf22 ?_
  refine GoI.z nf22 ?_
  refine PI.d 47 nf22 (fun hb4 => ?_) (fun hb4 => ?_)
  ·
   try simp only [hb4]
   refine PI.q ?_
   refine rg56v22 (j1 + 18) [] fun all12 _ => ?_
   refine GoI.runN 2 nf22 ?_
   refine GoI.call nf22 nf22 (by exact okInt _) ?_
   refine GoI.z nf22 ?_
   refine PI.r ?_
   exact FinI.mk _ nf22 (by clear U; simp_all [finR, nrmA, nrm, AV.content, aggV])
  try simp only [hb4]
  refine PI.q ?_
  refine rg56v22 (j1 + 18) [] fun all13 _ => ?_
  refine GoI.runN 2 nf22 ?_
  refine GoI.z nf22 ?_
  refine PI.d 54 nf22 (fun hb5 => ?_) (fun hb5 => ?_)
  ·
   try simp only [hb5]
   refine PI.q ?_
   refine rg56v22 (j1 + 20) [] fun all14 _ => ?_
   refine GoI.call nf22 nf22 (by exact okNull) ?_
   refine GoI.z nf22 ?_
   refine PI.r ?_
   exact FinI.mk _ nf22 (by clear U; simp_all [finR, nrmA, nrm, AV.content, aggV])
  try simp only [hb5]
  have hpos : 0 < C.length := by cases C with | nil => simp at hb5 | cons x C => simp
  have hx0 := row_at (l := C) hpos
  have hlen0 : C.length ≠ 0 := by omega
  have hCl : C.length ≤ maxLen := by unfold maxLen; omega
  replace U := U.cons (And.intro (hx0) (hpos))
  refine PI.q ?_
  refine rg56v22 (j1 + 22) [] fun all15 _ => ?_
  refine GoI.runN 2 nf22 ?_
  refine GoI.z nf22 ?_
  refine PI.d 59 nf22 (fun hb6 => ?_) (fun hb6 => ?_)
  ·
   try simp only [hb6]
   refine PI.q ?_
   refine rg56v22 (j1 + 25) [] fun all16 _ => ?_
   refine GoI.run nf22 ?_
   refine GoI.call nf22 nf22 (by exact okSum _ (by omega) hin) ?_
   refine GoI.z nf22 ?_
   refine PI.r ?_
   exact FinI.mk _ nf22 (by clear U; simp_all [finR, nrmA, nrm, AV.content, aggV])
  try simp only [hb6]
  refine PI.s ?_
  refine PI.q ?_
  refine rg56v22 (j1 + 27) [] fun all17 _ => ?_
  refine GoI.runN 2 nf22 ?_
  refine GoI.runN 2 nf22 ?_
  refine GoI.z nf22 ?_
  refine PI.q ?_
  refine PI.q ?_
  refine rg56v22 (j1 + 30) [] fun all18 _ => ?_
  refine GoI.runN 2 nf22 ?_
  refine GoI.z nf22 ?_
  refine PI.b 3 ?_
  refine PI.lo (by kernel_rfl) (X := Nat) (fun i => (70, aI i) :: uk [10, 11, 71, 72, 73, 74, 75, 76, 77, 78, 79, 80, 81, 82, 83, 84, 85, 86, 87, 88, 89, 90, 91, 92, 93, 94]) (fun i => [(([0], 0), .var 48 [aI a.op, aI a.arg]), (([1], 0), .var 25 [aI 0, aI 0, aS .empty]), (([j1 + 25], 0), .var 25 (encV ((C.take i).foldl (bstep a.op) C[0])))]) (fun k i => k = C.length - i ∧ i ≤ C.length) (C.length) (0) (GhI.of_wk ⟨by simp [ovr, uk, lessT, neJ2, neJ2', neJ3, neJ3', colV], by simp [lessR, lk, neJ2, neJ2', neJ3, neJ3', colV], by (try dsimp only); omega, keep0⟩) (by simp) ?_
  intro k2 x2 j2 hr2
  obtain ⟨rfl, hi2⟩ := hr2
  generalize hB : (C.take x2).foldl (bstep a.op) C[0] = B
  simp only [ovr, uk, List.set_cons_zero, List.set_cons_succ]
  refine PI.q ?_
  refine rg56v22 (j2 + (j1 + 31)) [] fun all19 _ => ?_
  refine GoI.z nf22 ?_
  refine PI.q ?_
  refine PI.d 71 nf22 (fun hb7 => ?_) (fun hb7 => ?_)
  ·
   try simp only [hb7]
   obtain ⟨hlt2, hw2⟩ := up hb7 hCl
   have hx2 := row_at hlt2
   have hbs := best_succ (op := a.op) C[0] hlt2
   rw [hB] at hbs
   replace U := U.cons (And.intro (hw2) (hx2))
   refine PI.s ?_
   refine PI.q ?_
   refine PI.b 4 ?_
   refine PI.q ?_
   refine rg56v22 (j2 + (j1 + 35)) [] fun all20 _ => ?_
   refine GoI.runN 2 nf22 ?_
   refine GoI.z nf22 ?_
   refine PI.q ?_
   refine rg56v22 (j2 + (j1 + 39)) [] fun all21 _ => ?_
   refine GoI.runN 2 nf22 ?_
   refine GoI.call nf22 nf22 (by exact okCmpV _ _) ?_
   refine GoI.z nf22 ?_
   refine PI.q ?_
   refine rg56v22 (j2 + (j1 + 55)) [] fun all22 hall22 => ?_
   have hgd22_3 : (all22[3]?).bind (fun o => o.dst) = some 80 := by rw [← hall22]; kernel_rfl
   have hgd22_7 : (all22[7]?).bind (fun o => o.dst) = some 84 := by rw [← hall22]; kernel_rfl
   have hgd22_11 : (all22[11]?).bind (fun o => o.dst) = some 88 := by rw [← hall22]; kernel_rfl
   replace U := U.cons (And.intro (hgd22_3) (And.intro (hgd22_7) (hgd22_11)))
   refine GoI.runN 2 nf22 ?_
   refine GoI.runN 2 nf22 ?_
   refine GoI.grd 80 nf22 (fun hg2 => ?_) (fun hg2 => ?_)
   ·
    try simp only [hg2]
    refine GoI.runN 2 nf22 ?_
    refine GoI.runN 2 nf22 ?_
    refine GoI.grd 84 nf22 (fun hg3 => ?_) (fun hg3 => ?_)
    ·
     try simp only [hg3]
     have hbb : bstep a.op B C[x2] = C[x2] := by unfold bstep; rw [hg2, hg3]; rfl
     rw [hbb] at hbs
     refine GoI.runN 2 nf22 ?_
     refine GoI.runN 2 nf22 ?_
     refine GoI.runN 2 nf22 ?_
     refine GoI.z nf22 ?_
     refine PI.t 92 nf22 ?_
     refine rg56v22 (j2 + (j1 + 57)) [] fun all23 _ => ?_
     refine GoI.z nf22 ?_
     refine rg56v22 (j2 + (j1 + 59)) [] fun all24 _ => ?_
     refine GoI.z nf22 ?_
     refine ⟨C.length - (x2 + 1), x2 + 1, j2 + 29, by omega, ⟨rfl, by omega⟩, GhI.of_wk ⟨by simp [ovr, uk, lessT], by simp [lessR, lk, hbs, neK, neK', neJ2, neJ2'], by (try dsimp only); omega, keep0⟩⟩
    try simp only [hg3]
    refine GoI.runN 2 nf22 ?_
    refine GoI.runN 2 nf22 ?_
    refine GoI.grd 88 nf22 (fun hg4 => ?_) (fun hg4 => ?_)
    ·
     try simp only [hg4]
     have h3 : a.op = 3 := (by simpa using hg2); have h4 : a.op = 4 := (by simpa using hg4); omega
    try simp only [hg4]
    have hbb : bstep a.op B C[x2] = B := by unfold bstep; rw [hg2, hg3, hg4]; rfl
    rw [hbb] at hbs
    refine GoI.runN 2 nf22 ?_
    refine GoI.z nf22 ?_
    refine PI.f 92 nf22 ?_
    refine PI.s ?_
    refine rg56v22 (j2 + (j1 + 57)) [] fun all24 _ => ?_
    refine GoI.z nf22 ?_
    refine ⟨C.length - (x2 + 1), x2 + 1, j2 + 27, by omega, ⟨rfl, by omega⟩, GhI.of_wk ⟨by simp [ovr, uk, lessT], by simp [lessR, lk, hbs, neK, neK', neJ2, neJ2'], by (try dsimp only); omega, keep0⟩⟩
   try simp only [hg2]
   refine GoI.runN 2 nf22 ?_
   refine GoI.runN 2 nf22 ?_
   refine GoI.runN 2 nf22 ?_
   refine GoI.runN 2 nf22 ?_
   refine GoI.grd 88 nf22 (fun hg5 => ?_) (fun hg5 => ?_)
   ·
    try simp only [hg5]
    refine GoI.runN 2 nf22 ?_
    refine GoI.z nf22 ?_
    refine PI.d 92 nf22 (fun hb8 => ?_) (fun hb8 => ?_)
    ·
     try simp only [hb8]
     have hbb : bstep a.op B C[x2] = C[x2] := by unfold bstep; rw [hg2, hg5, hb8]; rfl
     rw [hbb] at hbs
     refine rg56v22 (j2 + (j1 + 57)) [] fun all23 _ => ?_
     refine GoI.z nf22 ?_
     refine rg56v22 (j2 + (j1 + 59)) [] fun all24 _ => ?_
     refine GoI.z nf22 ?_
     refine ⟨C.length - (x2 + 1), x2 + 1, j2 + 29, by omega, ⟨rfl, by omega⟩, GhI.of_wk ⟨by simp [ovr, uk, lessT], by simp [lessR, lk, hbs, neK, neK', neJ2, neJ2'], by (try dsimp only); omega, keep0⟩⟩
    try simp only [hb8]
    have hbb : bstep a.op B C[x2] = B := by unfold bstep; rw [hg2, hg5, hb8]; rfl
    rw [hbb] at hbs
    refine PI.s ?_
    refine rg56v22 (j2 + (j1 + 57)) [] fun all24 _ => ?_
    refine GoI.z nf22 ?_
    refine ⟨C.length - (x2 + 1), x2 + 1, j2 + 27, by omega, ⟨rfl, by omega⟩, GhI.of_wk ⟨by simp [ovr, uk, lessT], by simp [lessR, lk, hbs, neK, neK', neJ2, neJ2'], by (try dsimp only); omega, keep0⟩⟩
   try simp only [hg5]
   have hbb : bstep a.op B C[x2] = B := by unfold bstep; rw [hg2, hg5]; rfl
   rw [hbb] at hbs
   refine GoI.runN 2 nf22 ?_
   refine GoI.z nf22 ?_
   refine PI.f 92 nf22 ?_
   refine PI.s ?_
   refine rg56v22 (j2 + (j1 + 57)) [] fun all24 _ => ?_
   refine GoI.z nf22 ?_
   refine ⟨C.length - (x2 + 1), x2 + 1, j2 + 27, by omega, ⟨rfl, by omega⟩, GhI.of_wk ⟨by simp [ovr, uk, lessT], by simp [lessR, lk, hbs, neK, neK', neJ2, neJ2'], by (try dsimp only); omega, keep0⟩⟩
  try simp only [hb7]
  have hge2 := dn hb7
  rw [List.take_of_length_le hge2] at hB
  have hbe : bestV a.op C = B := by unfold bestV; rw [← hB, List.getD_eq_getElem?_getD, List.getElem?_eq_getElem hpos]; rfl
  refine PI.e 3 ?_
  refine PI.q ?_
  refine rg56v22 (j2 + (j1 + 33)) [] fun all25 _ => ?_
  refine GoI.z nf22 ?_
  refine PI.r ?_
  exact FinI.mk _ nf22 (by clear U; simp_all [finR, nrmA, nrm, AV.content, aggV])
end Go.FE
namespace Go.FE
open Go.Proofs
structure TdM (z : Int) : Prop where
  e : z = z.tdiv 1048576 * 1048576 + z.tmod 1048576
  l : -1048576 < z.tmod 1048576
  h : z.tmod 1048576 < 1048576
structure SmJ (l : List Vl) (x : SmX) : Prop where
  le : x.i ≤ l.length
  sm : x.hi * 1048576 + x.lo = sumI (l.take x.i)
  l0 : -(x.i * 1048576) ≤ x.lo
  l1 : x.lo ≤ x.i * 1048576
  h0 : -(x.i * 1073741825) ≤ x.hi
  h1 : x.hi ≤ x.i * 1073741825
end Go.FE
namespace Go.FE
open Go.Proofs
theorem nf24 {α : Type} {a b : α} (h : a = b := by simp only [goP, goN, mrk, Nat.reduceMul, Nat.one_mul, Nat.mul_one, eq_self, false_implies, implies_true, Nat.reduceLT, List.getElem?_toArray, isCall, List.contains_nil, List.contains_cons, Nat.reduceBEq, Bool.or_false, Bool.or_self, List.length_map, gOf, step, stepM, stepP, ev, okV, if_true, if_false, allocA, storeA, boxA, one1, tokN, tok1, buildA, rowA, nrmP, partV, partA, fieldA, fieldV, elemA, lenA, bltA, asSl, appA, makeA, makeR, cutA, bndA, binV, intOp, strOp, unV, eqB, nilB, sameT, List.all_cons, List.all_nil, Bool.and_self, Bool.and_true, Bool.true_and, List.map_cons, List.map_nil, List.nil_append, List.cons_append, List.append_nil, AV.bare, AV.content, AV.clean, AV.one, putD, List.set_cons_zero, List.set_cons_succ, List.reverse_cons, List.reverse_nil, List.getD_cons_zero, List.getD_cons_succ, List.getElem?_cons_zero, List.getElem?_cons_succ, Option.getD_some, Option.map_some, Option.map_none, Option.bind_some, List.length_cons, List.length_nil, lk, cellsA, fillA, fillS, isAggD, spl, nrm, nrmA, List.take_succ_cons, List.take_zero, List.drop_succ_cons, List.drop_zero, List.drop_nil, List.take_nil, Nat.reduceAdd, Nat.zero_add, Nat.add_zero, Nat.add_assoc, Nat.add_left_cancel_iff, reduceCtorEq, Prod.mk.injEq, List.cons.injEq, and_self, and_true, true_and, Nat.le_refl, Nat.reduceLeDiff, Nat.reduceEqDiff, List.getElem?_nil, Int.reduceToNat, Int.reduceLE, Int.reduceLT, ite_self, List.forall_mem_cons, List.not_mem_nil, false_and, and_false, Bool.false_eq_true, List.replicate_zero, List.replicate_succ, Int.toNat_natCast, neJ2, neJ2', neJ3, neJ3', callOf, callOf2, fnOf, argsA, args2, Array.isEmpty_empty, resLL, resVL, beq_self_eq_true, st3, zt3, it3, ct3, se3, Tryz.underlying3, st4, zt4, it4, ct4, se4, Tryz.underlying4, st22, zt22, it22, ct22, se22, Tryz.underlying22, st29, zt29, it29, ct29, se29, Tryz.underlying29, st36, zt36, it36, ct36, se36, Tryz.underlying36, st48, zt48, it48, ct48, pt48, eqs48, se48, Tryz.underlying48, Tryz.results57, Int.natCast_nonneg, U.out] <;> rfl) : a = b := h
def inK (kinds : List Int) (k : Int) : Bool := !(decide (k < 0) || decide (k ≥ kinds.length))
def kdA (kinds : List Int) (k : Int) : Int := kinds.getD k.toNat 0
def aggK (kinds : List Int) (a : Ag) : Int × Int :=
  if (decide (a.op < 1) || decide (a.op > 4)) = true then (7, 0)
  else if (a.arg == -1 && a.op == 1) = true then (0, 1)
  else if (decide (a.arg < 0) || decide (a.arg ≥ kinds.length)) = true then (6, 0)
  else if (a.op == 2 && kdA kinds a.arg != 1) = true then (7, 0)
  else (0, if (a.op == 3 || a.op == 4) = true then kdA kinds a.arg else 1)
/-- The kinds of a grouping, or what is wrong. -/
def grpK (keys : List Int) (aggs : List Ag) (kinds : List Int) : List Int × Int :=
  if keys.all (inK kinds) = true then
    match aggs.find? (fun a => (aggK kinds a).1 != 0) with
    | some a => ([], (aggK kinds a).1)
    | none => (keys.map (kdA kinds) ++ aggs.map (fun a => (aggK kinds a).2), 0)
  else ([], 6)
theorem grpK_bad {keys : List Int} {aggs : List Ag} {kinds : List Int} (h : keys.all (inK kinds) = false) : grpK keys aggs kinds = ([], 6) := by unfold grpK; rw [if_neg (by rw [h]; decide)]
theorem find_at {α : Type} {p : α → Bool} {l : List α} {i : Nat} (hi : i < l.length) (h : ∀ j (hj : j < l.length), j < i → p l[j] = false) (hp : p l[i] = true) : l.find? p = some l[i] := by
  rw [List.find?_eq_some_iff_getElem]
  exact ⟨hp, i, hi, rfl, fun j hj => by rw [h j (by omega) hj]; rfl⟩
theorem grpK_err {keys : List Int} {aggs : List Ag} {kinds : List Int} {i : Nat} {e k : Int} (hk : keys.all (inK kinds) = true) (hi : i < aggs.length) (h : ∀ j (hj : j < aggs.length), j < i → (aggK kinds aggs[j]).1 = 0) (he : aggK kinds aggs[i] = (e, k)) (hne : e ≠ 0) : grpK keys aggs kinds = ([], e) := by
  unfold grpK
  rw [if_pos hk, find_at hi (fun j hj hji => by rw [h j hj hji]; rfl) (by rw [he]; simpa using hne)]
  show ([], (aggK kinds aggs[i]).1) = _
  rw [he]
theorem grpK_ok {keys : List Int} {aggs : List Ag} {kinds : List Int} (hk : keys.all (inK kinds) = true) (h : ∀ j (hj : j < aggs.length), (aggK kinds aggs[j]).1 = 0) : grpK keys aggs kinds = (keys.map (kdA kinds) ++ aggs.map (fun a => (aggK kinds a).2), 0) := by
  unfold grpK
  rw [if_pos hk, List.find?_eq_none.2 (fun a ha => by obtain ⟨j, hj, e⟩ := List.mem_iff_getElem.1 ha; rw [← e, h j hj]; decide)]
theorem aggs_at {l : List Ag} {i : Nat} (h : i < l.length) : (l.map encA)[i]? = some (encA l[i]) := by simp [h]
theorem kd_at {kinds : List Int} {k : Int} (h0 : 0 ≤ k) (h : k < kinds.length) : (kinds.map fun k => [aI k])[k.toNat]? = some [aI (kdA kinds k)] := by
  have : k.toNat < kinds.length := by omega
  simp [kdA, this]
theorem map_take_succ' {α β : Type} {f : α → β} {l : List α} {i : Nat} (h : i < l.length) : (l.take (i + 1)).map f = (l.take i).map f ++ [f l[i]] := by
  rw [List.take_succ_eq_append_getElem h, List.map_append]; rfl
theorem ok_succ {aggs : List Ag} {kinds : List Int} {i : Nat} (h : ∀ j (hj : j < aggs.length), j < i → (aggK kinds aggs[j]).1 = 0) (hi : i < aggs.length) (h1 : (aggK kinds aggs[i]).1 = 0) : ∀ j (hj : j < aggs.length), j < i + 1 → (aggK kinds aggs[j]).1 = 0 := fun j hj hji => by
  rcases Nat.lt_or_ge j i with h2 | h2
  · exact h j hj h2
  · have e : j = i := by omega
    subst e; exact h1
theorem agg_34 {kinds : List Int} {a : Ag} (h : (aggK kinds a).1 = 0) (ho : a.op = 3 ∨ a.op = 4) : 0 ≤ a.arg ∧ a.arg < kinds.length ∧ (aggK kinds a).2 = kdA kinds a.arg := by
  unfold aggK at h ⊢
  rw [if_neg (by simp; omega), if_neg (by simp; omega)] at h ⊢
  by_cases hc : (decide (a.arg < 0) || decide (a.arg ≥ kinds.length)) = true
  · rw [if_pos hc] at h; cases h
  · rw [if_neg hc] at h ⊢
    rw [if_neg (by simp; omega), if_pos (by simp; omega)]
    simp at hc
    exact ⟨hc.1, hc.2, rfl⟩
theorem agg_12 {kinds : List Int} {a : Ag} (h : (aggK kinds a).1 = 0) (ho : ¬ (a.op = 3 ∨ a.op = 4)) : (aggK kinds a).2 = 1 := by
  unfold aggK at h ⊢
  split
  · rename_i hc; rw [if_pos hc] at h; cases h
  · split
    · rfl
    · rename_i h1 h2
      rw [if_neg h1, if_neg h2] at h
      split
      · rename_i hc; rw [if_pos hc] at h; cases h
      · rename_i h3
        rw [if_neg h3] at h
        split
        · rename_i hc; rw [if_pos hc] at h; cases h
        · rw [if_neg (by simp; omega)]
theorem rg57v24 {T : List Rid} {p : Path} {Q : Exit → SL → Prop} {tm : List AV} {L : RL} {n : Nat} {c : Code} {l : List Oper} (n' : Nat) (Qs : List Nat) (h : ∀ all, (ro c).toList = all → GoI Tryz.prog T p all false Qs n 0 l tm L fun tm' L' => Q .normal ⟨tm', L', n'⟩) (hk : kd c = 0 := by kernel_rfl) (hr : rd c = false := by kernel_rfl) (hl : (ro c).toList = l := by dsimp only [ro, s1, s2, c1, c2, bc, bod, Tryz.f57, Option.getD_some] <;> exact rfl) (hn : n + (ro c).size = n' := by kernel_rfl) : PI Tryz.prog T p c Q ⟨tm, L, n⟩ := PI.rg n' Qs hk hr hl (fun h => by cases h) hn (h _ rfl)
set_option maxHeartbeats 2000000 in
set_option maxRecDepth 100000 in
theorem okGroupedS (keys : List Int) (aggs : List Ag) (kinds : List Int) (hl : keys.length ≤ 100000) (hl2 : aggs.length ≤ 100000) : CallsOK Tryz.prog 57 [ints keys, aAggs aggs, ints kinds] (.tup [ints (grpK keys aggs kinds).1, aI (grpK keys aggs kinds).2]) := by
  have hl' : keys.length + aggs.length ≤ maxLen := by unfold maxLen; omega
  have U : Hid True := ⟨trivial⟩
  refine CallsOK.of_pi mixed Tryz.func57 (by kernel_rfl) (by kernel_rfl) (?_ : PI _ _ _ _ _ ⟨[ints keys, aAggs aggs, ints kinds, .und, .und, .und, .und, .und, .und, .und, .und, .und, .und, .und, .und, .und, .und, .und, .und, .und, .und, .und, .und, .und, .und, .und, .und, .und, .und, .und, .und, .und, .und, .und, .und, .und, .und, .und, .und, .und, .und, .und, .und, .und, .und, .und, .und, .und, .und, .und, .und, .und, .und, .und, .und, .und, .und, .und, .und, .und, .und, .und, .und, .und, .und, .und, .und, .und, .und, .und, .und, .und, .und, .und, .und, .und, .und, .und, .und, .und, .und, .und, .und, .und, .und, .und, .und, .und, .und, .und, .und, .und, .und, .und, .und, .und, .und, .und, .und, .und, .und, .und, .und], [], 0⟩)
  refine PI.q ?_
  refine rg57v24 (2) [] fun all1 _ => ?_
  refine GoI.z nf24 ?_
  refine PI.q ?_
  refine rg57v24 (3) [] fun all2 _ => ?_
  refine GoI.z nf24 ?_
  refine PI.q ?_
  refine PI.q ?_
  refine rg57v24 (6) [] fun all3 _ => ?_
  refine GoI.runN 2 nf24 ?_
  refine GoI.z nf24 ?_
  refine PI.b 0 ?_
  refine PI.lo (by kernel_rfl) (X := Nat) (fun i => (15, aI i) :: (8, .sl (((keys.take i).map (kdA kinds)).map fun k => [aI k]) (some (([2], 0), i))) :: uk [6, 7, 10, 16, 17, 18, 19, 20, 21, 22, 23, 24, 25, 26, 27, 28, 29, 30, 31, 32, 33, 34]) (fun i => [(([2], 0), .tok i 3 1)]) (fun k i => k = keys.length - i ∧ i ≤ keys.length ∧ (keys.take i).all (inK kinds) = true) (keys.length) (0) (GhI.of_wk ⟨by simp [ovr, uk, lessT, neJ2, neJ2', neJ3, neJ3'], by simp [lessR, lk, neJ2, neJ2', neJ3, neJ3'], by (try dsimp only); omega, keep0⟩) (by simp) ?_
  intro k1 x1 j1 hr1
  obtain ⟨rfl, hi1, hka⟩ := hr1
  simp only [ovr, uk, List.set_cons_zero, List.set_cons_succ]
  refine PI.q ?_
  refine rg57v24 (j1 + 7) [] fun all4 _ => ?_
  refine GoI.z nf24 ?_
  refine PI.q ?_
  refine PI.d 16 nf24 (fun hb1 => ?_) (fun hb1 => ?_)
  ·
   try simp only [hb1]
   obtain ⟨hlt, hw⟩ := up hb1 (by omega)
   have hx := ints_at hlt
   have hap : ((keys.take x1).length + 1) * 8 ≤ 140737488355328 := by simp; omega
   replace U := U.cons (And.intro (hw) (And.intro (hx) (hap)))
   refine PI.s ?_
   refine PI.q ?_
   refine PI.b 1 ?_
   refine PI.q ?_
   refine rg57v24 (j1 + 10) [] fun all5 _ => ?_
   refine GoI.runN 2 nf24 ?_
   refine GoI.z nf24 ?_
   refine PI.q ?_
   refine PI.q ?_
   refine rg57v24 (j1 + 18) [] fun all6 hall6 => ?_
   have hgd6_2 : (all6[2]?).bind (fun o => o.dst) = some 21 := by rw [← hall6]; kernel_rfl
   replace U := U.cons (hgd6_2)
   refine GoI.runN 2 nf24 ?_
   refine GoI.runN 1 nf24 ?_
   refine GoI.grd 21 nf24 (fun hg1 => ?_) (fun hg1 => ?_)
   ·
    try simp only [hg1]
    simp only [decide_eq_true_eq, decide_eq_false_iff_not, beq_iff_eq, beq_eq_false_iff_ne, ne_eq] at hg1
    refine GoI.runN 2 nf24 ?_
    refine GoI.runN 2 nf24 ?_
    refine GoI.z nf24 ?_
    refine PI.t 26 nf24 ?_
    have hbad : inK kinds keys[x1] = false := by unfold inK; simp; first | omega | (simp at hb2; omega)
    have hres := grpK_bad (aggs := aggs) (all_not hlt hbad)
    rw [hres]
    refine PI.q ?_
    refine rg57v24 (j1 + 20) [] fun all7 _ => ?_
    refine GoI.z nf24 ?_
    refine PI.r ?_
    exact FinI.mk _ nf24 (by clear U; (try rfl))
   try simp only [hg1]
   simp only [decide_eq_true_eq, decide_eq_false_iff_not, beq_iff_eq, beq_eq_false_iff_ne, ne_eq] at hg1
   refine GoI.runN 2 nf24 ?_
   refine GoI.runN 2 nf24 ?_
   refine GoI.z nf24 ?_
   refine PI.d 26 nf24 (fun hb2 => ?_) (fun hb2 => ?_)
   ·
    try simp only [hb2]
    have hbad : inK kinds keys[x1] = false := by unfold inK; simp; first | omega | (simp at hb2; omega)
    have hres := grpK_bad (aggs := aggs) (all_not hlt hbad)
    rw [hres]
    refine PI.q ?_
    refine rg57v24 (j1 + 20) [] fun all7 _ => ?_
    refine GoI.z nf24 ?_
    refine PI.r ?_
    exact FinI.mk _ nf24 (by clear U; (try rfl))
   try simp only [hb2]
   have hk0 : 0 ≤ keys[x1] := by simp at hb2; omega
   have hk1 : keys[x1] < kinds.length := by simp at hb2; omega
   have hgood : inK kinds keys[x1] = true := by unfold inK; simp; omega
   have hy := kd_at hk0 hk1
   replace U := U.cons (And.intro (hk0) (And.intro (hk1) (hy)))
   refine PI.s ?_
   refine rg57v24 (j1 + 26) [] fun all8 _ => ?_
   refine GoI.runN 2 nf24 ?_
   refine GoI.runN 2 nf24 ?_
   refine GoI.runN 2 nf24 ?_
   refine GoI.z nf24 ?_
   refine rg57v24 (j1 + 28) [] fun all9 _ => ?_
   refine GoI.z nf24 ?_
   refine ⟨keys.length - (x1 + 1), x1 + 1, j1 + 22, by omega, ⟨rfl, by omega, all_take hlt hka hgood⟩, GhI.of_wk ⟨by simp only [ovr, uk, lessT, map_take_succ' hlt, List.map_append, List.map_cons, List.map_nil]; simp [lessT], by simp [lessR, lk], by (try dsimp only); omega, keep0⟩⟩
  try simp only [hb1]
  have hge := dn hb1
  have hxe : x1 = keys.length := by omega
  subst hxe
  rw [List.take_length] at hka
  simp only [List.take_length]
  refine PI.e 0 ?_
  refine PI.q ?_
  refine PI.q ?_
  refine rg57v24 (j1 + 10) [] fun all10 _ => ?_
  refine GoI.runN 2 nf24 ?_
  refine GoI.z nf24 ?_
  refine PI.b 2 ?_
  refine PI.lo (by kernel_rfl) (X := Nat) (fun i => (37, aI i) :: (8, .sl ((keys.map (kdA kinds) ++ (aggs.take i).map (fun a => (aggK kinds a).2)).map fun k => [aI k]) (some (([2], 0), keys.length + i))) :: uk [6, 7, 12, 38, 39, 40, 41, 42, 43, 44, 45, 46, 47, 48, 49, 50, 51, 52, 53, 54, 55, 56, 57, 58, 59, 60, 61, 62, 63, 64, 65, 66, 67, 68, 69, 70, 71, 72, 73, 74, 75, 76, 77, 78, 79, 80, 81, 82, 83, 84, 85, 86, 87, 88, 89, 90, 91, 92, 93, 94, 95, 96, 97, 98, 99, 100, 101]) (fun i => [(([2], 0), .tok (keys.length + i) 3 1)]) (fun k i => k = aggs.length - i ∧ i ≤ aggs.length ∧ ∀ j (hj : j < aggs.length), j < i → (aggK kinds aggs[j]).1 = 0) (aggs.length) (0) (GhI.of_wk ⟨by simp [ovr, uk, lessT, neJ2, neJ2', neJ3, neJ3'], by simp [lessR, lk, neJ2, neJ2', neJ3, neJ3'], by (try dsimp only); omega, keep0⟩) (⟨rfl, Nat.zero_le _, fun j hj hji => by omega⟩) ?_
  intro k2 x2 j2 hr2
  obtain ⟨rfl, hi2, hok⟩ := hr2
  simp only [ovr, uk, List.set_cons_zero, List.set_cons_succ]
  refine PI.q ?_
  refine rg57v24 (j2 + (j1 + 11)) [] fun all11 _ => ?_
  refine GoI.z nf24 ?_
  refine PI.q ?_
  refine PI.d 38 nf24 (fun hb3 => ?_) (fun hb3 => ?_)
  ·
   try simp only [hb3]
   obtain ⟨hlt2, hw2⟩ := up hb3 (by omega)
   have hx2 := aggs_at hlt2
   have hts : (aggs.take (x2 + 1)).map (fun a => (aggK kinds a).2) = (aggs.take x2).map (fun a => (aggK kinds a).2) ++ [(aggK kinds aggs[x2]).2] := map_take_succ' hlt2
   have hap2 : ((keys.map (kdA kinds) ++ (aggs.take x2).map (fun a => (aggK kinds a).2)).length + 1) * 8 ≤ 140737488355328 := by simp; omega
   generalize hA : aggs[x2] = A
   rw [hA] at hts
   replace U := U.cons (And.intro (hw2) (And.intro (hx2) (And.intro (hap2) (hA))))
   refine PI.s ?_
   refine PI.q ?_
   refine PI.b 3 ?_
   refine PI.q ?_
   refine rg57v24 (j2 + (j1 + 15)) [] fun all12 _ => ?_
   refine GoI.runN 2 nf24 ?_
   refine GoI.z nf24 ?_
   refine PI.sj (by kernel_rfl) (by kernel_rfl) (X := Unit) (fun _ => uk [6, 7, 41, 42, 43, 44, 45, 46, 47, 48, 49, 50, 51, 52, 53, 54, 55, 56, 57, 58, 59, 60, 61, 62, 63, 64, 65, 66, 67, 68, 69, 70, 71, 72, 73, 74, 75, 76, 77, 78, 79, 80, 81]) (fun _ => [(([2], 0), .tok (keys.length + x2) 3 1), (([j2 + (j1 + 13)], 0), .var 48 [aI A.op, aI A.arg])]) (fun _ => (aggK kinds A).1 = 0) ?_ ?_
   ·
    refine PI.b 4 ?_
    refine PI.q ?_
    refine rg57v24 (j2 + (j1 + 24)) [] fun all13 hall13 => ?_
    have hgd13_3 : (all13[3]?).bind (fun o => o.dst) = some 45 := by rw [← hall13]; kernel_rfl
    replace U := U.cons (hgd13_3)
    refine GoI.runN 2 nf24 ?_
    refine GoI.runN 2 nf24 ?_
    refine GoI.grd 45 nf24 (fun hg2 => ?_) (fun hg2 => ?_)
    ·
     try simp only [hg2]
     simp only [decide_eq_true_eq, decide_eq_false_iff_not, beq_iff_eq, beq_eq_false_iff_ne, ne_eq] at hg2
     refine GoI.runN 2 nf24 ?_
     refine GoI.runN 2 nf24 ?_
     refine GoI.z nf24 ?_
     refine PI.t 41 nf24 ?_
     have he : aggK kinds A = (7, 0) := by unfold aggK; rw [if_pos (by simp; first | omega | (simp at hb4; omega))]
     rw [grpK_err (k := 0) hka hlt2 hok (by rw [hA]; exact he) (by decide)]
     refine PI.q ?_
     refine rg57v24 (j2 + (j1 + 26)) [] fun all14 _ => ?_
     refine GoI.z nf24 ?_
     refine PI.r ?_
     exact FinI.mk _ nf24 (by clear U; (try rfl))
    try simp only [hg2]
    simp only [decide_eq_true_eq, decide_eq_false_iff_not, beq_iff_eq, beq_eq_false_iff_ne, ne_eq] at hg2
    refine GoI.runN 2 nf24 ?_
    refine GoI.runN 2 nf24 ?_
    refine GoI.z nf24 ?_
    refine PI.d 41 nf24 (fun hb4 => ?_) (fun hb4 => ?_)
    ·
     try simp only [hb4]
     have he : aggK kinds A = (7, 0) := by unfold aggK; rw [if_pos (by simp; first | omega | (simp at hb4; omega))]
     rw [grpK_err (k := 0) hka hlt2 hok (by rw [hA]; exact he) (by decide)]
     refine PI.q ?_
     refine rg57v24 (j2 + (j1 + 26)) [] fun all14 _ => ?_
     refine GoI.z nf24 ?_
     refine PI.r ?_
     exact FinI.mk _ nf24 (by clear U; (try rfl))
    try simp only [hb4]
    have hn4 : 1 ≤ A.op ∧ A.op ≤ 4 := by simp at hb4; omega
    refine PI.q ?_
    refine rg57v24 (j2 + (j1 + 33)) [] fun all15 hall15 => ?_
    have hgd15_3 : (all15[3]?).bind (fun o => o.dst) = some 54 := by rw [← hall15]; kernel_rfl
    replace U := U.cons (hgd15_3)
    refine GoI.runN 2 nf24 ?_
    refine GoI.runN 2 nf24 ?_
    refine GoI.grd 54 nf24 (fun hg3 => ?_) (fun hg3 => ?_)
    ·
     try simp only [hg3]
     simp only [decide_eq_true_eq, decide_eq_false_iff_not, beq_iff_eq, beq_eq_false_iff_ne, ne_eq] at hg3
     refine GoI.runN 2 nf24 ?_
     refine GoI.runN 2 nf24 ?_
     refine GoI.z nf24 ?_
     refine PI.d 50 nf24 (fun hb5 => ?_) (fun hb5 => ?_)
     ·
      try simp only [hb5]
      have h5 : A.op = 1 := by simpa using hb5
      have he : aggK kinds A = (0, 1) := by unfold aggK; rw [if_neg (by simp; omega), if_pos (by simp; omega)]
      refine PI.s ?_
      refine ⟨(), 18, by rw [he], GhI.of_wk ⟨by simp [ovr, uk, lessT, neJ2, neJ2', neJ3, neJ3'], by simp [lessR, lk, neJ2, neJ2', neJ3, neJ3'], by (try dsimp only); omega, keep0⟩⟩
     try simp only [hb5]
     have h5 : A.op ≠ 1 := by simpa using hb5
     refine PI.q ?_
     refine rg57v24 (j2 + (j1 + 44)) [] fun all16 hall16 => ?_
     have hgd16_3 : (all16[3]?).bind (fun o => o.dst) = some 63 := by rw [← hall16]; kernel_rfl
     replace U := U.cons (hgd16_3)
     refine GoI.runN 2 nf24 ?_
     refine GoI.runN 2 nf24 ?_
     refine GoI.grd 63 nf24 (fun hg4 => ?_) (fun hg4 => ?_)
     ·
      try simp only [hg4]
      simp only [decide_eq_true_eq, decide_eq_false_iff_not, beq_iff_eq, beq_eq_false_iff_ne, ne_eq] at hg4
      refine GoI.runN 2 nf24 ?_
      refine GoI.runN 2 nf24 ?_
      refine GoI.runN 2 nf24 ?_
      refine GoI.z nf24 ?_
      refine PI.t 59 nf24 ?_
      have he : aggK kinds A = (6, 0) := by unfold aggK; rw [if_neg (by simp; omega), if_neg (by simp; omega), if_pos (by simp; first | omega | (simp at hb6; omega))]
      rw [grpK_err (k := 0) hka hlt2 hok (by rw [hA]; exact he) (by decide)]
      refine PI.q ?_
      refine rg57v24 (j2 + (j1 + 46)) [] fun all17 _ => ?_
      refine GoI.z nf24 ?_
      refine PI.r ?_
      exact FinI.mk _ nf24 (by clear U; (try rfl))
     try simp only [hg4]
     simp only [decide_eq_true_eq, decide_eq_false_iff_not, beq_iff_eq, beq_eq_false_iff_ne, ne_eq] at hg4
     refine GoI.runN 2 nf24 ?_
     refine GoI.runN 2 nf24 ?_
     refine GoI.runN 2 nf24 ?_
     refine GoI.z nf24 ?_
     refine PI.d 59 nf24 (fun hb6 => ?_) (fun hb6 => ?_)
     ·
      try simp only [hb6]
      have he : aggK kinds A = (6, 0) := by unfold aggK; rw [if_neg (by simp; omega), if_neg (by simp; omega), if_pos (by simp; first | omega | (simp at hb6; omega))]
      rw [grpK_err (k := 0) hka hlt2 hok (by rw [hA]; exact he) (by decide)]
      refine PI.q ?_
      refine rg57v24 (j2 + (j1 + 46)) [] fun all17 _ => ?_
      refine GoI.z nf24 ?_
      refine PI.r ?_
      exact FinI.mk _ nf24 (by clear U; (try rfl))
     try simp only [hb6]
     have h60 : 0 ≤ A.arg := by omega
     have h61 : A.arg < kinds.length := by simp at hb6; omega
     have hy2 := kd_at h60 h61
     replace U := U.cons (And.intro (h60) (And.intro (h61) (hy2)))
     refine PI.q ?_
     refine rg57v24 (j2 + (j1 + 56)) [] fun all18 hall18 => ?_
     have hgd18_3 : (all18[3]?).bind (fun o => o.dst) = some 74 := by rw [← hall18]; kernel_rfl
     replace U := U.cons (hgd18_3)
     refine GoI.runN 2 nf24 ?_
     refine GoI.runN 2 nf24 ?_
     refine GoI.grd 74 nf24 (fun hg5 => ?_) (fun hg5 => ?_)
     ·
      try simp only [hg5]
      simp only [decide_eq_true_eq, decide_eq_false_iff_not, beq_iff_eq, beq_eq_false_iff_ne, ne_eq] at hg5
      refine GoI.runN 2 nf24 ?_
      refine GoI.runN 2 nf24 ?_
      refine GoI.runN 2 nf24 ?_
      refine GoI.z nf24 ?_
      refine PI.d 70 nf24 (fun hb7 => ?_) (fun hb7 => ?_)
      ·
       try simp only [hb7]
       have h7 : kdA kinds A.arg ≠ 1 := by simpa using hb7
       have he : aggK kinds A = (7, 0) := by unfold aggK; rw [if_neg (by simp; omega), if_neg (by simp; omega), if_neg (by simp; omega), if_pos (by simp; omega)]
       rw [grpK_err (k := 0) hka hlt2 hok (by rw [hA]; exact he) (by decide)]
       refine PI.q ?_
       refine rg57v24 (j2 + (j1 + 58)) [] fun all19 _ => ?_
       refine GoI.z nf24 ?_
       refine PI.r ?_
       exact FinI.mk _ nf24 (by clear U; (try rfl))
      try simp only [hb7]
      have h7 : kdA kinds A.arg = 1 := by simpa using hb7
      have he : (aggK kinds A).1 = 0 := by unfold aggK; rw [if_neg (by simp; omega), if_neg (by simp; omega), if_neg (by simp; omega), if_neg (by simp; omega)]
      refine PI.s ?_
      refine ⟨(), 41, he, GhI.of_wk ⟨by simp [ovr, uk, lessT, neJ2, neJ2', neJ3, neJ3'], by simp [lessR, lk, neJ2, neJ2', neJ3, neJ3'], by (try dsimp only); omega, keep0⟩⟩
     try simp only [hg5]
     simp only [decide_eq_true_eq, decide_eq_false_iff_not, beq_iff_eq, beq_eq_false_iff_ne, ne_eq] at hg5
     refine GoI.runN 2 nf24 ?_
     refine GoI.runN 2 nf24 ?_
     refine GoI.runN 2 nf24 ?_
     refine GoI.z nf24 ?_
     refine PI.f 70 nf24 ?_
     have he : (aggK kinds A).1 = 0 := by unfold aggK; rw [if_neg (by simp; omega), if_neg (by simp; omega), if_neg (by simp; omega), if_neg (by simp; omega)]
     refine PI.s ?_
     refine ⟨(), 41, he, GhI.of_wk ⟨by simp [ovr, uk, lessT, neJ2, neJ2', neJ3, neJ3'], by simp [lessR, lk, neJ2, neJ2', neJ3, neJ3'], by (try dsimp only); omega, keep0⟩⟩
    try simp only [hg3]
    simp only [decide_eq_true_eq, decide_eq_false_iff_not, beq_iff_eq, beq_eq_false_iff_ne, ne_eq] at hg3
    refine GoI.runN 2 nf24 ?_
    refine GoI.runN 2 nf24 ?_
    refine GoI.z nf24 ?_
    refine PI.f 50 nf24 ?_
    refine PI.q ?_
    refine rg57v24 (j2 + (j1 + 44)) [] fun all16 hall16 => ?_
    have hgd16_3 : (all16[3]?).bind (fun o => o.dst) = some 63 := by rw [← hall16]; kernel_rfl
    replace U := U.cons (hgd16_3)
    refine GoI.runN 2 nf24 ?_
    refine GoI.runN 2 nf24 ?_
    refine GoI.grd 63 nf24 (fun hg6 => ?_) (fun hg6 => ?_)
    ·
     try simp only [hg6]
     simp only [decide_eq_true_eq, decide_eq_false_iff_not, beq_iff_eq, beq_eq_false_iff_ne, ne_eq] at hg6
     refine GoI.runN 2 nf24 ?_
     refine GoI.runN 2 nf24 ?_
     refine GoI.runN 2 nf24 ?_
     refine GoI.z nf24 ?_
     refine PI.t 59 nf24 ?_
     have he : aggK kinds A = (6, 0) := by unfold aggK; rw [if_neg (by simp; omega), if_neg (by simp; omega), if_pos (by simp; first | omega | (simp at hb6; omega))]
     rw [grpK_err (k := 0) hka hlt2 hok (by rw [hA]; exact he) (by decide)]
     refine PI.q ?_
     refine rg57v24 (j2 + (j1 + 46)) [] fun all17 _ => ?_
     refine GoI.z nf24 ?_
     refine PI.r ?_
     exact FinI.mk _ nf24 (by clear U; (try rfl))
    try simp only [hg6]
    simp only [decide_eq_true_eq, decide_eq_false_iff_not, beq_iff_eq, beq_eq_false_iff_ne, ne_eq] at hg6
    refine GoI.runN 2 nf24 ?_
    refine GoI.runN 2 nf24 ?_
    refine GoI.runN 2 nf24 ?_
    refine GoI.z nf24 ?_
    refine PI.d 59 nf24 (fun hb6 => ?_) (fun hb6 => ?_)
    ·
     try simp only [hb6]
     have he : aggK kinds A = (6, 0) := by unfold aggK; rw [if_neg (by simp; omega), if_neg (by simp; omega), if_pos (by simp; first | omega | (simp at hb6; omega))]
     rw [grpK_err (k := 0) hka hlt2 hok (by rw [hA]; exact he) (by decide)]
     refine PI.q ?_
     refine rg57v24 (j2 + (j1 + 46)) [] fun all17 _ => ?_
     refine GoI.z nf24 ?_
     refine PI.r ?_
     exact FinI.mk _ nf24 (by clear U; (try rfl))
    try simp only [hb6]
    have h60 : 0 ≤ A.arg := by omega
    have h61 : A.arg < kinds.length := by simp at hb6; omega
    have hy2 := kd_at h60 h61
    replace U := U.cons (And.intro (h60) (And.intro (h61) (hy2)))
    refine PI.q ?_
    refine rg57v24 (j2 + (j1 + 56)) [] fun all18 hall18 => ?_
    have hgd18_3 : (all18[3]?).bind (fun o => o.dst) = some 74 := by rw [← hall18]; kernel_rfl
    replace U := U.cons (hgd18_3)
    refine GoI.runN 2 nf24 ?_
    refine GoI.runN 2 nf24 ?_
    refine GoI.grd 74 nf24 (fun hg7 => ?_) (fun hg7 => ?_)
    ·
     try simp only [hg7]
     simp only [decide_eq_true_eq, decide_eq_false_iff_not, beq_iff_eq, beq_eq_false_iff_ne, ne_eq] at hg7
     refine GoI.runN 2 nf24 ?_
     refine GoI.runN 2 nf24 ?_
     refine GoI.runN 2 nf24 ?_
     refine GoI.z nf24 ?_
     refine PI.d 70 nf24 (fun hb7 => ?_) (fun hb7 => ?_)
     ·
      try simp only [hb7]
      have h7 : kdA kinds A.arg ≠ 1 := by simpa using hb7
      have he : aggK kinds A = (7, 0) := by unfold aggK; rw [if_neg (by simp; omega), if_neg (by simp; omega), if_neg (by simp; omega), if_pos (by simp; omega)]
      rw [grpK_err (k := 0) hka hlt2 hok (by rw [hA]; exact he) (by decide)]
      refine PI.q ?_
      refine rg57v24 (j2 + (j1 + 58)) [] fun all19 _ => ?_
      refine GoI.z nf24 ?_
      refine PI.r ?_
      exact FinI.mk _ nf24 (by clear U; (try rfl))
     try simp only [hb7]
     have h7 : kdA kinds A.arg = 1 := by simpa using hb7
     have he : (aggK kinds A).1 = 0 := by unfold aggK; rw [if_neg (by simp; omega), if_neg (by simp; omega), if_neg (by simp; omega), if_neg (by simp; omega)]
     refine PI.s ?_
     refine ⟨(), 41, he, GhI.of_wk ⟨by simp [ovr, uk, lessT, neJ2, neJ2', neJ3, neJ3'], by simp [lessR, lk, neJ2, neJ2', neJ3, neJ3'], by (try dsimp only); omega, keep0⟩⟩
    try simp only [hg7]
    simp only [decide_eq_true_eq, decide_eq_false_iff_not, beq_iff_eq, beq_eq_false_iff_ne, ne_eq] at hg7
    refine GoI.runN 2 nf24 ?_
    refine GoI.runN 2 nf24 ?_
    refine GoI.runN 2 nf24 ?_
    refine GoI.z nf24 ?_
    refine PI.f 70 nf24 ?_
    have he : (aggK kinds A).1 = 0 := by unfold aggK; rw [if_neg (by simp; omega), if_neg (by simp; omega), if_neg (by simp; omega), if_neg (by simp; omega)]
    refine PI.s ?_
    refine ⟨(), 41, he, GhI.of_wk ⟨by simp [ovr, uk, lessT, neJ2, neJ2', neJ3, neJ3'], by simp [lessR, lk, neJ2, neJ2', neJ3, neJ3'], by (try dsimp only); omega, keep0⟩⟩
   intro y4 i1 hr4
   have hok2 := ok_succ hok hlt2 (by rw [hA]; exact hr4)
   simp only [ovr, uk, List.set_cons_zero, List.set_cons_succ]
   refine PI.q ?_
   refine rg57v24 (i1 + (j2 + (j1 + 23))) [] fun all20 hall20 => ?_
   have hgd20_3 : (all20[3]?).bind (fun o => o.dst) = some 85 := by rw [← hall20]; kernel_rfl
   replace U := U.cons (hgd20_3)
   refine GoI.runN 2 nf24 ?_
   refine GoI.runN 2 nf24 ?_
   refine GoI.grd 85 nf24 (fun hg8 => ?_) (fun hg8 => ?_)
   ·
    try simp only [hg8]
    simp only [decide_eq_true_eq, decide_eq_false_iff_not, beq_iff_eq, beq_eq_false_iff_ne, ne_eq] at hg8
    refine GoI.runN 2 nf24 ?_
    refine GoI.z nf24 ?_
    refine PI.t 89 nf24 ?_
    have h8 : A.op = 3 ∨ A.op = 4 := by first | omega | (simp at hb8; omega)
    obtain ⟨h34a, h34b, h34c⟩ := agg_34 hr4 h8
    have hy3 := kd_at h34a h34b
    rw [h34c] at hts
    replace U := U.cons (And.intro (h34a) (And.intro (h34b) (hy3)))
    refine rg57v24 (i1 + (j2 + (j1 + 32))) [] fun all21 _ => ?_
    refine GoI.runN 2 nf24 ?_
    refine GoI.runN 2 nf24 ?_
    refine GoI.runN 2 nf24 ?_
    refine GoI.runN 2 nf24 ?_
    refine GoI.z nf24 ?_
    refine rg57v24 (i1 + (j2 + (j1 + 34))) [] fun all23 _ => ?_
    refine GoI.z nf24 ?_
    refine ⟨aggs.length - (x2 + 1), x2 + 1, i1 + (j2 + 24), by omega, ⟨rfl, by omega, hok2⟩, GhI.of_wk ⟨by simp only [ovr, uk, lessT, hts, List.map_append, List.map_cons, List.map_nil]; simp [lessT], by simp [lessR, lk], by (try dsimp only); omega, keep0⟩⟩
   try simp only [hg8]
   simp only [decide_eq_true_eq, decide_eq_false_iff_not, beq_iff_eq, beq_eq_false_iff_ne, ne_eq] at hg8
   refine GoI.runN 2 nf24 ?_
   refine GoI.z nf24 ?_
   refine PI.d 89 nf24 (fun hb8 => ?_) (fun hb8 => ?_)
   ·
    try simp only [hb8]
    have h8 : A.op = 3 ∨ A.op = 4 := by first | omega | (simp at hb8; omega)
    obtain ⟨h34a, h34b, h34c⟩ := agg_34 hr4 h8
    have hy3 := kd_at h34a h34b
    rw [h34c] at hts
    replace U := U.cons (And.intro (h34a) (And.intro (h34b) (hy3)))
    refine rg57v24 (i1 + (j2 + (j1 + 32))) [] fun all21 _ => ?_
    refine GoI.runN 2 nf24 ?_
    refine GoI.runN 2 nf24 ?_
    refine GoI.runN 2 nf24 ?_
    refine GoI.runN 2 nf24 ?_
    refine GoI.z nf24 ?_
    refine rg57v24 (i1 + (j2 + (j1 + 34))) [] fun all23 _ => ?_
    refine GoI.z nf24 ?_
    refine ⟨aggs.length - (x2 + 1), x2 + 1, i1 + (j2 + 24), by omega, ⟨rfl, by omega, hok2⟩, GhI.of_wk ⟨by simp only [ovr, uk, lessT, hts, List.map_append, List.map_cons, List.map_nil]; simp [lessT], by simp [lessR, lk], by (try dsimp only); omega, keep0⟩⟩
   try simp only [hb8]
   have h8 : ¬ (A.op = 3 ∨ A.op = 4) := by simp at hb8; omega
   have h12 := agg_12 hr4 h8
   rw [h12] at hts
   refine rg57v24 (i1 + (j2 + (j1 + 27))) [] fun all22 _ => ?_
   refine GoI.runN 2 nf24 ?_
   refine GoI.z nf24 ?_
   refine rg57v24 (i1 + (j2 + (j1 + 29))) [] fun all23 _ => ?_
   refine GoI.z nf24 ?_
   refine ⟨aggs.length - (x2 + 1), x2 + 1, i1 + (j2 + 19), by omega, ⟨rfl, by omega, hok2⟩, GhI.of_wk ⟨by simp only [ovr, uk, lessT, hts, List.map_append, List.map_cons, List.map_nil]; simp [lessT], by simp [lessR, lk], by (try dsimp only); omega, keep0⟩⟩
  try simp only [hb3]
  have hge2 := dn hb3
  have hfin := grpK_ok hka (fun j hj => hok j hj (by omega))
  rw [hfin]
  rw [List.take_of_length_le hge2]
  refine PI.e 2 ?_
  refine PI.q ?_
  refine rg57v24 (j2 + (j1 + 14)) [] fun all24 _ => ?_
  refine GoI.runN 2 nf24 ?_
  refine GoI.z nf24 ?_
  refine PI.r ?_
  exact FinI.mk _ nf24 (by clear U; (try rfl))
end Go.FE
namespace Go.FE
open Go.Proofs
end Go.FE
