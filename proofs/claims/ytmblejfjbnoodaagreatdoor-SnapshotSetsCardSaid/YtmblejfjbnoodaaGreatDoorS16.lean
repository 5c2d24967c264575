/- Insertion sort. A merge by rotation: one element and a run. -/
import Derived.Test.YtmblejfjbnoodaaGreatDoorS09
import Derived.Test.YtmblejfjbnoodaaGreatDoorS15
set_option linter.unusedVariables false
set_option linter.unusedSimpArgs false
namespace Go.FE
open Go.Proofs
theorem nf7 {α : Type} {a b : α} (h : a = b := by simp only [goP, goN, mrk, Nat.reduceMul, Nat.one_mul, Nat.mul_one, eq_self, false_implies, implies_true, Nat.reduceLT, List.getElem?_toArray, isCall, List.contains_nil, List.contains_cons, Nat.reduceBEq, Bool.or_false, Bool.or_self, List.length_map, gOf, step, stepM, stepP, ev, okV, if_true, if_false, allocA, storeA, boxA, one1, tokN, tok1, buildA, rowA, nrmP, partV, partA, fieldA, fieldV, elemA, lenA, bltA, asSl, appA, makeA, makeR, cutA, bndA, binV, intOp, strOp, unV, eqB, nilB, sameT, List.all_cons, List.all_nil, Bool.and_self, Bool.and_true, Bool.true_and, List.map_cons, List.map_nil, List.nil_append, List.cons_append, List.append_nil, AV.bare, AV.content, AV.clean, AV.one, putD, List.set_cons_zero, List.set_cons_succ, List.reverse_cons, List.reverse_nil, List.getD_cons_zero, List.getD_cons_succ, List.getElem?_cons_zero, List.getElem?_cons_succ, Option.getD_some, Option.map_some, Option.map_none, Option.bind_some, List.length_cons, List.length_nil, lk, cellsA, fillA, fillS, isAggD, spl, nrm, nrmA, List.take_succ_cons, List.take_zero, List.drop_succ_cons, List.drop_zero, List.drop_nil, List.take_nil, Nat.reduceAdd, Nat.zero_add, Nat.add_zero, Nat.add_assoc, Nat.add_left_cancel_iff, reduceCtorEq, Prod.mk.injEq, List.cons.injEq, and_self, and_true, true_and, Nat.le_refl, Nat.reduceLeDiff, Nat.reduceEqDiff, List.getElem?_nil, Int.reduceToNat, Int.reduceLE, Int.reduceLT, ite_self, List.forall_mem_cons, List.not_mem_nil, false_and, and_false, Bool.false_eq_true, List.replicate_zero, List.replicate_succ, Int.toNat_natCast, neJ2, neJ2', neJ3, neJ3', callOf, callOf2, fnOf, argsA, args2, Array.isEmpty_empty, resLL, resVL, beq_self_eq_true, appR, newR, storeP, st3, zt3, it3, ct3, se3, Tryz.underlying3, st4, zt4, it4, ct4, se4, Tryz.underlying4, st9, zt9, it9, ct9, se9, Tryz.underlying9, st23, zt23, it23, ct23, se23, Tryz.underlying23, st25, zt25, it25, ct25, pt25, eqs25, se25, Tryz.underlying25, st49, zt49, it49, ct49, se49, Tryz.underlying49, st122, Tryz.underlying122, Tryz.results208, Int.natCast_nonneg, U.out] <;> rfl) : a = b := h
theorem rg208v7 {T : List Rid} {p : Path} {Q : Exit → SL → Prop} {tm : List AV} {L : RL} {n : Nat} {c : Code} {l : List Oper} (n' : Nat) (Qs : List Nat) (h : ∀ all, (ro c).toList = all → GoI Tryz.prog T p all false Qs n 0 l tm L fun tm' L' => Q .normal ⟨tm', L', n'⟩) (hk : kd c = 0 := by kernel_rfl) (hr : rd c = false := by kernel_rfl) (hl : (ro c).toList = l := by dsimp only [ro, s1, s2, c1, c2, bc, bod, Tryz.f208, Option.getD_some] <;> exact rfl) (hn : n + (ro c).size = n' := by kernel_rfl) : PI Tryz.prog T p c Q ⟨tm, L, n⟩ := PI.rg n' Qs hk hr hl (fun h => by cases h) hn (h _ rfl)
theorem rd208v7 {T : List Rid} {p : Path} {Q : Exit → SL → Prop} {tm : List AV} {L : RL} {n : Nat} {c : Code} {l : List Oper} (n' : Nat) (Qs : List Nat) (h : ∀ all, (ro c).toList = all → GoI Tryz.prog T p all true Qs n 0 l tm L fun tm' L' => Q .normal ⟨tm', L', n'⟩) (hk : kd c = 0 := by kernel_rfl) (hr : rd c = true := by kernel_rfl) (hl : (ro c).toList = l := by dsimp only [ro, s1, s2, c1, c2, bc, bod, Tryz.f208, Option.getD_some] <;> exact rfl) (hn : n + (ro c).size = n' := by kernel_rfl) (hd : drawOK (ro c) Qs = true := by kernel_rfl) : PI Tryz.prog T p c Q ⟨tm, L, n⟩ := PI.rg n' Qs hk hr hl (fun _ => hd) hn (h _ rfl)
set_option maxHeartbeats 1000000 in
set_option maxRecDepth 100000 in
theorem okIns {id : Rid} {rs : Rid → Res} {p : Path} {s : Nat} (l : List Row) (N a b : Nat) (hid : ¬ Under p id) (hrs : rs id = arrR s l) (hN : N = l.length) (hl : N ≤ 1000000) (h1 : a ≤ b) (h2 : b ≤ N) :
    Calls2 Tryz.prog 208 [aArr id s N, aI a, aI b, aCmp] [id] rs p (.tup []) [(id, arrR s (srtSeg l a b))] := by
  have hl' : N ≤ maxLen := by unfold maxLen; omega
  have w1 : IntKind.i64.wrap ((a : Int) + 1) = ((a + 1 : Nat) : Int) := wN (y := 0) (by omega) (by unfold maxLen; omega)
  have U : Hid True := ⟨trivial⟩
  replace U := U.cons (And.intro (nu1 hid) (And.intro (nu2 hid) (w1)))
  refine Calls2.of_pi ([(id, arrR s l)]) mixed Tryz.func208 (by kernel_rfl) (by kernel_rfl) (by simp [lk, hrs, hid]) (by simp [lk, hrs, hid]) (by simp [lk, hrs, hid]) (by simp [lk, hrs, hid]) (by simp [lk, hrs, hid]) (?_ : PI _ _ _ _ _ ⟨[aArr id s N, aI a, aI b, aCmp, .und, .und, .und, .und, .und, .und, .und, .und, .und, .und, .und, .und, .und, .und, .und, .und, .und, .und, .und, .und, .und, .und, .und, .und, .und, .und, .und, .und, .und, .und, .und, .und, .und, .und, .und, .und, .und, .und, .und, .und, .und, .und, .und, .und, .und, .und, .und, .und, .und], [(id, arrR s l)], 0⟩)
  refine PI.q ?_
  refine rg208v7 (3) [] fun all1 _ => ?_
  refine GoI.runN 2 nf7 ?_
  refine GoI.z nf7 ?_
  refine PI.b 0 ?_
  refine PI.lo (by kernel_rfl) (X := Nat) (fun i => (8, aI i) :: uk [9, 12, 13, 14, 15, 16, 17, 18, 19, 20, 21, 22, 23, 24, 25, 26, 27, 28, 29, 30, 31, 32, 33, 34, 35, 36, 37, 38, 39, 40, 41, 42, 43, 44, 45, 46, 47, 48, 49, 50, 51, 52]) (fun i => [(id, arrR s (srtSeg l a (min i b)))]) (fun k i => k = b - i ∧ a + 1 ≤ i) (b - (a + 1)) (a + 1) ((by have e0 := srtSeg_one (l := l) (a := a) (b := min (a + 1) b) (by omega) (by omega) (by omega); exact GhI.of_wk ⟨by simp [ovr, uk, lessT], by simp [lessR, lk, e0], by (try dsimp only); omega, by simp [keepR, lk, under_self, nu1 hid, nu2 hid, e0]⟩)) (by simp) ?_
  intro k1 x1 j1 hr1
  obtain ⟨rfl, hi1⟩ := hr1
  simp only [ovr, uk, List.set_cons_zero, List.set_cons_succ]
  refine PI.q ?_
  refine PI.q ?_
  refine rg208v7 (j1 + 6) [] fun all2 _ => ?_
  refine GoI.runN 2 nf7 ?_
  refine GoI.z nf7 ?_
  refine PI.d 14 nf7 (fun hb1 => ?_) (fun hb1 => ?_)
  ·
   try simp only [hb1]
   obtain ⟨hlt, hw⟩ := up hb1 (by omega)
   generalize hX : srtSeg l a (min x1 b) = X
   have hmin : min x1 b = x1 := by omega
   rw [hmin] at hX
   have hXl : X.length = N := by rw [← hX, (srtSeg_is (by omega) (by omega)).1.len, hN]
   have hXs : SdSeg X a x1 := by rw [← hX]; exact (srtSeg_is (by omega) (by omega)).2
   replace U := U.cons (hw)
   refine PI.s ?_
   refine PI.q ?_
   refine PI.b 1 ?_
   refine PI.q ?_
   refine rg208v7 (j1 + 8) [] fun all3 _ => ?_
   refine GoI.z nf7 ?_
   refine PI.b 2 ?_
   refine PI.lo (by kernel_rfl) (X := Nat) (fun j => (9, aI j) :: uk [18, 19, 20, 21, 22, 23, 24, 25, 26, 27, 28, 29, 30, 31, 32, 33, 34, 35, 36, 37, 38, 39, 40, 41, 42, 43, 44, 45, 46, 47, 48, 49, 50, 51, 52]) (fun j => [(id, arrR s (rot X j x1 (x1 + 1)))]) (fun k j => j = k ∧ a ≤ j ∧ j ≤ x1 ∧ ∀ p, j ≤ p → p < x1 → cmpR (gt' X x1) (gt' X p) ≤ 0) (x1) (x1) (GhI.of_wk ⟨by simp [ovr, uk, lessT], by simp [lessR, lk, rot_nil1 (l := X) (a := x1) (b := x1 + 1) (by omega) (by omega)], by (try dsimp only); omega, by simp [keepR, lk, under_self, nu1 hid, nu2 hid, rot_nil1 (l := X) (a := x1) (b := x1 + 1) (by omega) (by omega)]⟩) (⟨rfl, by omega, Nat.le_refl _, fun p _ _ => by omega⟩) ?_
   intro k2 x2 j2 hr2
   obtain ⟨rfl, hj1, hj2, hjc⟩ := hr2
   simp only [ovr, uk, List.set_cons_zero, List.set_cons_succ]
   refine PI.q ?_
   refine PI.q ?_
   refine rd208v7 (j2 + (j1 + 25)) [] fun all4 hall4 => ?_
   have hgd4_3 : (all4[3]?).bind (fun o => o.dst) = some 21 := by rw [← hall4]; kernel_rfl
   replace U := U.cons (hgd4_3)
   refine GoI.runN 2 nf7 ?_
   refine GoI.runN 2 nf7 ?_
   refine GoI.grd 21 nf7 (fun hg1 => ?_) (fun hg1 => ?_)
   ·
    try simp only [hg1]
    have hja : a < x2 := by simp at hg1; omega
    have w2 : IntKind.i64.wrap ((x2 : Int) - 1) = ((x2 - 1 : Nat) : Int) := wN (y := 0) (by omega) (by omega)
    have hRl : (rot X x2 x1 (x1 + 1)).length = N := by rw [rot_len (by omega) (by omega) (by omega), hXl]
    have hc := show x2 < N by omega
    have hd := show x2 - 1 < N by omega
    have hx := rws_at (l := rot X x2 x1 (x1 + 1)) (i := x2) (by omega)
    have hy := rws_at (l := rot X x2 x1 (x1 + 1)) (i := x2 - 1) (by omega)
    have hz : (((rot X x2 x1 (x1 + 1)).map fun r => [aRow r]).set x2 [aRow (gt' (rot X x2 x1 (x1 + 1)) (x2 - 1))])[x2 - 1]? = some [aRow (gt' (rot X x2 x1 (x1 + 1)) (x2 - 1))] := by rw [List.getElem?_set, if_neg (by omega), hy]
    have e1 : gt' (rot X x2 x1 (x1 + 1)) x2 = gt' X x1 := by rw [gt_rot (by omega) (by omega) (by omega)]; simp only [rotI]; (repeat' split) <;> first | omega | (congr 1; done) | (congr 1; omega)
    have e2 : gt' (rot X x2 x1 (x1 + 1)) (x2 - 1) = gt' X (x2 - 1) := by rw [gt_rot (by omega) (by omega) (by omega)]; simp only [rotI]; (repeat' split) <;> first | omega | (congr 1; done) | (congr 1; omega)
    have e3 := swp_dn (l := X) (k := x2) (m := x1) (by omega) (by omega) (by omega)
    rw [swp, e1, e2] at e3
    rw [e1] at hx
    rw [e2] at hy hz
    replace U := U.cons (And.intro (w2) (And.intro (hc) (And.intro (hd) (And.intro (hx) (And.intro (hy) (And.intro (hz) (@Int.ofNat_lt)))))))
    refine GoI.runN 2 nf7 ?_
    refine GoI.runN 2 nf7 ?_
    refine GoI.runN 2 nf7 ?_
    refine GoI.runN 2 nf7 ?_
    refine GoI.runN 2 nf7 ?_
    refine GoI.call nf7 nf7 (by exact okCmpR _ _) ?_
    refine GoI.z nf7 ?_
    refine PI.d 34 nf7 (fun hb2 => ?_) (fun hb2 => ?_)
    ·
     try simp only [hb2]
     have hcl : cmpR (gt' X x1) (gt' X (x2 - 1)) < 0 := by simpa using hb2
     refine PI.s ?_
     refine PI.q ?_
     refine PI.b 3 ?_
     refine rd208v7 (j2 + (j1 + 43)) [] fun all5 _ => ?_
     refine GoI.runN 2 nf7 ?_
     refine GoI.runN 2 nf7 ?_
     refine GoI.runN 2 nf7 ?_
     refine GoI.runN 2 nf7 ?_
     refine GoI.runN 2 nf7 ?_
     refine GoI.runN 2 nf7 ?_
     refine GoI.runN 2 nf7 ?_
     refine GoI.runN 2 nf7 ?_
     refine GoI.z nf7 ?_
     refine rg208v7 (j2 + (j1 + 46)) [] fun all6 _ => ?_
     refine GoI.runN 2 nf7 ?_
     refine GoI.z nf7 ?_
     refine ⟨x2 - 1, x2 - 1, j2 + 38, by omega, ⟨rfl, by omega, by omega, fun p hp hq => by rcases Nat.lt_or_ge p x2 with h | h; (rw [show p = x2 - 1 by omega]; omega); exact hjc p h hq⟩, GhI.of_wk ⟨by simp [ovr, uk, lessT], by simp [lessR, lk, ← e3, List.map_set], by (try dsimp only); omega, by simp [keepR, lk, under_self, nu1 hid, nu2 hid, ← e3, List.map_set]⟩⟩
    try simp only [hb2]
    have hcl : ¬ cmpR (gt' X x1) (gt' X (x2 - 1)) < 0 := by simpa using hb2
    have hfin : rot X x2 x1 (x1 + 1) = srtSeg l a (min (x1 + 1) b) := by
      rw [ins_dn (a := a) hXs (by omega) (by omega) (by omega) (fun p hp hq => ?_) hjc, ← hX, srtSeg_srtSeg (by omega) (by omega) (by omega) (by omega), show min (x1 + 1) b = x1 + 1 by omega]
      have h5 : cmpR (gt' X (x2 - 1)) (gt' X x1) ≤ 0 := by have := preR.anti (gt' X (x2 - 1)) (gt' X x1); omega
      rcases Nat.lt_or_ge p (x2 - 1) with h | h
      · exact preR.tr _ _ _ (hXs p (x2 - 1) hp h (by omega)) h5
      · rw [show p = x2 - 1 by omega]; exact h5
    rw [hfin]
    refine PI.e 2 ?_
    refine rg208v7 (j2 + (j1 + 28)) [] fun all7 _ => ?_
    refine GoI.runN 2 nf7 ?_
    refine GoI.z nf7 ?_
    refine ⟨b - (x1 + 1), x1 + 1, j2 + (j1 + 25), by omega, ⟨rfl, by omega⟩, GhI.of_wk ⟨by simp [ovr, uk, lessT], by simp [lessR, lk, nu1 hid, nu2 hid, w1, neJ2, neJ2', neJ3, neJ3'], by (try dsimp only); omega, by simp [keepR, lk, under_self, nu1 hid, nu2 hid, w1, neJ2, neJ2', neJ3, neJ3']⟩⟩
   try simp only [hg1]
   have hja : x2 = a := by simp at hg1; omega
   have hfin : rot X x2 x1 (x1 + 1) = srtSeg l a (min (x1 + 1) b) := by rw [ins_dn (a := a) hXs (by omega) (by omega) (by omega) (fun p hp hq => by omega) hjc, ← hX, srtSeg_srtSeg (by omega) (by omega) (by omega) (by omega), show min (x1 + 1) b = x1 + 1 by omega]
   rw [hfin]
   refine GoI.runN 2 nf7 ?_
   refine GoI.runN 2 nf7 ?_
   refine GoI.runN 2 nf7 ?_
   refine GoI.runN 2 nf7 ?_
   refine GoI.runN 2 nf7 ?_
   refine GoI.runN 2 nf7 ?_
   refine GoI.z nf7 ?_
   refine PI.f 34 nf7 ?_
   refine PI.e 2 ?_
   refine rg208v7 (j2 + (j1 + 28)) [] fun all7 _ => ?_
   refine GoI.runN 2 nf7 ?_
   refine GoI.z nf7 ?_
   refine ⟨b - (x1 + 1), x1 + 1, j2 + (j1 + 25), by omega, ⟨rfl, by omega⟩, GhI.of_wk ⟨by simp [ovr, uk, lessT], by simp [lessR, lk, nu1 hid, nu2 hid, w1, neJ2, neJ2', neJ3, neJ3'], by (try dsimp only); omega, by simp [keepR, lk, under_self, nu1 hid, nu2 hid, w1, neJ2, neJ2', neJ3, neJ3']⟩⟩
  try simp only [hb1]
  have hge := dn hb1
  rw [show min x1 b = b by omega]
  refine PI.e 0 ?_
  exact FinI.mk _ nf7 ⟨by clear U; rfl, fin_keys (by simp [lk, under_self, nu1 hid, nu2 hid, w1]) (by simp [lk, under_self, nu1 hid, nu2 hid, w1])⟩
end Go.FE
namespace Go.FE
open Go.Proofs
theorem nf8 {α : Type} {a b : α} (h : a = b := by simp only [goP, goN, mrk, Nat.reduceMul, Nat.one_mul, Nat.mul_one, eq_self, false_implies, implies_true, Nat.reduceLT, List.getElem?_toArray, isCall, List.contains_nil, List.contains_cons, Nat.reduceBEq, Bool.or_false, Bool.or_self, List.length_map, gOf, step, stepM, stepP, ev, okV, if_true, if_false, allocA, storeA, boxA, one1, tokN, tok1, buildA, rowA, nrmP, partV, partA, fieldA, fieldV, elemA, lenA, bltA, asSl, appA, makeA, makeR, cutA, bndA, binV, intOp, strOp, unV, eqB, nilB, sameT, List.all_cons, List.all_nil, Bool.and_self, Bool.and_true, Bool.true_and, List.map_cons, List.map_nil, List.nil_append, List.cons_append, List.append_nil, AV.bare, AV.content, AV.clean, AV.one, putD, List.set_cons_zero, List.set_cons_succ, List.reverse_cons, List.reverse_nil, List.getD_cons_zero, List.getD_cons_succ, List.getElem?_cons_zero, List.getElem?_cons_succ, Option.getD_some, Option.map_some, Option.map_none, Option.bind_some, List.length_cons, List.length_nil, lk, cellsA, fillA, fillS, isAggD, spl, nrm, nrmA, List.take_succ_cons, List.take_zero, List.drop_succ_cons, List.drop_zero, List.drop_nil, List.take_nil, Nat.reduceAdd, Nat.zero_add, Nat.add_zero, Nat.add_assoc, Nat.add_left_cancel_iff, reduceCtorEq, Prod.mk.injEq, List.cons.injEq, and_self, and_true, true_and, Nat.le_refl, Nat.reduceLeDiff, Nat.reduceEqDiff, List.getElem?_nil, Int.reduceToNat, Int.reduceLE, Int.reduceLT, ite_self, List.forall_mem_cons, List.not_mem_nil, false_and, and_false, Bool.false_eq_true, List.replicate_zero, List.replicate_succ, Int.toNat_natCast, neJ2, neJ2', neJ3, neJ3', callOf, callOf2, fnOf, argsA, args2, Array.isEmpty_empty, resLL, resVL, beq_self_eq_true, appR, newR, storeP, st3, zt3, it3, ct3, se3, Tryz.underlying3, st4, zt4, it4, ct4, se4, Tryz.underlying4, st9, zt9, it9, ct9, se9, Tryz.underlying9, st23, zt23, it23, ct23, se23, Tryz.underlying23, st25, zt25, it25, ct25, pt25, eqs25, se25, Tryz.underlying25, st49, zt49, it49, ct49, se49, Tryz.underlying49, st122, Tryz.underlying122, st139, zt139, it139, ct139, se139, Tryz.underlying139, Tryz.results209, Int.toNat_one, U.out] <;> rfl) : a = b := h
theorem halfN (x : Nat) : ((x : Int)).fdiv (2 ^ (min 1 IntKind.u64.bits)) = ((x / 2 : Nat) : Int) := by
  have : min 1 IntKind.u64.bits = 1 := by decide
  rw [this]
  rw [Int.fdiv_eq_ediv_of_nonneg _ (by decide)]
  simp
theorem wU {x : Nat} (hn : x ≤ maxLen) : IntKind.u64.wrap (x : Int) = x := by
  unfold maxLen at hn
  show (x : Int) % 2 ^ 64 = x
  exact Int.emod_eq_of_lt (by omega) (by omega)
structure IJ where
  i : Nat
  j : Nat
theorem rg209v8 {T : List Rid} {p : Path} {Q : Exit → SL → Prop} {tm : List AV} {L : RL} {n : Nat} {c : Code} {l : List Oper} (n' : Nat) (Qs : List Nat) (h : ∀ all, (ro c).toList = all → GoI Tryz.prog T p all false Qs n 0 l tm L fun tm' L' => Q .normal ⟨tm', L', n'⟩) (hk : kd c = 0 := by kernel_rfl) (hr : rd c = false := by kernel_rfl) (hl : (ro c).toList = l := by dsimp only [ro, s1, s2, c1, c2, bc, bod, Tryz.f209, Option.getD_some] <;> exact rfl) (hn : n + (ro c).size = n' := by kernel_rfl) : PI Tryz.prog T p c Q ⟨tm, L, n⟩ := PI.rg n' Qs hk hr hl (fun h => by cases h) hn (h _ rfl)
theorem rd209v8 {T : List Rid} {p : Path} {Q : Exit → SL → Prop} {tm : List AV} {L : RL} {n : Nat} {c : Code} {l : List Oper} (n' : Nat) (Qs : List Nat) (h : ∀ all, (ro c).toList = all → GoI Tryz.prog T p all true Qs n 0 l tm L fun tm' L' => Q .normal ⟨tm', L', n'⟩) (hk : kd c = 0 := by kernel_rfl) (hr : rd c = true := by kernel_rfl) (hl : (ro c).toList = l := by dsimp only [ro, s1, s2, c1, c2, bc, bod, Tryz.f209, Option.getD_some] <;> exact rfl) (hn : n + (ro c).size = n' := by kernel_rfl) (hd : drawOK (ro c) Qs = true := by kernel_rfl) : PI Tryz.prog T p c Q ⟨tm, L, n⟩ := PI.rg n' Qs hk hr hl (fun _ => hd) hn (h _ rfl)
set_option maxHeartbeats 1000000 in
set_option maxRecDepth 100000 in
theorem okSym1 {id : Rid} {rs : Rid → Res} {p : Path} {s : Nat} (l : List Row) (N a m b : Nat) (hid : ¬ Under p id) (hrs : rs id = arrR s l) (hN : N = l.length) (hl : N ≤ 1000000) (hm : m = a + 1) (h2 : m < b) (h3 : b ≤ N) (hB : SdSeg l m b) :
    Calls2 Tryz.prog 209 [aArr id s N, aI a, aI m, aI b, aCmp] [id] rs p (.tup []) [(id, arrR s (srtSeg l a b))] := by
  have hl' : 2 * N ≤ maxLen := by unfold maxLen; omega
  have w1 : IntKind.i64.wrap ((m : Int) - a) = 1 := by have : IntKind.i64.wrap ((m : Int) - a) = ((1 : Nat) : Int) := wN (y := 0) (by omega) (by unfold maxLen; omega); exact this
  have hcA := show a < N by omega
  have hxA := rws_at (l := l) (i := a) (by omega)
  have U : Hid True := ⟨trivial⟩
  replace U := U.cons (And.intro (nu1 hid) (And.intro (nu2 hid) (And.intro (w1) (halfN))))
  refine Calls2.of_pi ([(id, arrR s l)]) mixed Tryz.func209 (by kernel_rfl) (by kernel_rfl) (by simp [lk, hrs, hid]) (by simp [lk, hrs, hid]) (by simp [lk, hrs, hid]) (by simp [lk, hrs, hid]) (by simp [lk, hrs, hid]) (?_ : PI _ _ _ _ _ ⟨[aArr id s N, aI a, aI m, aI b, aCmp, .und, .und, .und, .und, .und, .und, .und, .und, .und, .und, .und, .und, .und, .und, .und, .und, .und, .und, .und, .und, .und, .und, .und, .und, .und, .und, .und, .und, .und, .und, .und, .und, .und, .und, .und, .und, .und, .und, .und, .und, .und, .und, .und, .und, .und, .und, .und, .und, .und, .und, .und, .und, .und, .und, .und, .und, .und, .und, .und, .und, .und, .und, .und, .und, .und, .und, .und, .und, .und, .und, .und, .und, .und, .und, .und, .und, .und, .und, .und, .und, .und, .und, .und, .und, .und, .und, .und, .und, .und, .und, .und, .und, .und, .und, .und, .und, .und, .und, .und, .und, .und, .und, .und, .und, .und, .und, .und, .und, .und, .und, .und, .und, .und, .und, .und, .und, .und, .und, .und, .und, .und, .und, .und, .und, .und, .und, .und, .und, .und, .und, .und, .und, .und, .und, .und, .und, .und, .und, .und, .und, .und, .und, .und, .und, .und, .und, .und, .und, .und, .und, .und, .und, .und, .und, .und, .und, .und, .und, .und, .und, .und, .und, .und, .und, .und, .und, .und, .und, .und, .und, .und, .und, .und, .und, .und, .und, .und, .und, .und, .und, .und, .und, .und, .und, .und, .und, .und, .und, .und, .und, .und, .und, .und, .und, .und, .und, .und, .und, .und, .und, .und, .und, .und, .und, .und, .und, .und, .und, .und, .und, .und, .und, .und, .und, .und], [(id, arrR s l)], 0⟩)
  refine PI.q ?_
  refine PI.q ?_
  refine rg209v8 (4) [] fun all1 _ => ?_
  refine GoI.runN 2 nf8 ?_
  refine GoI.z nf8 ?_
  refine PI.d 28 nf8 (fun hb1 => ?_) (fun hb1 => ?_)
  ·
   try simp only [hb1]
   refine PI.q ?_
   refine rg209v8 (6) [] fun all2 _ => ?_
   refine GoI.z nf8 ?_
   refine PI.q ?_
   refine rg209v8 (8) [] fun all3 _ => ?_
   refine GoI.z nf8 ?_
   refine PI.q ?_
   refine PI.b 0 ?_
   refine PI.lo (by kernel_rfl) (X := IJ) (fun x => (10, aI x.i) :: (11, aI x.j) :: uk [12, 31, 32, 33, 34, 35, 36, 37, 38, 39, 40, 41, 42, 43, 44, 45, 46, 47, 48, 49, 50, 51, 52, 53]) (fun _ => [(id, arrR s l)]) (fun k x => k = x.j - x.i ∧ m ≤ x.i ∧ x.i ≤ x.j ∧ x.j ≤ b ∧ (∀ p, m ≤ p → p < x.i → cmpR (gt' l p) (gt' l a) ≤ 0) ∧ (∀ p, x.j ≤ p → p < b → cmpR (gt' l a) (gt' l p) ≤ 0)) (b - m) (⟨m, b⟩) (GhI.of_wk ⟨by simp [ovr, uk, lessT], by simp [lessR, lk, nu1 hid, nu2 hid, w1, halfN, Nat.reduceLeDiff, Int.toNat_one, neJ2, neJ2', neJ3, neJ3'], by (try dsimp only); omega, by simp [keepR, lk, under_self, nu1 hid, nu2 hid, w1, halfN, Nat.reduceLeDiff, Int.toNat_one, neJ2, neJ2', neJ3, neJ3']⟩) (⟨rfl, Nat.le_refl _, Nat.le_of_lt h2, Nat.le_refl _, fun p hp hq => by dsimp only at hq; omega, fun p hp hq => by dsimp only at hp; omega⟩) ?_
   intro k1 x1 j1 hr1
   obtain ⟨rfl, hi1, hi2, hi3, hlo, hhi⟩ := hr1
   simp only [ovr, uk, List.set_cons_zero, List.set_cons_succ]
   refine PI.q ?_
   refine PI.q ?_
   refine rg209v8 (j1 + 11) [] fun all4 _ => ?_
   refine GoI.runN 2 nf8 ?_
   refine GoI.z nf8 ?_
   refine PI.d 33 nf8 (fun hb2 => ?_) (fun hb2 => ?_)
   ·
    try simp only [hb2]
    have hlt : x1.i < x1.j := by simpa using hb2
    have w2 : IntKind.i64.wrap ((x1.i : Int) + x1.j) = ((x1.i + x1.j : Nat) : Int) := wN (y := 0) (by omega) (by omega)
    have w3 : IntKind.u64.wrap ((x1.i + x1.j : Nat) : Int) = ((x1.i + x1.j : Nat) : Int) := wU (by omega)
    have hc0 : x1.i ≤ (x1.i + x1.j) / 2 ∧ (x1.i + x1.j) / 2 < x1.j := by omega
    have hfd := halfN (x1.i + x1.j)
    generalize hc : (x1.i + x1.j) / 2 = c
    rw [hc] at hc0 hfd
    have w4 : IntKind.i64.wrap (c : Int) = c := wN (y := 0) rfl (by omega)
    have w5 : IntKind.i64.wrap ((c : Int) + 1) = ((c + 1 : Nat) : Int) := wN (y := 0) rfl (by omega)
    have hcc := show c < N by omega
    have hxc := rws_at (l := l) (i := c) (by omega)
    replace U := U.cons (And.intro (w2) (And.intro (w3) (And.intro (w4) (And.intro (w5) (And.intro (hfd) (And.intro (hcc) (And.intro (hcA) (And.intro (hxc) (And.intro (hxA) (And.intro (@Int.natCast_nonneg) (@Int.ofNat_lt)))))))))))
    refine PI.s ?_
    refine PI.b 1 ?_
    refine PI.q ?_
    refine rg209v8 (j1 + 18) [] fun all5 _ => ?_
    refine GoI.runN 2 nf8 ?_
    refine GoI.runN 2 nf8 ?_
    refine GoI.runN 2 nf8 ?_
    refine GoI.z nf8 ?_
    refine PI.q ?_
    refine rd209v8 (j1 + 29) [] fun all6 _ => ?_
    refine GoI.runN 2 nf8 ?_
    refine GoI.runN 2 nf8 ?_
    refine GoI.runN 2 nf8 ?_
    refine GoI.runN 2 nf8 ?_
    refine GoI.run nf8 ?_
    refine GoI.call nf8 nf8 (by exact okCmpR _ _) ?_
    refine GoI.z nf8 ?_
    refine PI.d 50 nf8 (fun hb3 => ?_) (fun hb3 => ?_)
    ·
     try simp only [hb3]
     have hcl : cmpR (gt' l c) (gt' l a) < 0 := by simpa using hb3
     refine rg209v8 (j1 + 32) [] fun all7 _ => ?_
     refine GoI.runN 2 nf8 ?_
     refine GoI.z nf8 ?_
     refine ⟨x1.j - (c + 1), ⟨c + 1, x1.j⟩, j1 + 24, by omega, ⟨rfl, by dsimp only; omega, by dsimp only; omega, hi3, fun p hp hq => (by
     dsimp only at hq
     rcases Nat.lt_or_ge p c with h | h
     · exact preR.tr _ _ _ (hB p c (by omega) h (by omega)) (by omega)
     · rw [show p = c by omega]; omega), hhi⟩, GhI.of_wk ⟨by simp [ovr, uk, lessT], by simp [lessR, lk, nu1 hid, nu2 hid, w1, halfN, Nat.reduceLeDiff, Int.toNat_one, neJ2, neJ2', neJ3, neJ3'], by (try dsimp only); omega, by simp [keepR, lk, under_self, nu1 hid, nu2 hid, w1, halfN, Nat.reduceLeDiff, Int.toNat_one, neJ2, neJ2', neJ3, neJ3']⟩⟩
    try simp only [hb3]
    have hcl : cmpR (gt' l a) (gt' l c) ≤ 0 := by have := preR.anti (gt' l c) (gt' l a); have : ¬ cmpR (gt' l c) (gt' l a) < 0 := (by simpa using hb3); omega
    refine rg209v8 (j1 + 31) [] fun all8 _ => ?_
    refine GoI.z nf8 ?_
    refine ⟨c - x1.i, ⟨x1.i, c⟩, j1 + 23, by omega, ⟨rfl, hi1, by dsimp only; omega, by dsimp only; omega, hlo, fun p hp hq => (by
    dsimp only at hp
    rcases Nat.lt_or_ge c p with h | h
    · exact preR.tr _ _ _ hcl (hB c p (by omega) h (by omega))
    · rw [show p = c by omega]; exact hcl)⟩, GhI.of_wk ⟨by simp [ovr, uk, lessT], by simp [lessR, lk, nu1 hid, nu2 hid, w1, halfN, Nat.reduceLeDiff, Int.toNat_one, neJ2, neJ2', neJ3, neJ3'], by (try dsimp only); omega, by simp [keepR, lk, under_self, nu1 hid, nu2 hid, w1, halfN, Nat.reduceLeDiff, Int.toNat_one, neJ2, neJ2', neJ3, neJ3']⟩⟩
   try simp only [hb2]
   have hij : x1.i = x1.j := by have : ¬ x1.i < x1.j := (by simpa using hb2); omega
   rw [← hij] at hhi
   have hfin := ins_up (l := l) (a := a) (i := x1.i) (b := b) (hm ▸ hB) (by omega) (by omega) (by omega) (fun p hp hq => hlo p (by omega) hq) hhi
   have w6 : IntKind.i64.wrap ((x1.i : Int) - 1) = ((x1.i - 1 : Nat) : Int) := wN (y := 0) (by omega) (by omega)
   replace U := U.cons (w6)
   refine PI.e 0 ?_
   refine PI.q ?_
   refine PI.q ?_
   refine rg209v8 (j1 + 13) [] fun all9 _ => ?_
   refine GoI.z nf8 ?_
   refine PI.b 2 ?_
   refine PI.lo (by kernel_rfl) (X := Nat) (fun k => (13, aI k) :: uk [55, 56, 57, 58, 59, 60, 61, 62, 63, 64, 65, 66, 67, 68, 69, 70, 71, 72, 73, 74, 75, 76]) (fun k => [(id, arrR s (rot l a (a + 1) (k + 1)))]) (fun q k => q = x1.i - k ∧ a ≤ k ∧ k ≤ x1.i - 1) (x1.i - a) (a) (GhI.of_wk ⟨by simp [ovr, uk, lessT], by simp [lessR, lk, rot_nil2 (l := l) (a := a) (b := a + 1) (by omega) (by omega)], by (try dsimp only); omega, by simp [keepR, lk, under_self, nu1 hid, nu2 hid, rot_nil2 (l := l) (a := a) (b := a + 1) (by omega) (by omega)]⟩) (⟨rfl, Nat.le_refl _, by omega⟩) ?_
   intro k2 x2 j2 hr2
   obtain ⟨rfl, hk1, hk2⟩ := hr2
   simp only [ovr, uk, List.set_cons_zero, List.set_cons_succ]
   refine PI.q ?_
   refine PI.q ?_
   refine rg209v8 (j2 + (j1 + 17)) [] fun all10 _ => ?_
   refine GoI.runN 2 nf8 ?_
   refine GoI.z nf8 ?_
   refine PI.d 58 nf8 (fun hb4 => ?_) (fun hb4 => ?_)
   ·
    try simp only [hb4]
    have hlt : x2 < x1.i - 1 := by simpa using hb4
    have w7 : IntKind.i64.wrap ((x2 : Int) + 1) = ((x2 + 1 : Nat) : Int) := wN (y := 0) rfl (by omega)
    have hRl : (rot l a (a + 1) (x2 + 1)).length = N := by rw [rot_len (by omega) (by omega) (by omega), hN]
    have hc := show x2 < N by omega
    have hd := show x2 + 1 < N by omega
    have hx := rws_at (l := rot l a (a + 1) (x2 + 1)) (i := x2) (by omega)
    have hy := rws_at (l := rot l a (a + 1) (x2 + 1)) (i := x2 + 1) (by omega)
    have hz : (((rot l a (a + 1) (x2 + 1)).map fun r => [aRow r]).set x2 [aRow (gt' (rot l a (a + 1) (x2 + 1)) (x2 + 1))])[x2 + 1]? = some [aRow (gt' (rot l a (a + 1) (x2 + 1)) (x2 + 1))] := by rw [List.getElem?_set, if_neg (by omega), hy]
    have e3 := swp_up (l := l) (a := a) (k := x2) (by omega) (by omega)
    rw [swp] at e3
    replace U := U.cons (And.intro (w7) (And.intro (hc) (And.intro (hd) (And.intro (hx) (And.intro (hy) (And.intro (hz) (And.intro (@Int.natCast_nonneg) (@Int.ofNat_lt))))))))
    refine PI.s ?_
    refine PI.q ?_
    refine PI.b 3 ?_
    refine rd209v8 (j2 + (j1 + 35)) [] fun all11 _ => ?_
    refine GoI.runN 2 nf8 ?_
    refine GoI.runN 2 nf8 ?_
    refine GoI.runN 2 nf8 ?_
    refine GoI.runN 2 nf8 ?_
    refine GoI.runN 2 nf8 ?_
    refine GoI.runN 2 nf8 ?_
    refine GoI.runN 2 nf8 ?_
    refine GoI.runN 2 nf8 ?_
    refine GoI.z nf8 ?_
    refine rg209v8 (j2 + (j1 + 38)) [] fun all12 _ => ?_
    refine GoI.runN 2 nf8 ?_
    refine GoI.z nf8 ?_
    refine ⟨x1.i - (x2 + 1), x2 + 1, j2 + 25, by omega, ⟨rfl, by omega, by omega⟩, GhI.of_wk ⟨by simp [ovr, uk, lessT], by simp only [lessR, List.forall_mem_cons, lk, if_true, true_and, reduceCtorEq, ne_eq, not_false_eq_true, and_true, List.not_mem_nil, false_implies, implies_true, show x2 + 1 + 1 = x2 + 2 from rfl, ← e3, arrR, List.map_set], by (try dsimp only); omega, by simp only [keepR, lk, List.forall_mem_cons, if_true, show x2 + 1 + 1 = x2 + 2 from rfl, ← e3, List.map_set]; simp [nu1 hid, nu2 hid]⟩⟩
   try simp only [hb4]
   have hk3 : x2 + 1 = x1.i := by have : ¬ x2 < x1.i - 1 := (by simpa using hb4); omega
   rw [hk3, hfin]
   refine PI.e 2 ?_
   refine PI.r ?_
   exact FinI.mk _ nf8 ⟨by clear U; rfl, fin_keys (by simp [lk, under_self, nu1 hid, nu2 hid, w1, halfN, Nat.reduceLeDiff, Int.toNat_one]) (by simp [lk, under_self, nu1 hid, nu2 hid, w1, halfN, Nat.reduceLeDiff, Int.toNat_one])⟩
  try simp only [hb1]
  exact absurd hb1 (by simp)
set_option maxHeartbeats 1000000 in
set_option maxRecDepth 100000 in
theorem okSym2 {id : Rid} {rs : Rid → Res} {p : Path} {s : Nat} (l : List Row) (N a m b : Nat) (hid : ¬ Under p id) (hrs : rs id = arrR s l) (hN : N = l.length) (hl : N ≤ 1000000) (hm : m ≠ a + 1) (h1 : a < m) (h2 : b = m + 1) (h3 : b ≤ N) (hA : SdSeg l a m) :
    Calls2 Tryz.prog 209 [aArr id s N, aI a, aI m, aI b, aCmp] [id] rs p (.tup []) [(id, arrR s (srtSeg l a b))] := by
  have hl' : 2 * N ≤ maxLen := by unfold maxLen; omega
  have w1 : IntKind.i64.wrap ((m : Int) - a) = ((m - a : Nat) : Int) := wN (y := 0) (by omega) (by omega)
  have w1' : IntKind.i64.wrap ((b : Int) - m) = 1 := by have : IntKind.i64.wrap ((b : Int) - m) = ((1 : Nat) : Int) := wN (y := 0) (by omega) (by unfold maxLen; omega); exact this
  have hcA := show m < N by omega
  have hxA := rws_at (l := l) (i := m) (by omega)
  have U : Hid True := ⟨trivial⟩
  replace U := U.cons (And.intro (nu1 hid) (And.intro (nu2 hid) (And.intro (w1) (And.intro (w1') (halfN)))))
  refine Calls2.of_pi ([(id, arrR s l)]) mixed Tryz.func209 (by kernel_rfl) (by kernel_rfl) (by simp [lk, hrs, hid]) (by simp [lk, hrs, hid]) (by simp [lk, hrs, hid]) (by simp [lk, hrs, hid]) (by simp [lk, hrs, hid]) (?_ : PI _ _ _ _ _ ⟨[aArr id s N, aI a, aI m, aI b, aCmp, .und, .und, .und, .und, .und, .und, .und, .und, .und, .und, .und, .und, .und, .und, .und, .und, .und, .und, .und, .und, .und, .und, .und, .und, .und, .und, .und, .und, .und, .und, .und, .und, .und, .und, .und, .und, .und, .und, .und, .und, .und, .und, .und, .und, .und, .und, .und, .und, .und, .und, .und, .und, .und, .und, .und, .und, .und, .und, .und, .und, .und, .und, .und, .und, .und, .und, .und, .und, .und, .und, .und, .und, .und, .und, .und, .und, .und, .und, .und, .und, .und, .und, .und, .und, .und, .und, .und, .und, .und, .und, .und, .und, .und, .und, .und, .und, .und, .und, .und, .und, .und, .und, .und, .und, .und, .und, .und, .und, .und, .und, .und, .und, .und, .und, .und, .und, .und, .und, .und, .und, .und, .und, .und, .und, .und, .und, .und, .und, .und, .und, .und, .und, .und, .und, .und, .und, .und, .und, .und, .und, .und, .und, .und, .und, .und, .und, .und, .und, .und, .und, .und, .und, .und, .und, .und, .und, .und, .und, .und, .und, .und, .und, .und, .und, .und, .und, .und, .und, .und, .und, .und, .und, .und, .und, .und, .und, .und, .und, .und, .und, .und, .und, .und, .und, .und, .und, .und, .und, .und, .und, .und, .und, .und, .und, .und, .und, .und, .und, .und, .und, .und, .und, .und, .und, .und, .und, .und, .und, .und, .und, .und, .und, .und, .und, .und], [(id, arrR s l)], 0⟩)
  refine PI.q ?_
  refine PI.q ?_
  refine rg209v8 (4) [] fun all1 _ => ?_
  refine GoI.runN 2 nf8 ?_
  refine GoI.z nf8 ?_
  refine PI.d 28 nf8 (fun hb1 => ?_) (fun hb1 => ?_)
  ·
   try simp only [hb1]
   exact absurd hb1 (by simp; omega)
  try simp only [hb1]
  refine PI.s ?_
  refine PI.q ?_
  refine PI.q ?_
  refine rg209v8 (8) [] fun all13 _ => ?_
  refine GoI.runN 2 nf8 ?_
  refine GoI.z nf8 ?_
  refine PI.d 80 nf8 (fun hb5 => ?_) (fun hb5 => ?_)
  ·
   try simp only [hb5]
   refine PI.q ?_
   refine rg209v8 (10) [] fun all14 _ => ?_
   refine GoI.z nf8 ?_
   refine PI.q ?_
   refine rg209v8 (12) [] fun all15 _ => ?_
   refine GoI.z nf8 ?_
   refine PI.q ?_
   refine PI.b 4 ?_
   refine PI.lo (by kernel_rfl) (X := IJ) (fun x => (14, aI x.i) :: (15, aI x.j) :: uk [16, 83, 84, 85, 86, 87, 88, 89, 90, 91, 92, 93, 94, 95, 96, 97, 98, 99, 100, 101, 102, 103, 104, 105, 106]) (fun _ => [(id, arrR s l)]) (fun k x => k = x.j - x.i ∧ a ≤ x.i ∧ x.i ≤ x.j ∧ x.j ≤ m ∧ (∀ p, a ≤ p → p < x.i → cmpR (gt' l p) (gt' l m) ≤ 0) ∧ (∀ p, x.j ≤ p → p < m → cmpR (gt' l m) (gt' l p) ≤ 0)) (m - a) (⟨a, m⟩) (GhI.of_wk ⟨by simp [ovr, uk, lessT], by simp [lessR, lk, nu1 hid, nu2 hid, w1, w1', halfN, Nat.reduceLeDiff, Int.toNat_one, neJ2, neJ2', neJ3, neJ3'], by (try dsimp only); omega, by simp [keepR, lk, under_self, nu1 hid, nu2 hid, w1, w1', halfN, Nat.reduceLeDiff, Int.toNat_one, neJ2, neJ2', neJ3, neJ3']⟩) (⟨rfl, Nat.le_refl _, Nat.le_of_lt h1, Nat.le_refl _, fun p hp hq => by dsimp only at hq; omega, fun p hp hq => by dsimp only at hp; omega⟩) ?_
   intro k3 x3 j3 hr3
   obtain ⟨rfl, hi1, hi2, hi3, hlo, hhi⟩ := hr3
   simp only [ovr, uk, List.set_cons_zero, List.set_cons_succ]
   refine PI.q ?_
   refine PI.q ?_
   refine rg209v8 (j3 + 15) [] fun all16 _ => ?_
   refine GoI.runN 2 nf8 ?_
   refine GoI.z nf8 ?_
   refine PI.d 85 nf8 (fun hb6 => ?_) (fun hb6 => ?_)
   ·
    try simp only [hb6]
    have hlt : x3.i < x3.j := by simpa using hb6
    have w2 : IntKind.i64.wrap ((x3.i : Int) + x3.j) = ((x3.i + x3.j : Nat) : Int) := wN (y := 0) (by omega) (by omega)
    have w3 : IntKind.u64.wrap ((x3.i + x3.j : Nat) : Int) = ((x3.i + x3.j : Nat) : Int) := wU (by omega)
    have hc0 : x3.i ≤ (x3.i + x3.j) / 2 ∧ (x3.i + x3.j) / 2 < x3.j := by omega
    have hfd := halfN (x3.i + x3.j)
    generalize hc : (x3.i + x3.j) / 2 = c
    rw [hc] at hc0 hfd
    have w4 : IntKind.i64.wrap (c : Int) = c := wN (y := 0) rfl (by omega)
    have w5 : IntKind.i64.wrap ((c : Int) + 1) = ((c + 1 : Nat) : Int) := wN (y := 0) rfl (by omega)
    have hcc := show c < N by omega
    have hxc := rws_at (l := l) (i := c) (by omega)
    replace U := U.cons (And.intro (w2) (And.intro (w3) (And.intro (w4) (And.intro (w5) (And.intro (hfd) (And.intro (hcc) (And.intro (hcA) (And.intro (hxc) (And.intro (hxA) (And.intro (@Int.natCast_nonneg) (@Int.ofNat_lt)))))))))))
    refine PI.s ?_
    refine PI.b 5 ?_
    refine PI.q ?_
    refine rg209v8 (j3 + 22) [] fun all17 _ => ?_
    refine GoI.runN 2 nf8 ?_
    refine GoI.runN 2 nf8 ?_
    refine GoI.runN 2 nf8 ?_
    refine GoI.z nf8 ?_
    refine PI.q ?_
    refine rd209v8 (j3 + 34) [] fun all18 _ => ?_
    refine GoI.runN 2 nf8 ?_
    refine GoI.runN 2 nf8 ?_
    refine GoI.runN 2 nf8 ?_
    refine GoI.runN 2 nf8 ?_
    refine GoI.run nf8 ?_
    refine GoI.call nf8 nf8 (by exact okCmpR _ _) ?_
    refine GoI.z nf8 ?_
    refine PI.d 103 nf8 (fun hb7 => ?_) (fun hb7 => ?_)
    ·
     try simp only [hb7]
     have hcl : cmpR (gt' l c) (gt' l m) ≤ 0 := by have := preR.anti (gt' l m) (gt' l c); have : ¬ cmpR (gt' l m) (gt' l c) < 0 := (by simpa using hb7); omega
     refine rg209v8 (j3 + 37) [] fun all19 _ => ?_
     refine GoI.runN 2 nf8 ?_
     refine GoI.z nf8 ?_
     refine ⟨x3.j - (c + 1), ⟨c + 1, x3.j⟩, j3 + 25, by omega, ⟨rfl, by dsimp only; omega, by dsimp only; omega, hi3, fun p hp hq => (by
     dsimp only at hq
     rcases Nat.lt_or_ge p c with h | h
     · exact preR.tr _ _ _ (hA p c (by omega) h (by omega)) (by omega)
     · rw [show p = c by omega]; omega), hhi⟩, GhI.of_wk ⟨by simp [ovr, uk, lessT], by simp [lessR, lk, nu1 hid, nu2 hid, w1, w1', halfN, Nat.reduceLeDiff, Int.toNat_one, neJ2, neJ2', neJ3, neJ3'], by (try dsimp only); omega, by simp [keepR, lk, under_self, nu1 hid, nu2 hid, w1, w1', halfN, Nat.reduceLeDiff, Int.toNat_one, neJ2, neJ2', neJ3, neJ3']⟩⟩
    try simp only [hb7]
    have hcl : cmpR (gt' l m) (gt' l c) < 0 := by simpa using hb7
    refine rg209v8 (j3 + 36) [] fun all20 _ => ?_
    refine GoI.z nf8 ?_
    refine ⟨c - x3.i, ⟨x3.i, c⟩, j3 + 24, by omega, ⟨rfl, hi1, by dsimp only; omega, by dsimp only; omega, hlo, fun p hp hq => (by
    dsimp only at hp
    rcases Nat.lt_or_ge c p with h | h
    · exact preR.tr _ _ _ (Int.le_of_lt hcl) (hA c p (by omega) h (by omega))
    · rw [show p = c by omega]; exact Int.le_of_lt hcl)⟩, GhI.of_wk ⟨by simp [ovr, uk, lessT], by simp [lessR, lk, nu1 hid, nu2 hid, w1, w1', halfN, Nat.reduceLeDiff, Int.toNat_one, neJ2, neJ2', neJ3, neJ3'], by (try dsimp only); omega, by simp [keepR, lk, under_self, nu1 hid, nu2 hid, w1, w1', halfN, Nat.reduceLeDiff, Int.toNat_one, neJ2, neJ2', neJ3, neJ3']⟩⟩
   try simp only [hb6]
   have hij : x3.i = x3.j := by have : ¬ x3.i < x3.j := (by simpa using hb6); omega
   rw [← hij] at hhi
   have hfin := ins_dn (l := l) (a := a) (i := x3.i) (m := m) hA (by omega) (by omega) (by omega) hlo hhi
   rw [← h2] at hfin
   refine PI.e 4 ?_
   refine PI.q ?_
   refine PI.q ?_
   refine rg209v8 (j3 + 17) [] fun all21 _ => ?_
   refine GoI.z nf8 ?_
   refine PI.b 6 ?_
   refine PI.lo (by kernel_rfl) (X := Nat) (fun k => (17, aI k) :: uk [108, 109, 110, 111, 112, 113, 114, 115, 116, 117, 118, 119, 120, 121, 122, 123, 124, 125, 126, 127, 128]) (fun k => [(id, arrR s (rot l k m b))]) (fun q k => q = k - x3.i ∧ x3.i ≤ k ∧ k ≤ m) (m - x3.i) (m) (GhI.of_wk ⟨by simp [ovr, uk, lessT], by simp [lessR, lk, rot_nil1 (l := l) (a := m) (b := b) (by omega) (by omega)], by (try dsimp only); omega, by simp [keepR, lk, under_self, nu1 hid, nu2 hid, rot_nil1 (l := l) (a := m) (b := b) (by omega) (by omega)]⟩) (⟨rfl, by omega, Nat.le_refl _⟩) ?_
   intro k4 x4 j4 hr4
   obtain ⟨rfl, hk1, hk2⟩ := hr4
   simp only [ovr, uk, List.set_cons_zero, List.set_cons_succ]
   refine PI.q ?_
   refine PI.q ?_
   refine rg209v8 (j4 + (j3 + 20)) [] fun all22 _ => ?_
   refine GoI.runN 2 nf8 ?_
   refine GoI.z nf8 ?_
   refine PI.d 110 nf8 (fun hb8 => ?_) (fun hb8 => ?_)
   ·
    try simp only [hb8]
    have hlt : x3.i < x4 := by simpa using hb8
    have w7 : IntKind.i64.wrap ((x4 : Int) - 1) = ((x4 - 1 : Nat) : Int) := wN (y := 0) (by omega) (by omega)
    have hRl : (rot l x4 m b).length = N := by rw [rot_len (by omega) (by omega) (by omega), hN]
    have hc := show x4 < N by omega
    have hd := show x4 - 1 < N by omega
    have hx := rws_at (l := rot l x4 m b) (i := x4) (by omega)
    have hy := rws_at (l := rot l x4 m b) (i := x4 - 1) (by omega)
    have hz : (((rot l x4 m b).map fun r => [aRow r]).set x4 [aRow (gt' (rot l x4 m b) (x4 - 1))])[x4 - 1]? = some [aRow (gt' (rot l x4 m b) (x4 - 1))] := by rw [List.getElem?_set, if_neg (by omega), hy]
    have e3 := swp_dn (l := l) (k := x4) (m := m) (by omega) (by omega) (by omega)
    rw [swp, ← h2] at e3
    replace U := U.cons (And.intro (w7) (And.intro (hc) (And.intro (hd) (And.intro (hx) (And.intro (hy) (And.intro (hz) (And.intro (@Int.natCast_nonneg) (@Int.ofNat_lt))))))))
    refine PI.s ?_
    refine PI.q ?_
    refine PI.b 7 ?_
    refine rd209v8 (j4 + (j3 + 38)) [] fun all23 _ => ?_
    refine GoI.runN 2 nf8 ?_
    refine GoI.runN 2 nf8 ?_
    refine GoI.runN 2 nf8 ?_
    refine GoI.runN 2 nf8 ?_
    refine GoI.runN 2 nf8 ?_
    refine GoI.runN 2 nf8 ?_
    refine GoI.runN 2 nf8 ?_
    refine GoI.runN 2 nf8 ?_
    refine GoI.z nf8 ?_
    refine rg209v8 (j4 + (j3 + 41)) [] fun all24 _ => ?_
    refine GoI.runN 2 nf8 ?_
    refine GoI.z nf8 ?_
    refine ⟨x4 - 1 - x3.i, x4 - 1, j4 + 24, by omega, ⟨rfl, by omega, by omega⟩, GhI.of_wk ⟨by simp [ovr, uk, lessT], by simp only [lessR, List.forall_mem_cons, lk, if_true, true_and, reduceCtorEq, ne_eq, not_false_eq_true, and_true, List.not_mem_nil, false_implies, implies_true, ← e3, arrR, List.map_set], by (try dsimp only); omega, by simp only [keepR, lk, List.forall_mem_cons, if_true, ← e3, arrR, List.map_set]; simp [nu1 hid, nu2 hid]⟩⟩
   try simp only [hb8]
   have hk3 : x4 = x3.i := by have : ¬ x3.i < x4 := (by simpa using hb8); omega
   rw [hk3, hfin]
   refine PI.e 6 ?_
   refine PI.r ?_
   exact FinI.mk _ nf8 ⟨by clear U; rfl, fin_keys (by simp [lk, under_self, nu1 hid, nu2 hid, w1, w1', halfN, Nat.reduceLeDiff, Int.toNat_one]) (by simp [lk, under_self, nu1 hid, nu2 hid, w1, w1', halfN, Nat.reduceLeDiff, Int.toNat_one])⟩
  try simp only [hb5]
  exact absurd hb5 (by simp)
end Go.FE
