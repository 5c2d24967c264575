/- The document's multisets. The document's difference, intersection, union. Sums of parts. Sums. -/
import Derived.Test.YtmblejfjbnoodaaGreatDoorS09
import Derived.Test.YtmblejfjbnoodaaGreatDoorS15
import Derived.Test.YtmblejfjbnoodaaGreatDoorS19
set_option linter.unusedVariables false
set_option linter.unusedSimpArgs false
namespace Go.FE
open Go.Proofs
theorem nf19 {α : Type} {a b : α} (h : a = b := by simp only [goP, goN, mrk, Nat.reduceMul, Nat.one_mul, Nat.mul_one, eq_self, false_implies, implies_true, Nat.reduceLT, List.getElem?_toArray, isCall, List.contains_nil, List.contains_cons, Nat.reduceBEq, Bool.or_false, Bool.or_self, List.length_map, gOf, step, stepM, stepP, ev, okV, if_true, if_false, allocA, storeA, boxA, one1, tokN, tok1, buildA, rowA, nrmP, partV, partA, fieldA, fieldV, elemA, lenA, bltA, asSl, appA, makeA, makeR, cutA, bndA, binV, intOp, strOp, unV, eqB, nilB, sameT, List.all_cons, List.all_nil, Bool.and_self, Bool.and_true, Bool.true_and, List.map_cons, List.map_nil, List.nil_append, List.cons_append, List.append_nil, AV.bare, AV.content, AV.clean, AV.one, putD, List.set_cons_zero, List.set_cons_succ, List.reverse_cons, List.reverse_nil, List.getD_cons_zero, List.getD_cons_succ, List.getElem?_cons_zero, List.getElem?_cons_succ, Option.getD_some, Option.map_some, Option.map_none, Option.bind_some, List.length_cons, List.length_nil, lk, cellsA, fillA, fillS, isAggD, spl, nrm, nrmA, List.take_succ_cons, List.take_zero, List.drop_succ_cons, List.drop_zero, List.drop_nil, List.take_nil, Nat.reduceAdd, Nat.zero_add, Nat.add_zero, Nat.add_assoc, Nat.add_left_cancel_iff, reduceCtorEq, Prod.mk.injEq, List.cons.injEq, and_self, and_true, true_and, Nat.le_refl, Nat.reduceLeDiff, Nat.reduceEqDiff, List.getElem?_nil, Int.reduceToNat, Int.reduceLE, Int.reduceLT, ite_self, List.forall_mem_cons, List.not_mem_nil, false_and, and_false, Bool.false_eq_true, List.replicate_zero, List.replicate_succ, Int.toNat_natCast, neJ2, neJ2', neJ3, neJ3', callOf, callOf2, fnOf, argsA, args2, Array.isEmpty_empty, resLL, resVL, beq_self_eq_true, st3, zt3, it3, ct3, se3, Tryz.underlying3, st4, zt4, it4, ct4, se4, Tryz.underlying4, st9, zt9, it9, ct9, se9, Tryz.underlying9, st23, zt23, it23, ct23, se23, Tryz.underlying23, st25, zt25, it25, ct25, pt25, eqs25, se25, Tryz.underlying25, st49, zt49, it49, ct49, se49, Tryz.underlying49, Tryz.results66, st22, zt22, it22, ct22, se22, Tryz.underlying22, st125, Tryz.underlying125, Tryz.results65, Int.natCast_nonneg, U.out] <;> rfl) : a = b := h
theorem rg66v19 {T : List Rid} {p : Path} {Q : Exit → SL → Prop} {tm : List AV} {L : RL} {n : Nat} {c : Code} {l : List Oper} (n' : Nat) (Qs : List Nat) (h : ∀ all, (ro c).toList = all → GoI Tryz.prog T p all false Qs n 0 l tm L fun tm' L' => Q .normal ⟨tm', L', n'⟩) (hk : kd c = 0 := by kernel_rfl) (hr : rd c = false := by kernel_rfl) (hl : (ro c).toList = l := by dsimp only [ro, s1, s2, c1, c2, bc, bod, Tryz.f66, Option.getD_some] <;> exact rfl) (hn : n + (ro c).size = n' := by kernel_rfl) : PI Tryz.prog T p c Q ⟨tm, L, n⟩ := PI.rg n' Qs hk hr hl (fun h => by cases h) hn (h _ rfl)
set_option maxHeartbeats 1000000 in
set_option maxRecDepth 100000 in
theorem okRepeat {t : Rid} {rs : Rid → Res} {p : Path} {v : Nat} (l : List Row) (r : Row) (k : Int) (hk : k ≤ 500000) (hl : l.length ≤ 500000) (ht : ¬ Under p t) (hrs : rs t = .tok v 49 1) :
    Calls2 Tryz.prog 66 [.sl (l.map fun r => [aRow r]) (some (t, v)), aRow r, aI k] [t] rs p (.sl ((l ++ List.replicate k.toNat r).map fun r => [aRow r]) (some (t, v + k.toNat))) [(t, .tok (v + k.toNat) 49 1)] := by
  have U : Hid True := ⟨trivial⟩
  replace U := U.cons (And.intro (nu1 ht) (nu2 ht))
  refine Calls2.of_pi ([(t, .tok v 49 1)]) mixed Tryz.func66 (by kernel_rfl) (by kernel_rfl) (by simp [lk, hrs, ht]) (by simp [lk, hrs, ht]) (by simp [lk, hrs, ht]) (by simp [lk, hrs, ht]) (by simp [lk, hrs, ht]) (?_ : PI _ _ _ _ _ ⟨[.sl (l.map fun r => [aRow r]) (some (t, v)), aRow r, aI k, .und, .und, .und, .und, .und, .und, .und, .und, .und, .und, .und, .und, .und, .und, .und], [(t, .tok v 49 1)], 0⟩)
  refine PI.q ?_
  refine rg66v19 (1) [] fun all1 _ => ?_
  refine GoI.z nf19 ?_
  refine PI.q ?_
  refine PI.q ?_
  refine rg66v19 (2) [] fun all2 _ => ?_
  refine GoI.z nf19 ?_
  refine PI.b 0 ?_
  refine PI.lo (by kernel_rfl) (X := Nat) (fun i => (0, .sl ((l ++ List.replicate i r).map fun r => [aRow r]) (some (t, v + i))) :: (7, aI i) :: uk [8, 9, 10, 11, 12, 13, 14, 15, 16]) (fun i => [(t, .tok (v + i) 49 1)]) (fun q i => q = k.toNat - i ∧ i ≤ k.toNat) (k.toNat) (0) (GhI.of_wk ⟨by simp [ovr, uk, lessT], by simp [lessR, lk, nu1 ht, nu2 ht, neJ2, neJ2', neJ3, neJ3'], by (try dsimp only); omega, by simp [keepR, lk, under_self, nu1 ht, nu2 ht, neJ2, neJ2', neJ3, neJ3']⟩) (by simp) ?_
  intro k1 x1 j1 hr1
  obtain ⟨rfl, hi1⟩ := hr1
  simp only [ovr, uk, List.set_cons_zero, List.set_cons_succ]
  refine PI.q ?_
  refine PI.q ?_
  refine rg66v19 (j1 + 5) [] fun all3 _ => ?_
  refine GoI.runN 2 nf19 ?_
  refine GoI.z nf19 ?_
  refine PI.d 10 nf19 (fun hb1 => ?_) (fun hb1 => ?_)
  ·
   try simp only [hb1]
   have hlt : (x1 : Int) < k := by simpa using hb1
   have hw : IntKind.i64.wrap ((x1 : Int) + 1) = ((x1 + 1 : Nat) : Int) := wN (y := 0) rfl (by unfold maxLen; omega)
   have hap : ((l ++ List.replicate x1 r).length + 1) * 24 ≤ 140737488355328 := by simp; omega
   have hre : (l ++ List.replicate (x1 + 1) r).map (fun r => [aRow r]) = (l ++ List.replicate x1 r).map (fun r => [aRow r]) ++ [[aRow r]] := by rw [List.replicate_succ', ← List.append_assoc, List.map_append]; rfl
   replace U := U.cons (And.intro (hw) (hap))
   refine PI.s ?_
   refine PI.q ?_
   refine PI.b 1 ?_
   refine rg66v19 (j1 + 10) [] fun all4 _ => ?_
   refine GoI.runN 2 nf19 ?_
   refine GoI.runN 2 nf19 ?_
   refine GoI.z nf19 ?_
   refine rg66v19 (j1 + 13) [] fun all5 _ => ?_
   refine GoI.runN 2 nf19 ?_
   refine GoI.z nf19 ?_
   refine ⟨k.toNat - (x1 + 1), x1 + 1, j1 + 11, by omega, ⟨rfl, by omega⟩, GhI.of_wk ⟨by simp only [ovr, uk, lessT, hre]; simp [lessT], by simp [lessR, lk, nu1 ht, nu2 ht], by (try dsimp only); omega, by simp [keepR, lk, under_self, nu1 ht, nu2 ht]⟩⟩
  try simp only [hb1]
  have hge : ¬ (x1 : Int) < k := by simpa using hb1
  have hxe : x1 = k.toNat := by omega
  subst hxe
  refine PI.e 0 ?_
  refine PI.q ?_
  refine rg66v19 (j1 + 7) [] fun all6 _ => ?_
  refine GoI.z nf19 ?_
  refine PI.r ?_
  exact FinI.mk _ nf19 ⟨by clear U; rfl, fin_keys (by simp [lk, under_self, nu1 ht, nu2 ht]) (by simp [lk, under_self, nu1 ht, nu2 ht])⟩
structure PrX where
  i : Nat
  j : Nat
structure PrI (oa ob : List Row) (i j : Nat) : Prop where
  hi : i ≤ oa.length
  hj : j ≤ ob.length
  lo : ∀ p (hp : p < ob.length), p < j → ∀ q (hq : q < oa.length), i ≤ q → cmpR ob[p] oa[q] < 0
theorem ss_at {l : List Row} (h : Ss l) {i j : Nat} (hij : i < j) (hj : j < l.length) : cmpR (l[i]'(by omega)) l[j] < 0 := (List.pairwise_iff_getElem.1 h) i j (by omega) hj hij
theorem rg65v19 {T : List Rid} {p : Path} {Q : Exit → SL → Prop} {tm : List AV} {L : RL} {n : Nat} {c : Code} {l : List Oper} (n' : Nat) (Qs : List Nat) (h : ∀ all, (ro c).toList = all → GoI Tryz.prog T p all false Qs n 0 l tm L fun tm' L' => Q .normal ⟨tm', L', n'⟩) (hk : kd c = 0 := by kernel_rfl) (hr : rd c = false := by kernel_rfl) (hl : (ro c).toList = l := by dsimp only [ro, s1, s2, c1, c2, bc, bod, Tryz.f65, Option.getD_some] <;> exact rfl) (hn : n + (ro c).size = n' := by kernel_rfl) : PI Tryz.prog T p c Q ⟨tm, L, n⟩ := PI.rg n' Qs hk hr hl (fun h => by cases h) hn (h _ rfl)
theorem rd65v19 {T : List Rid} {p : Path} {Q : Exit → SL → Prop} {tm : List AV} {L : RL} {n : Nat} {c : Code} {l : List Oper} (n' : Nat) (Qs : List Nat) (h : ∀ all, (ro c).toList = all → GoI Tryz.prog T p all true Qs n 0 l tm L fun tm' L' => Q .normal ⟨tm', L', n'⟩) (hk : kd c = 0 := by kernel_rfl) (hr : rd c = true := by kernel_rfl) (hl : (ro c).toList = l := by dsimp only [ro, s1, s2, c1, c2, bc, bod, Tryz.f65, Option.getD_some] <;> exact rfl) (hn : n + (ro c).size = n' := by kernel_rfl) (hd : drawOK (ro c) Qs = true := by kernel_rfl) : PI Tryz.prog T p c Q ⟨tm, L, n⟩ := PI.rg n' Qs hk hr hl (fun _ => hd) hn (h _ rfl)
set_option maxHeartbeats 1000000 in
set_option maxRecDepth 100000 in
theorem okPaired (a b : List Row) (hla : a.length ≤ 500000) (hlb : b.length ≤ 500000) (hra : ∀ r ∈ a, r.length ≤ 1000000) (hrb : ∀ r ∈ b, r.length ≤ 1000000) : CallsOK Tryz.prog 65 [aRows a, aRows b] (.tup [aRows (dd a), ints ((dd a).map fun r => (cntR a r : Int)), ints ((dd a).map fun r => (cntR b r : Int))]) := by
  have hsa := dd_ss a
  have hsb := dd_ss b
  have hda := dd_len a
  have hdb := dd_len b
  have hmb := dd_mem b
  generalize hA : dd a = A
  rw [hA] at hsa hda
  generalize hB : dd b = B
  rw [hB] at hsb hdb hmb
  have hl : A.length + B.length ≤ maxLen := by unfold maxLen; omega
  have hcA := okCounted a hla hra
  rw [hA] at hcA
  have hcB := okCounted b hlb hrb
  rw [hB] at hcB
  have U : Hid True := ⟨trivial⟩
  refine CallsOK.of_pi mixed Tryz.func65 (by kernel_rfl) (by kernel_rfl) (?_ : PI _ _ _ _ _ ⟨[aRows a, aRows b, .und, .und, .und, .und, .und, .und, .und, .und, .und, .und, .und, .und, .und, .und, .und, .und, .und, .und, .und, .und, .und, .und, .und, .und, .und, .und, .und, .und, .und, .und, .und, .und, .und, .und, .und, .und, .und, .und, .und, .und, .und, .und, .und, .und, .und, .und, .und, .und, .und, .und, .und, .und, .und, .und, .und, .und, .und, .und, .und, .und, .und, .und, .und, .und, .und, .und, .und, .und, .und, .und, .und, .und, .und, .und], [], 0⟩)
  refine PI.q ?_
  refine rg65v19 (3) [] fun all1 _ => ?_
  refine GoI.runN 2 nf19 ?_
  refine GoI.z nf19 ?_
  refine PI.q ?_
  refine rg65v19 (10) [] fun all2 _ => ?_
  refine GoI.run nf19 ?_
  refine GoI.call nf19 nf19 (by first | exact hcA | exact hcB) ?_
  refine GoI.runN 2 nf19 ?_
  refine GoI.runN 2 nf19 ?_
  refine GoI.z nf19 ?_
  refine PI.q ?_
  refine rg65v19 (17) [] fun all3 _ => ?_
  refine GoI.run nf19 ?_
  refine GoI.call nf19 nf19 (by first | exact hcA | exact hcB) ?_
  refine GoI.runN 2 nf19 ?_
  refine GoI.runN 2 nf19 ?_
  refine GoI.z nf19 ?_
  refine PI.q ?_
  refine rg65v19 (18) [] fun all4 _ => ?_
  refine GoI.z nf19 ?_
  refine PI.q ?_
  refine rg65v19 (19) [] fun all5 _ => ?_
  refine GoI.z nf19 ?_
  refine PI.q ?_
  refine PI.q ?_
  refine rg65v19 (20) [] fun all6 _ => ?_
  refine GoI.z nf19 ?_
  refine PI.b 0 ?_
  refine PI.lo (by kernel_rfl) (X := PrX) (fun x => (13, aI x.i) :: (12, aI x.j) :: (11, .sl (intR ((A.take x.i).map fun r => (cntR b r : Int))) (some (([17], 0), x.i))) :: uk [24, 25, 26, 27, 28, 29, 30, 31, 32, 33, 34, 35, 36, 37, 38, 39, 40, 41, 42, 43, 44, 45, 46, 47, 48, 49, 50, 51, 52, 53, 54, 55, 56, 57, 58, 59, 60, 61, 62, 63, 64, 65, 66, 67, 68, 69, 70, 71, 72]) (fun x => [(([17], 0), .tok x.i 3 1)]) (fun k x => k = A.length - x.i ∧ PrI A B x.i x.j) (A.length) (⟨0, 0⟩) (GhI.of_wk ⟨by simp [ovr, uk, lessT, neJ2, neJ2', neJ3, neJ3'], by simp [lessR, lk, neJ2, neJ2', neJ3, neJ3'], by (try dsimp only); omega, keep0⟩) (⟨rfl, Nat.zero_le _, Nat.zero_le _, fun p hp hpj => by dsimp only at hpj; omega⟩) ?_
  intro k1 x1 j1 hr1
  obtain ⟨rfl, hP⟩ := hr1
  simp only [ovr, uk, List.set_cons_zero, List.set_cons_succ]
  refine PI.q ?_
  refine PI.q ?_
  refine rg65v19 (j1 + 24) [] fun all7 _ => ?_
  refine GoI.runN 2 nf19 ?_
  refine GoI.z nf19 ?_
  refine PI.d 27 nf19 (fun hb1 => ?_) (fun hb1 => ?_)
  ·
   try simp only [hb1]
   obtain ⟨hlt, hw⟩ := up hb1 (by omega)
   have hx := rows_at hlt
   have hap : ((A.take x1.i).length + 1) * 8 ≤ 140737488355328 := by simp; omega
   replace U := U.cons (And.intro (hw) (And.intro (hx) (hap)))
   refine PI.s ?_
   refine PI.q ?_
   refine PI.b 1 ?_
   refine PI.q ?_
   refine PI.b 2 ?_
   refine PI.lo (by kernel_rfl) (X := Nat) (fun j => (12, aI j) :: uk [30, 31, 32, 33, 34, 35, 36, 37, 38, 39, 40, 41, 42, 43, 44, 45, 46, 47]) (fun _ => [(([17], 0), .tok x1.i 3 1)]) (fun k j => k = B.length - j ∧ PrI A B x1.i j) (B.length - x1.j) (x1.j) (GhI.of_wk ⟨by simp [ovr, uk, lessT, neJ2, neJ2', neJ3, neJ3'], by simp [lessR, lk, neJ2, neJ2', neJ3, neJ3'], by (try dsimp only); omega, keep0⟩) (⟨rfl, hP⟩) ?_
   intro k2 x2 j2 hr2
   obtain ⟨rfl, hP2⟩ := hr2
   simp only [ovr, uk, List.set_cons_zero, List.set_cons_succ]
   refine PI.q ?_
   refine PI.q ?_
   refine rd65v19 (j2 + (j1 + 40)) [] fun all8 hall8 => ?_
   have hgd8_4 : (all8[4]?).bind (fun o => o.dst) = some 34 := by rw [← hall8]; kernel_rfl
   replace U := U.cons (hgd8_4)
   refine GoI.runN 2 nf19 ?_
   refine GoI.runN 2 nf19 ?_
   refine GoI.runN 1 nf19 ?_
   refine GoI.grd 34 nf19 (fun hg1 => ?_) (fun hg1 => ?_)
   ·
    try simp only [hg1]
    have hlt2 : x2 < B.length := by simpa using hg1
    have hy := rows_at hlt2
    have hw2 : IntKind.i64.wrap ((x2 : Int) + 1) = ((x2 + 1 : Nat) : Int) := wN (y := 0) rfl (by omega)
    replace U := U.cons (And.intro (hy) (hw2))
    refine GoI.runN 2 nf19 ?_
    refine GoI.runN 2 nf19 ?_
    refine GoI.runN 2 nf19 ?_
    refine GoI.runN 2 nf19 ?_
    refine GoI.call nf19 nf19 (by exact okCmpR' _ _) ?_
    refine GoI.z nf19 ?_
    refine PI.d 45 nf19 (fun hb2 => ?_) (fun hb2 => ?_)
    ·
     try simp only [hb2]
     have hcl : cmpR B[x2] A[x1.i] < 0 := by simpa using hb2
     refine PI.s ?_
     refine PI.b 3 ?_
     refine rg65v19 (j2 + (j1 + 43)) [] fun all9 _ => ?_
     refine GoI.runN 2 nf19 ?_
     refine GoI.z nf19 ?_
     refine ⟨B.length - (x2 + 1), x2 + 1, j2 + 19, by omega, ⟨rfl, hP2.hi, hlt2, fun p hp hpj q hq hiq => by
     rcases Nat.lt_or_ge p x2 with h | h
     · exact hP2.lo p hp h q hq hiq
     · have e : p = x2 := by omega
       subst e
       rcases Nat.lt_or_ge x1.i q with h' | h'
       · exact preR.tr1 hcl (Int.le_of_lt (ss_at hsa h' hq))
       · have e : q = x1.i := by omega
         subst e; exact hcl⟩, GhI.of_wk ⟨by simp [ovr, uk, lessT, neJ2, neJ2', neJ3, neJ3'], by simp [lessR, lk, neJ2, neJ2', neJ3, neJ3'], by (try dsimp only); omega, keep0⟩⟩
    try simp only [hb2]
    have hcl : ¬ cmpR B[x2] A[x1.i] < 0 := by simpa using hb2
    refine PI.e 2 ?_
    refine PI.q ?_
    refine rd65v19 (j2 + (j1 + 55)) [] fun all10 hall10 => ?_
    have hgd10_4 : (all10[4]?).bind (fun o => o.dst) = some 52 := by rw [← hall10]; kernel_rfl
    replace U := U.cons (hgd10_4)
    refine GoI.runN 2 nf19 ?_
    refine GoI.runN 2 nf19 ?_
    refine GoI.runN 1 nf19 ?_
    refine GoI.grd 52 nf19 (fun hg2 => ?_) (fun hg2 => ?_)
    ·
     try simp only [hg2]
     refine GoI.runN 2 nf19 ?_
     refine GoI.runN 2 nf19 ?_
     refine GoI.runN 2 nf19 ?_
     refine GoI.runN 2 nf19 ?_
     refine GoI.call nf19 nf19 (by exact okEqR' _ _) ?_
     refine GoI.z nf19 ?_
     refine PI.d 62 nf19 (fun hb3 => ?_) (fun hb3 => ?_)
     ·
      try simp only [hb3]
      have he : B[x2] = A[x1.i] := eqR_iff.1 hb3
      have hz : (List.map (fun k => [aI k]) (List.map (fun r => (cntR b r : Int)) B))[x2]? = some [aI (cntR b A[x1.i] : Int)] := by simp [hlt2, he]
      replace U := U.cons (hz)
      refine rg65v19 (j2 + (j1 + 63)) [] fun all11 _ => ?_
      refine GoI.runN 2 nf19 ?_
      refine GoI.runN 2 nf19 ?_
      refine GoI.runN 2 nf19 ?_
      refine GoI.z nf19 ?_
      refine rg65v19 (j2 + (j1 + 66)) [] fun all13 _ => ?_
      refine GoI.runN 2 nf19 ?_
      refine GoI.z nf19 ?_
      refine ⟨A.length - (x1.i + 1), ⟨x1.i + 1, x2⟩, j2 + (j1 + 46), by omega, ⟨rfl, hlt, hP2.hj, fun p hp hpj q hq hiq => hP2.lo p hp hpj q hq (by dsimp only at hiq; omega)⟩, GhI.of_wk ⟨by simp only [ovr, uk, lessT, intR, List.take_succ_eq_append_getElem hlt, List.map_append, List.map_cons, List.map_nil]; simp [lessT], by simp [lessR, lk], by (try dsimp only); omega, keep0⟩⟩
     try simp only [hb3]
     have hne : B[x2] ≠ A[x1.i] := fun e => by rw [eqR_iff.2 e] at hb3; cases hb3
     have hz : cntR b A[x1.i] = 0 := by
       rw [cntR_zero, ← hmb]
       intro hm
       obtain ⟨p, hp, e⟩ := List.mem_iff_getElem.1 hm
       rcases Nat.lt_trichotomy p x2 with h | h | h
       · have := hP2.lo p hp h x1.i hlt (Nat.le_refl _); rw [e, preR.refl] at this; omega
       · subst h; exact hne e
       · have h3 := ss_at hsb h hp
         rw [e] at h3
         have h4 := hcl; omega
     refine rg65v19 (j2 + (j1 + 59)) [] fun all12 _ => ?_
     refine GoI.runN 2 nf19 ?_
     refine GoI.z nf19 ?_
     refine rg65v19 (j2 + (j1 + 62)) [] fun all13 _ => ?_
     refine GoI.runN 2 nf19 ?_
     refine GoI.z nf19 ?_
     refine ⟨A.length - (x1.i + 1), ⟨x1.i + 1, x2⟩, j2 + (j1 + 42), by omega, ⟨rfl, hlt, hP2.hj, fun p hp hpj q hq hiq => hP2.lo p hp hpj q hq (by dsimp only at hiq; omega)⟩, GhI.of_wk ⟨by simp only [ovr, uk, lessT, intR, List.take_succ_eq_append_getElem hlt, List.map_append, List.map_cons, List.map_nil, hz]; simp [lessT], by simp [lessR, lk], by (try dsimp only); omega, keep0⟩⟩
    try simp only [hg2]
    exact absurd hg2 (by simpa using hlt2)
   try simp only [hg1]
   have hge2 : B.length ≤ x2 := by simpa using hg1
   have hz : cntR b A[x1.i] = 0 := by
     rw [cntR_zero, ← hmb]
     intro hm
     obtain ⟨p, hp, e⟩ := List.mem_iff_getElem.1 hm
     have := hP2.lo p hp (by omega) x1.i hlt (Nat.le_refl _); rw [e, preR.refl] at this; omega
   refine GoI.runN 2 nf19 ?_
   refine GoI.runN 2 nf19 ?_
   refine GoI.runN 2 nf19 ?_
   refine GoI.runN 2 nf19 ?_
   refine GoI.runN 2 nf19 ?_
   refine GoI.z nf19 ?_
   refine PI.f 45 nf19 ?_
   refine PI.e 2 ?_
   refine PI.q ?_
   refine rd65v19 (j2 + (j1 + 55)) [] fun all10 hall10 => ?_
   have hgd10_4 : (all10[4]?).bind (fun o => o.dst) = some 52 := by rw [← hall10]; kernel_rfl
   replace U := U.cons (hgd10_4)
   refine GoI.runN 2 nf19 ?_
   refine GoI.runN 2 nf19 ?_
   refine GoI.runN 1 nf19 ?_
   refine GoI.grd 52 nf19 (fun hg3 => ?_) (fun hg3 => ?_)
   ·
    try simp only [hg3]
    exact absurd hg3 (by simpa using hg1)
   try simp only [hg3]
   refine GoI.runN 2 nf19 ?_
   refine GoI.runN 2 nf19 ?_
   refine GoI.runN 2 nf19 ?_
   refine GoI.runN 2 nf19 ?_
   refine GoI.z nf19 ?_
   refine PI.f 62 nf19 ?_
   refine rg65v19 (j2 + (j1 + 59)) [] fun all12 _ => ?_
   refine GoI.runN 2 nf19 ?_
   refine GoI.z nf19 ?_
   refine rg65v19 (j2 + (j1 + 62)) [] fun all13 _ => ?_
   refine GoI.runN 2 nf19 ?_
   refine GoI.z nf19 ?_
   refine ⟨A.length - (x1.i + 1), ⟨x1.i + 1, x2⟩, j2 + (j1 + 42), by omega, ⟨rfl, hlt, hP2.hj, fun p hp hpj q hq hiq => hP2.lo p hp hpj q hq (by dsimp only at hiq; omega)⟩, GhI.of_wk ⟨by simp only [ovr, uk, lessT, intR, List.take_succ_eq_append_getElem hlt, List.map_append, List.map_cons, List.map_nil, hz]; simp [lessT], by simp [lessR, lk], by (try dsimp only); omega, keep0⟩⟩
  try simp only [hb1]
  have hge := dn hb1
  refine PI.e 0 ?_
  refine PI.q ?_
  refine rg65v19 (j1 + 30) [] fun all14 _ => ?_
  refine GoI.runN 2 nf19 ?_
  refine GoI.runN 2 nf19 ?_
  refine GoI.z nf19 ?_
  refine PI.r ?_
  exact FinI.mk _ nf19 (by clear U; simp only [finR, nrmA, nrm, AV.content, List.map_cons, List.map_nil, List.take_of_length_le hge])
end Go.FE
namespace Go.FE
open Go.Proofs
theorem nf20 {α : Type} {a b : α} (h : a = b := by simp only [goP, goN, mrk, Nat.reduceMul, Nat.one_mul, Nat.mul_one, eq_self, false_implies, implies_true, Nat.reduceLT, List.getElem?_toArray, isCall, List.contains_nil, List.contains_cons, Nat.reduceBEq, Bool.or_false, Bool.or_self, List.length_map, gOf, step, stepM, stepP, ev, okV, if_true, if_false, allocA, storeA, boxA, one1, tokN, tok1, buildA, rowA, nrmP, partV, partA, fieldA, fieldV, elemA, lenA, bltA, asSl, appA, makeA, makeR, cutA, bndA, binV, intOp, strOp, unV, eqB, nilB, sameT, List.all_cons, List.all_nil, Bool.and_self, Bool.and_true, Bool.true_and, List.map_cons, List.map_nil, List.nil_append, List.cons_append, List.append_nil, AV.bare, AV.content, AV.clean, AV.one, putD, List.set_cons_zero, List.set_cons_succ, List.reverse_cons, List.reverse_nil, List.getD_cons_zero, List.getD_cons_succ, List.getElem?_cons_zero, List.getElem?_cons_succ, Option.getD_some, Option.map_some, Option.map_none, Option.bind_some, List.length_cons, List.length_nil, lk, cellsA, fillA, fillS, isAggD, spl, nrm, nrmA, List.take_succ_cons, List.take_zero, List.drop_succ_cons, List.drop_zero, List.drop_nil, List.take_nil, Nat.reduceAdd, Nat.zero_add, Nat.add_zero, Nat.add_assoc, Nat.add_left_cancel_iff, reduceCtorEq, Prod.mk.injEq, List.cons.injEq, and_self, and_true, true_and, Nat.le_refl, Nat.reduceLeDiff, Nat.reduceEqDiff, List.getElem?_nil, Int.reduceToNat, Int.reduceLE, Int.reduceLT, ite_self, List.forall_mem_cons, List.not_mem_nil, false_and, and_false, Bool.false_eq_true, List.replicate_zero, List.replicate_succ, Int.toNat_natCast, neJ2, neJ2', neJ3, neJ3', callOf, callOf2, fnOf, argsA, args2, Array.isEmpty_empty, resLL, resVL, beq_self_eq_true, st3, zt3, it3, ct3, se3, Tryz.underlying3, st4, zt4, it4, ct4, se4, Tryz.underlying4, st9, zt9, it9, ct9, se9, Tryz.underlying9, st22, zt22, it22, ct22, se22, Tryz.underlying22, st23, zt23, it23, ct23, se23, Tryz.underlying23, st25, zt25, it25, ct25, pt25, eqs25, se25, Tryz.underlying25, st42, zt42, it42, ct42, pt42, se42, Tryz.underlying42, st49, zt49, it49, ct49, se49, Tryz.underlying49, st90, Tryz.underlying90, Tryz.results26, Int.natCast_nonneg, Tryz.results28, Tryz.results24, Tryz.results30, U.out] <;> rfl) : a = b := h
def exS (a b : List Row) : List Row := (dd a).flatMap fun r => List.replicate (cntR a r - cntR b r) r
def inS (a b : List Row) : List Row := (dd a).flatMap fun r => List.replicate (min (cntR a r) (cntR b r)) r
structure OkBag' (b : Bag) : Prop where
  l : b.rows.length ≤ 400000
  r : ∀ r ∈ b.rows, r.length ≤ 1000000
theorem OkBag.ok' {b : Bag} (h : OkBag b) : OkBag' b := ⟨h.l, fun r hr => (h.r r hr).2⟩
theorem oldR_of {all : List Oper} {p : Path} {n k m : Nat} {r : Rid} (h : r.1 = m :: p) (hm : m < n) : OldR all p n k r := fun m' hm' => by
  obtain ⟨q, e⟩ := hm'
  rw [h] at e
  have := under_inj (q := []) e
  exact .inl (by omega)
theorem fm_len : ∀ (l : List Row) (f : Row → Nat) (N : List Row), Ss l → (∀ r, f r ≤ cntR N r) → (l.flatMap fun r => List.replicate (f r) r).length ≤ N.length := by
  intro l f N hs hf
  have : ∀ (l : List Row) (N : List Row), Ss l → (∀ r ∈ l, f r ≤ cntR N r) → (l.flatMap fun r => List.replicate (f r) r).length ≤ N.length := by
    intro l
    induction l with
    | nil => intro N _ _; simp
    | cons x l ih =>
      intro N hs hf
      unfold Ss at hs
      rw [List.pairwise_cons] at hs
      have h1 := ih (N.filter fun s => !eqR s x) hs.2 (fun r hr => by
        have h2 := hf r (List.mem_cons_of_mem _ hr)
        have hne : r ≠ x := fun e => by have := hs.1 r hr; rw [e, preR.refl] at this; omega
        have : cntR (N.filter fun s => !eqR s x) r = cntR N r := by
          unfold cntR
          rw [List.countP_filter]
          refine List.countP_congr fun s _ => ?_
          simp only [Bool.and_eq_true, Bool.not_eq_true', eqR_iff, eqR_false]
          exact ⟨fun h => h.1, fun h => ⟨h, by rw [h]; exact hne⟩⟩
        omega)
      have h3 := hf x List.mem_cons_self
      have h4 : (N.filter fun s => !eqR s x).length + cntR N x = N.length := by
        unfold cntR
        have := List.length_eq_countP_add_countP (fun s => eqR s x) (l := N)
        rw [List.countP_eq_length_filter (p := fun a => decide ¬(eqR a x = true))] at this
        have e : (N.filter fun a => decide ¬(eqR a x = true)) = N.filter fun s => !eqR s x := by
          congr 1; funext s; cases eqR s x <;> rfl
        rw [e] at this
        omega
      simp only [List.flatMap_cons, List.length_append, List.length_replicate]
      omega
  exact this l N hs fun r _ => hf r
theorem fm_take {l : List Row} (f : Row → List Row) {i : Nat} (h : i < l.length) : (l.take (i + 1)).flatMap f = (l.take i).flatMap f ++ f l[i] := by
  rw [List.take_succ_eq_append_getElem h, List.flatMap_append]; simp
theorem fm_take_le (l : List Row) (f : Row → List Row) (i : Nat) : ((l.take i).flatMap f).length ≤ (l.flatMap f).length := by
  conv => rhs; rw [← List.take_append_drop i l, List.flatMap_append]
  simp
theorem rg26v20 {T : List Rid} {p : Path} {Q : Exit → SL → Prop} {tm : List AV} {L : RL} {n : Nat} {c : Code} {l : List Oper} (n' : Nat) (Qs : List Nat) (h : ∀ all, (ro c).toList = all → GoI Tryz.prog T p all false Qs n 0 l tm L fun tm' L' => Q .normal ⟨tm', L', n'⟩) (hk : kd c = 0 := by kernel_rfl) (hr : rd c = false := by kernel_rfl) (hl : (ro c).toList = l := by dsimp only [ro, s1, s2, c1, c2, bc, bod, Tryz.f26, Option.getD_some] <;> exact rfl) (hn : n + (ro c).size = n' := by kernel_rfl) : PI Tryz.prog T p c Q ⟨tm, L, n⟩ := PI.rg n' Qs hk hr hl (fun h => by cases h) hn (h _ rfl)
theorem rd26v20 {T : List Rid} {p : Path} {Q : Exit → SL → Prop} {tm : List AV} {L : RL} {n : Nat} {c : Code} {l : List Oper} (n' : Nat) (Qs : List Nat) (h : ∀ all, (ro c).toList = all → GoI Tryz.prog T p all true Qs n 0 l tm L fun tm' L' => Q .normal ⟨tm', L', n'⟩) (hk : kd c = 0 := by kernel_rfl) (hr : rd c = true := by kernel_rfl) (hl : (ro c).toList = l := by dsimp only [ro, s1, s2, c1, c2, bc, bod, Tryz.f26, Option.getD_some] <;> exact rfl) (hn : n + (ro c).size = n' := by kernel_rfl) (hd : drawOK (ro c) Qs = true := by kernel_rfl) : PI Tryz.prog T p c Q ⟨tm, L, n⟩ := PI.rg n' Qs hk hr hl (fun _ => hd) hn (h _ rfl)
set_option maxHeartbeats 1000000 in
set_option maxRecDepth 100000 in
theorem okExcept' (a b : Bag) (ha : OkBag' a) (hb : OkBag' b) : CallsOK Tryz.prog 26 [aBag a, aBag b] (aBag ⟨a.kinds, exS a.rows b.rows⟩) := by
  have hla := ha.l
  have hlb := hb.l
  have hP := okPaired a.rows b.rows (by omega) (by omega) ha.r hb.r
  have hs := dd_ss a.rows
  have hda := dd_len a.rows
  have hfl := fm_len (dd a.rows) (fun r => cntR a.rows r - cntR b.rows r) a.rows hs (fun r => by omega)
  unfold exS
  generalize hA : dd a.rows = A
  rw [hA] at hP hs hda hfl
  have hl' : A.length ≤ maxLen := by unfold maxLen; omega
  have U : Hid True := ⟨trivial⟩
  refine CallsOK.of_pi mixed Tryz.func26 (by kernel_rfl) (by kernel_rfl) (?_ : PI _ _ _ _ _ ⟨[aBag a, aBag b, .und, .und, .und, .und, .und, .und, .und, .und, .und, .und, .und, .und, .und, .und, .und, .und, .und, .und, .und, .und, .und, .und, .und, .und, .und, .und, .und, .und, .und, .und, .und, .und, .und, .und, .und, .und, .und, .und, .und, .und, .und, .und, .und, .und], [], 0⟩)
  refine PI.q ?_
  refine rg26v20 (3) [] fun all1 _ => ?_
  refine GoI.runN 2 nf20 ?_
  refine GoI.z nf20 ?_
  refine PI.q ?_
  refine rg26v20 (8) [] fun all2 _ => ?_
  refine GoI.runN 2 nf20 ?_
  refine GoI.runN 2 nf20 ?_
  refine GoI.z nf20 ?_
  refine PI.q ?_
  refine rg26v20 (20) [] fun all3 _ => ?_
  refine GoI.runN 2 nf20 ?_
  refine GoI.runN 2 nf20 ?_
  refine GoI.call nf20 nf20 (by exact hP) ?_
  refine GoI.runN 2 nf20 ?_
  refine GoI.runN 2 nf20 ?_
  refine GoI.runN 2 nf20 ?_
  refine GoI.z nf20 ?_
  refine PI.q ?_
  refine PI.q ?_
  refine rg26v20 (21) [] fun all4 _ => ?_
  refine GoI.z nf20 ?_
  refine PI.b 0 ?_
  refine PI.lo (by kernel_rfl) (X := Nat) (fun i => (9, aI i) :: uk [22, 23, 24, 25, 26, 27, 28, 29, 30, 31, 32, 33, 34, 35, 36, 37, 38, 39, 40, 41, 42, 43, 44]) (fun i => [(([2], 0), .var 42 [.sl [] (some (([2], 1), 0)), .sl [] (some (([2], 2), 0))]), (([6], 0), .var 42 [ints a.kinds, .sl (((A.take i).flatMap fun r => List.replicate (cntR a.rows r - cntR b.rows r) r).map fun r => [aRow r]) (some (([7], 1), ((A.take i).flatMap fun r => List.replicate (cntR a.rows r - cntR b.rows r) r).length))]), (([7], 1), .tok ((A.take i).flatMap fun r => List.replicate (cntR a.rows r - cntR b.rows r) r).length 49 1)]) (fun k i => k = A.length - i ∧ i ≤ A.length) (A.length) (0) (GhI.of_wk ⟨by simp [ovr, uk, lessT, neJ2, neJ2', neJ3, neJ3'], by simp [lessR, lk, neJ2, neJ2', neJ3, neJ3'], by (try dsimp only); omega, keep0⟩) (by simp) ?_
  intro k1 x1 j1 hr1
  obtain ⟨rfl, hi1⟩ := hr1
  simp only [ovr, uk, List.set_cons_zero, List.set_cons_succ]
  refine PI.q ?_
  refine PI.q ?_
  refine rg26v20 (j1 + 25) [] fun all5 _ => ?_
  refine GoI.runN 2 nf20 ?_
  refine GoI.z nf20 ?_
  refine PI.d 25 nf20 (fun hb1 => ?_) (fun hb1 => ?_)
  ·
   try simp only [hb1]
   obtain ⟨hlt, hw⟩ := up hb1 hl'
   have hx := rows_at hlt
   have hya : (List.map (fun k => [aI k]) (List.map (fun r => (cntR a.rows r : Int)) A))[x1]? = some [aI (cntR a.rows A[x1] : Int)] := by simp [hlt]
   have hyb : (List.map (fun k => [aI k]) (List.map (fun r => (cntR b.rows r : Int)) A))[x1]? = some [aI (cntR b.rows A[x1] : Int)] := by simp [hlt]
   have hca := cntR_le a.rows A[x1]
   have hcb := cntR_le b.rows A[x1]
   have hws : IntKind.i64.wrap ((cntR a.rows A[x1] : Int) - (cntR b.rows A[x1] : Int)) = (cntR a.rows A[x1] : Int) - (cntR b.rows A[x1] : Int) := w64 (by omega) (by omega)
   have hft := fm_take (fun r => List.replicate (cntR a.rows r - cntR b.rows r) r) hlt
   have htn : ((cntR a.rows A[x1] : Int) - (cntR b.rows A[x1] : Int)).toNat = cntR a.rows A[x1] - cntR b.rows A[x1] := by omega
   replace U := U.cons (And.intro (hw) (And.intro (hx) (And.intro (hya) (And.intro (hyb) (hws)))))
   refine PI.s ?_
   refine PI.q ?_
   refine PI.b 1 ?_
   refine rd26v20 (j1 + 43) [15] fun all6 _ => ?_
   refine GoI.runN 2 nf20 ?_
   refine GoI.runN 2 nf20 ?_
   refine GoI.runN 2 nf20 ?_
   refine GoI.runN 2 nf20 ?_
   refine GoI.runN 2 nf20 ?_
   refine GoI.runN 2 nf20 ?_
   refine GoI.runN 2 nf20 ?_
   refine GoI.run nf20 ?_
   refine GoI.call2 nf20 nf20 (by exact okRepeat (t := ([7], 1)) ((A.take x1).flatMap fun r => List.replicate (cntR a.rows r - cntR b.rows r) r) A[x1] ((cntR a.rows A[x1] : Int) - (cntR b.rows A[x1] : Int)) (by omega) (by have := fm_take_le A (fun r => List.replicate (cntR a.rows r - cntR b.rows r) r) x1; omega) (nul (by omega)) (by repeat (first | exact lk_hd | refine lk_tl (by simp <;> omega) ?_))) (by repeat (first | exact trivial | exact Or.inl rfl | exact Or.inr (Or.inl rfl) | exact Or.inr (Or.inr rfl) | apply And.intro)) (by first | exact .inr rfl | exact .inl rfl) (by exact fun _ r hr => by rw [List.mem_singleton.1 hr]; exact oldR_of (m := 7) rfl (by omega)) ?_
   try simp only [List.reverse_cons, List.reverse_nil, List.nil_append, List.cons_append, List.append_assoc]
   refine GoI.z nf20 ?_
   refine rg26v20 (j1 + 46) [] fun all7 _ => ?_
   refine GoI.runN 2 nf20 ?_
   refine GoI.z nf20 ?_
   refine ⟨A.length - (x1 + 1), x1 + 1, j1 + 25, by omega, ⟨rfl, by omega⟩, GhI.of_wk ⟨by simp [ovr, uk, lessT], by simp only [hft, htn, lessR, List.length_append, List.length_replicate]; simp [lk], by (try dsimp only); omega, keep0⟩⟩
  try simp only [hb1]
  have hge := dn hb1
  rw [List.take_of_length_le hge]
  refine PI.e 0 ?_
  refine PI.q ?_
  refine rg26v20 (j1 + 27) [] fun all8 _ => ?_
  refine GoI.z nf20 ?_
  refine PI.r ?_
  exact FinI.mk _ nf20 (by clear U; first | (simp [finR, nrmA, nrm, AV.content]; done) | rfl)
theorem rg28v20 {T : List Rid} {p : Path} {Q : Exit → SL → Prop} {tm : List AV} {L : RL} {n : Nat} {c : Code} {l : List Oper} (n' : Nat) (Qs : List Nat) (h : ∀ all, (ro c).toList = all → GoI Tryz.prog T p all false Qs n 0 l tm L fun tm' L' => Q .normal ⟨tm', L', n'⟩) (hk : kd c = 0 := by kernel_rfl) (hr : rd c = false := by kernel_rfl) (hl : (ro c).toList = l := by dsimp only [ro, s1, s2, c1, c2, bc, bod, Tryz.f28, Option.getD_some] <;> exact rfl) (hn : n + (ro c).size = n' := by kernel_rfl) : PI Tryz.prog T p c Q ⟨tm, L, n⟩ := PI.rg n' Qs hk hr hl (fun h => by cases h) hn (h _ rfl)
theorem rd28v20 {T : List Rid} {p : Path} {Q : Exit → SL → Prop} {tm : List AV} {L : RL} {n : Nat} {c : Code} {l : List Oper} (n' : Nat) (Qs : List Nat) (h : ∀ all, (ro c).toList = all → GoI Tryz.prog T p all true Qs n 0 l tm L fun tm' L' => Q .normal ⟨tm', L', n'⟩) (hk : kd c = 0 := by kernel_rfl) (hr : rd c = true := by kernel_rfl) (hl : (ro c).toList = l := by dsimp only [ro, s1, s2, c1, c2, bc, bod, Tryz.f28, Option.getD_some] <;> exact rfl) (hn : n + (ro c).size = n' := by kernel_rfl) (hd : drawOK (ro c) Qs = true := by kernel_rfl) : PI Tryz.prog T p c Q ⟨tm, L, n⟩ := PI.rg n' Qs hk hr hl (fun _ => hd) hn (h _ rfl)
set_option maxHeartbeats 1000000 in
set_option maxRecDepth 100000 in
theorem okIntersect' (a b : Bag) (ha : OkBag' a) (hb : OkBag' b) : CallsOK Tryz.prog 28 [aBag a, aBag b] (aBag ⟨a.kinds, inS a.rows b.rows⟩) := by
  have hla := ha.l
  have hlb := hb.l
  have hP := okPaired a.rows b.rows (by omega) (by omega) ha.r hb.r
  have hs := dd_ss a.rows
  have hda := dd_len a.rows
  have hfl := fm_len (dd a.rows) (fun r => min (cntR a.rows r) (cntR b.rows r)) a.rows hs (fun r => by omega)
  unfold inS
  generalize hA : dd a.rows = A
  rw [hA] at hP hs hda hfl
  have hl' : A.length ≤ maxLen := by unfold maxLen; omega
  have U : Hid True := ⟨trivial⟩
  refine CallsOK.of_pi mixed Tryz.func28 (by kernel_rfl) (by kernel_rfl) (?_ : PI _ _ _ _ _ ⟨[aBag a, aBag b, .und, .und, .und, .und, .und, .und, .und, .und, .und, .und, .und, .und, .und, .und, .und, .und, .und, .und, .und, .und, .und, .und, .und, .und, .und, .und, .und, .und, .und, .und, .und, .und, .und, .und, .und, .und, .und, .und, .und, .und, .und, .und, .und, .und], [], 0⟩)
  refine PI.q ?_
  refine rg28v20 (3) [] fun all1 _ => ?_
  refine GoI.runN 2 nf20 ?_
  refine GoI.z nf20 ?_
  refine PI.q ?_
  refine rg28v20 (8) [] fun all2 _ => ?_
  refine GoI.runN 2 nf20 ?_
  refine GoI.runN 2 nf20 ?_
  refine GoI.z nf20 ?_
  refine PI.q ?_
  refine rg28v20 (20) [] fun all3 _ => ?_
  refine GoI.runN 2 nf20 ?_
  refine GoI.runN 2 nf20 ?_
  refine GoI.call nf20 nf20 (by exact hP) ?_
  refine GoI.runN 2 nf20 ?_
  refine GoI.runN 2 nf20 ?_
  refine GoI.runN 2 nf20 ?_
  refine GoI.z nf20 ?_
  refine PI.q ?_
  refine PI.q ?_
  refine rg28v20 (21) [] fun all4 _ => ?_
  refine GoI.z nf20 ?_
  refine PI.b 0 ?_
  refine PI.lo (by kernel_rfl) (X := Nat) (fun i => (9, aI i) :: uk [22, 23, 24, 25, 26, 27, 28, 29, 30, 31, 32, 33, 34, 35, 36, 37, 38, 39, 40, 41, 42, 43, 44]) (fun i => [(([2], 0), .var 42 [.sl [] (some (([2], 1), 0)), .sl [] (some (([2], 2), 0))]), (([6], 0), .var 42 [ints a.kinds, .sl (((A.take i).flatMap fun r => List.replicate (min (cntR a.rows r) (cntR b.rows r)) r).map fun r => [aRow r]) (some (([7], 1), ((A.take i).flatMap fun r => List.replicate (min (cntR a.rows r) (cntR b.rows r)) r).length))]), (([7], 1), .tok ((A.take i).flatMap fun r => List.replicate (min (cntR a.rows r) (cntR b.rows r)) r).length 49 1)]) (fun k i => k = A.length - i ∧ i ≤ A.length) (A.length) (0) (GhI.of_wk ⟨by simp [ovr, uk, lessT, neJ2, neJ2', neJ3, neJ3'], by simp [lessR, lk, neJ2, neJ2', neJ3, neJ3'], by (try dsimp only); omega, keep0⟩) (by simp) ?_
  intro k1 x1 j1 hr1
  obtain ⟨rfl, hi1⟩ := hr1
  simp only [ovr, uk, List.set_cons_zero, List.set_cons_succ]
  refine PI.q ?_
  refine PI.q ?_
  refine rg28v20 (j1 + 25) [] fun all5 _ => ?_
  refine GoI.runN 2 nf20 ?_
  refine GoI.z nf20 ?_
  refine PI.d 25 nf20 (fun hb1 => ?_) (fun hb1 => ?_)
  ·
   try simp only [hb1]
   obtain ⟨hlt, hw⟩ := up hb1 hl'
   have hx := rows_at hlt
   have hya : (List.map (fun k => [aI k]) (List.map (fun r => (cntR a.rows r : Int)) A))[x1]? = some [aI (cntR a.rows A[x1] : Int)] := by simp [hlt]
   have hyb : (List.map (fun k => [aI k]) (List.map (fun r => (cntR b.rows r : Int)) A))[x1]? = some [aI (cntR b.rows A[x1] : Int)] := by simp [hlt]
   have hca := cntR_le a.rows A[x1]
   have hcb := cntR_le b.rows A[x1]
   have hft := fm_take (fun r => List.replicate (min (cntR a.rows r) (cntR b.rows r)) r) hlt
   have htn : (if (cntR b.rows A[x1] : Int) < (cntR a.rows A[x1] : Int) then (cntR b.rows A[x1] : Int) else (cntR a.rows A[x1] : Int)).toNat = min (cntR a.rows A[x1]) (cntR b.rows A[x1]) := by split <;> omega
   replace U := U.cons (And.intro (hw) (And.intro (hx) (And.intro (hya) (hyb))))
   refine PI.s ?_
   refine PI.q ?_
   refine PI.b 1 ?_
   refine rd28v20 (j1 + 43) [15] fun all6 _ => ?_
   refine GoI.runN 2 nf20 ?_
   refine GoI.runN 2 nf20 ?_
   refine GoI.runN 2 nf20 ?_
   refine GoI.runN 2 nf20 ?_
   refine GoI.runN 2 nf20 ?_
   refine GoI.runN 2 nf20 ?_
   refine GoI.runN 2 nf20 ?_
   refine GoI.run nf20 ?_
   refine GoI.call2 nf20 nf20 (by exact okRepeat (t := ([7], 1)) ((A.take x1).flatMap fun r => List.replicate (min (cntR a.rows r) (cntR b.rows r)) r) A[x1] (if (cntR b.rows A[x1] : Int) < (cntR a.rows A[x1] : Int) then (cntR b.rows A[x1] : Int) else (cntR a.rows A[x1] : Int)) (by split <;> omega) (by have := fm_take_le A (fun r => List.replicate (min (cntR a.rows r) (cntR b.rows r)) r) x1; omega) (nul (by omega)) (by repeat (first | exact lk_hd | refine lk_tl (by simp <;> omega) ?_))) (by repeat (first | exact trivial | exact Or.inl rfl | exact Or.inr (Or.inl rfl) | exact Or.inr (Or.inr rfl) | apply And.intro)) (by first | exact .inr rfl | exact .inl rfl) (by exact fun _ r hr => by rw [List.mem_singleton.1 hr]; exact oldR_of (m := 7) rfl (by omega)) ?_
   try simp only [List.reverse_cons, List.reverse_nil, List.nil_append, List.cons_append, List.append_assoc]
   refine GoI.z nf20 ?_
   refine rg28v20 (j1 + 46) [] fun all7 _ => ?_
   refine GoI.runN 2 nf20 ?_
   refine GoI.z nf20 ?_
   refine ⟨A.length - (x1 + 1), x1 + 1, j1 + 25, by omega, ⟨rfl, by omega⟩, GhI.of_wk ⟨by simp [ovr, uk, lessT], by simp only [hft, htn, lessR, List.length_append, List.length_replicate]; simp [lk], by (try dsimp only); omega, keep0⟩⟩
  try simp only [hb1]
  have hge := dn hb1
  rw [List.take_of_length_le hge]
  refine PI.e 0 ?_
  refine PI.q ?_
  refine rg28v20 (j1 + 27) [] fun all8 _ => ?_
  refine GoI.z nf20 ?_
  refine PI.r ?_
  exact FinI.mk _ nf20 (by clear U; first | (simp [finR, nrmA, nrm, AV.content]; done) | rfl)
theorem rg24v20 {T : List Rid} {p : Path} {Q : Exit → SL → Prop} {tm : List AV} {L : RL} {n : Nat} {c : Code} {l : List Oper} (n' : Nat) (Qs : List Nat) (h : ∀ all, (ro c).toList = all → GoI Tryz.prog T p all false Qs n 0 l tm L fun tm' L' => Q .normal ⟨tm', L', n'⟩) (hk : kd c = 0 := by kernel_rfl) (hr : rd c = false := by kernel_rfl) (hl : (ro c).toList = l := by dsimp only [ro, s1, s2, c1, c2, bc, bod, Tryz.f24, Option.getD_some] <;> exact rfl) (hn : n + (ro c).size = n' := by kernel_rfl) : PI Tryz.prog T p c Q ⟨tm, L, n⟩ := PI.rg n' Qs hk hr hl (fun h => by cases h) hn (h _ rfl)
theorem okUnion' (a b : Bag) (ha : OkBag' a) (hb : OkBag' b) (hab : a.rows.length + b.rows.length ≤ 400000) : CallsOK Tryz.prog 24 [aBag a, aBag b] (aBag ⟨a.kinds, srt (a.rows ++ b.rows)⟩) := by
  have hla := ha.l
  have hlb := hb.l
  have U : Hid True := ⟨trivial⟩
  replace U := U.cons (And.intro (rowLen (f := fun r : Row => [aRow r]) (n := 1) (fun _ => rfl) a.rows) (And.intro (rowLen (f := fun r : Row => [aRow r]) (n := 1) (fun _ => rfl) b.rows) (And.intro ((show a.rows.length * 24 ≤ 140737488355328 by omega)) ((show (a.rows.length + b.rows.length) * 24 ≤ 140737488355328 by omega)))))
  refine CallsOK.of_pi mixed Tryz.func24 (by kernel_rfl) (by kernel_rfl) (?_ : PI _ _ _ _ _ ⟨[aBag a, aBag b, .und, .und, .und, .und, .und, .und, .und, .und, .und, .und, .und, .und, .und, .und, .und, .und, .und, .und, .und, .und, .und, .und, .und, .und], [], 0⟩)
  refine PI.q ?_
  refine rg24v20 (3) [] fun all1 _ => ?_
  refine GoI.runN 2 nf20 ?_
  refine GoI.z nf20 ?_
  refine PI.q ?_
  refine rg24v20 (8) [] fun all2 _ => ?_
  refine GoI.runN 2 nf20 ?_
  refine GoI.runN 2 nf20 ?_
  refine GoI.z nf20 ?_
  refine PI.q ?_
  refine rg24v20 (15) [] fun all3 _ => ?_
  refine GoI.runN 2 nf20 ?_
  refine GoI.runN 2 nf20 ?_
  refine GoI.runN 2 nf20 ?_
  refine GoI.z nf20 ?_
  refine PI.q ?_
  refine rg24v20 (22) [] fun all4 _ => ?_
  refine GoI.runN 2 nf20 ?_
  refine GoI.runN 2 nf20 ?_
  refine GoI.runN 2 nf20 ?_
  refine GoI.z nf20 ?_
  refine PI.q ?_
  refine rg24v20 (27) [] fun all5 _ => ?_
  refine GoI.runN 2 nf20 ?_
  refine GoI.call nf20 nf20 (by rw [← List.map_append]; exact okSort' _ (by simp; omega) (fun r h => by rcases List.mem_append.1 h with h | h; exact ha.r r h; exact hb.r r h)) ?_
  refine GoI.z nf20 ?_
  refine PI.q ?_
  refine rg24v20 (29) [] fun all6 _ => ?_
  refine GoI.z nf20 ?_
  refine PI.r ?_
  exact FinI.mk _ nf20 (by clear U; first | (simp [finR, nrmA, nrm, AV.content]; done) | rfl)
theorem rg30v20 {T : List Rid} {p : Path} {Q : Exit → SL → Prop} {tm : List AV} {L : RL} {n : Nat} {c : Code} {l : List Oper} (n' : Nat) (Qs : List Nat) (h : ∀ all, (ro c).toList = all → GoI Tryz.prog T p all false Qs n 0 l tm L fun tm' L' => Q .normal ⟨tm', L', n'⟩) (hk : kd c = 0 := by kernel_rfl) (hr : rd c = false := by kernel_rfl) (hl : (ro c).toList = l := by dsimp only [ro, s1, s2, c1, c2, bc, bod, Tryz.f30, Option.getD_some] <;> exact rfl) (hn : n + (ro c).size = n' := by kernel_rfl) : PI Tryz.prog T p c Q ⟨tm, L, n⟩ := PI.rg n' Qs hk hr hl (fun h => by cases h) hn (h _ rfl)
theorem rd30v20 {T : List Rid} {p : Path} {Q : Exit → SL → Prop} {tm : List AV} {L : RL} {n : Nat} {c : Code} {l : List Oper} (n' : Nat) (Qs : List Nat) (h : ∀ all, (ro c).toList = all → GoI Tryz.prog T p all true Qs n 0 l tm L fun tm' L' => Q .normal ⟨tm', L', n'⟩) (hk : kd c = 0 := by kernel_rfl) (hr : rd c = true := by kernel_rfl) (hl : (ro c).toList = l := by dsimp only [ro, s1, s2, c1, c2, bc, bod, Tryz.f30, Option.getD_some] <;> exact rfl) (hn : n + (ro c).size = n' := by kernel_rfl) (hd : drawOK (ro c) Qs = true := by kernel_rfl) : PI Tryz.prog T p c Q ⟨tm, L, n⟩ := PI.rg n' Qs hk hr hl (fun _ => hd) hn (h _ rfl)
theorem okSame' (a b : Bag) (ha : OkBag' a) (hb : OkBag' b) : CallsOK Tryz.prog 30 [aBag a, aBag b] (aB (sameR a.rows b.rows)) := by
  have hla := ha.l
  have hlb := hb.l
  have U : Hid True := ⟨trivial⟩
  refine CallsOK.of_pi mixed Tryz.func30 (by kernel_rfl) (by kernel_rfl) (?_ : PI _ _ _ _ _ ⟨[aBag a, aBag b, .und, .und, .und, .und, .und, .und, .und, .und, .und, .und], [], 0⟩)
  refine PI.q ?_
  refine rg30v20 (3) [] fun all1 _ => ?_
  refine GoI.runN 2 nf20 ?_
  refine GoI.z nf20 ?_
  refine PI.q ?_
  refine rd30v20 (11) [] fun all2 _ => ?_
  refine GoI.runN 2 nf20 ?_
  refine GoI.call nf20 nf20 (by first | exact okSort' a.rows (Nat.le_trans hla (by decide)) ha.r | exact okSort' b.rows (Nat.le_trans hlb (by decide)) hb.r) ?_
  refine GoI.runN 2 nf20 ?_
  refine GoI.call nf20 nf20 (by first | exact okSort' a.rows (Nat.le_trans hla (by decide)) ha.r | exact okSort' b.rows (Nat.le_trans hlb (by decide)) hb.r) ?_
  refine GoI.call nf20 nf20 (by exact okSameRows _ _) ?_
  refine GoI.z nf20 ?_
  refine PI.r ?_
  exact FinI.mk _ nf20 (by clear U; first | (simp [finR, nrmA, nrm, AV.content]; done) | rfl)
end Go.FE
namespace Go.FE
open Go.Proofs
theorem shr20 (x : Int) : x.fdiv (2 ^ (min 20 IntKind.i64.bits)) = x / 1048576 := by
  have : min 20 IntKind.i64.bits = 20 := by decide
  rw [this, Int.fdiv_eq_ediv_of_nonneg _ (by decide)]
  rfl
theorem and20 (x : Int) : IntKind.i64.wrap ((BitVec.ofInt IntKind.i64.bits x &&& BitVec.ofInt IntKind.i64.bits 1048575).toNat : Int) = x % 1048576 := by
  have h1 : (BitVec.ofInt IntKind.i64.bits x &&& BitVec.ofInt IntKind.i64.bits 1048575).toNat = (x % 2 ^ 64).toNat % 2 ^ 20 := by
    rw [BitVec.toNat_and]
    have : (BitVec.ofInt IntKind.i64.bits 1048575).toNat = 2 ^ 20 - 1 := by decide
    rw [this, Nat.and_two_pow_sub_one_eq_mod, BitVec.toNat_ofInt]
    rfl
  rw [h1]
  have h2 : (((x % 2 ^ 64).toNat % 2 ^ 20 : Nat) : Int) = x % 1048576 := by omega
  rw [h2, w64 (by omega) (by omega)]
theorem shl20 {x : Int} (h : -8796093022208 ≤ x) (h' : x ≤ 8796093022207) : IntKind.i64.wrap (x * 2 ^ (min 20 IntKind.i64.bits)) = x * 1048576 := by
  have : min 20 IntKind.i64.bits = 20 := by decide
  rw [this]
  exact w64 (by omega) (by omega)
def sumI (vs : List Vl) : Int := (vs.map (·.i)).sum
theorem sumI_succ {l : List Vl} {i : Nat} (h : i < l.length) : sumI (l.take (i + 1)) = sumI (l.take i) + l[i].i := by
  rw [List.take_succ_eq_append_getElem h, sumI, List.map_append, List.sum_append]; simp [sumI]
end Go.FE
namespace Go.FE
open Go.Proofs
theorem nf21 {α : Type} {a b : α} (h : a = b := by simp only [goP, goN, mrk, Nat.reduceMul, Nat.one_mul, Nat.mul_one, eq_self, false_implies, implies_true, Nat.reduceLT, List.getElem?_toArray, isCall, List.contains_nil, List.contains_cons, Nat.reduceBEq, Bool.or_false, Bool.or_self, List.length_map, gOf, step, stepM, stepP, ev, okV, if_true, if_false, allocA, storeA, boxA, one1, tokN, tok1, buildA, rowA, nrmP, partV, partA, fieldA, fieldV, elemA, lenA, bltA, asSl, appA, makeA, makeR, cutA, bndA, binV, intOp, strOp, unV, eqB, nilB, sameT, List.all_cons, List.all_nil, Bool.and_self, Bool.and_true, Bool.true_and, List.map_cons, List.map_nil, List.nil_append, List.cons_append, List.append_nil, AV.bare, AV.content, AV.clean, AV.one, putD, List.set_cons_zero, List.set_cons_succ, List.reverse_cons, List.reverse_nil, List.getD_cons_zero, List.getD_cons_succ, List.getElem?_cons_zero, List.getElem?_cons_succ, Option.getD_some, Option.map_some, Option.map_none, Option.bind_some, List.length_cons, List.length_nil, lk, cellsA, fillA, fillS, isAggD, spl, nrm, nrmA, List.take_succ_cons, List.take_zero, List.drop_succ_cons, List.drop_zero, List.drop_nil, List.take_nil, Nat.reduceAdd, Nat.zero_add, Nat.add_zero, Nat.add_assoc, Nat.add_left_cancel_iff, reduceCtorEq, Prod.mk.injEq, List.cons.injEq, and_self, and_true, true_and, Nat.le_refl, Nat.reduceLeDiff, Nat.reduceEqDiff, List.getElem?_nil, Int.reduceToNat, Int.reduceLE, Int.reduceLT, ite_self, List.forall_mem_cons, List.not_mem_nil, false_and, and_false, Bool.false_eq_true, List.replicate_zero, List.replicate_succ, Int.toNat_natCast, neJ2, neJ2', neJ3, neJ3', callOf, callOf2, fnOf, argsA, args2, Array.isEmpty_empty, resLL, resVL, beq_self_eq_true, st3, zt3, it3, ct3, se3, Tryz.underlying3, st4, zt4, it4, ct4, se4, Tryz.underlying4, st9, zt9, it9, ct9, se9, Tryz.underlying9, st25, zt25, it25, ct25, pt25, eqs25, se25, Tryz.underlying25, st49, zt49, it49, ct49, se49, Tryz.underlying49, Tryz.results95, Int.natCast_nonneg, U.out] <;> rfl) : a = b := h
def inV (v : Vl) : Prop := -1125899906842624 ≤ v.i ∧ v.i ≤ 1125899906842624
structure SmX where
  i : Nat
  hi : Int
  lo : Int
structure SmI (l : List Vl) (x : SmX) : Prop where
  le : x.i ≤ l.length
  sm : x.hi * 1048576 + x.lo = sumI (l.take x.i)
  l0 : 0 ≤ x.lo
  l1 : x.lo ≤ x.i * 1048575
  h0 : -(x.i * 1073741824) ≤ x.hi
  h1 : x.hi ≤ x.i * 1073741824
theorem intV_null {n : Int} (h : n < -1125899906842624 ∨ 1125899906842624 < n) : intV n = nullV := by
  unfold intV orNull
  have : validV ⟨1, n, .empty⟩ = false := by
    unfold validV
    simp only [beq_iff_eq]
    rcases h with h | h
    · simp [show ¬ (-1125899906842624 ≤ n) by omega]
    · simp [show ¬ (n ≤ 1125899906842624) by omega]
  rw [this]; rfl
theorem rg95v21 {T : List Rid} {p : Path} {Q : Exit → SL → Prop} {tm : List AV} {L : RL} {n : Nat} {c : Code} {l : List Oper} (n' : Nat) (Qs : List Nat) (h : ∀ all, (ro c).toList = all → GoI Tryz.prog T p all false Qs n 0 l tm L fun tm' L' => Q .normal ⟨tm', L', n'⟩) (hk : kd c = 0 := by kernel_rfl) (hr : rd c = false := by kernel_rfl) (hl : (ro c).toList = l := by dsimp only [ro, s1, s2, c1, c2, bc, bod, Tryz.f95, Option.getD_some] <;> exact rfl) (hn : n + (ro c).size = n' := by kernel_rfl) : PI Tryz.prog T p c Q ⟨tm, L, n⟩ := PI.rg n' Qs hk hr hl (fun h => by cases h) hn (h _ rfl)
set_option maxHeartbeats 1000000 in
set_option maxRecDepth 100000 in
theorem okSum (l : List Vl) (hl : l.length ≤ 100000) (hv : ∀ v ∈ l, inV v) : CallsOK Tryz.prog 95 [aRow l] (aVal (intV (sumI l))) := by
  have hl' : l.length ≤ maxLen := by unfold maxLen; omega
  have U : Hid True := ⟨trivial⟩
  replace U := U.cons (And.intro (shr20) (and20))
  refine CallsOK.of_pi mixed Tryz.func95 (by kernel_rfl) (by kernel_rfl) (?_ : PI _ _ _ _ _ ⟨[aRow l, .und, .und, .und, .und, .und, .und, .und, .und, .und, .und, .und, .und, .und, .und, .und, .und, .und, .und, .und, .und, .und, .und, .und, .und, .und, .und, .und, .und, .und, .und, .und, .und, .und, .und, .und, .und, .und, .und, .und, .und, .und, .und, .und, .und, .und, .und, .und, .und, .und, .und], [], 0⟩)
  refine PI.q ?_
  refine rg95v21 (1) [] fun all1 _ => ?_
  refine GoI.z nf21 ?_
  refine PI.q ?_
  refine rg95v21 (3) [] fun all2 _ => ?_
  refine GoI.z nf21 ?_
  refine PI.q ?_
  refine PI.q ?_
  refine rg95v21 (6) [] fun all3 _ => ?_
  refine GoI.runN 2 nf21 ?_
  refine GoI.z nf21 ?_
  refine PI.b 0 ?_
  refine PI.lo (by kernel_rfl) (X := SmX) (fun x => (10, aI x.i) :: (3, aI x.hi) :: (4, aI x.lo) :: uk [6, 11, 12, 13, 14, 15, 16, 17, 18, 19, 20, 21, 22, 23, 24]) (fun _ => [(([0], 0), .var 25 [aI 0, aI 0, aS .empty])]) (fun k x => k = l.length - x.i ∧ SmI l x) (l.length) (⟨0, 0, 0⟩) (GhI.of_wk ⟨by simp [ovr, uk, lessT, neJ2, neJ2', neJ3, neJ3'], by simp [lessR, lk, neJ2, neJ2', neJ3, neJ3'], by (try dsimp only); omega, keep0⟩) (⟨rfl, Nat.zero_le _, by simp [sumI], by decide, by decide, by decide, by decide⟩) ?_
  intro k1 x1 j1 hr1
  obtain ⟨rfl, hM⟩ := hr1
  have q1 := hM.le
  have q2 := hM.sm
  have q3 := hM.l0
  have q4 := hM.l1
  have q5 := hM.h0
  have q6 := hM.h1
  simp only [ovr, uk, List.set_cons_zero, List.set_cons_succ]
  refine PI.q ?_
  refine rg95v21 (j1 + 7) [] fun all4 _ => ?_
  refine GoI.z nf21 ?_
  refine PI.q ?_
  refine PI.d 11 nf21 (fun hb1 => ?_) (fun hb1 => ?_)
  ·
   try simp only [hb1]
   obtain ⟨hlt, hw⟩ := up hb1 hl'
   have hx := row_at hlt
   have hvi := hv _ (List.getElem_mem hlt)
   unfold inV at hvi
   have hts := sumI_succ hlt
   generalize hz : l[x1.i].i = z
   have w1 : IntKind.i64.wrap (x1.hi + z / 1048576) = x1.hi + z / 1048576 := w64 (by omega) (by omega)
   have w2 : IntKind.i64.wrap (x1.lo + z % 1048576) = x1.lo + z % 1048576 := w64 (by omega) (by omega)
   replace U := U.cons (And.intro (hw) (And.intro (hx) (And.intro (hz) (And.intro (w1) (w2)))))
   refine PI.s ?_
   refine PI.q ?_
   refine PI.b 1 ?_
   refine PI.q ?_
   refine rg95v21 (j1 + 11) [] fun all5 _ => ?_
   refine GoI.runN 2 nf21 ?_
   refine GoI.z nf21 ?_
   refine PI.q ?_
   refine rg95v21 (j1 + 17) [] fun all6 _ => ?_
   refine GoI.runN 2 nf21 ?_
   refine GoI.runN 2 nf21 ?_
   refine GoI.z nf21 ?_
   refine rg95v21 (j1 + 23) [] fun all7 _ => ?_
   refine GoI.runN 2 nf21 ?_
   refine GoI.runN 2 nf21 ?_
   refine GoI.z nf21 ?_
   refine rg95v21 (j1 + 25) [] fun all8 _ => ?_
   refine GoI.z nf21 ?_
   refine ⟨l.length - (x1.i + 1), ⟨x1.i + 1, x1.hi + z / 1048576, x1.lo + z % 1048576⟩, j1 + 19, by omega, ⟨rfl, by dsimp only; omega, by dsimp only; rw [hts]; omega, by dsimp only; omega, by dsimp only; omega, by dsimp only; omega, by dsimp only; omega⟩, GhI.of_wk ⟨by simp [ovr, uk, lessT, neJ2, neJ2', neJ3, neJ3'], by simp [lessR, lk, neJ2, neJ2', neJ3, neJ3'], by (try dsimp only); omega, keep0⟩⟩
  try simp only [hb1]
  have hge := dn hb1
  rw [List.take_of_length_le hge] at q2
  have w3 : IntKind.i64.wrap (x1.hi + x1.lo / 1048576) = x1.hi + x1.lo / 1048576 := w64 (by omega) (by omega)
  generalize hH : x1.hi + x1.lo / 1048576 = H
  generalize hL : x1.lo % 1048576 = L
  have hS : H * 1048576 + L = sumI l := by omega
  have hL0 : 0 ≤ L ∧ L < 1048576 := by omega
  rw [hH] at w3
  replace U := U.cons (And.intro (w3) (And.intro (hH) (hL)))
  refine PI.e 0 ?_
  refine PI.q ?_
  refine rg95v21 (j1 + 12) [] fun all9 _ => ?_
  refine GoI.runN 2 nf21 ?_
  refine GoI.runN 2 nf21 ?_
  refine GoI.z nf21 ?_
  refine PI.q ?_
  refine rg95v21 (j1 + 15) [] fun all10 _ => ?_
  refine GoI.runN 2 nf21 ?_
  refine GoI.z nf21 ?_
  refine PI.q ?_
  refine PI.q ?_
  refine rg95v21 (j1 + 21) [] fun all11 hall11 => ?_
  have hgd11_2 : (all11[2]?).bind (fun o => o.dst) = some 33 := by rw [← hall11]; kernel_rfl
  replace U := U.cons (hgd11_2)
  refine GoI.runN 2 nf21 ?_
  refine GoI.runN 1 nf21 ?_
  refine GoI.grd 33 nf21 (fun hg1 => ?_) (fun hg1 => ?_)
  ·
   try simp only [hg1]
   have hc : H < -2147483648 := by simpa using hg1
   have hn := intV_null (n := sumI l) (by omega)
   refine GoI.runN 2 nf21 ?_
   refine GoI.z nf21 ?_
   refine PI.t 36 nf21 ?_
   refine PI.q ?_
   refine rg95v21 (j1 + 23) [] fun all12 _ => ?_
   refine GoI.call nf21 nf21 (by exact okNull) ?_
   refine GoI.z nf21 ?_
   refine PI.r ?_
   exact FinI.mk _ nf21 (by clear U; first | (rw [hn]; rfl) | rfl)
  try simp only [hg1]
  have hc : ¬ H < -2147483648 := by simpa using hg1
  refine GoI.runN 2 nf21 ?_
  refine GoI.z nf21 ?_
  refine PI.d 36 nf21 (fun hb2 => ?_) (fun hb2 => ?_)
  ·
   try simp only [hb2]
   have hc2 : H > 2147483648 := by simpa using hb2
   have hn := intV_null (n := sumI l) (by omega)
   refine PI.q ?_
   refine rg95v21 (j1 + 23) [] fun all12 _ => ?_
   refine GoI.call nf21 nf21 (by exact okNull) ?_
   refine GoI.z nf21 ?_
   refine PI.r ?_
   exact FinI.mk _ nf21 (by clear U; first | (rw [hn]; rfl) | rfl)
  try simp only [hb2]
  have hc2 : ¬ H > 2147483648 := by simpa using hb2
  have w4 := shl20 (x := H) (by omega) (by omega)
  have w5 : IntKind.i64.wrap (H * 1048576 + L) = sumI l := by rw [hS]; exact w64 (by omega) (by omega)
  replace U := U.cons (And.intro (w4) (w5))
  refine PI.s ?_
  refine PI.q ?_
  refine rg95v21 (j1 + 26) [] fun all13 _ => ?_
  refine GoI.runN 2 nf21 ?_
  refine GoI.runN 2 nf21 ?_
  refine GoI.z nf21 ?_
  refine PI.q ?_
  refine PI.q ?_
  refine rg95v21 (j1 + 32) [] fun all14 hall14 => ?_
  have hgd14_2 : (all14[2]?).bind (fun o => o.dst) = some 44 := by rw [← hall14]; kernel_rfl
  replace U := U.cons (hgd14_2)
  refine GoI.runN 2 nf21 ?_
  refine GoI.runN 1 nf21 ?_
  refine GoI.grd 44 nf21 (fun hg2 => ?_) (fun hg2 => ?_)
  ·
   try simp only [hg2]
   have hc3 : sumI l < -1125899906842624 := by simpa using hg2
   have hn := intV_null (n := sumI l) (by omega)
   refine GoI.runN 2 nf21 ?_
   refine GoI.z nf21 ?_
   refine PI.t 47 nf21 ?_
   refine PI.q ?_
   refine rg95v21 (j1 + 34) [] fun all15 _ => ?_
   refine GoI.call nf21 nf21 (by exact okNull) ?_
   refine GoI.z nf21 ?_
   refine PI.r ?_
   exact FinI.mk _ nf21 (by clear U; first | (rw [hn]; rfl) | rfl)
  try simp only [hg2]
  refine GoI.runN 2 nf21 ?_
  refine GoI.z nf21 ?_
  refine PI.d 47 nf21 (fun hb3 => ?_) (fun hb3 => ?_)
  ·
   try simp only [hb3]
   have hc3 : sumI l > 1125899906842624 := by simpa using hb3
   have hn := intV_null (n := sumI l) (by omega)
   refine PI.q ?_
   refine rg95v21 (j1 + 34) [] fun all15 _ => ?_
   refine GoI.call nf21 nf21 (by exact okNull) ?_
   refine GoI.z nf21 ?_
   refine PI.r ?_
   exact FinI.mk _ nf21 (by clear U; first | (rw [hn]; rfl) | rfl)
  try simp only [hb3]
  refine PI.s ?_
  refine PI.q ?_
  refine rg95v21 (j1 + 35) [] fun all16 _ => ?_
  refine GoI.run nf21 ?_
  refine GoI.call nf21 nf21 (by exact okInt _) ?_
  refine GoI.z nf21 ?_
  refine PI.r ?_
  exact FinI.mk _ nf21 (by clear U; first | (rw [hn]; rfl) | rfl)
end Go.FE
