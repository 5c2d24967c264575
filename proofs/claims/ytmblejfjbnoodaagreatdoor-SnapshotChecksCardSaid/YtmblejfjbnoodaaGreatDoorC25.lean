/- The kind of several expressions. The kind of an expression, or what is wrong with it. -/
import Derived.Test.YtmblejfjbnoodaaGreatDoorC09
import Derived.Test.YtmblejfjbnoodaaGreatDoorC24
set_option linter.unusedVariables false
set_option linter.unusedSimpArgs false
namespace Go.FE
open Go.Proofs
theorem nfw3 {α : Type} {a b : α} (h : a = b := by simp only [goP, goN, mrk, Nat.reduceMul, Nat.one_mul, Nat.mul_one, eq_self, false_implies, implies_true, Nat.reduceLT, List.getElem?_toArray, isCall, List.contains_nil, List.contains_cons, Nat.reduceBEq, Bool.or_false, Bool.or_self, List.length_map, gOf, step, stepM, stepP, ev, okV, if_true, if_false, allocA, storeA, boxA, one1, tokN, tok1, buildA, rowA, nrmP, partV, partA, fieldA, fieldV, elemA, lenA, bltA, asSl, appA, makeA, makeR, cutA, bndA, binV, intOp, strOp, unV, eqB, nilB, sameT, List.all_cons, List.all_nil, Bool.and_self, Bool.and_true, Bool.true_and, List.map_cons, List.map_nil, List.nil_append, List.cons_append, List.append_nil, AV.bare, AV.content, AV.clean, AV.one, putD, List.set_cons_zero, List.set_cons_succ, List.reverse_cons, List.reverse_nil, List.getD_cons_zero, List.getD_cons_succ, List.getElem?_cons_zero, List.getElem?_cons_succ, Option.getD_some, Option.map_some, Option.map_none, Option.bind_some, List.length_cons, List.length_nil, lk, cellsA, fillA, fillS, isAggD, spl, nrm, nrmA, List.take_succ_cons, List.take_zero, List.drop_succ_cons, List.drop_zero, List.drop_nil, List.take_nil, Nat.reduceAdd, Nat.zero_add, Nat.add_zero, Nat.add_assoc, Nat.add_left_cancel_iff, reduceCtorEq, Prod.mk.injEq, List.cons.injEq, and_self, and_true, true_and, Nat.le_refl, Nat.reduceLeDiff, Nat.reduceEqDiff, List.getElem?_nil, Int.reduceToNat, Int.reduceLE, Int.reduceLT, ite_self, List.forall_mem_cons, List.not_mem_nil, false_and, and_false, Bool.false_eq_true, List.replicate_zero, List.replicate_succ, Int.toNat_natCast, neJ2, neJ2', neJ3, neJ3', callOf, callOf2, fnOf, argsA, args2, Array.isEmpty_empty, resLL, resVL, beq_self_eq_true, st3, zt3, it3, ct3, se3, Tryz.underlying3, st4, zt4, it4, ct4, se4, Tryz.underlying4, st22, zt22, it22, ct22, se22, Tryz.underlying22, Tryz.results202, Tryz.results179, Tryz.results212, renA, renR, st77, Tryz.underlying77, Tryz.results201, Tryz.results178, U.out] <;> rfl) : a = b := h
def uniF : Int → List Int → Int × Bool
  | k, [] => (k, true)
  | k, x :: l => if x == 0 then uniF k l else if k != 0 && k != x then (0, false) else uniF x l
def uniK (l : List Int) : Int × Bool := uniF 0 l
theorem uniF_at {l : List Int} {i : Nat} (k : Int) (h : i < l.length) : uniF k (l.drop i) = if l[i] == 0 then uniF k (l.drop (i + 1)) else if k != 0 && k != l[i] then (0, false) else uniF l[i] (l.drop (i + 1)) := by
  rw [List.drop_eq_getElem_cons h, uniF]
theorem uniF_end {l : List Int} {i : Nat} (k : Int) (h : l.length ≤ i) : uniF k (l.drop i) = (k, true) := by rw [List.drop_of_length_le h, uniF]
structure UX where
  i : Nat
  k : Int
theorem rg202w3 {T : List Rid} {p : Path} {Q : Exit → SL → Prop} {tm : List AV} {L : RL} {n : Nat} {c : Code} {l : List Oper} (n' : Nat) (Qs : List Nat) (h : ∀ all, (ro c).toList = all → GoI Tryz.prog T p all false Qs n 0 l tm L fun tm' L' => Q .normal ⟨tm', L', n'⟩) (hk : kd c = 0 := by kernel_rfl) (hr : rd c = false := by kernel_rfl) (hl : (ro c).toList = l := by dsimp only [ro, s1, s2, c1, c2, bc, bod, Tryz.f202, Option.getD_some] <;> exact rfl) (hn : n + (ro c).size = n' := by kernel_rfl) : PI Tryz.prog T p c Q ⟨tm, L, n⟩ := PI.rg n' Qs hk hr hl (fun h => by cases h) hn (h _ rfl)
set_option maxRecDepth 100000 in
theorem okUnite (l : List Int) (hl : l.length ≤ maxLen) : CallsOK Tryz.prog 202 [ints l] (.tup [aI (uniK l).1, aB (uniK l).2]) := by
  have U : Hid True := ⟨trivial⟩
  refine CallsOK.of_pi mixed Tryz.func202 (by kernel_rfl) (by kernel_rfl) (?_ : PI _ _ _ _ _ ⟨[ints l, .und, .und, .und, .und, .und, .und, .und, .und, .und, .und, .und, .und, .und, .und, .und, .und, .und, .und, .und, .und, .und, .und, .und, .und], [], 0⟩)
  refine PI.q ?_
  refine rg202w3 (2) [] fun all1 _ => ?_
  refine GoI.z nfw3 ?_
  refine PI.q ?_
  refine rg202w3 (3) [] fun all2 _ => ?_
  refine GoI.z nfw3 ?_
  refine PI.q ?_
  refine PI.q ?_
  refine rg202w3 (6) [] fun all3 _ => ?_
  refine GoI.runN 2 nfw3 ?_
  refine GoI.z nfw3 ?_
  refine PI.b 0 ?_
  refine PI.lo (by kernel_rfl) (X := UX) (fun x => (9, aI x.i) :: (4, aI x.k) :: uk [2, 3, 6, 10, 11, 12, 13, 14, 15, 16, 17, 18, 19, 20, 21, 22, 23]) (fun _ => []) (fun k x => k = l.length - x.i ∧ x.i ≤ l.length ∧ uniK l = uniF x.k (l.drop x.i)) (l.length) (⟨0, 0⟩) (GhI.of_wk ⟨by simp [ovr, uk, lessT, neJ2, neJ2', neJ3, neJ3'], by simp [lessR, lk, neJ2, neJ2', neJ3, neJ3'], by (try dsimp only); omega, keep0⟩) (⟨rfl, Nat.zero_le _, rfl⟩) ?_
  intro k1 x1 j1 hr1
  obtain ⟨rfl, hi1, hu⟩ := hr1
  simp only [ovr, uk, List.set_cons_zero, List.set_cons_succ]
  refine PI.q ?_
  refine rg202w3 (j1 + 7) [] fun all4 _ => ?_
  refine GoI.z nfw3 ?_
  refine PI.q ?_
  refine PI.d 10 nfw3 (fun hb1 => ?_) (fun hb1 => ?_)
  ·
   try simp only [hb1]
   obtain ⟨hlt, hw⟩ := up hb1 hl
   have hx := ints_at hlt
   have ha := uniF_at x1.k hlt
   rw [← hu] at ha
   generalize hv : l[x1.i] = v
   rw [hv] at ha
   replace U := U.cons (And.intro (hw) (And.intro (hx) (hv)))
   refine PI.s ?_
   refine PI.q ?_
   refine PI.b 1 ?_
   refine PI.q ?_
   refine rg202w3 (j1 + 10) [] fun all5 _ => ?_
   refine GoI.runN 2 nfw3 ?_
   refine GoI.z nfw3 ?_
   refine PI.q ?_
   refine PI.q ?_
   refine rg202w3 (j1 + 12) [] fun all6 _ => ?_
   refine GoI.z nfw3 ?_
   refine PI.d 14 nfw3 (fun hb2 => ?_) (fun hb2 => ?_)
   ·
    try simp only [hb2]
    refine PI.e 1 ?_
    refine rg202w3 (j1 + 14) [] fun all10 _ => ?_
    refine GoI.z nfw3 ?_
    refine ⟨l.length - (x1.i + 1), ⟨x1.i + 1, x1.k⟩, j1 + 8, by omega, ⟨rfl, by dsimp only; omega, by dsimp only; rw [ha, if_pos hb2]⟩, GhI.of_wk ⟨by simp [ovr, uk, lessT, neJ2, neJ2', neJ3, neJ3'], by simp [lessR, lk, neJ2, neJ2', neJ3, neJ3'], by (try dsimp only); omega, keep0⟩⟩
   try simp only [hb2]
   refine PI.s ?_
   refine PI.q ?_
   refine PI.q ?_
   refine rg202w3 (j1 + 19) [] fun all7 hall7 => ?_
   have hgd7_2 : (all7[2]?).bind (fun o => o.dst) = some 17 := by rw [← hall7]; kernel_rfl
   replace U := U.cons (hgd7_2)
   refine GoI.runN 2 nfw3 ?_
   refine GoI.runN 1 nfw3 ?_
   refine GoI.grd 17 nfw3 (fun hg1 => ?_) (fun hg1 => ?_)
   ·
    try simp only [hg1]
    simp only [decide_eq_true_eq, decide_eq_false_iff_not, beq_iff_eq, beq_eq_false_iff_ne, ne_eq, bne_iff_ne, bne_eq_false_iff_eq, Decidable.not_not] at hg1
    refine GoI.runN 2 nfw3 ?_
    refine GoI.z nfw3 ?_
    refine PI.d 21 nfw3 (fun hb3 => ?_) (fun hb3 => ?_)
    ·
     try simp only [hb3]
     have hr : uniK l = (0, false) := by rw [ha, if_neg (by rw [hb2]; decide), if_pos (by simp_all)]
     rw [hr]
     clear hu
     refine PI.q ?_
     refine rg202w3 (j1 + 21) [] fun all8 _ => ?_
     refine GoI.z nfw3 ?_
     refine PI.r ?_
     exact FinI.mk _ nfw3 (by clear U; simp_all [finR, nrmA, nrm, AV.content])
    try simp only [hb3]
    have hr : uniK l = uniF v (l.drop (x1.i + 1)) := by rw [ha, if_neg (by rw [hb2]; decide), if_neg (by simp_all)]
    refine PI.s ?_
    refine rg202w3 (j1 + 21) [] fun all9 _ => ?_
    refine GoI.z nfw3 ?_
    refine rg202w3 (j1 + 23) [] fun all10 _ => ?_
    refine GoI.z nfw3 ?_
    refine ⟨l.length - (x1.i + 1), ⟨x1.i + 1, v⟩, j1 + 17, by omega, ⟨rfl, by dsimp only; omega, hr⟩, GhI.of_wk ⟨by simp [ovr, uk, lessT, neJ2, neJ2', neJ3, neJ3'], by simp [lessR, lk, neJ2, neJ2', neJ3, neJ3'], by (try dsimp only); omega, keep0⟩⟩
   try simp only [hg1]
   simp only [decide_eq_true_eq, decide_eq_false_iff_not, beq_iff_eq, beq_eq_false_iff_ne, ne_eq, bne_iff_ne, bne_eq_false_iff_eq, Decidable.not_not] at hg1
   refine GoI.runN 2 nfw3 ?_
   refine GoI.z nfw3 ?_
   refine PI.f 21 nfw3 ?_
   have hr : uniK l = uniF v (l.drop (x1.i + 1)) := by rw [ha, if_neg (by rw [hb2]; decide), if_neg (by simp_all)]
   refine PI.s ?_
   refine rg202w3 (j1 + 21) [] fun all9 _ => ?_
   refine GoI.z nfw3 ?_
   refine rg202w3 (j1 + 23) [] fun all10 _ => ?_
   refine GoI.z nfw3 ?_
   refine ⟨l.length - (x1.i + 1), ⟨x1.i + 1, v⟩, j1 + 17, by omega, ⟨rfl, by dsimp only; omega, hr⟩, GhI.of_wk ⟨by simp [ovr, uk, lessT, neJ2, neJ2', neJ3, neJ3'], by simp [lessR, lk, neJ2, neJ2', neJ3, neJ3'], by (try dsimp only); omega, keep0⟩⟩
  try simp only [hb1]
  have hge := dn hb1
  rw [uniF_end _ hge] at hu
  rw [hu]
  clear hu
  refine PI.e 0 ?_
  refine PI.q ?_
  refine rg202w3 (j1 + 10) [] fun all11 _ => ?_
  refine GoI.runN 2 nfw3 ?_
  refine GoI.z nfw3 ?_
  refine PI.r ?_
  exact FinI.mk _ nfw3 (by clear U; simp_all [finR, nrmA, nrm, AV.content])
theorem rg179w3 {T : List Rid} {p : Path} {Q : Exit → SL → Prop} {tm : List AV} {L : RL} {n : Nat} {c : Code} {l : List Oper} (n' : Nat) (Qs : List Nat) (h : ∀ all, (ro c).toList = all → GoI Tryz.prog T p all false Qs n 0 l tm L fun tm' L' => Q .normal ⟨tm', L', n'⟩) (hk : kd c = 0 := by kernel_rfl) (hr : rd c = false := by kernel_rfl) (hl : (ro c).toList = l := by dsimp only [ro, s1, s2, c1, c2, bc, bod, Tryz.f179, Option.getD_some] <;> exact rfl) (hn : n + (ro c).size = n' := by kernel_rfl) : PI Tryz.prog T p c Q ⟨tm, L, n⟩ := PI.rg n' Qs hk hr hl (fun h => by cases h) hn (h _ rfl)
set_option maxRecDepth 100000 in
theorem okJoin11 (l : List Int) (hl : l.length ≤ maxLen) : CallsOK Tryz.prog 179 [ints l] (.tup [aI (uniK l).1, aB (uniK l).2]) := by
  have U : Hid True := ⟨trivial⟩
  refine CallsOK.of_pi mixed Tryz.func179 (by kernel_rfl) (by kernel_rfl) (?_ : PI _ _ _ _ _ ⟨[ints l, .und, .und, .und, .und, .und, .und, .und, .und, .und, .und, .und, .und, .und, .und, .und, .und, .und, .und, .und, .und, .und, .und, .und, .und, .und, .und, .und, .und, .und, .und, .und], [], 0⟩)
  refine PI.q ?_
  refine rg179w3 (2) [] fun all1 _ => ?_
  refine GoI.z nfw3 ?_
  refine PI.q ?_
  refine rg179w3 (3) [] fun all2 _ => ?_
  refine GoI.z nfw3 ?_
  refine PI.q ?_
  refine PI.q ?_
  refine rg179w3 (4) [] fun all3 _ => ?_
  refine GoI.z nfw3 ?_
  refine PI.b 0 ?_
  refine PI.lo (by kernel_rfl) (X := UX) (fun x => (5, aI x.i) :: (4, aI x.k) :: uk [2, 3, 6, 7, 8, 9, 10, 11, 12, 13, 14, 15, 16, 17, 18, 19, 20, 21, 22, 23, 24, 25, 26, 27, 28, 29, 30]) (fun _ => []) (fun k x => k = l.length - x.i ∧ x.i ≤ l.length ∧ uniK l = uniF x.k (l.drop x.i)) (l.length) (⟨0, 0⟩) (GhI.of_wk ⟨by simp [ovr, uk, lessT, neJ2, neJ2', neJ3, neJ3'], by simp [lessR, lk, neJ2, neJ2', neJ3, neJ3'], by (try dsimp only); omega, keep0⟩) (⟨rfl, Nat.zero_le _, rfl⟩) ?_
  intro k1 x1 j1 hr1
  obtain ⟨rfl, hi1, hu⟩ := hr1
  simp only [ovr, uk, List.set_cons_zero, List.set_cons_succ]
  refine PI.q ?_
  refine PI.q ?_
  refine rg179w3 (j1 + 8) [] fun all4 _ => ?_
  refine GoI.runN 2 nfw3 ?_
  refine GoI.z nfw3 ?_
  refine PI.d 9 nfw3 (fun hb1 => ?_) (fun hb1 => ?_)
  ·
   try simp only [hb1]
   obtain ⟨hlt, hw⟩ := up hb1 hl
   have hx := ints_at hlt
   have ha := uniF_at x1.k hlt
   rw [← hu] at ha
   generalize hv : l[x1.i] = v
   rw [hv] at ha
   replace U := U.cons (And.intro (hw) (And.intro (hx) (hv)))
   refine PI.s ?_
   refine PI.q ?_
   refine PI.b 1 ?_
   refine PI.q ?_
   refine PI.q ?_
   refine rg179w3 (j1 + 13) [] fun all5 _ => ?_
   refine GoI.runN 2 nfw3 ?_
   refine GoI.runN 2 nfw3 ?_
   refine GoI.z nfw3 ?_
   refine PI.d 16 nfw3 (fun hb2 => ?_) (fun hb2 => ?_)
   ·
    try simp only [hb2]
    refine PI.e 1 ?_
    refine rg179w3 (j1 + 16) [] fun all9 _ => ?_
    refine GoI.runN 2 nfw3 ?_
    refine GoI.z nfw3 ?_
    refine ⟨l.length - (x1.i + 1), ⟨x1.i + 1, x1.k⟩, j1 + 12, by omega, ⟨rfl, by dsimp only; omega, by dsimp only; rw [ha, if_pos hb2]⟩, GhI.of_wk ⟨by simp [ovr, uk, lessT, neJ2, neJ2', neJ3, neJ3'], by simp [lessR, lk, neJ2, neJ2', neJ3, neJ3'], by (try dsimp only); omega, keep0⟩⟩
   try simp only [hb2]
   refine PI.s ?_
   refine PI.q ?_
   refine PI.q ?_
   refine rg179w3 (j1 + 23) [] fun all6 hall6 => ?_
   have hgd6_2 : (all6[2]?).bind (fun o => o.dst) = some 19 := by rw [← hall6]; kernel_rfl
   replace U := U.cons (hgd6_2)
   refine GoI.runN 2 nfw3 ?_
   refine GoI.runN 1 nfw3 ?_
   refine GoI.grd 19 nfw3 (fun hg1 => ?_) (fun hg1 => ?_)
   ·
    try simp only [hg1]
    simp only [decide_eq_true_eq, decide_eq_false_iff_not, beq_iff_eq, beq_eq_false_iff_ne, ne_eq, bne_iff_ne, bne_eq_false_iff_eq, Decidable.not_not] at hg1
    refine GoI.runN 2 nfw3 ?_
    refine GoI.runN 2 nfw3 ?_
    refine GoI.runN 2 nfw3 ?_
    refine GoI.z nfw3 ?_
    refine PI.d 26 nfw3 (fun hb3 => ?_) (fun hb3 => ?_)
    ·
     try simp only [hb3]
     have hr : uniK l = (0, false) := by rw [ha, if_neg (by rw [hb2]; decide), if_pos (by simp_all)]
     rw [hr]
     clear hu
     refine PI.q ?_
     refine rg179w3 (j1 + 25) [] fun all7 _ => ?_
     refine GoI.z nfw3 ?_
     refine PI.r ?_
     exact FinI.mk _ nfw3 (by clear U; simp_all [finR, nrmA, nrm, AV.content])
    try simp only [hb3]
    have hr : uniK l = uniF v (l.drop (x1.i + 1)) := by rw [ha, if_neg (by rw [hb2]; decide), if_neg (by simp_all)]
    refine PI.s ?_
    refine rg179w3 (j1 + 28) [] fun all8 _ => ?_
    refine GoI.runN 2 nfw3 ?_
    refine GoI.runN 2 nfw3 ?_
    refine GoI.z nfw3 ?_
    refine rg179w3 (j1 + 31) [] fun all9 _ => ?_
    refine GoI.runN 2 nfw3 ?_
    refine GoI.z nfw3 ?_
    refine ⟨l.length - (x1.i + 1), ⟨x1.i + 1, v⟩, j1 + 27, by omega, ⟨rfl, by dsimp only; omega, hr⟩, GhI.of_wk ⟨by simp [ovr, uk, lessT, neJ2, neJ2', neJ3, neJ3'], by simp [lessR, lk, neJ2, neJ2', neJ3, neJ3'], by (try dsimp only); omega, keep0⟩⟩
   try simp only [hg1]
   simp only [decide_eq_true_eq, decide_eq_false_iff_not, beq_iff_eq, beq_eq_false_iff_ne, ne_eq, bne_iff_ne, bne_eq_false_iff_eq, Decidable.not_not] at hg1
   refine GoI.runN 2 nfw3 ?_
   refine GoI.runN 2 nfw3 ?_
   refine GoI.runN 2 nfw3 ?_
   refine GoI.z nfw3 ?_
   refine PI.f 26 nfw3 ?_
   have hr : uniK l = uniF v (l.drop (x1.i + 1)) := by rw [ha, if_neg (by rw [hb2]; decide), if_neg (by simp_all)]
   refine PI.s ?_
   refine rg179w3 (j1 + 28) [] fun all8 _ => ?_
   refine GoI.runN 2 nfw3 ?_
   refine GoI.runN 2 nfw3 ?_
   refine GoI.z nfw3 ?_
   refine rg179w3 (j1 + 31) [] fun all9 _ => ?_
   refine GoI.runN 2 nfw3 ?_
   refine GoI.z nfw3 ?_
   refine ⟨l.length - (x1.i + 1), ⟨x1.i + 1, v⟩, j1 + 27, by omega, ⟨rfl, by dsimp only; omega, hr⟩, GhI.of_wk ⟨by simp [ovr, uk, lessT, neJ2, neJ2', neJ3, neJ3'], by simp [lessR, lk, neJ2, neJ2', neJ3, neJ3'], by (try dsimp only); omega, keep0⟩⟩
  try simp only [hb1]
  have hge := dn hb1
  rw [uniF_end _ hge] at hu
  rw [hu]
  clear hu
  refine PI.e 0 ?_
  refine PI.q ?_
  refine rg179w3 (j1 + 11) [] fun all10 _ => ?_
  refine GoI.runN 2 nfw3 ?_
  refine GoI.z nfw3 ?_
  refine PI.r ?_
  exact FinI.mk _ nfw3 (by clear U; simp_all [finR, nrmA, nrm, AV.content])
theorem rg212w3 {T : List Rid} {p : Path} {Q : Exit → SL → Prop} {tm : List AV} {L : RL} {n : Nat} {c : Code} {l : List Oper} (n' : Nat) (Qs : List Nat) (h : ∀ all, (ro c).toList = all → GoI Tryz.prog T p all false Qs n 0 l tm L fun tm' L' => Q .normal ⟨tm', L', n'⟩) (hk : kd c = 0 := by kernel_rfl) (hr : rd c = false := by kernel_rfl) (hl : (ro c).toList = l := by dsimp only [ro, s1, s2, c1, c2, bc, bod, Tryz.f212, Option.getD_some] <;> exact rfl) (hn : n + (ro c).size = n' := by kernel_rfl) : PI Tryz.prog T p c Q ⟨tm, L, n⟩ := PI.rg n' Qs hk hr hl (fun h => by cases h) hn (h _ rfl)
set_option maxRecDepth 100000 in
theorem okCloneI2 {rs : Rid → Res} {p : Path} (v : Int) (r : List Int) (hr : r.length ≤ 1000000) : Calls2 Tryz.prog 212 [ints (v :: r)] [] rs p (.sl ((v :: r).map fun k => [aI k]) (some ((p, 0), 1))) [((p, 0), .tok 1 3 1)] := by
  have U : Hid True := ⟨trivial⟩
  replace U := U.cons (And.intro (rowLen (f := fun k : Int => [aI k]) (n := 1) (fun _ => rfl) r) ((show (r.length + 1) * 8 ≤ 140737488355328 by omega)))
  refine Calls2.of_pi ([]) mixed Tryz.func212 (by kernel_rfl) (by kernel_rfl) (by simp [lk, under_nil]) (by simp [lk, under_nil]) (by simp [lk, under_nil]) (by simp [lk, under_nil]) (by simp [lk, under_nil]) (?_ : PI _ _ _ _ _ ⟨[ints (v :: r), .und, .und, .und, .und, .und, .und, .und], [], 0⟩)
  refine PI.q ?_
  refine rg212w3 (1) [] fun all1 _ => ?_
  refine GoI.z nfw3 ?_
  refine PI.q ?_
  refine PI.q ?_
  refine rg212w3 (3) [] fun all2 _ => ?_
  refine GoI.z nfw3 ?_
  refine PI.d 4 nfw3 (fun hb1 => ?_) (fun hb1 => ?_)
  ·
   try simp only [hb1]
   cases hb1
  try simp only [hb1]
  refine PI.s ?_
  refine PI.q ?_
  refine rg212w3 (7) [] fun all4 _ => ?_
  refine GoI.runN 2 nfw3 ?_
  refine GoI.z nfw3 ?_
  refine PI.r ?_
  exact FinI.ren (3 :: p, 0) 0 under_self (by simp) (by simp [lk]) _ nfw3 ⟨by clear U; rfl, fin_keys (by dsimp only; simp [lk, under_self, under_nil]) (by dsimp only; simp [lk, under_self, under_nil])⟩
def allK (l : List Int) (k : Int) : Bool := l.all fun x => x == k || x == 0
theorem uniF_snoc {k0 : Int} (hk : k0 ≠ 0) : ∀ (l : List Int) (k : Int), ((uniF k (l ++ [k0])).2 && (uniF k (l ++ [k0])).1 == k0) = ((k == k0 || k == 0) && allK l k0)
  | [], k => by
    simp only [List.nil_append, uniF, allK, List.all_nil, Bool.and_true]
    rw [if_neg (by simpa using hk)]
    by_cases h0 : k = 0
    · subst h0; simp
    · by_cases h1 : k = k0
      · subst h1; simp
      · simp [h0, h1]
  | x :: l, k => by
    rw [List.cons_append, uniF]
    by_cases hx : x = 0
    · subst hx
      rw [if_pos (by decide), uniF_snoc hk l k]
      simp [allK]
    · rw [if_neg (by simpa using hx)]
      by_cases hb : (k != 0 && k != x) = true
      · rw [if_pos hb]
        simp at hb
        by_cases h1 : k = k0
        · subst h1
          simp [allK, Ne.symm hb.2, hx]
        · simp [h1, hb.1]
      · rw [if_neg hb, uniF_snoc hk l x]
        simp at hb
        by_cases h1 : x = k0
        · subst h1
          simp [allK]
          by_cases h2 : k = 0
          · simp [h2]
          · simp [hb h2]
        · simp [allK, h1, hx]
theorem allK_uni (l : List Int) {k : Int} (hk : k ≠ 0) : ((uniK (l ++ [k])).2 && (uniK (l ++ [k])).1 == k) = allK l k := by
  rw [uniK, uniF_snoc hk l 0]; simp
theorem rg201w3 {T : List Rid} {p : Path} {Q : Exit → SL → Prop} {tm : List AV} {L : RL} {n : Nat} {c : Code} {l : List Oper} (n' : Nat) (Qs : List Nat) (h : ∀ all, (ro c).toList = all → GoI Tryz.prog T p all false Qs n 0 l tm L fun tm' L' => Q .normal ⟨tm', L', n'⟩) (hk : kd c = 0 := by kernel_rfl) (hr : rd c = false := by kernel_rfl) (hl : (ro c).toList = l := by dsimp only [ro, s1, s2, c1, c2, bc, bod, Tryz.f201, Option.getD_some] <;> exact rfl) (hn : n + (ro c).size = n' := by kernel_rfl) : PI Tryz.prog T p c Q ⟨tm, L, n⟩ := PI.rg n' Qs hk hr hl (fun h => by cases h) hn (h _ rfl)
set_option maxRecDepth 100000 in
theorem okAllK (l : List Int) (k : Int) (hk : k ≠ 0) (hne : l ≠ []) (hl : l.length ≤ 100000) : CallsOK Tryz.prog 201 [ints l, aI k] (aB (allK l k)) := by
  obtain ⟨x, r, rfl⟩ : ∃ x r, l = x :: r := by cases l with | nil => exact absurd rfl hne | cons x r => exact ⟨x, r, rfl⟩
  have hu := allK_uni (x :: r) hk
  have hap : ((x :: r).length + 1) * 8 ≤ 140737488355328 := by simp at hl ⊢; omega
  have hap2 : (r.length + 1 + 1) * 8 ≤ 140737488355328 := by simp at hl ⊢; omega
  have U : Hid True := ⟨trivial⟩
  replace U := U.cons (And.intro (hap) (And.intro (hap2) (rowLen (f := fun k : Int => [aI k]) (n := 1) (fun _ => rfl) r)))
  refine CallsOK.of_pi mixed Tryz.func201 (by kernel_rfl) (by kernel_rfl) (?_ : PI _ _ _ _ _ ⟨[ints (x :: r), aI k, .und, .und, .und, .und, .und, .und, .und, .und, .und, .und, .und, .und, .und, .und, .und, .und, .und, .und, .und, .und], [], 0⟩)
  refine PI.q ?_
  refine rg201w3 (1) [] fun all1 _ => ?_
  refine GoI.z nfw3 ?_
  refine PI.q ?_
  refine rg201w3 (12) [] fun all2 _ => ?_
  refine GoI.run nfw3 ?_
  refine GoI.call2 nfw3 nfw3 (by exact okCloneI2 x r (by simp at hl; omega)) (by repeat (first | exact trivial | exact Or.inl rfl | exact Or.inr (Or.inl rfl) | exact Or.inr (Or.inr rfl) | apply And.intro)) (by first | exact .inr rfl | exact .inl rfl) (by exact fun h => by cases h) ?_
  try simp only [List.reverse_cons, List.reverse_nil, List.nil_append, List.cons_append, List.append_assoc]
  refine GoI.runN 2 nfw3 ?_
  refine GoI.run nfw3 ?_
  refine GoI.call nfw3 nfw3 (by have h0 := okUnite (x :: r ++ [k]) (by simp at hl ⊢; unfold maxLen; omega); simp only [ints, List.cons_append, List.map_cons, List.map_append, List.map_nil] at h0; exact h0) ?_
  refine GoI.runN 2 nfw3 ?_
  refine GoI.runN 2 nfw3 ?_
  refine GoI.z nfw3 ?_
  refine PI.q ?_
  refine rg201w3 (19) [] fun all3 hall3 => ?_
  have hgd3_1 : (all3[1]?).bind (fun o => o.dst) = some 17 := by rw [← hall3]; kernel_rfl
  replace U := U.cons (hgd3_1)
  refine GoI.runN 2 nfw3 ?_
  refine GoI.grd 17 nfw3 (fun hg1 => ?_) (fun hg1 => ?_)
  ·
   try simp only [hg1]
   refine GoI.runN 2 nfw3 ?_
   refine GoI.runN 2 nfw3 ?_
   refine GoI.z nfw3 ?_
   refine PI.r ?_
   exact FinI.mk _ nfw3 (by clear U; simp_all [finR, nrmA, nrm, AV.content])
  try simp only [hg1]
  refine GoI.runN 2 nfw3 ?_
  refine GoI.runN 2 nfw3 ?_
  refine GoI.z nfw3 ?_
  refine PI.r ?_
  exact FinI.mk _ nfw3 (by clear U; simp_all [finR, nrmA, nrm, AV.content])
theorem rg178w3 {T : List Rid} {p : Path} {Q : Exit → SL → Prop} {tm : List AV} {L : RL} {n : Nat} {c : Code} {l : List Oper} (n' : Nat) (Qs : List Nat) (h : ∀ all, (ro c).toList = all → GoI Tryz.prog T p all false Qs n 0 l tm L fun tm' L' => Q .normal ⟨tm', L', n'⟩) (hk : kd c = 0 := by kernel_rfl) (hr : rd c = false := by kernel_rfl) (hl : (ro c).toList = l := by dsimp only [ro, s1, s2, c1, c2, bc, bod, Tryz.f178, Option.getD_some] <;> exact rfl) (hn : n + (ro c).size = n' := by kernel_rfl) : PI Tryz.prog T p c Q ⟨tm, L, n⟩ := PI.rg n' Qs hk hr hl (fun h => by cases h) hn (h _ rfl)
set_option maxRecDepth 100000 in
theorem okAllK' (l : List Int) (k : Int) (hl : l.length ≤ maxLen) : CallsOK Tryz.prog 178 [ints l, aI k] (aB (allK l k)) := by
  have U : Hid True := ⟨trivial⟩
  refine CallsOK.of_pi mixed Tryz.func178 (by kernel_rfl) (by kernel_rfl) (?_ : PI _ _ _ _ _ ⟨[ints l, aI k, .und, .und, .und, .und, .und, .und, .und, .und, .und, .und, .und, .und, .und, .und, .und, .und, .und, .und, .und, .und, .und, .und, .und], [], 0⟩)
  refine PI.q ?_
  refine rg178w3 (1) [] fun all1 _ => ?_
  refine GoI.z nfw3 ?_
  refine PI.q ?_
  refine PI.q ?_
  refine rg178w3 (2) [] fun all2 _ => ?_
  refine GoI.z nfw3 ?_
  refine PI.b 0 ?_
  refine PI.lo (by kernel_rfl) (X := Nat) (fun i => (5, aI i) :: uk [4, 6, 7, 8, 9, 10, 11, 12, 13, 14, 15, 16, 17, 18, 19, 20, 21, 22, 23, 24]) (fun _ => []) (fun k' i => k' = l.length - i ∧ i ≤ l.length ∧ allK (l.take i) k = true) (l.length) (0) (GhI.of_wk ⟨by simp [ovr, uk, lessT, neJ2, neJ2', neJ3, neJ3'], by simp [lessR, lk, neJ2, neJ2', neJ3, neJ3'], by (try dsimp only); omega, keep0⟩) (⟨rfl, Nat.zero_le _, rfl⟩) ?_
  intro k1 x1 j1 hr1
  obtain ⟨rfl, hi1, hu⟩ := hr1
  simp only [ovr, uk, List.set_cons_zero, List.set_cons_succ]
  refine PI.q ?_
  refine PI.q ?_
  refine rg178w3 (j1 + 6) [] fun all3 _ => ?_
  refine GoI.runN 2 nfw3 ?_
  refine GoI.z nfw3 ?_
  refine PI.d 9 nfw3 (fun hb1 => ?_) (fun hb1 => ?_)
  ·
   try simp only [hb1]
   obtain ⟨hlt, hw⟩ := up hb1 hl
   have hx := ints_at hlt
   replace U := U.cons (And.intro (hw) (hx))
   refine PI.s ?_
   refine PI.q ?_
   refine PI.b 1 ?_
   refine PI.q ?_
   refine rg178w3 (j1 + 19) [] fun all4 hall4 => ?_
   have hgd4_6 : (all4[6]?).bind (fun o => o.dst) = some 18 := by rw [← hall4]; kernel_rfl
   replace U := U.cons (hgd4_6)
   refine GoI.runN 2 nfw3 ?_
   refine GoI.runN 2 nfw3 ?_
   refine GoI.runN 2 nfw3 ?_
   refine GoI.runN 1 nfw3 ?_
   refine GoI.grd 18 nfw3 (fun hg1 => ?_) (fun hg1 => ?_)
   ·
    try simp only [hg1]
    refine GoI.runN 2 nfw3 ?_
    refine GoI.runN 2 nfw3 ?_
    refine GoI.z nfw3 ?_
    refine PI.d 24 nfw3 (fun hb2 => ?_) (fun hb2 => ?_)
    ·
     try simp only [hb2]
     have hr : allK l k = false := all_not hlt (by simp_all)
     refine PI.q ?_
     refine rg178w3 (j1 + 20) [] fun all5 _ => ?_
     refine GoI.z nfw3 ?_
     refine PI.r ?_
     exact FinI.mk _ nfw3 (by clear U; simp_all [finR, nrmA, nrm, AV.content])
    try simp only [hb2]
    have hr : allK (l.take (x1 + 1)) k = true := all_take hlt hu (by simp_all)
    refine PI.s ?_
    refine rg178w3 (j1 + 22) [] fun all6 _ => ?_
    refine GoI.runN 2 nfw3 ?_
    refine GoI.z nfw3 ?_
    refine ⟨l.length - (x1 + 1), x1 + 1, j1 + 20, by omega, ⟨rfl, by omega, hr⟩, GhI.of_wk ⟨by simp [ovr, uk, lessT, neJ2, neJ2', neJ3, neJ3'], by simp [lessR, lk, neJ2, neJ2', neJ3, neJ3'], by (try dsimp only); omega, keep0⟩⟩
   try simp only [hg1]
   refine GoI.runN 2 nfw3 ?_
   refine GoI.runN 2 nfw3 ?_
   refine GoI.z nfw3 ?_
   refine PI.f 24 nfw3 ?_
   have hr : allK (l.take (x1 + 1)) k = true := all_take hlt hu (by simp_all)
   refine PI.s ?_
   refine rg178w3 (j1 + 22) [] fun all6 _ => ?_
   refine GoI.runN 2 nfw3 ?_
   refine GoI.z nfw3 ?_
   refine ⟨l.length - (x1 + 1), x1 + 1, j1 + 20, by omega, ⟨rfl, by omega, hr⟩, GhI.of_wk ⟨by simp [ovr, uk, lessT, neJ2, neJ2', neJ3, neJ3'], by simp [lessR, lk, neJ2, neJ2', neJ3, neJ3'], by (try dsimp only); omega, keep0⟩⟩
  try simp only [hb1]
  have hge := dn hb1
  have hr : allK l k = true := all_full hge hu
  refine PI.e 0 ?_
  refine PI.q ?_
  refine rg178w3 (j1 + 7) [] fun all7 _ => ?_
  refine GoI.z nfw3 ?_
  refine PI.r ?_
  exact FinI.mk _ nfw3 (by clear U; simp_all [finR, nrmA, nrm, AV.content])
end Go.FE
namespace Go.FE
open Go.Proofs
theorem nfw4 {α : Type} {a b : α} (h : a = b := by simp only [goP, goN, mrk, Nat.reduceMul, Nat.one_mul, Nat.mul_one, eq_self, false_implies, implies_true, Nat.reduceLT, List.getElem?_toArray, isCall, List.contains_nil, List.contains_cons, Nat.reduceBEq, Bool.or_false, Bool.or_self, List.length_map, gOf, step, stepM, stepP, ev, okV, if_true, if_false, allocA, storeA, boxA, one1, tokN, tok1, buildA, rowA, nrmP, partV, partA, fieldA, fieldV, elemA, lenA, bltA, asSl, appA, makeA, makeR, cutA, bndA, binV, intOp, strOp, unV, eqB, nilB, sameT, List.all_cons, List.all_nil, Bool.and_self, Bool.and_true, Bool.true_and, List.map_cons, List.map_nil, List.nil_append, List.cons_append, List.append_nil, AV.bare, AV.content, AV.clean, AV.one, putD, List.set_cons_zero, List.set_cons_succ, List.reverse_cons, List.reverse_nil, List.getD_cons_zero, List.getD_cons_succ, List.getElem?_cons_zero, List.getElem?_cons_succ, Option.getD_some, Option.map_some, Option.map_none, Option.bind_some, List.length_cons, List.length_nil, lk, cellsA, fillA, fillS, isAggD, spl, nrm, nrmA, List.take_succ_cons, List.take_zero, List.drop_succ_cons, List.drop_zero, List.drop_nil, List.take_nil, Nat.reduceAdd, Nat.zero_add, Nat.add_zero, Nat.add_assoc, Nat.add_left_cancel_iff, reduceCtorEq, Prod.mk.injEq, List.cons.injEq, and_self, and_true, true_and, Nat.le_refl, Nat.reduceLeDiff, Nat.reduceEqDiff, List.getElem?_nil, Int.reduceToNat, Int.reduceLE, Int.reduceLT, ite_self, List.forall_mem_cons, List.not_mem_nil, false_and, and_false, Bool.false_eq_true, List.replicate_zero, List.replicate_succ, Int.toNat_natCast, neJ2, neJ2', neJ3, neJ3', callOf, callOf2, fnOf, argsA, args2, Array.isEmpty_empty, resLL, resVL, beq_self_eq_true, cut0, st3, zt3, it3, ct3, se3, Tryz.underlying3, st4, zt4, it4, ct4, se4, Tryz.underlying4, st9, zt9, it9, ct9, se9, Tryz.underlying9, st22, zt22, it22, ct22, se22, Tryz.underlying22, st25, zt25, it25, ct25, pt25, eqs25, se25, Tryz.underlying25, st26, zt26, it26, ct26, se26, Tryz.underlying26, st28, zt28, it28, ct28, pt28, se28, Tryz.underlying28, st77, Tryz.underlying77, Tryz.results192, U.out] <;> rfl) : a = b := h
/-- The kind of a well-formed expression, given its arguments' kinds. -/
def resE (op : Int) (vk : Int) (l : List Int) : Int × Bool :=
  if op == 1 then (vk, true)
  else if op == 4 || (op == 5 || op == 6) then (3, allK l 3)
  else if op == 7 || (op == 8 || (op == 9 || (op == 10 || (op == 11 || op == 12)))) then (3, (uniK l).2)
  else if op == 19 then (2, allK l 2)
  else if op == 20 then (1, allK l 2)
  else if op == 21 then (3, true)
  else if op == 22 then ((uniK (l.drop 1)).1, (uniK (l.drop 1)).2 && allK (l.take 1) 3)
  else if op == 23 then uniK l
  else if op == 24 then (3, allK l 1)
  else (1, allK l 1)
theorem rg192w4 {T : List Rid} {p : Path} {Q : Exit → SL → Prop} {tm : List AV} {L : RL} {n : Nat} {c : Code} {l : List Oper} (n' : Nat) (Qs : List Nat) (h : ∀ all, (ro c).toList = all → GoI Tryz.prog T p all false Qs n 0 l tm L fun tm' L' => Q .normal ⟨tm', L', n'⟩) (hk : kd c = 0 := by kernel_rfl) (hr : rd c = false := by kernel_rfl) (hl : (ro c).toList = l := by dsimp only [ro, s1, s2, c1, c2, bc, bod, Tryz.f192, Option.getD_some] <;> exact rfl) (hn : n + (ro c).size = n' := by kernel_rfl) : PI Tryz.prog T p c Q ⟨tm, L, n⟩ := PI.rg n' Qs hk hr hl (fun h => by cases h) hn (h _ rfl)
set_option maxHeartbeats 1000000 in
set_option maxRecDepth 100000 in
theorem okResE (op int : Int) (v : Vl) (name : ByteArray) (args : List Ex) (l : List Int) (hl : l.length ≤ 100000) (hne : op ≠ 1 → l ≠ []) : CallsOK Tryz.prog 192 [aEx op int v name args, ints l] (.tup [aI (resE op v.k l).1, aB (resE op v.k l).2]) := by
  have hl' : l.length ≤ maxLen := by unfold maxLen; omega
  have hd : (l.map fun k => [aI k]).drop 1 = (l.drop 1).map fun k => [aI k] := by simp
  have ht : (l.map fun k => [aI k]).take 1 = (l.take 1).map fun k => [aI k] := by simp
  have hdt : ((l.drop 1).map fun k => [aI k]).take (l.length - 1) = (l.drop 1).map fun k => [aI k] := by rw [List.take_of_length_le (by simp)]
  have hd1 : (l.drop 1).length = l.length - 1 := by simp
  have h1 : op ≠ 1 → 1 ≤ l.length := fun h => by have := hne h; cases l with | nil => exact absurd rfl this | cons x l => simp
  have U : Hid True := ⟨trivial⟩
  replace U := U.cons (And.intro (hd) (And.intro (ht) (And.intro (hd1) (And.intro (hdt) (rowLen (f := fun k : Int => [aI k]) (n := 1) (fun _ => rfl) l)))))
  refine CallsOK.of_pi mixed Tryz.func192 (by kernel_rfl) (by kernel_rfl) (?_ : PI _ _ _ _ _ ⟨[aEx op int v name args, ints l, .und, .und, .und, .und, .und, .und, .und, .und, .und, .und, .und, .und, .und, .und, .und, .und, .und, .und, .und, .und, .und, .und, .und, .und, .und, .und, .und, .und, .und, .und, .und, .und, .und, .und, .und, .und, .und, .und, .und, .und, .und, .und, .und, .und, .und, .und, .und, .und, .und, .und, .und, .und, .und, .und, .und, .und, .und, .und, .und, .und, .und, .und, .und, .und, .und, .und, .und, .und, .und, .und, .und], [], 0⟩)
  refine PI.q ?_
  refine rg192w4 (3) [] fun all1 _ => ?_
  refine GoI.runN 2 nfw4 ?_
  refine GoI.z nfw4 ?_
  refine PI.q ?_
  refine PI.q ?_
  refine rg192w4 (5) [] fun all2 _ => ?_
  refine GoI.z nfw4 ?_
  refine PI.b 0 ?_
  refine PI.q ?_
  refine rg192w4 (7) [] fun all3 _ => ?_
  refine GoI.z nfw4 ?_
  refine PI.d 12 nfw4 (fun hb1 => ?_) (fun hb1 => ?_)
  ·
   try simp only [hb1]
   refine PI.q ?_
   refine rg192w4 (12) [] fun all4 _ => ?_
   refine GoI.runN 2 nfw4 ?_
   refine GoI.runN 2 nfw4 ?_
   refine GoI.z nfw4 ?_
   refine PI.r ?_
   exact FinI.mk _ nfw4 (by clear U; simp_all [finR, nrmA, nrm, AV.content, resE])
  try simp only [hb1]
  have hne' := hne (by simpa using hb1)
  have h1' := h1 (by simpa using hb1)
  have h1i : (1 : Int) ≤ (l.length : Int) := by omega
  replace U := U.cons (And.intro (h1') (h1i))
  refine PI.q ?_
  refine PI.q ?_
  refine rg192w4 (9) [] fun all5 _ => ?_
  refine GoI.z nfw4 ?_
  refine PI.d 17 nfw4 (fun hb2 => ?_) (fun hb2 => ?_)
  ·
   try simp only [hb2]
   refine PI.s ?_
   refine PI.t 17 nfw4 ?_
   refine PI.q ?_
   refine rg192w4 (13) [] fun all8 _ => ?_
   refine GoI.run nfw4 ?_
   refine GoI.call nfw4 nfw4 (by first | exact okAllK _ _ (by decide) hne' hl | exact okAllK _ _ (by decide) (fun h => hne' (by simpa using h)) (by simp; omega)) ?_
   refine GoI.z nfw4 ?_
   refine PI.r ?_
   exact FinI.mk _ nfw4 (by clear U; simp_all [finR, nrmA, nrm, AV.content, resE])
  try simp only [hb2]
  refine PI.q ?_
  refine rg192w4 (11) [] fun all6 _ => ?_
  refine GoI.z nfw4 ?_
  refine PI.d 17 nfw4 (fun hb3 => ?_) (fun hb3 => ?_)
  ·
   try simp only [hb3]
   refine PI.s ?_
   refine PI.t 17 nfw4 ?_
   refine PI.q ?_
   refine rg192w4 (15) [] fun all8 _ => ?_
   refine GoI.run nfw4 ?_
   refine GoI.call nfw4 nfw4 (by first | exact okAllK _ _ (by decide) hne' hl | exact okAllK _ _ (by decide) (fun h => hne' (by simpa using h)) (by simp; omega)) ?_
   refine GoI.z nfw4 ?_
   refine PI.r ?_
   exact FinI.mk _ nfw4 (by clear U; simp_all [finR, nrmA, nrm, AV.content, resE])
  try simp only [hb3]
  refine rg192w4 (13) [] fun all7 _ => ?_
  refine GoI.z nfw4 ?_
  refine PI.d 17 nfw4 (fun hb4 => ?_) (fun hb4 => ?_)
  ·
   try simp only [hb4]
   refine PI.q ?_
   refine rg192w4 (17) [] fun all8 _ => ?_
   refine GoI.run nfw4 ?_
   refine GoI.call nfw4 nfw4 (by first | exact okAllK _ _ (by decide) hne' hl | exact okAllK _ _ (by decide) (fun h => hne' (by simpa using h)) (by simp; omega)) ?_
   refine GoI.z nfw4 ?_
   refine PI.r ?_
   exact FinI.mk _ nfw4 (by clear U; simp_all [finR, nrmA, nrm, AV.content, resE])
  try simp only [hb4]
  refine PI.q ?_
  refine PI.q ?_
  refine rg192w4 (15) [] fun all9 _ => ?_
  refine GoI.z nfw4 ?_
  refine PI.d 23 nfw4 (fun hb5 => ?_) (fun hb5 => ?_)
  ·
   try simp only [hb5]
   refine PI.s ?_
   refine PI.t 23 nfw4 ?_
   refine PI.q ?_
   refine rg192w4 (22) [] fun all15 _ => ?_
   refine GoI.run nfw4 ?_
   refine GoI.call nfw4 nfw4 (by exact okUnite _ (by first | omega | (simp; omega))) ?_
   refine GoI.runN 2 nfw4 ?_
   refine GoI.runN 2 nfw4 ?_
   refine GoI.z nfw4 ?_
   refine PI.q ?_
   refine rg192w4 (25) [] fun all16 _ => ?_
   refine GoI.runN 2 nfw4 ?_
   refine GoI.z nfw4 ?_
   refine PI.r ?_
   exact FinI.mk _ nfw4 (by clear U; simp_all [finR, nrmA, nrm, AV.content, resE])
  try simp only [hb5]
  refine PI.q ?_
  refine rg192w4 (17) [] fun all10 _ => ?_
  refine GoI.z nfw4 ?_
  refine PI.d 23 nfw4 (fun hb6 => ?_) (fun hb6 => ?_)
  ·
   try simp only [hb6]
   refine PI.s ?_
   refine PI.t 23 nfw4 ?_
   refine PI.q ?_
   refine rg192w4 (24) [] fun all15 _ => ?_
   refine GoI.run nfw4 ?_
   refine GoI.call nfw4 nfw4 (by exact okUnite _ (by first | omega | (simp; omega))) ?_
   refine GoI.runN 2 nfw4 ?_
   refine GoI.runN 2 nfw4 ?_
   refine GoI.z nfw4 ?_
   refine PI.q ?_
   refine rg192w4 (27) [] fun all16 _ => ?_
   refine GoI.runN 2 nfw4 ?_
   refine GoI.z nfw4 ?_
   refine PI.r ?_
   exact FinI.mk _ nfw4 (by clear U; simp_all [finR, nrmA, nrm, AV.content, resE])
  try simp only [hb6]
  refine PI.q ?_
  refine rg192w4 (19) [] fun all11 _ => ?_
  refine GoI.z nfw4 ?_
  refine PI.d 23 nfw4 (fun hb7 => ?_) (fun hb7 => ?_)
  ·
   try simp only [hb7]
   refine PI.s ?_
   refine PI.t 23 nfw4 ?_
   refine PI.q ?_
   refine rg192w4 (26) [] fun all15 _ => ?_
   refine GoI.run nfw4 ?_
   refine GoI.call nfw4 nfw4 (by exact okUnite _ (by first | omega | (simp; omega))) ?_
   refine GoI.runN 2 nfw4 ?_
   refine GoI.runN 2 nfw4 ?_
   refine GoI.z nfw4 ?_
   refine PI.q ?_
   refine rg192w4 (29) [] fun all16 _ => ?_
   refine GoI.runN 2 nfw4 ?_
   refine GoI.z nfw4 ?_
   refine PI.r ?_
   exact FinI.mk _ nfw4 (by clear U; simp_all [finR, nrmA, nrm, AV.content, resE])
  try simp only [hb7]
  refine PI.q ?_
  refine rg192w4 (21) [] fun all12 _ => ?_
  refine GoI.z nfw4 ?_
  refine PI.d 23 nfw4 (fun hb8 => ?_) (fun hb8 => ?_)
  ·
   try simp only [hb8]
   refine PI.s ?_
   refine PI.t 23 nfw4 ?_
   refine PI.q ?_
   refine rg192w4 (28) [] fun all15 _ => ?_
   refine GoI.run nfw4 ?_
   refine GoI.call nfw4 nfw4 (by exact okUnite _ (by first | omega | (simp; omega))) ?_
   refine GoI.runN 2 nfw4 ?_
   refine GoI.runN 2 nfw4 ?_
   refine GoI.z nfw4 ?_
   refine PI.q ?_
   refine rg192w4 (31) [] fun all16 _ => ?_
   refine GoI.runN 2 nfw4 ?_
   refine GoI.z nfw4 ?_
   refine PI.r ?_
   exact FinI.mk _ nfw4 (by clear U; simp_all [finR, nrmA, nrm, AV.content, resE])
  try simp only [hb8]
  refine PI.q ?_
  refine rg192w4 (23) [] fun all13 _ => ?_
  refine GoI.z nfw4 ?_
  refine PI.d 23 nfw4 (fun hb9 => ?_) (fun hb9 => ?_)
  ·
   try simp only [hb9]
   refine PI.s ?_
   refine PI.t 23 nfw4 ?_
   refine PI.q ?_
   refine rg192w4 (30) [] fun all15 _ => ?_
   refine GoI.run nfw4 ?_
   refine GoI.call nfw4 nfw4 (by exact okUnite _ (by first | omega | (simp; omega))) ?_
   refine GoI.runN 2 nfw4 ?_
   refine GoI.runN 2 nfw4 ?_
   refine GoI.z nfw4 ?_
   refine PI.q ?_
   refine rg192w4 (33) [] fun all16 _ => ?_
   refine GoI.runN 2 nfw4 ?_
   refine GoI.z nfw4 ?_
   refine PI.r ?_
   exact FinI.mk _ nfw4 (by clear U; simp_all [finR, nrmA, nrm, AV.content, resE])
  try simp only [hb9]
  refine rg192w4 (25) [] fun all14 _ => ?_
  refine GoI.z nfw4 ?_
  refine PI.d 23 nfw4 (fun hb10 => ?_) (fun hb10 => ?_)
  ·
   try simp only [hb10]
   refine PI.q ?_
   refine rg192w4 (32) [] fun all15 _ => ?_
   refine GoI.run nfw4 ?_
   refine GoI.call nfw4 nfw4 (by exact okUnite _ (by first | omega | (simp; omega))) ?_
   refine GoI.runN 2 nfw4 ?_
   refine GoI.runN 2 nfw4 ?_
   refine GoI.z nfw4 ?_
   refine PI.q ?_
   refine rg192w4 (35) [] fun all16 _ => ?_
   refine GoI.runN 2 nfw4 ?_
   refine GoI.z nfw4 ?_
   refine PI.r ?_
   exact FinI.mk _ nfw4 (by clear U; simp_all [finR, nrmA, nrm, AV.content, resE])
  try simp only [hb10]
  refine PI.q ?_
  refine rg192w4 (27) [] fun all17 _ => ?_
  refine GoI.z nfw4 ?_
  refine PI.d 36 nfw4 (fun hb11 => ?_) (fun hb11 => ?_)
  ·
   try simp only [hb11]
   refine PI.q ?_
   refine rg192w4 (31) [] fun all18 _ => ?_
   refine GoI.run nfw4 ?_
   refine GoI.call nfw4 nfw4 (by first | exact okAllK _ _ (by decide) hne' hl | exact okAllK _ _ (by decide) (fun h => hne' (by simpa using h)) (by simp; omega)) ?_
   refine GoI.z nfw4 ?_
   refine PI.r ?_
   exact FinI.mk _ nfw4 (by clear U; simp_all [finR, nrmA, nrm, AV.content, resE])
  try simp only [hb11]
  refine PI.q ?_
  refine rg192w4 (29) [] fun all19 _ => ?_
  refine GoI.z nfw4 ?_
  refine PI.d 40 nfw4 (fun hb12 => ?_) (fun hb12 => ?_)
  ·
   try simp only [hb12]
   refine PI.q ?_
   refine rg192w4 (33) [] fun all20 _ => ?_
   refine GoI.run nfw4 ?_
   refine GoI.call nfw4 nfw4 (by first | exact okAllK _ _ (by decide) hne' hl | exact okAllK _ _ (by decide) (fun h => hne' (by simpa using h)) (by simp; omega)) ?_
   refine GoI.z nfw4 ?_
   refine PI.r ?_
   exact FinI.mk _ nfw4 (by clear U; simp_all [finR, nrmA, nrm, AV.content, resE])
  try simp only [hb12]
  refine PI.q ?_
  refine rg192w4 (31) [] fun all21 _ => ?_
  refine GoI.z nfw4 ?_
  refine PI.d 44 nfw4 (fun hb13 => ?_) (fun hb13 => ?_)
  ·
   try simp only [hb13]
   refine PI.q ?_
   refine rg192w4 (33) [] fun all22 _ => ?_
   refine GoI.z nfw4 ?_
   refine PI.r ?_
   exact FinI.mk _ nfw4 (by clear U; simp_all [finR, nrmA, nrm, AV.content, resE])
  try simp only [hb13]
  refine PI.q ?_
  refine rg192w4 (33) [] fun all23 _ => ?_
  refine GoI.z nfw4 ?_
  refine PI.d 46 nfw4 (fun hb14 => ?_) (fun hb14 => ?_)
  ·
   try simp only [hb14]
   refine PI.q ?_
   refine rg192w4 (41) [] fun all24 _ => ?_
   refine GoI.runN 2 nfw4 ?_
   refine GoI.call nfw4 nfw4 (by exact okUnite _ (by first | omega | (simp; omega))) ?_
   refine GoI.runN 2 nfw4 ?_
   refine GoI.runN 2 nfw4 ?_
   refine GoI.z nfw4 ?_
   refine PI.q ?_
   refine rg192w4 (50) [] fun all25 hall25 => ?_
   have hgd25_2 : (all25[2]?).bind (fun o => o.dst) = some 56 := by rw [← hall25]; kernel_rfl
   replace U := U.cons (hgd25_2)
   refine GoI.runN 2 nfw4 ?_
   refine GoI.runN 1 nfw4 ?_
   refine GoI.grd 56 nfw4 (fun hg1 => ?_) (fun hg1 => ?_)
   ·
    try simp only [hg1]
    refine GoI.runN 2 nfw4 ?_
    refine GoI.call nfw4 nfw4 (by first | exact okAllK _ _ (by decide) hne' hl | exact okAllK _ _ (by decide) (fun h => hne' (by simpa using h)) (by simp; omega)) ?_
    refine GoI.runN 2 nfw4 ?_
    refine GoI.z nfw4 ?_
    refine PI.r ?_
    exact FinI.mk _ nfw4 (by clear U; simp_all [finR, nrmA, nrm, AV.content, resE])
   try simp only [hg1]
   refine GoI.runN 2 nfw4 ?_
   refine GoI.runN 2 nfw4 ?_
   refine GoI.z nfw4 ?_
   refine PI.r ?_
   exact FinI.mk _ nfw4 (by clear U; simp_all [finR, nrmA, nrm, AV.content, resE])
  try simp only [hb14]
  refine PI.q ?_
  refine rg192w4 (35) [] fun all26 _ => ?_
  refine GoI.z nfw4 ?_
  refine PI.d 61 nfw4 (fun hb15 => ?_) (fun hb15 => ?_)
  ·
   try simp only [hb15]
   refine PI.q ?_
   refine rg192w4 (41) [] fun all27 _ => ?_
   refine GoI.run nfw4 ?_
   refine GoI.call nfw4 nfw4 (by exact okUnite _ (by first | omega | (simp; omega))) ?_
   refine GoI.runN 2 nfw4 ?_
   refine GoI.z nfw4 ?_
   refine PI.r ?_
   exact FinI.mk _ nfw4 (by clear U; simp_all [finR, nrmA, nrm, AV.content, resE])
  try simp only [hb15]
  refine PI.q ?_
  refine rg192w4 (37) [] fun all28 _ => ?_
  refine GoI.z nfw4 ?_
  refine PI.d 67 nfw4 (fun hb16 => ?_) (fun hb16 => ?_)
  ·
   try simp only [hb16]
   refine PI.q ?_
   refine rg192w4 (41) [] fun all29 _ => ?_
   refine GoI.run nfw4 ?_
   refine GoI.call nfw4 nfw4 (by first | exact okAllK _ _ (by decide) hne' hl | exact okAllK _ _ (by decide) (fun h => hne' (by simpa using h)) (by simp; omega)) ?_
   refine GoI.z nfw4 ?_
   refine PI.r ?_
   exact FinI.mk _ nfw4 (by clear U; simp_all [finR, nrmA, nrm, AV.content, resE])
  try simp only [hb16]
  refine PI.s ?_
  refine PI.q ?_
  refine rg192w4 (41) [] fun all30 _ => ?_
  refine GoI.run nfw4 ?_
  refine GoI.call nfw4 nfw4 (by first | exact okAllK _ _ (by decide) hne' hl | exact okAllK _ _ (by decide) (fun h => hne' (by simpa using h)) (by simp; omega)) ?_
  refine GoI.z nfw4 ?_
  refine PI.r ?_
  exact FinI.mk _ nfw4 (by clear U; simp_all [finR, nrmA, nrm, AV.content, resE])
end Go.FE
