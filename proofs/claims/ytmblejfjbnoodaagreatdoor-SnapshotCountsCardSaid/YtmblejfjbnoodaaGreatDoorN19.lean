/- Rows in order, as the document orders them. The document's order of rows, distinct rows, rows of nulls. Plain law of counted rows. The document's distinct rows, counts, repetitions. The document's multisets. The document's difference, intersection, union. Sums of parts. -/
import Derived.Test.YtmblejfjbnoodaaGreatDoorN09
import Derived.Test.YtmblejfjbnoodaaGreatDoorN15
import Derived.Test.YtmblejfjbnoodaaGreatDoorN18
set_option linter.unusedVariables false
set_option linter.unusedSimpArgs false
namespace Go.FE
open Go.Proofs
theorem nf16 {α : Type} {a b : α} (h : a = b := by simp only [goP, goN, mrk, Nat.reduceMul, Nat.one_mul, Nat.mul_one, eq_self, false_implies, implies_true, Nat.reduceLT, List.getElem?_toArray, isCall, List.contains_nil, List.contains_cons, Nat.reduceBEq, Bool.or_false, Bool.or_self, List.length_map, gOf, step, stepM, stepP, ev, okV, if_true, if_false, allocA, storeA, boxA, one1, tokN, tok1, buildA, rowA, nrmP, partV, partA, fieldA, fieldV, elemA, lenA, bltA, asSl, appA, makeA, makeR, cutA, bndA, binV, intOp, strOp, unV, eqB, nilB, sameT, List.all_cons, List.all_nil, Bool.and_self, Bool.and_true, Bool.true_and, List.map_cons, List.map_nil, List.nil_append, List.cons_append, List.append_nil, AV.bare, AV.content, AV.clean, AV.one, putD, List.set_cons_zero, List.set_cons_succ, List.reverse_cons, List.reverse_nil, List.getD_cons_zero, List.getD_cons_succ, List.getElem?_cons_zero, List.getElem?_cons_succ, Option.getD_some, Option.map_some, Option.map_none, Option.bind_some, List.length_cons, List.length_nil, lk, cellsA, fillA, fillS, isAggD, spl, nrm, nrmA, List.take_succ_cons, List.take_zero, List.drop_succ_cons, List.drop_zero, List.drop_nil, List.take_nil, Nat.reduceAdd, Nat.zero_add, Nat.add_zero, Nat.add_assoc, Nat.add_left_cancel_iff, reduceCtorEq, Prod.mk.injEq, List.cons.injEq, and_self, and_true, true_and, Nat.le_refl, Nat.reduceLeDiff, Nat.reduceEqDiff, List.getElem?_nil, Int.reduceToNat, Int.reduceLE, Int.reduceLT, ite_self, List.forall_mem_cons, List.not_mem_nil, false_and, and_false, Bool.false_eq_true, List.replicate_zero, List.replicate_succ, Int.toNat_natCast, neJ2, neJ2', neJ3, neJ3', callOf, callOf2, fnOf, argsA, args2, Array.isEmpty_empty, resLL, resVL, beq_self_eq_true, st3, zt3, it3, ct3, se3, Tryz.underlying3, st4, zt4, it4, ct4, se4, Tryz.underlying4, st9, zt9, it9, ct9, se9, Tryz.underlying9, st25, zt25, it25, ct25, pt25, eqs25, se25, Tryz.underlying25, st49, zt49, it49, ct49, se49, Tryz.underlying49, st144, zt144, it144, ct144, se144, Tryz.underlying144, st182, zt182, it182, ct182, pt182, eqs182, se182, Tryz.underlying182, Tryz.results177, st23, zt23, it23, ct23, se23, Tryz.underlying23, Tryz.results137, U.out] <;> rfl) : a = b := h
theorem rg177v16 {T : List Rid} {p : Path} {Q : Exit → SL → Prop} {tm : List AV} {L : RL} {n : Nat} {c : Code} {l : List Oper} (n' : Nat) (Qs : List Nat) (h : ∀ all, (ro c).toList = all → GoI Tryz.prog T p all false Qs n 0 l tm L fun tm' L' => Q .normal ⟨tm', L', n'⟩) (hk : kd c = 0 := by kernel_rfl) (hr : rd c = false := by kernel_rfl) (hl : (ro c).toList = l := by dsimp only [ro, s1, s2, c1, c2, bc, bod, Tryz.f177, Option.getD_some] <;> exact rfl) (hn : n + (ro c).size = n' := by kernel_rfl) : PI Tryz.prog T p c Q ⟨tm, L, n⟩ := PI.rg n' Qs hk hr hl (fun h => by cases h) hn (h _ rfl)
theorem okBefore (a b : Row) : CallsOK Tryz.prog 177 [aRow a, aRow b, .sl [] none] (aB (decide (cmpR a b < 0))) := by
  have U : Hid True := ⟨trivial⟩
  refine CallsOK.of_pi mixed Tryz.func177 (by kernel_rfl) (by kernel_rfl) (?_ : PI _ _ _ _ _ ⟨[aRow a, aRow b, .sl [] none, .und, .und, .und, .und, .und, .und, .und, .und, .und, .und, .und, .und, .und, .und, .und, .und, .und, .und, .und, .und, .und, .und, .und, .und, .und, .und, .und, .und, .und, .und, .und, .und, .und, .und, .und, .und, .und, .und, .und, .und, .und], [], 0⟩)
  refine PI.q ?_
  refine rg177v16 (1) [] fun all1 _ => ?_
  refine GoI.z nf16 ?_
  refine PI.q ?_
  refine PI.q ?_
  refine rg177v16 (2) [] fun all2 _ => ?_
  refine GoI.z nf16 ?_
  refine PI.b 0 ?_
  refine PI.lo (by kernel_rfl) (X := Nat) (fun i => (7, aI 0) :: uk [6, 8, 9, 10, 11, 12, 13, 14, 15, 16, 17, 18, 19, 20, 21, 22, 23, 24, 25, 26, 27, 28, 29, 30, 31, 32, 33, 34, 35, 36, 37, 38, 39]) (fun _ => []) (fun k i => i = k) (0) (0) (GhI.of_wk ⟨by simp [ovr, uk, lessT, neJ2, neJ2', neJ3, neJ3'], by simp [lessR, lk, neJ2, neJ2', neJ3, neJ3'], by (try dsimp only); omega, keep0⟩) (by simp) ?_
  intro k1 x1 j1 hr1
  subst hr1
  simp only [ovr, uk, List.set_cons_zero, List.set_cons_succ]
  refine PI.q ?_
  refine PI.q ?_
  refine rg177v16 (j1 + 6) [] fun all3 _ => ?_
  refine GoI.runN 2 nf16 ?_
  refine GoI.z nf16 ?_
  refine PI.d 12 nf16 (fun hb1 => ?_) (fun hb1 => ?_)
  ·
   try simp only [hb1]
   exact absurd hb1 (by simp)
  try simp only [hb1]
  refine PI.e 0 ?_
  refine PI.q ?_
  refine rg177v16 (j1 + 11) [] fun all8 _ => ?_
  refine GoI.runN 2 nf16 ?_
  refine GoI.call nf16 nf16 (by exact okCmpR' _ _) ?_
  refine GoI.z nf16 ?_
  refine PI.r ?_
  exact FinI.mk _ nf16 (by clear U; first | (simp [finR, nrmA, nrm, AV.content]; done) | rfl)
structure MX where
  i : Nat
  j : Nat
  o : List Row
structure MgI (a b : List Row) (x : MX) : Prop where
  hi : x.i ≤ a.length
  hj : x.j ≤ b.length
  pm : x.o.Perm (a.take x.i ++ b.take x.j)
  sd : Sd x.o
  la : ∀ r ∈ x.o, ∀ s ∈ a.drop x.i, cmpR r s ≤ 0
  lb : ∀ r ∈ x.o, ∀ s ∈ b.drop x.j, cmpR r s ≤ 0
theorem sd_snoc {o : List Row} {r : Row} (h : Sd o) (hr : ∀ s ∈ o, cmpR s r ≤ 0) : Sd (o ++ [r]) := by
  unfold Sd
  rw [List.pairwise_append]
  exact ⟨h, List.pairwise_singleton _ _, fun x hx y hy => by rw [List.mem_singleton.1 hy]; exact hr x hx⟩
theorem sd_drop {a : List Row} (h : Sd a) {i : Nat} (hi : i < a.length) : ∀ s ∈ a.drop (i + 1), cmpR a[i] s ≤ 0 := by
  have h1 : (a.drop i).Pairwise fun x y => cmpR x y ≤ 0 := List.Pairwise.sublist (List.drop_sublist i a) h
  rw [List.drop_eq_getElem_cons hi, List.pairwise_cons] at h1
  exact h1.1
theorem MgI.start (a b : List Row) : MgI a b ⟨0, 0, []⟩ := ⟨Nat.zero_le _, Nat.zero_le _, by simp, .nil, fun r h => (by cases h), fun r h => (by cases h)⟩
theorem MgI.o_len {a b : List Row} {x : MX} (h : MgI a b x) : x.o.length = x.i + x.j := by
  have h1 := h.hi
  have h2 := h.hj
  rw [h.pm.length_eq, List.length_append, List.length_take, List.length_take]; omega
theorem MgI.left {a b : List Row} {x : MX} (h : MgI a b x) (ha : Sd a) (hi : x.i < a.length) (hc : ∀ s ∈ b.drop x.j, cmpR a[x.i] s ≤ 0) : MgI a b ⟨x.i + 1, x.j, x.o ++ [a[x.i]]⟩ := by
  have hm : a[x.i] ∈ a.drop x.i := by rw [List.drop_eq_getElem_cons hi]; exact List.mem_cons_self
  have hsub : ∀ s, s ∈ a.drop (x.i + 1) → s ∈ a.drop x.i := fun s hs => by rw [List.drop_eq_getElem_cons hi]; exact List.mem_cons_of_mem _ hs
  refine ⟨hi, h.hj, ?_, sd_snoc h.sd (fun s hs => h.la s hs _ hm), fun r hr s hs => ?_, fun r hr s hs => ?_⟩
  · show (x.o ++ [a[x.i]]).Perm (a.take (x.i + 1) ++ b.take x.j)
    rw [List.take_succ_eq_append_getElem hi]
    refine (h.pm.append_right _).trans ?_
    rw [List.append_assoc, List.append_assoc]
    exact List.perm_append_comm.append_left _
  · rcases List.mem_append.1 hr with hr | hr
    · exact h.la r hr s (hsub s hs)
    · rw [List.mem_singleton.1 hr]; exact sd_drop ha hi s hs
  · rcases List.mem_append.1 hr with hr | hr
    · exact h.lb r hr s hs
    · rw [List.mem_singleton.1 hr]; exact hc s hs
theorem MgI.right {a b : List Row} {x : MX} (h : MgI a b x) (hb : Sd b) (hj : x.j < b.length) (hc : ∀ s ∈ a.drop x.i, cmpR b[x.j] s ≤ 0) : MgI a b ⟨x.i, x.j + 1, x.o ++ [b[x.j]]⟩ := by
  have hm : b[x.j] ∈ b.drop x.j := by rw [List.drop_eq_getElem_cons hj]; exact List.mem_cons_self
  have hsub : ∀ s, s ∈ b.drop (x.j + 1) → s ∈ b.drop x.j := fun s hs => by rw [List.drop_eq_getElem_cons hj]; exact List.mem_cons_of_mem _ hs
  refine ⟨h.hi, hj, ?_, sd_snoc h.sd (fun s hs => h.lb s hs _ hm), fun r hr s hs => ?_, fun r hr s hs => ?_⟩
  · show (x.o ++ [b[x.j]]).Perm (a.take x.i ++ b.take (x.j + 1))
    rw [List.take_succ_eq_append_getElem hj, ← List.append_assoc]
    exact h.pm.append_right _
  · rcases List.mem_append.1 hr with hr | hr
    · exact h.la r hr s hs
    · rw [List.mem_singleton.1 hr]; exact hc s hs
  · rcases List.mem_append.1 hr with hr | hr
    · exact h.lb r hr s (hsub s hs)
    · rw [List.mem_singleton.1 hr]; exact sd_drop hb hj s hs
theorem MgI.fin {a b : List Row} {x : MX} (h : MgI a b x) (hi : a.length ≤ x.i) (hj : b.length ≤ x.j) : x.o = srt (a ++ b) := by
  refine srt_of h.sd ?_
  have := h.pm
  rwa [List.take_of_length_le hi, List.take_of_length_le hj] at this
theorem sd_head {a : List Row} (h : Sd a) {i : Nat} (hi : i < a.length) {r : Row} (hr : cmpR r a[i] ≤ 0) : ∀ s ∈ a.drop i, cmpR r s ≤ 0 := by
  intro s hs
  rw [List.drop_eq_getElem_cons hi] at hs
  rcases List.mem_cons.1 hs with rfl | hs
  · exact hr
  · exact preR.tr _ _ _ hr (sd_drop h hi s hs)
theorem drop_none {a : List Row} {i : Nat} (hi : a.length ≤ i) {P : Row → Prop} : ∀ s ∈ a.drop i, P s := by rw [List.drop_of_length_le hi]; intro s hs; cases hs
theorem rg137v16 {T : List Rid} {p : Path} {Q : Exit → SL → Prop} {tm : List AV} {L : RL} {n : Nat} {c : Code} {l : List Oper} (n' : Nat) (Qs : List Nat) (h : ∀ all, (ro c).toList = all → GoI Tryz.prog T p all false Qs n 0 l tm L fun tm' L' => Q .normal ⟨tm', L', n'⟩) (hk : kd c = 0 := by kernel_rfl) (hr : rd c = false := by kernel_rfl) (hl : (ro c).toList = l := by dsimp only [ro, s1, s2, c1, c2, bc, bod, Tryz.f137, Option.getD_some] <;> exact rfl) (hn : n + (ro c).size = n' := by kernel_rfl) : PI Tryz.prog T p c Q ⟨tm, L, n⟩ := PI.rg n' Qs hk hr hl (fun h => by cases h) hn (h _ rfl)
theorem rd137v16 {T : List Rid} {p : Path} {Q : Exit → SL → Prop} {tm : List AV} {L : RL} {n : Nat} {c : Code} {l : List Oper} (n' : Nat) (Qs : List Nat) (h : ∀ all, (ro c).toList = all → GoI Tryz.prog T p all true Qs n 0 l tm L fun tm' L' => Q .normal ⟨tm', L', n'⟩) (hk : kd c = 0 := by kernel_rfl) (hr : rd c = true := by kernel_rfl) (hl : (ro c).toList = l := by dsimp only [ro, s1, s2, c1, c2, bc, bod, Tryz.f137, Option.getD_some] <;> exact rfl) (hn : n + (ro c).size = n' := by kernel_rfl) (hd : drawOK (ro c) Qs = true := by kernel_rfl) : PI Tryz.prog T p c Q ⟨tm, L, n⟩ := PI.rg n' Qs hk hr hl (fun _ => hd) hn (h _ rfl)
set_option maxHeartbeats 1000000 in
set_option maxRecDepth 100000 in
theorem okMerged (a b : List Row) (ha : Sd a) (hb : Sd b) (hla : a.length ≤ 500000) (hlb : b.length ≤ 500000) : CallsOK Tryz.prog 137 [aRows a, aRows b, .sl [] none] (aRows (srt (a ++ b))) := by
  have hl : a.length + b.length ≤ maxLen := by unfold maxLen; omega
  have U : Hid True := ⟨trivial⟩
  refine CallsOK.of_pi mixed Tryz.func137 (by kernel_rfl) (by kernel_rfl) (?_ : PI _ _ _ _ _ ⟨[aRows a, aRows b, .sl [] none, .und, .und, .und, .und, .und, .und, .und, .und, .und, .und, .und, .und, .und, .und, .und, .und, .und, .und, .und, .und, .und, .und, .und, .und, .und, .und, .und, .und, .und, .und, .und, .und, .und, .und, .und, .und, .und, .und, .und, .und, .und, .und, .und, .und, .und, .und, .und, .und, .und, .und, .und, .und, .und, .und, .und, .und, .und, .und, .und], [], 0⟩)
  refine PI.q ?_
  refine rg137v16 (1) [] fun all1 _ => ?_
  refine GoI.z nf16 ?_
  refine PI.q ?_
  refine rg137v16 (3) [] fun all2 _ => ?_
  refine GoI.z nf16 ?_
  refine PI.q ?_
  refine rg137v16 (5) [] fun all3 _ => ?_
  refine GoI.z nf16 ?_
  refine PI.q ?_
  refine PI.b 0 ?_
  refine PI.lo (by kernel_rfl) (X := MX) (fun x => (8, aI x.i) :: (9, aI x.j) :: (7, .sl (x.o.map fun r => [aRow r]) (some (([1], 0), x.o.length))) :: uk [11, 12, 13, 14, 15, 16, 17, 18, 19, 20, 21, 22, 23, 24, 25, 26, 27, 28, 29, 30, 31, 32, 33, 34, 35, 36, 37, 38, 39, 40, 41, 42, 43, 44, 45, 46, 47, 48, 49, 50, 51, 52, 53, 54, 55, 56, 57, 58, 59, 60]) (fun x => [(([1], 0), .tok x.o.length 49 1)]) (fun k x => k = a.length - x.i + (b.length - x.j) ∧ MgI a b x) (a.length + b.length) (⟨0, 0, []⟩) (GhI.of_wk ⟨by simp [ovr, uk, lessT, neJ2, neJ2', neJ3, neJ3'], by simp [lessR, lk, neJ2, neJ2', neJ3, neJ3'], by (try dsimp only); omega, keep0⟩) (⟨rfl, MgI.start a b⟩) ?_
  intro k1 x1 j1 hr1
  obtain ⟨rfl, hM⟩ := hr1
  have hMi := hM.hi
  have hMj := hM.hj
  have hMl := hM.o_len
  have hap : (x1.o.length + 1) * 24 ≤ 140737488355328 := by omega
  replace U := U.cons hap
  simp only [ovr, uk, List.set_cons_zero, List.set_cons_succ]
  refine PI.q ?_
  refine PI.q ?_
  refine rg137v16 (j1 + 15) [] fun all4 hall4 => ?_
  have hgd4_4 : (all4[4]?).bind (fun o => o.dst) = some 15 := by rw [← hall4]; kernel_rfl
  replace U := U.cons (hgd4_4)
  refine GoI.runN 2 nf16 ?_
  refine GoI.runN 2 nf16 ?_
  refine GoI.runN 1 nf16 ?_
  refine GoI.grd 15 nf16 (fun hg1 => ?_) (fun hg1 => ?_)
  ·
   try simp only [hg1]
   have hlt : x1.i < a.length := by simpa using hg1
   have hx := rows_at hlt
   have hne : ((x1.i : Int) == (a.length : Int)) = false := by simp; omega
   have hw : IntKind.i64.wrap ((x1.i : Int) + 1) = ((x1.i + 1 : Nat) : Int) := wN (y := 0) (by omega) (by omega)
   replace U := U.cons (And.intro (hx) (And.intro (hne) (hw)))
   refine GoI.runN 2 nf16 ?_
   refine GoI.runN 2 nf16 ?_
   refine GoI.z nf16 ?_
   refine PI.t 20 nf16 ?_
   refine PI.s ?_
   refine PI.b 1 ?_
   refine PI.q ?_
   refine rd137v16 (j1 + 37) [] fun all5 hall5 => ?_
   have hgd5_4 : (all5[4]?).bind (fun o => o.dst) = some 25 := by rw [← hall5]; kernel_rfl
   have hgd5_9 : (all5[9]?).bind (fun o => o.dst) = some 30 := by rw [← hall5]; kernel_rfl
   replace U := U.cons (And.intro (hgd5_4) (hgd5_9))
   refine GoI.runN 2 nf16 ?_
   refine GoI.runN 2 nf16 ?_
   refine GoI.runN 1 nf16 ?_
   refine GoI.grd 25 nf16 (fun hg2 => ?_) (fun hg2 => ?_)
   ·
    try simp only [hg2]
    cases hg2
   try simp only [hg2]
   refine GoI.runN 2 nf16 ?_
   refine GoI.runN 2 nf16 ?_
   refine GoI.runN 1 nf16 ?_
   refine GoI.grd 30 nf16 (fun hg3 => ?_) (fun hg3 => ?_)
   ·
    try simp only [hg3]
    have hlt' : x1.j < b.length := by simpa using hg3
    have hy := rows_at hlt'
    have hw' : IntKind.i64.wrap ((x1.j : Int) + 1) = ((x1.j + 1 : Nat) : Int) := wN (y := 0) (by omega) (by omega)
    replace U := U.cons (And.intro (hy) (hw'))
    refine GoI.runN 2 nf16 ?_
    refine GoI.runN 2 nf16 ?_
    refine GoI.runN 2 nf16 ?_
    refine GoI.runN 2 nf16 ?_
    refine GoI.run nf16 ?_
    refine GoI.call nf16 nf16 (by exact okBefore _ _) ?_
    refine GoI.z nf16 ?_
    refine PI.d 42 nf16 (fun hb2 => ?_) (fun hb2 => ?_)
    ·
     try simp only [hb2]
     have hcl : cmpR b[x1.j] a[x1.i] < 0 := by simpa using hb2
     have hst := hM.right hb hlt' (sd_head ha hlt (Int.le_of_lt hcl))
     refine PI.q ?_
     refine rg137v16 (j1 + 45) [] fun all6 _ => ?_
     refine GoI.runN 2 nf16 ?_
     refine GoI.runN 2 nf16 ?_
     refine GoI.runN 2 nf16 ?_
     refine GoI.z nf16 ?_
     refine rg137v16 (j1 + 48) [] fun all7 _ => ?_
     refine GoI.runN 2 nf16 ?_
     refine GoI.z nf16 ?_
     refine ⟨a.length - x1.i + (b.length - (x1.j + 1)), ⟨x1.i, x1.j + 1, x1.o ++ [b[x1.j]]⟩, j1 + 43, by omega, ⟨rfl, hst⟩, GhI.of_wk ⟨by simp [ovr, uk, lessT, neJ2, neJ2', neJ3, neJ3'], by simp [lessR, lk, neJ2, neJ2', neJ3, neJ3'], by (try dsimp only); omega, keep0⟩⟩
    try simp only [hb2]
    have hcl : cmpR a[x1.i] b[x1.j] ≤ 0 := by have := preR.anti b[x1.j] a[x1.i]; have : ¬ cmpR b[x1.j] a[x1.i] < 0 := (by simpa using hb2); omega
    have hst := hM.left ha hlt (sd_head hb hlt' hcl)
    refine PI.q ?_
    refine rg137v16 (j1 + 45) [] fun all8 _ => ?_
    refine GoI.runN 2 nf16 ?_
    refine GoI.runN 2 nf16 ?_
    refine GoI.runN 2 nf16 ?_
    refine GoI.z nf16 ?_
    refine rg137v16 (j1 + 48) [] fun all9 _ => ?_
    refine GoI.runN 2 nf16 ?_
    refine GoI.z nf16 ?_
    refine ⟨a.length - (x1.i + 1) + (b.length - x1.j), ⟨x1.i + 1, x1.j, x1.o ++ [a[x1.i]]⟩, j1 + 43, by omega, ⟨rfl, hst⟩, GhI.of_wk ⟨by simp [ovr, uk, lessT, neJ2, neJ2', neJ3, neJ3'], by simp [lessR, lk, neJ2, neJ2', neJ3, neJ3'], by (try dsimp only); omega, keep0⟩⟩
   try simp only [hg3]
   have hge' : b.length ≤ x1.j := by simpa using hg3
   have hst := hM.left ha hlt (drop_none hge')
   refine GoI.runN 2 nf16 ?_
   refine GoI.runN 2 nf16 ?_
   refine GoI.runN 2 nf16 ?_
   refine GoI.runN 2 nf16 ?_
   refine GoI.runN 2 nf16 ?_
   refine GoI.z nf16 ?_
   refine PI.f 42 nf16 ?_
   refine PI.q ?_
   refine rg137v16 (j1 + 45) [] fun all8 _ => ?_
   refine GoI.runN 2 nf16 ?_
   refine GoI.runN 2 nf16 ?_
   refine GoI.runN 2 nf16 ?_
   refine GoI.z nf16 ?_
   refine rg137v16 (j1 + 48) [] fun all9 _ => ?_
   refine GoI.runN 2 nf16 ?_
   refine GoI.z nf16 ?_
   refine ⟨a.length - (x1.i + 1) + (b.length - x1.j), ⟨x1.i + 1, x1.j, x1.o ++ [a[x1.i]]⟩, j1 + 43, by omega, ⟨rfl, hst⟩, GhI.of_wk ⟨by simp [ovr, uk, lessT, neJ2, neJ2', neJ3, neJ3'], by simp [lessR, lk, neJ2, neJ2', neJ3, neJ3'], by (try dsimp only); omega, keep0⟩⟩
  try simp only [hg1]
  have hge : a.length ≤ x1.i := by simpa using hg1
  have heq : ((x1.i : Int) == (a.length : Int)) = true := by simp; omega
  replace U := U.cons (heq)
  refine GoI.runN 2 nf16 ?_
  refine GoI.runN 2 nf16 ?_
  refine GoI.z nf16 ?_
  refine PI.d 20 nf16 (fun hb1 => ?_) (fun hb1 => ?_)
  ·
   try simp only [hb1]
   have hlt' : x1.j < b.length := by simpa using hb1
   have hy := rows_at hlt'
   have hw' : IntKind.i64.wrap ((x1.j : Int) + 1) = ((x1.j + 1 : Nat) : Int) := wN (y := 0) (by omega) (by omega)
   have hst := hM.right hb hlt' (drop_none hge)
   replace U := U.cons (And.intro (hy) (hw'))
   refine PI.s ?_
   refine PI.b 1 ?_
   refine PI.q ?_
   refine rd137v16 (j1 + 37) [] fun all5 hall5 => ?_
   have hgd5_4 : (all5[4]?).bind (fun o => o.dst) = some 25 := by rw [← hall5]; kernel_rfl
   have hgd5_9 : (all5[9]?).bind (fun o => o.dst) = some 30 := by rw [← hall5]; kernel_rfl
   replace U := U.cons (And.intro (hgd5_4) (hgd5_9))
   refine GoI.runN 2 nf16 ?_
   refine GoI.runN 2 nf16 ?_
   refine GoI.runN 1 nf16 ?_
   refine GoI.grd 25 nf16 (fun hg4 => ?_) (fun hg4 => ?_)
   ·
    try simp only [hg4]
    refine GoI.runN 2 nf16 ?_
    refine GoI.runN 2 nf16 ?_
    refine GoI.runN 2 nf16 ?_
    refine GoI.runN 2 nf16 ?_
    refine GoI.runN 2 nf16 ?_
    refine GoI.runN 2 nf16 ?_
    refine GoI.runN 2 nf16 ?_
    refine GoI.runN 2 nf16 ?_
    refine GoI.z nf16 ?_
    refine PI.t 42 nf16 ?_
    refine PI.q ?_
    refine rg137v16 (j1 + 45) [] fun all6 _ => ?_
    refine GoI.runN 2 nf16 ?_
    refine GoI.runN 2 nf16 ?_
    refine GoI.runN 2 nf16 ?_
    refine GoI.z nf16 ?_
    refine rg137v16 (j1 + 48) [] fun all7 _ => ?_
    refine GoI.runN 2 nf16 ?_
    refine GoI.z nf16 ?_
    refine ⟨a.length - x1.i + (b.length - (x1.j + 1)), ⟨x1.i, x1.j + 1, x1.o ++ [b[x1.j]]⟩, j1 + 43, by omega, ⟨rfl, hst⟩, GhI.of_wk ⟨by simp [ovr, uk, lessT, neJ2, neJ2', neJ3, neJ3'], by simp [lessR, lk, neJ2, neJ2', neJ3, neJ3'], by (try dsimp only); omega, keep0⟩⟩
   try simp only [hg4]
   cases hg4
  try simp only [hb1]
  have hge' : b.length ≤ x1.j := by simpa using hb1
  have hfin := hM.fin hge hge'
  refine PI.e 0 ?_
  refine PI.q ?_
  refine rg137v16 (j1 + 17) [] fun all10 _ => ?_
  refine GoI.z nf16 ?_
  refine PI.r ?_
  exact FinI.mk _ nf16 (by clear U; simp [finR, nrmA, nrm, AV.content, hfin])
end Go.FE
namespace Go.FE
open Go.Proofs
theorem nf17 {α : Type} {a b : α} (h : a = b := by simp only [goP, goN, mrk, Nat.reduceMul, Nat.one_mul, Nat.mul_one, eq_self, false_implies, implies_true, Nat.reduceLT, List.getElem?_toArray, isCall, List.contains_nil, List.contains_cons, Nat.reduceBEq, Bool.or_false, Bool.or_self, List.length_map, gOf, step, stepM, stepP, ev, okV, if_true, if_false, allocA, storeA, boxA, one1, tokN, tok1, buildA, rowA, nrmP, partV, partA, fieldA, fieldV, elemA, lenA, bltA, asSl, appA, makeA, makeR, cutA, bndA, binV, intOp, strOp, unV, eqB, nilB, sameT, List.all_cons, List.all_nil, Bool.and_self, Bool.and_true, Bool.true_and, List.map_cons, List.map_nil, List.nil_append, List.cons_append, List.append_nil, AV.bare, AV.content, AV.clean, AV.one, putD, List.set_cons_zero, List.set_cons_succ, List.reverse_cons, List.reverse_nil, List.getD_cons_zero, List.getD_cons_succ, List.getElem?_cons_zero, List.getElem?_cons_succ, Option.getD_some, Option.map_some, Option.map_none, Option.bind_some, List.length_cons, List.length_nil, lk, cellsA, fillA, fillS, isAggD, spl, nrm, nrmA, List.take_succ_cons, List.take_zero, List.drop_succ_cons, List.drop_zero, List.drop_nil, List.take_nil, Nat.reduceAdd, Nat.zero_add, Nat.add_zero, Nat.add_assoc, Nat.add_left_cancel_iff, reduceCtorEq, Prod.mk.injEq, List.cons.injEq, and_self, and_true, true_and, Nat.le_refl, Nat.reduceLeDiff, Nat.reduceEqDiff, List.getElem?_nil, Int.reduceToNat, Int.reduceLE, Int.reduceLT, ite_self, List.forall_mem_cons, List.not_mem_nil, false_and, and_false, Bool.false_eq_true, List.replicate_zero, List.replicate_succ, Int.toNat_natCast, neJ2, neJ2', neJ3, neJ3', callOf, callOf2, fnOf, argsA, args2, Array.isEmpty_empty, resLL, resVL, beq_self_eq_true, st3, zt3, it3, ct3, se3, Tryz.underlying3, st4, zt4, it4, ct4, se4, Tryz.underlying4, st9, zt9, it9, ct9, se9, Tryz.underlying9, st23, zt23, it23, ct23, se23, Tryz.underlying23, st25, zt25, it25, ct25, pt25, eqs25, se25, Tryz.underlying25, st49, zt49, it49, ct49, se49, Tryz.underlying49, st144, zt144, it144, ct144, se144, Tryz.underlying144, st182, zt182, it182, ct182, pt182, eqs182, se182, Tryz.underlying182, Tryz.results100, Nat.sub_zero, Int.natCast_nonneg, Tryz.results62, U.out] <;> rfl) : a = b := h
theorem halfQ (n : Nat) (hn : n ≤ maxLen) : IntKind.i64.wrap ((n : Int).tdiv 2) = ((n / 2 : Nat) : Int) := by
  have h1 : (n : Int).tdiv 2 = ((n / 2 : Nat) : Int) := by
    rw [Int.tdiv_eq_ediv_of_nonneg (by omega)]; simp
  exact wN (y := 0) h1 (by omega)
theorem rws_tk (l : List Row) (k : Nat) : (l.map fun r => [aRow r]).take k = (l.take k).map fun r => [aRow r] := by
  rw [← List.map_take]
theorem rws_dr (l : List Row) (k : Nat) : (l.map fun r => [aRow r]).drop k = (l.drop k).map fun r => [aRow r] := by
  rw [← List.map_drop]
theorem rg100v17 {T : List Rid} {p : Path} {Q : Exit → SL → Prop} {tm : List AV} {L : RL} {n : Nat} {c : Code} {l : List Oper} (n' : Nat) (Qs : List Nat) (h : ∀ all, (ro c).toList = all → GoI Tryz.prog T p all false Qs n 0 l tm L fun tm' L' => Q .normal ⟨tm', L', n'⟩) (hk : kd c = 0 := by kernel_rfl) (hr : rd c = false := by kernel_rfl) (hl : (ro c).toList = l := by dsimp only [ro, s1, s2, c1, c2, bc, bod, Tryz.f100, Option.getD_some] <;> exact rfl) (hn : n + (ro c).size = n' := by kernel_rfl) : PI Tryz.prog T p c Q ⟨tm, L, n⟩ := PI.rg n' Qs hk hr hl (fun h => by cases h) hn (h _ rfl)
theorem rd100v17 {T : List Rid} {p : Path} {Q : Exit → SL → Prop} {tm : List AV} {L : RL} {n : Nat} {c : Code} {l : List Oper} (n' : Nat) (Qs : List Nat) (h : ∀ all, (ro c).toList = all → GoI Tryz.prog T p all true Qs n 0 l tm L fun tm' L' => Q .normal ⟨tm', L', n'⟩) (hk : kd c = 0 := by kernel_rfl) (hr : rd c = true := by kernel_rfl) (hl : (ro c).toList = l := by dsimp only [ro, s1, s2, c1, c2, bc, bod, Tryz.f100, Option.getD_some] <;> exact rfl) (hn : n + (ro c).size = n' := by kernel_rfl) (hd : drawOK (ro c) Qs = true := by kernel_rfl) : PI Tryz.prog T p c Q ⟨tm, L, n⟩ := PI.rg n' Qs hk hr hl (fun _ => hd) hn (h _ rfl)
set_option maxHeartbeats 1000000 in
set_option maxRecDepth 100000 in
theorem okOrderN : ∀ (n : Nat) (l : List Row), l.length ≤ n → l.length ≤ 500000 → (∀ r ∈ l, r.length ≤ 1000000) → CallsOK Tryz.prog 100 [aRows l, .sl [] none] (aRows (srt l))
  | 0, l, h, _, _ => by
    have hl0 := List.eq_nil_of_length_eq_zero (Nat.le_zero.1 h)
    subst hl0
    have U : Hid True := ⟨trivial⟩
    refine CallsOK.of_pi mixed Tryz.func100 (by kernel_rfl) (by kernel_rfl) (?_ : PI _ _ _ _ _ ⟨[aRows [], .sl [] none, .und, .und, .und, .und, .und, .und, .und, .und, .und, .und, .und, .und, .und, .und, .und, .und, .und, .und, .und, .und, .und, .und, .und, .und, .und, .und, .und, .und, .und, .und, .und, .und], [], 0⟩)
    refine PI.q ?_
    refine rg100v17 (1) [] fun all1 _ => ?_
    refine GoI.z nf17 ?_
    refine PI.q ?_
    refine PI.q ?_
    refine rg100v17 (4) [] fun all2 _ => ?_
    refine GoI.runN 2 nf17 ?_
    refine GoI.z nf17 ?_
    refine PI.d 8 nf17 (fun hb1 => ?_) (fun hb1 => ?_)
    ·
     try simp only [hb1]
     refine PI.q ?_
     refine rg100v17 (6) [] fun all3 _ => ?_
     refine GoI.z nf17 ?_
     refine PI.r ?_
     exact FinI.mk _ nf17 (by clear U; simp [finR, nrmA, nrm, AV.content, srt])
    try simp only [hb1]
    exact absurd hb1 (by simp)
  | n + 1, l, h, hl, hr => by
    have hl' : l.length ≤ maxLen := by unfold maxLen; omega
    have hq := halfQ l.length hl'
    have U : Hid True := ⟨trivial⟩
    replace U := U.cons (And.intro (hq) (And.intro (rws_tk) (And.intro (rws_dr) (rowLen (f := fun r : Row => [aRow r]) (n := 1) (fun _ => rfl) l))))
    refine CallsOK.of_pi mixed Tryz.func100 (by kernel_rfl) (by kernel_rfl) (?_ : PI _ _ _ _ _ ⟨[aRows l, .sl [] none, .und, .und, .und, .und, .und, .und, .und, .und, .und, .und, .und, .und, .und, .und, .und, .und, .und, .und, .und, .und, .und, .und, .und, .und, .und, .und, .und, .und, .und, .und, .und, .und], [], 0⟩)
    refine PI.q ?_
    refine rg100v17 (1) [] fun all1 _ => ?_
    refine GoI.z nf17 ?_
    refine PI.q ?_
    refine PI.q ?_
    refine rg100v17 (4) [] fun all2 _ => ?_
    refine GoI.runN 2 nf17 ?_
    refine GoI.z nf17 ?_
    refine PI.d 8 nf17 (fun hb1 => ?_) (fun hb1 => ?_)
    ·
     try simp only [hb1]
     have hl0 : l = [] := by cases l with | nil => rfl | cons x l => simp at hb1; omega
     subst hl0
     refine PI.q ?_
     refine rg100v17 (6) [] fun all3 _ => ?_
     refine GoI.z nf17 ?_
     refine PI.r ?_
     exact FinI.mk _ nf17 (by clear U; first | (simp [finR, nrmA, nrm, AV.content, srt]; done) | (simp only [hsplit]; simp [finR, nrmA, nrm, AV.content]; done) | (simp only [hls]; simp [finR, nrmA, nrm, AV.content]; done))
    try simp only [hb1]
    have hpos : 0 < l.length := by cases l with | nil => simp at hb1 | cons x l => simp
    have hx := rows_at hpos
    have hlen0 := hr _ (List.getElem_mem hpos)
    have ha0 : (List.length l[0]) * 32 ≤ 140737488355328 := by omega
    have hrl := rowLen (f := encV) (n := 3) (fun _ => rfl) l[0]
    replace U := U.cons (And.intro (hx) (And.intro (ha0) (And.intro (hrl) (hpos))))
    refine PI.s ?_
    refine PI.q ?_
    refine PI.q ?_
    refine rg100v17 (7) [] fun all4 _ => ?_
    refine GoI.runN 2 nf17 ?_
    refine GoI.z nf17 ?_
    refine PI.d 12 nf17 (fun hb2 => ?_) (fun hb2 => ?_)
    ·
     try simp only [hb2]
     have hl1 : l.length = 1 := by simp at hb2; omega
     have hls : srt l = [l[0]] := by
       obtain ⟨x, hx⟩ := List.length_eq_one_iff.1 hl1
       subst hx; simp [srt]
     refine PI.q ?_
     refine rg100v17 (14) [] fun all5 _ => ?_
     refine GoI.runN 2 nf17 ?_
     refine GoI.runN 2 nf17 ?_
     refine GoI.runN 2 nf17 ?_
     refine GoI.z nf17 ?_
     refine PI.r ?_
     exact FinI.mk _ nf17 (by clear U; first | (simp [finR, nrmA, nrm, AV.content, srt]; done) | (simp only [hsplit]; simp [finR, nrmA, nrm, AV.content]; done) | (simp only [hls]; simp [finR, nrmA, nrm, AV.content]; done))
    try simp only [hb2]
    have hl2 : l.length ≠ 1 := by simp at hb2; omega
    have hh1 : l.length / 2 ≤ l.length := by omega
    have hta : (l.take (l.length / 2)).length ≤ n := by simp; omega
    have htb : ((l.drop (l.length / 2)).take (l.length - l.length / 2)).length ≤ n := by simp; omega
    have hta' : (l.take (l.length / 2)).length ≤ 500000 := by simp; omega
    have htb' : ((l.drop (l.length / 2)).take (l.length - l.length / 2)).length ≤ 500000 := by simp; omega
    have hsplit : srt (srt (l.take (l.length / 2)) ++ srt ((l.drop (l.length / 2)).take (l.length - l.length / 2))) = srt l := by
      refine srt_congr (((srt_perm _).append (srt_perm _)).trans (.of_eq ?_))
      rw [List.take_of_length_le (l := l.drop (l.length / 2)) (by simp), List.take_append_drop]
    replace U := U.cons (hh1)
    refine PI.s ?_
    refine PI.q ?_
    refine rg100v17 (11) [] fun all6 _ => ?_
    refine GoI.runN 2 nf17 ?_
    refine GoI.z nf17 ?_
    refine PI.q ?_
    refine rd100v17 (24) [] fun all7 _ => ?_
    refine GoI.runN 2 nf17 ?_
    refine GoI.runN 2 nf17 ?_
    refine GoI.call nf17 nf17 (by first | exact okOrderN n (l.take (l.length / 2)) hta hta' (fun r hm => hr r (List.mem_of_mem_take hm)) | exact okOrderN n ((l.drop (l.length / 2)).take (l.length - l.length / 2)) htb htb' (fun r hm => hr r (List.mem_of_mem_drop (List.mem_of_mem_take hm)))) ?_
    refine GoI.runN 2 nf17 ?_
    refine GoI.runN 2 nf17 ?_
    refine GoI.call nf17 nf17 (by first | exact okOrderN n (l.take (l.length / 2)) hta hta' (fun r hm => hr r (List.mem_of_mem_take hm)) | exact okOrderN n ((l.drop (l.length / 2)).take (l.length - l.length / 2)) htb htb' (fun r hm => hr r (List.mem_of_mem_drop (List.mem_of_mem_take hm)))) ?_
    refine GoI.run nf17 ?_
    refine GoI.call nf17 nf17 (by exact okMerged _ _ (srt_sd _) (srt_sd _) (by rw [srt_len]; exact hta') (by rw [srt_len]; exact htb')) ?_
    refine GoI.z nf17 ?_
    refine PI.r ?_
    exact FinI.mk _ nf17 (by clear U; first | (simp [finR, nrmA, nrm, AV.content, srt]; done) | (simp only [hsplit]; simp [finR, nrmA, nrm, AV.content]; done) | (simp only [hls]; simp [finR, nrmA, nrm, AV.content]; done))
theorem rg62v17 {T : List Rid} {p : Path} {Q : Exit → SL → Prop} {tm : List AV} {L : RL} {n : Nat} {c : Code} {l : List Oper} (n' : Nat) (Qs : List Nat) (h : ∀ all, (ro c).toList = all → GoI Tryz.prog T p all false Qs n 0 l tm L fun tm' L' => Q .normal ⟨tm', L', n'⟩) (hk : kd c = 0 := by kernel_rfl) (hr : rd c = false := by kernel_rfl) (hl : (ro c).toList = l := by dsimp only [ro, s1, s2, c1, c2, bc, bod, Tryz.f62, Option.getD_some] <;> exact rfl) (hn : n + (ro c).size = n' := by kernel_rfl) : PI Tryz.prog T p c Q ⟨tm, L, n⟩ := PI.rg n' Qs hk hr hl (fun h => by cases h) hn (h _ rfl)
theorem okSort' (l : List Row) (hl : l.length ≤ 500000) (hr : ∀ r ∈ l, r.length ≤ 1000000) : CallsOK Tryz.prog 62 [aRows l] (aRows (srt l)) := by
  have U : Hid True := ⟨trivial⟩
  refine CallsOK.of_pi mixed Tryz.func62 (by kernel_rfl) (by kernel_rfl) (?_ : PI _ _ _ _ _ ⟨[aRows l, .und, .und, .und, .und], [], 0⟩)
  refine PI.q ?_
  refine rg62v17 (1) [] fun all1 _ => ?_
  refine GoI.z nf17 ?_
  refine PI.q ?_
  refine rg62v17 (4) [] fun all2 _ => ?_
  refine GoI.run nf17 ?_
  refine GoI.call nf17 nf17 (by exact okOrderN _ l (Nat.le_refl _) hl hr) ?_
  refine GoI.z nf17 ?_
  refine PI.r ?_
  exact FinI.mk _ nf17 (by clear U; first | (simp [finR, nrmA, nrm, AV.content]; done) | rfl)
end Go.FE
namespace Go.FE
open Go.Proofs
instance : DecidableEq Vl := fun a b => decidable_of_iff (cmpV a b = 0) ⟨fun h => cmpV_eq h, fun h => by subst h; exact preV.refl a⟩
/-- How often a row is among rows. -/
def cntR (l : List Row) (r : Row) : Nat := l.countP fun s => eqR s r
theorem cntR_snoc (l : List Row) (x r : Row) : cntR (l ++ [x]) r = cntR l r + if x = r then 1 else 0 := by
  unfold cntR
  rw [List.countP_append]
  simp only [List.countP_cons, List.countP_nil, Nat.zero_add]
  by_cases h : x = r
  · rw [if_pos h, if_pos (eqR_iff.2 h)]
  · rw [if_neg h, if_neg (by rw [eqR_iff]; exact h)]
theorem cntR_append (a b : List Row) (r : Row) : cntR (a ++ b) r = cntR a r + cntR b r := List.countP_append
theorem cntR_zero {l : List Row} {r : Row} : cntR l r = 0 ↔ r ∉ l := by
  unfold cntR
  rw [List.countP_eq_zero]
  constructor
  · intro h hm; exact h r hm (eqR_iff.2 rfl)
  · intro h s hs he; rw [eqR_iff.1 he] at hs; exact h hs
theorem cntR_pos {l : List Row} {r : Row} : 0 < cntR l r ↔ r ∈ l := by
  constructor
  · intro h; exact Classical.byContradiction fun hn => by have := cntR_zero.2 hn; omega
  · intro h; exact Nat.pos_of_ne_zero fun h0 => cntR_zero.1 h0 h
theorem cntR_cons (x : Row) (l : List Row) (r : Row) : cntR (x :: l) r = cntR l r + if x = r then 1 else 0 := by
  unfold cntR
  rw [List.countP_cons]
  by_cases h : x = r
  · rw [if_pos h, if_pos (eqR_iff.2 h)]
  · rw [if_neg h, if_neg (by rw [eqR_iff]; exact h)]
theorem perm_of_cnt : ∀ {a b : List Row}, (∀ r, cntR a r = cntR b r) → a.Perm b
  | [], b, h => by
    cases b with
    | nil => exact .refl _
    | cons x b => have := h x; rw [cntR_cons, if_pos rfl] at this; simp [cntR] at this
  | x :: a, b, h => by
    have hx : x ∈ b := cntR_pos.1 (by have := h x; rw [cntR_cons, if_pos rfl] at this; omega)
    obtain ⟨s, t, rfl⟩ := List.append_of_mem hx
    have : a.Perm (s ++ t) := perm_of_cnt fun r => by
      have := h r
      rw [cntR_cons, cntR_append, cntR_cons] at this
      rw [cntR_append]; omega
    exact (this.cons x).trans List.perm_middle.symm
def newAt (l : List Row) (i : Nat) : Bool := i == 0 || !eqR (gt' l (i - 1)) (gt' l i)
def ddN (l : List Row) : Nat → List Row
  | 0 => []
  | i + 1 => if newAt l i = true then ddN l i ++ [gt' l i] else ddN l i
def cnN (l : List Row) : Nat → List Int
  | 0 => []
  | i + 1 => if newAt l i = true then cnN l i ++ [1] else (cnN l i).set ((cnN l i).length - 1) ((cnN l i).getD ((cnN l i).length - 1) 0 + 1)
def Ss (l : List Row) : Prop := l.Pairwise fun a b => cmpR a b < 0
structure DdI (l : List Row) (i : Nat) : Prop where
  ss : Ss (ddN l i)
  mem : ∀ r, r ∈ ddN l i ↔ r ∈ l.take i
  last : 0 < i → ∃ init, ddN l i = init ++ [gt' l (i - 1)]
  cn : cnN l i = (ddN l i).map fun r => (cntR (l.take i) r : Int)
  len : (ddN l i).length ≤ i
theorem gt_at {l : List Row} {i : Nat} (h : i < l.length) : gt' l i = l[i] := by simp [gt', h]
theorem ddI {l : List Row} (hs : Sd l) : ∀ i, i ≤ l.length → DdI l i
  | 0, _ => ⟨.nil, fun r => by simp [ddN], fun h => by omega, by simp [cnN, ddN], Nat.le_refl _⟩
  | i + 1, h => by
    have hi : i < l.length := by omega
    have ih := ddI hs i (by omega)
    have htk : l.take (i + 1) = l.take i ++ [gt' l i] := by rw [List.take_succ_eq_append_getElem hi, gt_at hi]
    have hmem : ∀ r ∈ ddN l i, cmpR r (gt' l i) ≤ 0 := fun r hr => by
      have h1 := (ih.mem r).1 hr
      obtain ⟨k, hk, e⟩ := List.mem_iff_getElem.1 h1
      simp only [List.length_take] at hk
      rw [List.getElem_take] at e
      have := (List.pairwise_iff_getElem.1 hs) k i (by omega) hi (by omega)
      rw [gt_at hi, ← e]; exact this
    by_cases hn : newAt l i = true
    · have hlt : ∀ r ∈ ddN l i, cmpR r (gt' l i) < 0 := fun r hr => by
        have h1 := hmem r hr
        have hi0 : i ≠ 0 := by rintro rfl; simp [ddN] at hr
        have h2 : eqR (gt' l (i - 1)) (gt' l i) = false := by
          unfold newAt at hn
          simp only [Bool.or_eq_true, beq_iff_eq, Bool.not_eq_true'] at hn
          exact hn.resolve_left hi0
        obtain ⟨k, hk, e⟩ := List.mem_iff_getElem.1 ((ih.mem r).1 hr)
        simp only [List.length_take] at hk
        rw [List.getElem_take] at e
        have h3 : cmpR r (gt' l (i - 1)) ≤ 0 := by
          rw [gt_at (by omega : i - 1 < l.length), ← e]
          rcases Nat.lt_or_ge k (i - 1) with h4 | h4
          · exact (List.pairwise_iff_getElem.1 hs) k (i - 1) (by omega) (by omega) h4
          · have : k = i - 1 := by omega
            subst this; exact Int.le_of_eq (preR.refl _)
        have h5 : cmpR (gt' l (i - 1)) (gt' l i) < 0 := by
          have h6 : cmpR (gt' l (i - 1)) (gt' l i) ≤ 0 := by
            rw [gt_at (by omega : i - 1 < l.length), gt_at hi]
            exact (List.pairwise_iff_getElem.1 hs) (i - 1) i (by omega) hi (by omega)
          have h7 : cmpR (gt' l (i - 1)) (gt' l i) ≠ 0 := fun e => by
            rw [eqR_false] at h2; exact h2 (cmpR_eq e)
          omega
        exact preR.tr2 h3 h5
      have hne : ∀ r ∈ ddN l i, gt' l i ≠ r := fun r hr e => by
        have := hlt r hr
        rw [e, preR.refl] at this; omega
      refine ⟨?_, fun r => ?_, fun _ => ⟨ddN l i, by rw [ddN, if_pos hn]; simp⟩, ?_, ?_⟩
      · rw [ddN, if_pos hn]
        unfold Ss
        rw [List.pairwise_append]
        exact ⟨ih.ss, List.pairwise_singleton _ _, fun x hx y hy => by rw [List.mem_singleton.1 hy]; exact hlt x hx⟩
      · rw [ddN, if_pos hn, htk, List.mem_append, List.mem_append, ih.mem]
      · rw [cnN, ddN, if_pos hn, if_pos hn, List.map_append, ih.cn, htk]
        congr 1
        · exact List.map_congr_left fun r hr => by rw [cntR_snoc, if_neg (hne r hr)]; simp
        · simp only [List.map_cons, List.map_nil, List.cons.injEq, and_true]
          rw [cntR_snoc, if_pos rfl, cntR_zero.2 (fun hm => hne _ ((ih.mem _).2 hm) rfl)]
          rfl
      · rw [ddN, if_pos hn]; have := ih.len; simp; omega
    · have hi0 : i ≠ 0 := by rintro rfl; exact hn rfl
      have he : gt' l (i - 1) = gt' l i := by
        unfold newAt at hn
        simp only [Bool.or_eq_true, beq_iff_eq, Bool.not_eq_true', not_or, Bool.not_eq_false] at hn
        exact eqR_iff.1 hn.2
      obtain ⟨init, hin⟩ := ih.last (by omega)
      refine ⟨?_, fun r => ?_, fun _ => ⟨init, by rw [ddN, if_neg hn, hin, he]; simp⟩, ?_, ?_⟩
      · rw [ddN, if_neg hn]; exact ih.ss
      · rw [ddN, if_neg hn, htk, List.mem_append, ih.mem]
        constructor
        · exact .inl
        · rintro (h1 | h1)
          · exact h1
          · rw [List.mem_singleton.1 h1, ← he]
            exact (ih.mem _).1 (by rw [hin]; simp)
      · have hss := ih.ss
        rw [cnN, ddN, if_neg hn, if_neg hn, ih.cn, htk]
        rw [hin] at hss ⊢
        have hne : ∀ r ∈ init, gt' l i ≠ r := fun r hr e => by
          unfold Ss at hss
          rw [List.pairwise_append] at hss
          have := hss.2.2 r hr (gt' l (i - 1)) (by simp)
          rw [he, e, preR.refl] at this; omega
        have hm : ∀ f : Row → Int, (init ++ [gt' l (i - 1)]).map f = init.map f ++ [f (gt' l (i - 1))] := fun f => by simp
        rw [hm, hm]
        have hl : (init.map (fun r => (cntR (l.take i) r : Int)) ++ [(cntR (l.take i) (gt' l (i - 1)) : Int)]).length - 1 = (init.map (fun r => (cntR (l.take i) r : Int))).length := by simp
        rw [hl, List.set_append_right _ _ (Nat.le_refl _)]
        simp only [Nat.sub_self, List.set_cons_zero]
        rw [List.getD_eq_getElem?_getD, List.getElem?_append_right (Nat.le_refl _)]
        simp only [Nat.sub_self, List.getElem?_cons_zero, Option.getD_some]
        congr 1
        · exact List.map_congr_left fun r hr => by rw [cntR_snoc, if_neg (hne r hr)]; simp
        · rw [cntR_snoc, if_pos he.symm]; simp
      · rw [ddN, if_neg hn]; have := ih.len; omega
/-- The rows without repetition, in order. -/
def dd (l : List Row) : List Row := ddN (srt l) l.length
theorem dd_I (l : List Row) : DdI (srt l) l.length := ddI (srt_sd l) _ (by rw [srt_len]; exact Nat.le_refl _)
theorem dd_ss (l : List Row) : Ss (dd l) := (dd_I l).ss
theorem dd_mem (l : List Row) (r : Row) : r ∈ dd l ↔ r ∈ l := by
  rw [dd, (dd_I l).mem, List.take_of_length_le (by rw [srt_len]; exact Nat.le_refl _)]
  exact (srt_perm l).mem_iff
theorem ss_cnt {l : List Row} (h : Ss l) (r : Row) : cntR l r = if r ∈ l then 1 else 0 := by
  induction l with
  | nil => simp [cntR]
  | cons x l ih =>
    unfold Ss at h
    rw [List.pairwise_cons] at h
    rw [cntR_cons, ih h.2]
    by_cases hx : x = r
    · subst hx
      have : x ∉ l := fun hm => by have := h.1 x hm; rw [preR.refl] at this; omega
      simp [this]
    · simp [hx, Ne.symm hx]
theorem ss_sd {l : List Row} (h : Ss l) : Sd l := h.imp fun h => Int.le_of_lt h
theorem ss_unique {a b : List Row} (ha : Ss a) (hb : Ss b) (h : ∀ r, r ∈ a ↔ r ∈ b) : a = b :=
  sd_unique (ss_sd ha) (ss_sd hb) (perm_of_cnt fun r => by rw [ss_cnt ha, ss_cnt hb]; simp [h r])
end Go.FE
namespace Go.FE
open Go.Proofs
theorem nf18 {α : Type} {a b : α} (h : a = b := by simp only [goP, goN, mrk, Nat.reduceMul, Nat.one_mul, Nat.mul_one, eq_self, false_implies, implies_true, Nat.reduceLT, List.getElem?_toArray, isCall, List.contains_nil, List.contains_cons, Nat.reduceBEq, Bool.or_false, Bool.or_self, List.length_map, gOf, step, stepM, stepP, ev, okV, if_true, if_false, allocA, storeA, boxA, one1, tokN, tok1, buildA, rowA, nrmP, partV, partA, fieldA, fieldV, elemA, lenA, bltA, asSl, appA, makeA, makeR, cutA, bndA, binV, intOp, strOp, unV, eqB, nilB, sameT, List.all_cons, List.all_nil, Bool.and_self, Bool.and_true, Bool.true_and, List.map_cons, List.map_nil, List.nil_append, List.cons_append, List.append_nil, AV.bare, AV.content, AV.clean, AV.one, putD, List.set_cons_zero, List.set_cons_succ, List.reverse_cons, List.reverse_nil, List.getD_cons_zero, List.getD_cons_succ, List.getElem?_cons_zero, List.getElem?_cons_succ, Option.getD_some, Option.map_some, Option.map_none, Option.bind_some, List.length_cons, List.length_nil, lk, cellsA, fillA, fillS, isAggD, spl, nrm, nrmA, List.take_succ_cons, List.take_zero, List.drop_succ_cons, List.drop_zero, List.drop_nil, List.take_nil, Nat.reduceAdd, Nat.zero_add, Nat.add_zero, Nat.add_assoc, Nat.add_left_cancel_iff, reduceCtorEq, Prod.mk.injEq, List.cons.injEq, and_self, and_true, true_and, Nat.le_refl, Nat.reduceLeDiff, Nat.reduceEqDiff, List.getElem?_nil, Int.reduceToNat, Int.reduceLE, Int.reduceLT, ite_self, List.forall_mem_cons, List.not_mem_nil, false_and, and_false, Bool.false_eq_true, List.replicate_zero, List.replicate_succ, Int.toNat_natCast, neJ2, neJ2', neJ3, neJ3', callOf, callOf2, fnOf, argsA, args2, Array.isEmpty_empty, resLL, resVL, beq_self_eq_true, st3, zt3, it3, ct3, se3, Tryz.underlying3, st4, zt4, it4, ct4, se4, Tryz.underlying4, st9, zt9, it9, ct9, se9, Tryz.underlying9, st23, zt23, it23, ct23, se23, Tryz.underlying23, st25, zt25, it25, ct25, pt25, eqs25, se25, Tryz.underlying25, st49, zt49, it49, ct49, se49, Tryz.underlying49, Tryz.results22, appR, newR, storeP, st22, zt22, it22, ct22, se22, Tryz.underlying22, Tryz.results103, Int.natCast_nonneg, U.out] <;> rfl) : a = b := h
theorem newAt_0 (l : List Row) {i : Nat} (h : i = 0) : newAt l i = true := by subst h; rfl
theorem newAt_eq (l : List Row) {i : Nat} (h : i ≠ 0) : newAt l i = !eqR (gt' l (i - 1)) (gt' l i) := by
  unfold newAt
  have : (i == 0) = false := by simpa using h
  rw [this, Bool.false_or]
theorem ddN_new {l : List Row} {i : Nat} (h : newAt l i = true) : ddN l (i + 1) = ddN l i ++ [gt' l i] := by rw [ddN, if_pos h]
theorem ddN_old {l : List Row} {i : Nat} (h : newAt l i = false) : ddN l (i + 1) = ddN l i := by rw [ddN, if_neg (by rw [h]; decide)]
theorem rg22v18 {T : List Rid} {p : Path} {Q : Exit → SL → Prop} {tm : List AV} {L : RL} {n : Nat} {c : Code} {l : List Oper} (n' : Nat) (Qs : List Nat) (h : ∀ all, (ro c).toList = all → GoI Tryz.prog T p all false Qs n 0 l tm L fun tm' L' => Q .normal ⟨tm', L', n'⟩) (hk : kd c = 0 := by kernel_rfl) (hr : rd c = false := by kernel_rfl) (hl : (ro c).toList = l := by dsimp only [ro, s1, s2, c1, c2, bc, bod, Tryz.f22, Option.getD_some] <;> exact rfl) (hn : n + (ro c).size = n' := by kernel_rfl) : PI Tryz.prog T p c Q ⟨tm, L, n⟩ := PI.rg n' Qs hk hr hl (fun h => by cases h) hn (h _ rfl)
theorem rd22v18 {T : List Rid} {p : Path} {Q : Exit → SL → Prop} {tm : List AV} {L : RL} {n : Nat} {c : Code} {l : List Oper} (n' : Nat) (Qs : List Nat) (h : ∀ all, (ro c).toList = all → GoI Tryz.prog T p all true Qs n 0 l tm L fun tm' L' => Q .normal ⟨tm', L', n'⟩) (hk : kd c = 0 := by kernel_rfl) (hr : rd c = true := by kernel_rfl) (hl : (ro c).toList = l := by dsimp only [ro, s1, s2, c1, c2, bc, bod, Tryz.f22, Option.getD_some] <;> exact rfl) (hn : n + (ro c).size = n' := by kernel_rfl) (hd : drawOK (ro c) Qs = true := by kernel_rfl) : PI Tryz.prog T p c Q ⟨tm, L, n⟩ := PI.rg n' Qs hk hr hl (fun _ => hd) hn (h _ rfl)
set_option maxHeartbeats 1000000 in
set_option maxRecDepth 100000 in
theorem okDistinct' (l : List Row) (hl : l.length ≤ 500000) (hr : ∀ r ∈ l, r.length ≤ 1000000) : CallsOK Tryz.prog 22 [aRows l] (aRows (dd l)) := by
  have hl' : l.length ≤ maxLen := by unfold maxLen; omega
  unfold dd
  have hsl := srt_len l
  have hsd := srt_sd l
  have U : Hid True := ⟨trivial⟩
  refine CallsOK.of_pi mixed Tryz.func22 (by kernel_rfl) (by kernel_rfl) (?_ : PI _ _ _ _ _ ⟨[aRows l, .und, .und, .und, .und, .und, .und, .und, .und, .und, .und, .und, .und, .und, .und, .und, .und, .und, .und, .und, .und, .und, .und, .und, .und, .und, .und, .und, .und, .und, .und, .und, .und, .und, .und, .und, .und, .und], [], 0⟩)
  refine PI.q ?_
  refine rg22v18 (1) [] fun all1 _ => ?_
  refine GoI.z nf18 ?_
  refine PI.q ?_
  refine rg22v18 (4) [] fun all2 _ => ?_
  refine GoI.run nf18 ?_
  refine GoI.call nf18 nf18 (by exact okSort' l hl hr) ?_
  refine GoI.z nf18 ?_
  refine PI.q ?_
  refine rg22v18 (6) [] fun all3 _ => ?_
  refine GoI.z nf18 ?_
  refine PI.q ?_
  refine PI.q ?_
  refine rg22v18 (7) [] fun all4 _ => ?_
  refine GoI.z nf18 ?_
  refine PI.b 0 ?_
  refine PI.lo (by kernel_rfl) (X := Nat) (fun i => (5, aI i) :: (4, .sl ((ddN (srt l) i).map fun r => [aRow r]) (some (([4], 0), (ddN (srt l) i).length))) :: uk [9, 10, 11, 12, 13, 14, 15, 16, 17, 18, 19, 20, 21, 22, 23, 24, 25, 26, 27, 28, 29, 30, 31, 32, 33, 34, 35, 36]) (fun i => [(([4], 0), .tok (ddN (srt l) i).length 49 1)]) (fun k i => k = l.length - i ∧ i ≤ l.length) (l.length) (0) (GhI.of_wk ⟨by simp [ovr, uk, lessT, neJ2, neJ2', neJ3, neJ3', ddN], by simp [lessR, lk, neJ2, neJ2', neJ3, neJ3', ddN], by (try dsimp only); omega, keep0⟩) (by simp) ?_
  intro k1 x1 j1 hr1
  obtain ⟨rfl, hi1⟩ := hr1
  generalize hS : srt l = S
  rw [hS] at hsl hsd
  have hI := ddI hsd x1 (by omega)
  have hap : ((ddN S x1).length + 1) * 24 ≤ 140737488355328 := by have := hI.len; omega
  replace U := U.cons (And.intro hsl hap)
  simp only [ovr, uk, List.set_cons_zero, List.set_cons_succ]
  refine PI.q ?_
  refine PI.q ?_
  refine rg22v18 (j1 + 11) [] fun all5 _ => ?_
  refine GoI.runN 2 nf18 ?_
  refine GoI.z nf18 ?_
  refine PI.d 12 nf18 (fun hb1 => ?_) (fun hb1 => ?_)
  ·
   try simp only [hb1]
   obtain ⟨hlt, hw⟩ := up hb1 hl'
   have hx := rws_at (l := S) (i := x1) (by omega)
   replace U := U.cons (And.intro (hw) (hx))
   refine PI.s ?_
   refine PI.q ?_
   refine PI.b 1 ?_
   refine PI.q ?_
   refine rd22v18 (j1 + 26) [] fun all6 hall6 => ?_
   have hgd6_2 : (all6[2]?).bind (fun o => o.dst) = some 17 := by rw [← hall6]; kernel_rfl
   replace U := U.cons (hgd6_2)
   refine GoI.runN 2 nf18 ?_
   refine GoI.runN 1 nf18 ?_
   refine GoI.grd 17 nf18 (fun hg1 => ?_) (fun hg1 => ?_)
   ·
    try simp only [hg1]
    have hi0 : x1 = 0 := by simp at hg1; omega
    have hn := newAt_0 S hi0
    have hdd := ddN_new hn
    refine GoI.runN 2 nf18 ?_
    refine GoI.runN 2 nf18 ?_
    refine GoI.runN 2 nf18 ?_
    refine GoI.runN 2 nf18 ?_
    refine GoI.runN 2 nf18 ?_
    refine GoI.z nf18 ?_
    refine PI.t 29 nf18 ?_
    refine rg22v18 (j1 + 34) [] fun all7 _ => ?_
    refine GoI.runN 2 nf18 ?_
    refine GoI.runN 2 nf18 ?_
    refine GoI.runN 2 nf18 ?_
    refine GoI.z nf18 ?_
    refine rg22v18 (j1 + 37) [] fun all8 _ => ?_
    refine GoI.runN 2 nf18 ?_
    refine GoI.z nf18 ?_
    refine ⟨l.length - (x1 + 1), x1 + 1, j1 + 30, by omega, ⟨rfl, by omega⟩, GhI.of_wk ⟨by simp [ovr, uk, lessT, hdd, hS], by simp [lessR, lk, hdd, hS], by (try dsimp only); omega, keep0⟩⟩
   try simp only [hg1]
   have hi0 : x1 ≠ 0 := by simp at hg1; omega
   have hw1 : IntKind.i64.wrap ((x1 : Int) - 1) = ((x1 - 1 : Nat) : Int) := wN (y := 0) (by omega) (by omega)
   have hy := rws_at (l := S) (i := x1 - 1) (by omega)
   have hn := newAt_eq S hi0
   replace U := U.cons (And.intro (hw1) (hy))
   refine GoI.runN 2 nf18 ?_
   refine GoI.runN 2 nf18 ?_
   refine GoI.runN 2 nf18 ?_
   refine GoI.runN 2 nf18 ?_
   refine GoI.run nf18 ?_
   refine GoI.call nf18 nf18 (by exact okEqR' _ _) ?_
   refine GoI.z nf18 ?_
   refine PI.d 29 nf18 (fun hb2 => ?_) (fun hb2 => ?_)
   ·
    try simp only [hb2]
    rw [hb2] at hn
    have hdd := ddN_new hn
    refine rg22v18 (j1 + 34) [] fun all7 _ => ?_
    refine GoI.runN 2 nf18 ?_
    refine GoI.runN 2 nf18 ?_
    refine GoI.runN 2 nf18 ?_
    refine GoI.z nf18 ?_
    refine rg22v18 (j1 + 37) [] fun all8 _ => ?_
    refine GoI.runN 2 nf18 ?_
    refine GoI.z nf18 ?_
    refine ⟨l.length - (x1 + 1), x1 + 1, j1 + 30, by omega, ⟨rfl, by omega⟩, GhI.of_wk ⟨by simp [ovr, uk, lessT, hdd, hS], by simp [lessR, lk, hdd, hS], by (try dsimp only); omega, keep0⟩⟩
   try simp only [hb2]
   rw [hb2] at hn
   have hdd := ddN_old hn
   refine PI.s ?_
   refine rg22v18 (j1 + 29) [] fun all8 _ => ?_
   refine GoI.runN 2 nf18 ?_
   refine GoI.z nf18 ?_
   refine ⟨l.length - (x1 + 1), x1 + 1, j1 + 22, by omega, ⟨rfl, by omega⟩, GhI.of_wk ⟨by simp [ovr, uk, lessT, hdd, hS], by simp [lessR, lk, hdd, hS], by (try dsimp only); omega, keep0⟩⟩
  try simp only [hb1]
  have hge := dn hb1
  have hxe : x1 = l.length := by omega
  subst hxe
  subst hS
  refine PI.e 0 ?_
  refine PI.q ?_
  refine rg22v18 (j1 + 13) [] fun all9 _ => ?_
  refine GoI.z nf18 ?_
  refine PI.r ?_
  exact FinI.mk _ nf18 (by clear U; first | (simp [finR, nrmA, nrm, AV.content]; done) | rfl)
end Go.FE
namespace Go.FE
open Go.Proofs
structure PrX where
  i : Nat
  j : Nat
structure PrI (oa ob : List Row) (i j : Nat) : Prop where
  hi : i ≤ oa.length
  hj : j ≤ ob.length
  lo : ∀ p (hp : p < ob.length), p < j → ∀ q (hq : q < oa.length), i ≤ q → cmpR ob[p] oa[q] < 0
end Go.FE
namespace Go.FE
open Go.Proofs
def exS (a b : List Row) : List Row := (dd a).flatMap fun r => List.replicate (cntR a r - cntR b r) r
structure OkBag' (b : Bag) : Prop where
  l : b.rows.length ≤ 400000
  r : ∀ r ∈ b.rows, r.length ≤ 1000000
end Go.FE
namespace Go.FE
open Go.Proofs
theorem shr20 (x : Int) : x.fdiv (2 ^ (min 20 IntKind.i64.bits)) = x / 1048576 := by
  have : min 20 IntKind.i64.bits = 20 := by decide
  rw [this, Int.fdiv_eq_ediv_of_nonneg _ (by decide)]
  rfl
theorem and20 (x : Int) : IntKind.i64.wrap ((BitVec.ofInt IntKind.i64.bits x &&& BitVec.ofInt IntKind.i64.bits 1048575).toNat : Int) = x % 1048576 := by
  have h1 : (BitVec.ofInt IntKind.i64.bits x &&& BitVec.ofInt IntKind.i64.bits 1048575).toNat = (x % 2 ^ 64).toNat % 2 ^ 20 := by
    rw [BitVec.toNat_and]
    have : (BitVec.ofInt IntKind.i64.bits 1048575).toNat = 2 ^ 20 - 1 := by decide
    rw [this, Nat.and_two_pow_sub_one_eq_mod, BitVec.toNat_ofInt]
    rfl
  rw [h1]
  have h2 : (((x % 2 ^ 64).toNat % 2 ^ 20 : Nat) : Int) = x % 1048576 := by omega
  rw [h2, w64 (by omega) (by omega)]
theorem shl20 {x : Int} (h : -8796093022208 ≤ x) (h' : x ≤ 8796093022207) : IntKind.i64.wrap (x * 2 ^ (min 20 IntKind.i64.bits)) = x * 1048576 := by
  have : min 20 IntKind.i64.bits = 20 := by decide
  rw [this]
  exact w64 (by omega) (by omega)
def sumI (vs : List Vl) : Int := (vs.map (·.i)).sum
theorem sumI_succ {l : List Vl} {i : Nat} (h : i < l.length) : sumI (l.take (i + 1)) = sumI (l.take i) + l[i].i := by
  rw [List.take_succ_eq_append_getElem h, sumI, List.map_append, List.sum_append]; simp [sumI]
end Go.FE
