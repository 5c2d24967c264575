/- Values. -/
import Derived.Test.YtmblejfjbnoodaaGreatDoorN09
import Derived.Test.YtmblejfjbnoodaaGreatDoorN11
set_option linter.unusedVariables false
set_option linter.unusedSimpArgs false
namespace Go.FE
open Go.Proofs
theorem nf3 {α : Type} {a b : α} (h : a = b := by simp only [goP, goN, mrk, Nat.reduceMul, Nat.one_mul, Nat.mul_one, eq_self, false_implies, implies_true, Nat.reduceLT, List.getElem?_toArray, isCall, List.contains_nil, List.contains_cons, Nat.reduceBEq, Bool.or_false, Bool.or_self, List.length_map, gOf, step, stepM, stepP, ev, okV, if_true, if_false, allocA, storeA, boxA, one1, tokN, tok1, buildA, rowA, nrmP, partV, partA, fieldA, fieldV, elemA, lenA, bltA, asSl, appA, makeA, makeR, cutA, bndA, binV, intOp, strOp, unV, eqB, nilB, sameT, List.all_cons, List.all_nil, Bool.and_self, Bool.and_true, Bool.true_and, List.map_cons, List.map_nil, List.nil_append, List.cons_append, List.append_nil, AV.bare, AV.content, AV.clean, AV.one, putD, List.set_cons_zero, List.set_cons_succ, List.reverse_cons, List.reverse_nil, List.getD_cons_zero, List.getD_cons_succ, List.getElem?_cons_zero, List.getElem?_cons_succ, Option.getD_some, Option.map_some, Option.map_none, Option.bind_some, List.length_cons, List.length_nil, lk, cellsA, fillA, fillS, isAggD, spl, nrm, nrmA, List.take_succ_cons, List.take_zero, List.drop_succ_cons, List.drop_zero, List.drop_nil, List.take_nil, Nat.reduceAdd, Nat.zero_add, Nat.add_zero, Nat.add_assoc, Nat.add_left_cancel_iff, reduceCtorEq, Prod.mk.injEq, List.cons.injEq, and_self, and_true, true_and, Nat.le_refl, Nat.reduceLeDiff, Nat.reduceEqDiff, List.getElem?_nil, Int.reduceToNat, Int.reduceLE, Int.reduceLT, ite_self, List.forall_mem_cons, List.not_mem_nil, false_and, and_false, Bool.false_eq_true, List.replicate_zero, List.replicate_succ, Int.toNat_natCast, neJ2, neJ2', neJ3, neJ3', callOf, callOf2, fnOf, argsA, args2, Array.isEmpty_empty, resLL, resVL, beq_self_eq_true, st3, zt3, it3, ct3, se3, Tryz.underlying3, st9, zt9, it9, ct9, se9, Tryz.underlying9, st25, zt25, it25, ct25, pt25, eqs25, se25, Tryz.underlying25, Tryz.results94, Tryz.results101, st4, zt4, it4, ct4, se4, Tryz.underlying4, st5, zt5, it5, ct5, se5, Tryz.underlying5, Tryz.results167, Int.natCast_nonneg, Tryz.results187, Tryz.results153, Tryz.results125, Tryz.results129, Tryz.results176, Tryz.results93, Tryz.results136, Tryz.results159, Tryz.results184, Tryz.results114, Tryz.results141, Tryz.results170, Tryz.results131, st22, zt22, it22, ct22, se22, Tryz.underlying22, Tryz.results130, Tryz.results175, Tryz.results135, Tryz.results96, U.out] <;> rfl) : a = b := h
def nullV : Vl := ⟨0, 0, .empty⟩
abbrev aVal (v : Vl) : AV := .agg 3 (encV v)
theorem rg94v3 {T : List Rid} {p : Path} {Q : Exit → SL → Prop} {tm : List AV} {L : RL} {n : Nat} {c : Code} {l : List Oper} (n' : Nat) (Qs : List Nat) (h : ∀ all, (ro c).toList = all → GoI Tryz.prog T p all false Qs n 0 l tm L fun tm' L' => Q .normal ⟨tm', L', n'⟩) (hk : kd c = 0 := by kernel_rfl) (hr : rd c = false := by kernel_rfl) (hl : (ro c).toList = l := by dsimp only [ro, s1, s2, c1, c2, bc, bod, Tryz.f94, Option.getD_some] <;> exact rfl) (hn : n + (ro c).size = n' := by kernel_rfl) : PI Tryz.prog T p c Q ⟨tm, L, n⟩ := PI.rg n' Qs hk hr hl (fun h => by cases h) hn (h _ rfl)
theorem okNull : CallsOK Tryz.prog 94 [] (aVal nullV) := by
  have U : Hid True := ⟨trivial⟩
  refine CallsOK.of_pi mixed Tryz.func94 (by kernel_rfl) (by kernel_rfl) (?_ : PI _ _ _ _ _ ⟨[.und, .und], [], 0⟩)
  refine PI.q ?_
  refine rg94v3 (1) [] fun all1 _ => ?_
  refine GoI.z nf3 ?_
  refine PI.q ?_
  refine rg94v3 (3) [] fun all2 _ => ?_
  refine GoI.z nf3 ?_
  refine PI.r ?_
  exact FinI.mk _ nf3 (by clear U; rfl)
theorem rg101v3 {T : List Rid} {p : Path} {Q : Exit → SL → Prop} {tm : List AV} {L : RL} {n : Nat} {c : Code} {l : List Oper} (n' : Nat) (Qs : List Nat) (h : ∀ all, (ro c).toList = all → GoI Tryz.prog T p all false Qs n 0 l tm L fun tm' L' => Q .normal ⟨tm', L', n'⟩) (hk : kd c = 0 := by kernel_rfl) (hr : rd c = false := by kernel_rfl) (hl : (ro c).toList = l := by dsimp only [ro, s1, s2, c1, c2, bc, bod, Tryz.f101, Option.getD_some] <;> exact rfl) (hn : n + (ro c).size = n' := by kernel_rfl) : PI Tryz.prog T p c Q ⟨tm, L, n⟩ := PI.rg n' Qs hk hr hl (fun h => by cases h) hn (h _ rfl)
theorem okNull' : CallsOK Tryz.prog 101 [] (aVal nullV) := by
  have U : Hid True := ⟨trivial⟩
  refine CallsOK.of_pi mixed Tryz.func101 (by kernel_rfl) (by kernel_rfl) (?_ : PI _ _ _ _ _ ⟨[.und, .und], [], 0⟩)
  refine PI.q ?_
  refine rg101v3 (1) [] fun all1 _ => ?_
  refine GoI.z nf3 ?_
  refine PI.q ?_
  refine rg101v3 (3) [] fun all2 _ => ?_
  refine GoI.z nf3 ?_
  refine PI.r ?_
  exact FinI.mk _ nf3 (by clear U; rfl)
def byteOK (b : UInt8) : Bool := !(decide ((b.toNat : Int) < 32) || decide ((b.toNat : Int) > 126))
def printS (s : ByteArray) : Bool := s.data.toList.all byteOK
theorem str_at {s : ByteArray} {i : Nat} (h : i < s.size) : s[i]? = some s[i] := getElem?_pos s i h
theorem rg167v3 {T : List Rid} {p : Path} {Q : Exit → SL → Prop} {tm : List AV} {L : RL} {n : Nat} {c : Code} {l : List Oper} (n' : Nat) (Qs : List Nat) (h : ∀ all, (ro c).toList = all → GoI Tryz.prog T p all false Qs n 0 l tm L fun tm' L' => Q .normal ⟨tm', L', n'⟩) (hk : kd c = 0 := by kernel_rfl) (hr : rd c = false := by kernel_rfl) (hl : (ro c).toList = l := by dsimp only [ro, s1, s2, c1, c2, bc, bod, Tryz.f167, Option.getD_some] <;> exact rfl) (hn : n + (ro c).size = n' := by kernel_rfl) : PI Tryz.prog T p c Q ⟨tm, L, n⟩ := PI.rg n' Qs hk hr hl (fun h => by cases h) hn (h _ rfl)
set_option maxRecDepth 100000 in
theorem okPrint' (s : ByteArray) (hs : s.size ≤ 200) : CallsOK Tryz.prog 167 [aS s] (aB (printS s)) := by
  have hl : s.size ≤ maxLen := Nat.le_trans hs (by decide +kernel)
  have hsz : s.data.toList.length = s.size := by rw [Array.length_toList]; rfl
  have U : Hid True := ⟨trivial⟩
  refine CallsOK.of_pi mixed Tryz.func167 (by kernel_rfl) (by kernel_rfl) (?_ : PI _ _ _ _ _ ⟨[aS s, .und, .und, .und, .und, .und, .und, .und, .und, .und, .und, .und, .und, .und, .und, .und, .und, .und, .und, .und], [], 0⟩)
  refine PI.q ?_
  refine rg167v3 (1) [] fun all1 _ => ?_
  refine GoI.z nf3 ?_
  refine PI.q ?_
  refine PI.q ?_
  refine rg167v3 (2) [] fun all2 _ => ?_
  refine GoI.z nf3 ?_
  refine PI.b 0 ?_
  refine PI.lo (by kernel_rfl) (X := Nat) (fun i => (3, aI i) :: uk [2, 4, 5, 6, 7, 8, 9, 10, 11, 12, 13, 14, 15, 16, 17, 18, 19]) (fun _ => []) (fun k i => k = s.size - i ∧ i ≤ s.size ∧ (s.data.toList.take i).all byteOK = true) (s.size) (0) (GhI.of_wk ⟨by simp [ovr, uk, lessT, neJ2, neJ2', neJ3, neJ3'], by simp [lessR, lk, neJ2, neJ2', neJ3, neJ3'], by (try dsimp only); omega, keep0⟩) (by simp) ?_
  intro k1 x1 j1 hr1
  obtain ⟨rfl, hi1, ha⟩ := hr1
  simp only [ovr, uk, List.set_cons_zero, List.set_cons_succ]
  refine PI.q ?_
  refine PI.q ?_
  refine rg167v3 (j1 + 6) [] fun all3 _ => ?_
  refine GoI.runN 2 nf3 ?_
  refine GoI.z nf3 ?_
  refine PI.d 7 nf3 (fun hb1 => ?_) (fun hb1 => ?_)
  ·
   try simp only [hb1]
   obtain ⟨hlt, hw⟩ := up hb1 hl
   have hg := str_at hlt
   have hlt' : x1 < s.data.toList.length := by omega
   have hge : s.data.toList[x1] = s[x1] := by simp; rfl
   replace U := U.cons (And.intro (hw) (hg))
   refine PI.s ?_
   refine PI.q ?_
   refine PI.b 1 ?_
   refine PI.q ?_
   refine rg167v3 (j1 + 16) [] fun all4 hall4 => ?_
   have hgd4_4 : (all4[4]?).bind (fun o => o.dst) = some 14 := by rw [← hall4]; kernel_rfl
   replace U := U.cons (hgd4_4)
   refine GoI.runN 2 nf3 ?_
   refine GoI.runN 2 nf3 ?_
   refine GoI.runN 1 nf3 ?_
   refine GoI.grd 14 nf3 (fun hg1 => ?_) (fun hg1 => ?_)
   ·
    try simp only [hg1]
    refine GoI.runN 2 nf3 ?_
    refine GoI.runN 2 nf3 ?_
    refine GoI.z nf3 ?_
    refine PI.t 19 nf3 ?_
    refine PI.q ?_
    refine rg167v3 (j1 + 17) [] fun all5 _ => ?_
    refine GoI.z nf3 ?_
    refine PI.r ?_
    exact FinI.mk _ nf3 (by clear U; first | (rw [printS, all_full (by omega) ha]; rfl) | (rw [printS, all_not hlt' (by rw [hge]; first | (simp only [byteOK, hg1]; rfl) | (simp only [byteOK, hg1, hb2]; rfl))]; rfl))
   try simp only [hg1]
   refine GoI.runN 2 nf3 ?_
   refine GoI.runN 2 nf3 ?_
   refine GoI.z nf3 ?_
   refine PI.d 19 nf3 (fun hb2 => ?_) (fun hb2 => ?_)
   ·
    try simp only [hb2]
    refine PI.q ?_
    refine rg167v3 (j1 + 17) [] fun all5 _ => ?_
    refine GoI.z nf3 ?_
    refine PI.r ?_
    exact FinI.mk _ nf3 (by clear U; first | (rw [printS, all_full (by omega) ha]; rfl) | (rw [printS, all_not hlt' (by rw [hge]; first | (simp only [byteOK, hg1]; rfl) | (simp only [byteOK, hg1, hb2]; rfl))]; rfl))
   try simp only [hb2]
   refine PI.s ?_
   refine rg167v3 (j1 + 19) [] fun all6 _ => ?_
   refine GoI.runN 2 nf3 ?_
   refine GoI.z nf3 ?_
   refine ⟨s.size - (x1 + 1), x1 + 1, j1 + 17, by omega, ⟨rfl, by omega, all_take hlt' ha (by rw [hge]; simp [byteOK]; simp_all)⟩, GhI.of_wk ⟨by simp [ovr, uk, lessT, neJ2, neJ2', neJ3, neJ3'], by simp [lessR, lk, neJ2, neJ2', neJ3, neJ3'], by (try dsimp only); omega, keep0⟩⟩
  try simp only [hb1]
  have hx := dn hb1
  refine PI.e 0 ?_
  refine PI.q ?_
  refine rg167v3 (j1 + 7) [] fun all7 _ => ?_
  refine GoI.z nf3 ?_
  refine PI.r ?_
  exact FinI.mk _ nf3 (by clear U; first | (rw [printS, all_full (by omega) ha]; rfl) | (rw [printS, all_not hlt' (by rw [hge]; first | (simp only [byteOK, hg1]; rfl) | (simp only [byteOK, hg1, hb2]; rfl))]; rfl))
theorem rg187v3 {T : List Rid} {p : Path} {Q : Exit → SL → Prop} {tm : List AV} {L : RL} {n : Nat} {c : Code} {l : List Oper} (n' : Nat) (Qs : List Nat) (h : ∀ all, (ro c).toList = all → GoI Tryz.prog T p all false Qs n 0 l tm L fun tm' L' => Q .normal ⟨tm', L', n'⟩) (hk : kd c = 0 := by kernel_rfl) (hr : rd c = false := by kernel_rfl) (hl : (ro c).toList = l := by dsimp only [ro, s1, s2, c1, c2, bc, bod, Tryz.f187, Option.getD_some] <;> exact rfl) (hn : n + (ro c).size = n' := by kernel_rfl) : PI Tryz.prog T p c Q ⟨tm, L, n⟩ := PI.rg n' Qs hk hr hl (fun h => by cases h) hn (h _ rfl)
set_option maxRecDepth 100000 in
theorem okPrint (s : ByteArray) (hs : s.size ≤ 200) : CallsOK Tryz.prog 187 [aS s] (aB (printS s)) := by
  have hl : s.size ≤ maxLen := Nat.le_trans hs (by decide +kernel)
  have hsz : s.data.toList.length = s.size := by rw [Array.length_toList]; rfl
  have U : Hid True := ⟨trivial⟩
  refine CallsOK.of_pi mixed Tryz.func187 (by kernel_rfl) (by kernel_rfl) (?_ : PI _ _ _ _ _ ⟨[aS s, .und, .und, .und, .und, .und, .und, .und, .und, .und, .und, .und, .und, .und, .und, .und, .und, .und, .und, .und], [], 0⟩)
  refine PI.q ?_
  refine rg187v3 (1) [] fun all1 _ => ?_
  refine GoI.z nf3 ?_
  refine PI.q ?_
  refine PI.q ?_
  refine rg187v3 (4) [] fun all2 _ => ?_
  refine GoI.runN 2 nf3 ?_
  refine GoI.z nf3 ?_
  refine PI.b 0 ?_
  refine PI.lo (by kernel_rfl) (X := Nat) (fun i => (6, aI i) :: uk [2, 3, 7, 8, 9, 10, 11, 12, 13, 14, 15, 16, 17, 18, 19]) (fun _ => []) (fun k i => k = s.size - i ∧ i ≤ s.size ∧ (s.data.toList.take i).all byteOK = true) (s.size) (0) (GhI.of_wk ⟨by simp [ovr, uk, lessT, neJ2, neJ2', neJ3, neJ3'], by simp [lessR, lk, neJ2, neJ2', neJ3, neJ3'], by (try dsimp only); omega, keep0⟩) (by simp) ?_
  intro k1 x1 j1 hr1
  obtain ⟨rfl, hi1, ha⟩ := hr1
  simp only [ovr, uk, List.set_cons_zero, List.set_cons_succ]
  refine PI.q ?_
  refine rg187v3 (j1 + 5) [] fun all3 _ => ?_
  refine GoI.z nf3 ?_
  refine PI.q ?_
  refine PI.d 7 nf3 (fun hb1 => ?_) (fun hb1 => ?_)
  ·
   try simp only [hb1]
   obtain ⟨hlt, hw⟩ := up hb1 hl
   have hg := str_at hlt
   have hlt' : x1 < s.data.toList.length := by omega
   have hge : s.data.toList[x1] = s[x1] := by simp; rfl
   replace U := U.cons (And.intro (hw) (hg))
   refine PI.s ?_
   refine PI.q ?_
   refine PI.b 1 ?_
   refine PI.q ?_
   refine rg187v3 (j1 + 7) [] fun all4 _ => ?_
   refine GoI.z nf3 ?_
   refine PI.q ?_
   refine rg187v3 (j1 + 17) [] fun all5 hall5 => ?_
   have hgd5_4 : (all5[4]?).bind (fun o => o.dst) = some 13 := by rw [← hall5]; kernel_rfl
   replace U := U.cons (hgd5_4)
   refine GoI.runN 2 nf3 ?_
   refine GoI.runN 2 nf3 ?_
   refine GoI.runN 1 nf3 ?_
   refine GoI.grd 13 nf3 (fun hg1 => ?_) (fun hg1 => ?_)
   ·
    try simp only [hg1]
    refine GoI.runN 2 nf3 ?_
    refine GoI.runN 2 nf3 ?_
    refine GoI.z nf3 ?_
    refine PI.t 18 nf3 ?_
    refine PI.q ?_
    refine rg187v3 (j1 + 18) [] fun all6 _ => ?_
    refine GoI.z nf3 ?_
    refine PI.r ?_
    exact FinI.mk _ nf3 (by clear U; first | (rw [printS, all_full (by omega) ha]; rfl) | (rw [printS, all_not hlt' (by rw [hge]; first | (simp only [byteOK, hg1]; rfl) | (simp only [byteOK, hg1, hb2]; rfl))]; rfl))
   try simp only [hg1]
   refine GoI.runN 2 nf3 ?_
   refine GoI.runN 2 nf3 ?_
   refine GoI.z nf3 ?_
   refine PI.d 18 nf3 (fun hb2 => ?_) (fun hb2 => ?_)
   ·
    try simp only [hb2]
    refine PI.q ?_
    refine rg187v3 (j1 + 18) [] fun all6 _ => ?_
    refine GoI.z nf3 ?_
    refine PI.r ?_
    exact FinI.mk _ nf3 (by clear U; first | (rw [printS, all_full (by omega) ha]; rfl) | (rw [printS, all_not hlt' (by rw [hge]; first | (simp only [byteOK, hg1]; rfl) | (simp only [byteOK, hg1, hb2]; rfl))]; rfl))
   try simp only [hb2]
   refine PI.s ?_
   refine rg187v3 (j1 + 19) [] fun all7 _ => ?_
   refine GoI.z nf3 ?_
   refine ⟨s.size - (x1 + 1), x1 + 1, j1 + 15, by omega, ⟨rfl, by omega, all_take hlt' ha (by rw [hge]; simp [byteOK]; simp_all)⟩, GhI.of_wk ⟨by simp [ovr, uk, lessT, neJ2, neJ2', neJ3, neJ3'], by simp [lessR, lk, neJ2, neJ2', neJ3, neJ3'], by (try dsimp only); omega, keep0⟩⟩
  try simp only [hb1]
  have hx := dn hb1
  refine PI.e 0 ?_
  refine PI.q ?_
  refine rg187v3 (j1 + 6) [] fun all8 _ => ?_
  refine GoI.z nf3 ?_
  refine PI.r ?_
  exact FinI.mk _ nf3 (by clear U; first | (rw [printS, all_full (by omega) ha]; rfl) | (rw [printS, all_not hlt' (by rw [hge]; first | (simp only [byteOK, hg1]; rfl) | (simp only [byteOK, hg1, hb2]; rfl))]; rfl))
def noS (s : ByteArray) : Bool := s.toList == ByteArray.empty.toList
def validV (v : Vl) : Bool :=
  if v.k == 0 then v.i == 0 && noS v.s
  else if v.k == 1 then noS v.s && (decide (v.i ≥ -1125899906842624) && decide (v.i ≤ 1125899906842624))
  else if v.k == 2 then v.i == 0 && (decide ((v.s.size : Int) ≤ 200) && printS v.s)
  else if v.k == 3 then noS v.s && (v.i == 0 || v.i == 1)
  else false
theorem rg153v3 {T : List Rid} {p : Path} {Q : Exit → SL → Prop} {tm : List AV} {L : RL} {n : Nat} {c : Code} {l : List Oper} (n' : Nat) (Qs : List Nat) (h : ∀ all, (ro c).toList = all → GoI Tryz.prog T p all false Qs n 0 l tm L fun tm' L' => Q .normal ⟨tm', L', n'⟩) (hk : kd c = 0 := by kernel_rfl) (hr : rd c = false := by kernel_rfl) (hl : (ro c).toList = l := by dsimp only [ro, s1, s2, c1, c2, bc, bod, Tryz.f153, Option.getD_some] <;> exact rfl) (hn : n + (ro c).size = n' := by kernel_rfl) : PI Tryz.prog T p c Q ⟨tm, L, n⟩ := PI.rg n' Qs hk hr hl (fun h => by cases h) hn (h _ rfl)
set_option maxRecDepth 100000 in
theorem okValid (v : Vl) : CallsOK Tryz.prog 153 [aVal v] (aB (validV v)) := by
  have U : Hid True := ⟨trivial⟩
  refine CallsOK.of_pi mixed Tryz.func153 (by kernel_rfl) (by kernel_rfl) (?_ : PI _ _ _ _ _ ⟨[aVal v, .und, .und, .und, .und, .und, .und, .und, .und, .und, .und, .und, .und, .und, .und, .und, .und, .und, .und, .und, .und, .und, .und, .und, .und, .und, .und, .und, .und, .und, .und, .und, .und, .und, .und, .und, .und, .und, .und, .und, .und, .und, .und, .und, .und, .und, .und, .und, .und, .und, .und, .und, .und, .und, .und, .und, .und, .und, .und, .und, .und], [], 0⟩)
  refine PI.q ?_
  refine rg153v3 (2) [] fun all1 _ => ?_
  refine GoI.z nf3 ?_
  refine PI.q ?_
  refine PI.q ?_
  refine rg153v3 (4) [] fun all2 _ => ?_
  refine GoI.z nf3 ?_
  refine PI.b 0 ?_
  refine PI.q ?_
  refine rg153v3 (6) [] fun all3 _ => ?_
  refine GoI.z nf3 ?_
  refine PI.d 5 nf3 (fun hb1 => ?_) (fun hb1 => ?_)
  ·
   try simp only [hb1]
   refine PI.q ?_
   refine rg153v3 (15) [] fun all4 hall4 => ?_
   have hgd4_3 : (all4[3]?).bind (fun o => o.dst) = some 10 := by rw [← hall4]; kernel_rfl
   replace U := U.cons (hgd4_3)
   refine GoI.runN 2 nf3 ?_
   refine GoI.runN 2 nf3 ?_
   refine GoI.grd 10 nf3 (fun hg1 => ?_) (fun hg1 => ?_)
   ·
    try simp only [hg1]
    refine GoI.runN 2 nf3 ?_
    refine GoI.runN 2 nf3 ?_
    refine GoI.z nf3 ?_
    refine PI.r ?_
    exact FinI.mk _ nf3 (by clear U; (simp_all [finR, nrmA, nrm, AV.content, validV, noS]) <;> (intros; omega))
   try simp only [hg1]
   refine GoI.runN 2 nf3 ?_
   refine GoI.runN 2 nf3 ?_
   refine GoI.z nf3 ?_
   refine PI.r ?_
   exact FinI.mk _ nf3 (by clear U; (simp_all [finR, nrmA, nrm, AV.content, validV, noS]) <;> (intros; omega))
  try simp only [hb1]
  refine PI.q ?_
  refine rg153v3 (8) [] fun all5 _ => ?_
  refine GoI.z nf3 ?_
  refine PI.d 15 nf3 (fun hb2 => ?_) (fun hb2 => ?_)
  ·
   try simp only [hb2]
   refine PI.q ?_
   refine rg153v3 (22) [] fun all6 hall6 => ?_
   have hgd6_3 : (all6[3]?).bind (fun o => o.dst) = some 20 := by rw [← hall6]; kernel_rfl
   have hgd6_8 : (all6[8]?).bind (fun o => o.dst) = some 25 := by rw [← hall6]; kernel_rfl
   replace U := U.cons (And.intro (hgd6_3) (hgd6_8))
   refine GoI.runN 2 nf3 ?_
   refine GoI.runN 2 nf3 ?_
   refine GoI.grd 20 nf3 (fun hg2 => ?_) (fun hg2 => ?_)
   ·
    try simp only [hg2]
    refine GoI.runN 2 nf3 ?_
    refine GoI.runN 2 nf3 ?_
    refine GoI.runN 1 nf3 ?_
    refine GoI.grd 25 nf3 (fun hg3 => ?_) (fun hg3 => ?_)
    ·
     try simp only [hg3]
     refine GoI.runN 2 nf3 ?_
     refine GoI.runN 2 nf3 ?_
     refine GoI.z nf3 ?_
     refine PI.r ?_
     exact FinI.mk _ nf3 (by clear U; (simp_all [finR, nrmA, nrm, AV.content, validV, noS]) <;> (intros; omega))
    try simp only [hg3]
    refine GoI.runN 2 nf3 ?_
    refine GoI.runN 2 nf3 ?_
    refine GoI.z nf3 ?_
    refine PI.r ?_
    exact FinI.mk _ nf3 (by clear U; (simp_all [finR, nrmA, nrm, AV.content, validV, noS]) <;> (intros; omega))
   try simp only [hg2]
   refine GoI.runN 2 nf3 ?_
   refine GoI.runN 2 nf3 ?_
   refine GoI.runN 2 nf3 ?_
   refine GoI.runN 2 nf3 ?_
   refine GoI.z nf3 ?_
   refine PI.r ?_
   exact FinI.mk _ nf3 (by clear U; (simp_all [finR, nrmA, nrm, AV.content, validV, noS]) <;> (intros; omega))
  try simp only [hb2]
  refine PI.q ?_
  refine rg153v3 (10) [] fun all7 _ => ?_
  refine GoI.z nf3 ?_
  refine PI.d 30 nf3 (fun hb3 => ?_) (fun hb3 => ?_)
  ·
   try simp only [hb3]
   refine PI.q ?_
   refine rg153v3 (25) [] fun all8 hall8 => ?_
   have hgd8_3 : (all8[3]?).bind (fun o => o.dst) = some 35 := by rw [← hall8]; kernel_rfl
   have hgd8_9 : (all8[9]?).bind (fun o => o.dst) = some 41 := by rw [← hall8]; kernel_rfl
   replace U := U.cons (And.intro (hgd8_3) (hgd8_9))
   refine GoI.runN 2 nf3 ?_
   refine GoI.runN 2 nf3 ?_
   refine GoI.grd 35 nf3 (fun hg4 => ?_) (fun hg4 => ?_)
   ·
    try simp only [hg4]
    refine GoI.runN 2 nf3 ?_
    refine GoI.runN 2 nf3 ?_
    refine GoI.runN 2 nf3 ?_
    refine GoI.grd 41 nf3 (fun hg5 => ?_) (fun hg5 => ?_)
    ·
     try simp only [hg5]
     refine GoI.runN 2 nf3 ?_
     refine GoI.call nf3 nf3 (by exact okPrint _ (by simp_all; omega)) ?_
     refine GoI.z nf3 ?_
     refine PI.r ?_
     exact FinI.mk _ nf3 (by clear U; (simp_all [finR, nrmA, nrm, AV.content, validV, noS]) <;> (intros; omega))
    try simp only [hg5]
    refine GoI.runN 2 nf3 ?_
    refine GoI.runN 2 nf3 ?_
    refine GoI.z nf3 ?_
    refine PI.r ?_
    exact FinI.mk _ nf3 (by clear U; (simp_all [finR, nrmA, nrm, AV.content, validV, noS]) <;> (intros; omega))
   try simp only [hg4]
   refine GoI.runN 2 nf3 ?_
   refine GoI.runN 2 nf3 ?_
   refine GoI.runN 2 nf3 ?_
   refine GoI.runN 2 nf3 ?_
   refine GoI.runN 2 nf3 ?_
   refine GoI.z nf3 ?_
   refine PI.r ?_
   exact FinI.mk _ nf3 (by clear U; (simp_all [finR, nrmA, nrm, AV.content, validV, noS]) <;> (intros; omega))
  try simp only [hb3]
  refine PI.q ?_
  refine rg153v3 (12) [] fun all9 _ => ?_
  refine GoI.z nf3 ?_
  refine PI.d 46 nf3 (fun hb4 => ?_) (fun hb4 => ?_)
  ·
   try simp only [hb4]
   refine PI.q ?_
   refine rg153v3 (26) [] fun all10 hall10 => ?_
   have hgd10_3 : (all10[3]?).bind (fun o => o.dst) = some 51 := by rw [← hall10]; kernel_rfl
   have hgd10_7 : (all10[7]?).bind (fun o => o.dst) = some 55 := by rw [← hall10]; kernel_rfl
   replace U := U.cons (And.intro (hgd10_3) (hgd10_7))
   refine GoI.runN 2 nf3 ?_
   refine GoI.runN 2 nf3 ?_
   refine GoI.grd 51 nf3 (fun hg6 => ?_) (fun hg6 => ?_)
   ·
    try simp only [hg6]
    refine GoI.runN 2 nf3 ?_
    refine GoI.runN 2 nf3 ?_
    refine GoI.grd 55 nf3 (fun hg7 => ?_) (fun hg7 => ?_)
    ·
     try simp only [hg7]
     refine GoI.runN 2 nf3 ?_
     refine GoI.runN 2 nf3 ?_
     refine GoI.z nf3 ?_
     refine PI.r ?_
     exact FinI.mk _ nf3 (by clear U; (simp_all [finR, nrmA, nrm, AV.content, validV, noS]) <;> (intros; omega))
    try simp only [hg7]
    refine GoI.runN 2 nf3 ?_
    refine GoI.runN 2 nf3 ?_
    refine GoI.z nf3 ?_
    refine PI.r ?_
    exact FinI.mk _ nf3 (by clear U; (simp_all [finR, nrmA, nrm, AV.content, validV, noS]) <;> (intros; omega))
   try simp only [hg6]
   refine GoI.runN 2 nf3 ?_
   refine GoI.runN 2 nf3 ?_
   refine GoI.runN 2 nf3 ?_
   refine GoI.runN 2 nf3 ?_
   refine GoI.z nf3 ?_
   refine PI.r ?_
   exact FinI.mk _ nf3 (by clear U; (simp_all [finR, nrmA, nrm, AV.content, validV, noS]) <;> (intros; omega))
  try simp only [hb4]
  refine PI.s ?_
  refine PI.q ?_
  refine rg153v3 (13) [] fun all11 _ => ?_
  refine GoI.z nf3 ?_
  refine PI.r ?_
  exact FinI.mk _ nf3 (by clear U; (simp_all [finR, nrmA, nrm, AV.content, validV, noS]) <;> (intros; omega))
theorem rg125v3 {T : List Rid} {p : Path} {Q : Exit → SL → Prop} {tm : List AV} {L : RL} {n : Nat} {c : Code} {l : List Oper} (n' : Nat) (Qs : List Nat) (h : ∀ all, (ro c).toList = all → GoI Tryz.prog T p all false Qs n 0 l tm L fun tm' L' => Q .normal ⟨tm', L', n'⟩) (hk : kd c = 0 := by kernel_rfl) (hr : rd c = false := by kernel_rfl) (hl : (ro c).toList = l := by dsimp only [ro, s1, s2, c1, c2, bc, bod, Tryz.f125, Option.getD_some] <;> exact rfl) (hn : n + (ro c).size = n' := by kernel_rfl) : PI Tryz.prog T p c Q ⟨tm, L, n⟩ := PI.rg n' Qs hk hr hl (fun h => by cases h) hn (h _ rfl)
set_option maxRecDepth 100000 in
theorem okValid' (v : Vl) : CallsOK Tryz.prog 125 [aVal v] (aB (validV v)) := by
  have U : Hid True := ⟨trivial⟩
  refine CallsOK.of_pi mixed Tryz.func125 (by kernel_rfl) (by kernel_rfl) (?_ : PI _ _ _ _ _ ⟨[aVal v, .und, .und, .und, .und, .und, .und, .und, .und, .und, .und, .und, .und, .und, .und, .und, .und, .und, .und, .und, .und, .und, .und, .und, .und, .und, .und, .und, .und, .und, .und, .und, .und, .und, .und, .und, .und, .und, .und, .und, .und, .und, .und, .und, .und, .und, .und, .und, .und, .und, .und, .und, .und, .und, .und, .und, .und, .und, .und, .und, .und], [], 0⟩)
  refine PI.q ?_
  refine rg125v3 (2) [] fun all1 _ => ?_
  refine GoI.z nf3 ?_
  refine PI.q ?_
  refine PI.q ?_
  refine rg125v3 (4) [] fun all2 _ => ?_
  refine GoI.z nf3 ?_
  refine PI.b 0 ?_
  refine PI.q ?_
  refine rg125v3 (6) [] fun all3 _ => ?_
  refine GoI.z nf3 ?_
  refine PI.d 5 nf3 (fun hb1 => ?_) (fun hb1 => ?_)
  ·
   try simp only [hb1]
   refine PI.q ?_
   refine rg125v3 (15) [] fun all4 hall4 => ?_
   have hgd4_3 : (all4[3]?).bind (fun o => o.dst) = some 10 := by rw [← hall4]; kernel_rfl
   replace U := U.cons (hgd4_3)
   refine GoI.runN 2 nf3 ?_
   refine GoI.runN 2 nf3 ?_
   refine GoI.grd 10 nf3 (fun hg1 => ?_) (fun hg1 => ?_)
   ·
    try simp only [hg1]
    refine GoI.runN 2 nf3 ?_
    refine GoI.runN 2 nf3 ?_
    refine GoI.z nf3 ?_
    refine PI.r ?_
    exact FinI.mk _ nf3 (by clear U; (simp_all [finR, nrmA, nrm, AV.content, validV, noS]) <;> (intros; omega))
   try simp only [hg1]
   refine GoI.runN 2 nf3 ?_
   refine GoI.runN 2 nf3 ?_
   refine GoI.z nf3 ?_
   refine PI.r ?_
   exact FinI.mk _ nf3 (by clear U; (simp_all [finR, nrmA, nrm, AV.content, validV, noS]) <;> (intros; omega))
  try simp only [hb1]
  refine PI.q ?_
  refine rg125v3 (8) [] fun all5 _ => ?_
  refine GoI.z nf3 ?_
  refine PI.d 15 nf3 (fun hb2 => ?_) (fun hb2 => ?_)
  ·
   try simp only [hb2]
   refine PI.q ?_
   refine rg125v3 (22) [] fun all6 hall6 => ?_
   have hgd6_3 : (all6[3]?).bind (fun o => o.dst) = some 20 := by rw [← hall6]; kernel_rfl
   have hgd6_8 : (all6[8]?).bind (fun o => o.dst) = some 25 := by rw [← hall6]; kernel_rfl
   replace U := U.cons (And.intro (hgd6_3) (hgd6_8))
   refine GoI.runN 2 nf3 ?_
   refine GoI.runN 2 nf3 ?_
   refine GoI.grd 20 nf3 (fun hg2 => ?_) (fun hg2 => ?_)
   ·
    try simp only [hg2]
    refine GoI.runN 2 nf3 ?_
    refine GoI.runN 2 nf3 ?_
    refine GoI.runN 1 nf3 ?_
    refine GoI.grd 25 nf3 (fun hg3 => ?_) (fun hg3 => ?_)
    ·
     try simp only [hg3]
     refine GoI.runN 2 nf3 ?_
     refine GoI.runN 2 nf3 ?_
     refine GoI.z nf3 ?_
     refine PI.r ?_
     exact FinI.mk _ nf3 (by clear U; (simp_all [finR, nrmA, nrm, AV.content, validV, noS]) <;> (intros; omega))
    try simp only [hg3]
    refine GoI.runN 2 nf3 ?_
    refine GoI.runN 2 nf3 ?_
    refine GoI.z nf3 ?_
    refine PI.r ?_
    exact FinI.mk _ nf3 (by clear U; (simp_all [finR, nrmA, nrm, AV.content, validV, noS]) <;> (intros; omega))
   try simp only [hg2]
   refine GoI.runN 2 nf3 ?_
   refine GoI.runN 2 nf3 ?_
   refine GoI.runN 2 nf3 ?_
   refine GoI.runN 2 nf3 ?_
   refine GoI.z nf3 ?_
   refine PI.r ?_
   exact FinI.mk _ nf3 (by clear U; (simp_all [finR, nrmA, nrm, AV.content, validV, noS]) <;> (intros; omega))
  try simp only [hb2]
  refine PI.q ?_
  refine rg125v3 (10) [] fun all7 _ => ?_
  refine GoI.z nf3 ?_
  refine PI.d 30 nf3 (fun hb3 => ?_) (fun hb3 => ?_)
  ·
   try simp only [hb3]
   refine PI.q ?_
   refine rg125v3 (25) [] fun all8 hall8 => ?_
   have hgd8_3 : (all8[3]?).bind (fun o => o.dst) = some 35 := by rw [← hall8]; kernel_rfl
   have hgd8_9 : (all8[9]?).bind (fun o => o.dst) = some 41 := by rw [← hall8]; kernel_rfl
   replace U := U.cons (And.intro (hgd8_3) (hgd8_9))
   refine GoI.runN 2 nf3 ?_
   refine GoI.runN 2 nf3 ?_
   refine GoI.grd 35 nf3 (fun hg4 => ?_) (fun hg4 => ?_)
   ·
    try simp only [hg4]
    refine GoI.runN 2 nf3 ?_
    refine GoI.runN 2 nf3 ?_
    refine GoI.runN 2 nf3 ?_
    refine GoI.grd 41 nf3 (fun hg5 => ?_) (fun hg5 => ?_)
    ·
     try simp only [hg5]
     refine GoI.runN 2 nf3 ?_
     refine GoI.call nf3 nf3 (by exact okPrint' _ (by simp_all; omega)) ?_
     refine GoI.z nf3 ?_
     refine PI.r ?_
     exact FinI.mk _ nf3 (by clear U; (simp_all [finR, nrmA, nrm, AV.content, validV, noS]) <;> (intros; omega))
    try simp only [hg5]
    refine GoI.runN 2 nf3 ?_
    refine GoI.runN 2 nf3 ?_
    refine GoI.z nf3 ?_
    refine PI.r ?_
    exact FinI.mk _ nf3 (by clear U; (simp_all [finR, nrmA, nrm, AV.content, validV, noS]) <;> (intros; omega))
   try simp only [hg4]
   refine GoI.runN 2 nf3 ?_
   refine GoI.runN 2 nf3 ?_
   refine GoI.runN 2 nf3 ?_
   refine GoI.runN 2 nf3 ?_
   refine GoI.runN 2 nf3 ?_
   refine GoI.z nf3 ?_
   refine PI.r ?_
   exact FinI.mk _ nf3 (by clear U; (simp_all [finR, nrmA, nrm, AV.content, validV, noS]) <;> (intros; omega))
  try simp only [hb3]
  refine PI.q ?_
  refine rg125v3 (12) [] fun all9 _ => ?_
  refine GoI.z nf3 ?_
  refine PI.d 46 nf3 (fun hb4 => ?_) (fun hb4 => ?_)
  ·
   try simp only [hb4]
   refine PI.q ?_
   refine rg125v3 (26) [] fun all10 hall10 => ?_
   have hgd10_3 : (all10[3]?).bind (fun o => o.dst) = some 51 := by rw [← hall10]; kernel_rfl
   have hgd10_7 : (all10[7]?).bind (fun o => o.dst) = some 55 := by rw [← hall10]; kernel_rfl
   replace U := U.cons (And.intro (hgd10_3) (hgd10_7))
   refine GoI.runN 2 nf3 ?_
   refine GoI.runN 2 nf3 ?_
   refine GoI.grd 51 nf3 (fun hg6 => ?_) (fun hg6 => ?_)
   ·
    try simp only [hg6]
    refine GoI.runN 2 nf3 ?_
    refine GoI.runN 2 nf3 ?_
    refine GoI.grd 55 nf3 (fun hg7 => ?_) (fun hg7 => ?_)
    ·
     try simp only [hg7]
     refine GoI.runN 2 nf3 ?_
     refine GoI.runN 2 nf3 ?_
     refine GoI.z nf3 ?_
     refine PI.r ?_
     exact FinI.mk _ nf3 (by clear U; (simp_all [finR, nrmA, nrm, AV.content, validV, noS]) <;> (intros; omega))
    try simp only [hg7]
    refine GoI.runN 2 nf3 ?_
    refine GoI.runN 2 nf3 ?_
    refine GoI.z nf3 ?_
    refine PI.r ?_
    exact FinI.mk _ nf3 (by clear U; (simp_all [finR, nrmA, nrm, AV.content, validV, noS]) <;> (intros; omega))
   try simp only [hg6]
   refine GoI.runN 2 nf3 ?_
   refine GoI.runN 2 nf3 ?_
   refine GoI.runN 2 nf3 ?_
   refine GoI.runN 2 nf3 ?_
   refine GoI.z nf3 ?_
   refine PI.r ?_
   exact FinI.mk _ nf3 (by clear U; (simp_all [finR, nrmA, nrm, AV.content, validV, noS]) <;> (intros; omega))
  try simp only [hb4]
  refine PI.s ?_
  refine PI.q ?_
  refine rg125v3 (13) [] fun all11 _ => ?_
  refine GoI.z nf3 ?_
  refine PI.r ?_
  exact FinI.mk _ nf3 (by clear U; (simp_all [finR, nrmA, nrm, AV.content, validV, noS]) <;> (intros; omega))
def orNull (v : Vl) : Vl := if validV v then v else nullV
theorem rg129v3 {T : List Rid} {p : Path} {Q : Exit → SL → Prop} {tm : List AV} {L : RL} {n : Nat} {c : Code} {l : List Oper} (n' : Nat) (Qs : List Nat) (h : ∀ all, (ro c).toList = all → GoI Tryz.prog T p all false Qs n 0 l tm L fun tm' L' => Q .normal ⟨tm', L', n'⟩) (hk : kd c = 0 := by kernel_rfl) (hr : rd c = false := by kernel_rfl) (hl : (ro c).toList = l := by dsimp only [ro, s1, s2, c1, c2, bc, bod, Tryz.f129, Option.getD_some] <;> exact rfl) (hn : n + (ro c).size = n' := by kernel_rfl) : PI Tryz.prog T p c Q ⟨tm, L, n⟩ := PI.rg n' Qs hk hr hl (fun h => by cases h) hn (h _ rfl)
theorem okOrNull (v : Vl) : CallsOK Tryz.prog 129 [aVal v] (aVal (orNull v)) := by
  have U : Hid True := ⟨trivial⟩
  refine CallsOK.of_pi mixed Tryz.func129 (by kernel_rfl) (by kernel_rfl) (?_ : PI _ _ _ _ _ ⟨[aVal v, .und, .und, .und, .und, .und, .und, .und], [], 0⟩)
  refine PI.q ?_
  refine rg129v3 (2) [] fun all1 _ => ?_
  refine GoI.z nf3 ?_
  refine PI.q ?_
  refine PI.q ?_
  refine rg129v3 (5) [] fun all2 _ => ?_
  refine GoI.run nf3 ?_
  refine GoI.call nf3 nf3 (by exact okValid v) ?_
  refine GoI.z nf3 ?_
  refine PI.d 5 nf3 (fun hb1 => ?_) (fun hb1 => ?_)
  ·
   try simp only [hb1]
   refine PI.q ?_
   refine rg129v3 (7) [] fun all3 _ => ?_
   refine GoI.call nf3 nf3 (by exact okNull) ?_
   refine GoI.z nf3 ?_
   refine PI.r ?_
   exact FinI.mk _ nf3 (by clear U; simp_all [finR, nrmA, nrm, AV.content, orNull])
  try simp only [hb1]
  refine PI.s ?_
  refine PI.q ?_
  refine rg129v3 (7) [] fun all4 _ => ?_
  refine GoI.z nf3 ?_
  refine PI.r ?_
  exact FinI.mk _ nf3 (by clear U; simp_all [finR, nrmA, nrm, AV.content, orNull])
def intV (n : Int) : Vl := orNull ⟨1, n, .empty⟩
theorem rg93v3 {T : List Rid} {p : Path} {Q : Exit → SL → Prop} {tm : List AV} {L : RL} {n : Nat} {c : Code} {l : List Oper} (n' : Nat) (Qs : List Nat) (h : ∀ all, (ro c).toList = all → GoI Tryz.prog T p all false Qs n 0 l tm L fun tm' L' => Q .normal ⟨tm', L', n'⟩) (hk : kd c = 0 := by kernel_rfl) (hr : rd c = false := by kernel_rfl) (hl : (ro c).toList = l := by dsimp only [ro, s1, s2, c1, c2, bc, bod, Tryz.f93, Option.getD_some] <;> exact rfl) (hn : n + (ro c).size = n' := by kernel_rfl) : PI Tryz.prog T p c Q ⟨tm, L, n⟩ := PI.rg n' Qs hk hr hl (fun h => by cases h) hn (h _ rfl)
theorem okInt (n : Int) : CallsOK Tryz.prog 93 [aI n] (aVal (intV n)) := by
  have U : Hid True := ⟨trivial⟩
  refine CallsOK.of_pi mixed Tryz.func93 (by kernel_rfl) (by kernel_rfl) (?_ : PI _ _ _ _ _ ⟨[aI n, .und, .und, .und, .und, .und], [], 0⟩)
  refine PI.q ?_
  refine rg93v3 (1) [] fun all1 _ => ?_
  refine GoI.z nf3 ?_
  refine PI.q ?_
  refine rg93v3 (5) [] fun all2 _ => ?_
  refine GoI.runN 2 nf3 ?_
  refine GoI.call nf3 nf3 (by exact okOrNull ⟨1, n, .empty⟩) ?_
  refine GoI.z nf3 ?_
  refine PI.r ?_
  exact FinI.mk _ nf3 (by clear U; rfl)
def cmpI (a b : Int) : Int := if a < b then -1 else if a > b then 1 else 0
theorem rg170v3 {T : List Rid} {p : Path} {Q : Exit → SL → Prop} {tm : List AV} {L : RL} {n : Nat} {c : Code} {l : List Oper} (n' : Nat) (Qs : List Nat) (h : ∀ all, (ro c).toList = all → GoI Tryz.prog T p all false Qs n 0 l tm L fun tm' L' => Q .normal ⟨tm', L', n'⟩) (hk : kd c = 0 := by kernel_rfl) (hr : rd c = false := by kernel_rfl) (hl : (ro c).toList = l := by dsimp only [ro, s1, s2, c1, c2, bc, bod, Tryz.f170, Option.getD_some] <;> exact rfl) (hn : n + (ro c).size = n' := by kernel_rfl) : PI Tryz.prog T p c Q ⟨tm, L, n⟩ := PI.rg n' Qs hk hr hl (fun h => by cases h) hn (h _ rfl)
theorem okIsNaN (a : Int) : CallsOK Tryz.prog 170 [aI a] (aB false) := by
  have U : Hid True := ⟨trivial⟩
  refine CallsOK.of_pi mixed Tryz.func170 (by kernel_rfl) (by kernel_rfl) (?_ : PI _ _ _ _ _ ⟨[aI a, .und, .und, .und, .und, .und], [], 0⟩)
  refine PI.q ?_
  refine rg170v3 (1) [] fun all1 _ => ?_
  refine GoI.z nf3 ?_
  refine PI.q ?_
  refine rg170v3 (5) [] fun all2 _ => ?_
  refine GoI.runN 2 nf3 ?_
  refine GoI.z nf3 ?_
  refine PI.r ?_
  exact FinI.mk _ nf3 (by clear U; simp [finR, nrmA, nrm, AV.content])
theorem rg131v3 {T : List Rid} {p : Path} {Q : Exit → SL → Prop} {tm : List AV} {L : RL} {n : Nat} {c : Code} {l : List Oper} (n' : Nat) (Qs : List Nat) (h : ∀ all, (ro c).toList = all → GoI Tryz.prog T p all false Qs n 0 l tm L fun tm' L' => Q .normal ⟨tm', L', n'⟩) (hk : kd c = 0 := by kernel_rfl) (hr : rd c = false := by kernel_rfl) (hl : (ro c).toList = l := by dsimp only [ro, s1, s2, c1, c2, bc, bod, Tryz.f131, Option.getD_some] <;> exact rfl) (hn : n + (ro c).size = n' := by kernel_rfl) : PI Tryz.prog T p c Q ⟨tm, L, n⟩ := PI.rg n' Qs hk hr hl (fun h => by cases h) hn (h _ rfl)
theorem okCmpI (a b : Int) : CallsOK Tryz.prog 131 [aI a, aI b] (aI (cmpI a b)) := by
  have U : Hid True := ⟨trivial⟩
  refine CallsOK.of_pi mixed Tryz.func131 (by kernel_rfl) (by kernel_rfl) (?_ : PI _ _ _ _ _ ⟨[aI a, aI b, .und, .und, .und, .und, .und, .und, .und, .und, .und, .und, .und, .und, .und, .und, .und, .und, .und, .und], [], 0⟩)
  refine PI.q ?_
  refine rg131v3 (1) [] fun all1 _ => ?_
  refine GoI.z nf3 ?_
  refine PI.q ?_
  refine rg131v3 (4) [] fun all2 _ => ?_
  refine GoI.run nf3 ?_
  refine GoI.call nf3 nf3 (by exact okIsNaN _) ?_
  refine GoI.z nf3 ?_
  refine PI.q ?_
  refine rg131v3 (7) [] fun all3 _ => ?_
  refine GoI.run nf3 ?_
  refine GoI.call nf3 nf3 (by exact okIsNaN _) ?_
  refine GoI.z nf3 ?_
  refine PI.q ?_
  refine PI.q ?_
  refine rg131v3 (8) [] fun all4 _ => ?_
  refine GoI.z nf3 ?_
  refine PI.d 11 nf3 (fun hb1 => ?_) (fun hb1 => ?_)
  ·
   try simp only [hb1]
   cases hb1
  try simp only [hb1]
  refine PI.s ?_
  refine PI.q ?_
  refine PI.q ?_
  refine rg131v3 (9) [] fun all8 _ => ?_
  refine GoI.z nf3 ?_
  refine PI.d 13 nf3 (fun hb3 => ?_) (fun hb3 => ?_)
  ·
   try simp only [hb3]
   cases hb3
  try simp only [hb3]
  refine PI.s ?_
  refine PI.q ?_
  refine PI.q ?_
  refine rg131v3 (12) [] fun all10 _ => ?_
  refine GoI.runN 2 nf3 ?_
  refine GoI.z nf3 ?_
  refine PI.d 16 nf3 (fun hb4 => ?_) (fun hb4 => ?_)
  ·
   try simp only [hb4]
   refine PI.q ?_
   refine rg131v3 (13) [] fun all11 _ => ?_
   refine GoI.z nf3 ?_
   refine PI.r ?_
   exact FinI.mk _ nf3 (by clear U; (simp_all [finR, nrmA, nrm, AV.content, cmpI]) <;> (repeat' split) <;> omega)
  try simp only [hb4]
  refine PI.s ?_
  refine PI.q ?_
  refine PI.q ?_
  refine rg131v3 (15) [] fun all12 _ => ?_
  refine GoI.runN 2 nf3 ?_
  refine GoI.z nf3 ?_
  refine PI.d 19 nf3 (fun hb5 => ?_) (fun hb5 => ?_)
  ·
   try simp only [hb5]
   refine PI.q ?_
   refine rg131v3 (16) [] fun all13 _ => ?_
   refine GoI.z nf3 ?_
   refine PI.r ?_
   exact FinI.mk _ nf3 (by clear U; (simp_all [finR, nrmA, nrm, AV.content, cmpI]) <;> (repeat' split) <;> omega)
  try simp only [hb5]
  refine PI.s ?_
  refine PI.q ?_
  refine rg131v3 (16) [] fun all14 _ => ?_
  refine GoI.z nf3 ?_
  refine PI.r ?_
  exact FinI.mk _ nf3 (by clear U; (simp_all [finR, nrmA, nrm, AV.content, cmpI]) <;> (repeat' split) <;> omega)
def orI : List Int → Int
  | [] => 0
  | x :: l => if x != 0 then x else orI l
theorem orI_at {l : List Int} {i : Nat} (h : i < l.length) : orI (l.drop i) = if l[i] != 0 then l[i] else orI (l.drop (i + 1)) := by
  rw [List.drop_eq_getElem_cons h, orI]
theorem rg130v3 {T : List Rid} {p : Path} {Q : Exit → SL → Prop} {tm : List AV} {L : RL} {n : Nat} {c : Code} {l : List Oper} (n' : Nat) (Qs : List Nat) (h : ∀ all, (ro c).toList = all → GoI Tryz.prog T p all false Qs n 0 l tm L fun tm' L' => Q .normal ⟨tm', L', n'⟩) (hk : kd c = 0 := by kernel_rfl) (hr : rd c = false := by kernel_rfl) (hl : (ro c).toList = l := by dsimp only [ro, s1, s2, c1, c2, bc, bod, Tryz.f130, Option.getD_some] <;> exact rfl) (hn : n + (ro c).size = n' := by kernel_rfl) : PI Tryz.prog T p c Q ⟨tm, L, n⟩ := PI.rg n' Qs hk hr hl (fun h => by cases h) hn (h _ rfl)
theorem okOr (l : List Int) : CallsOK Tryz.prog 130 [ints l] (aI (orI l)) := by
  refine CallsOK.bd (by kernel_rfl) 1 fun hbd => ?_
  have hl : l.length ≤ maxLen := ints_bd hbd (by simp)
  have h0 : orI l = orI (l.drop 0) := by simp
  have U : Hid True := ⟨trivial⟩
  refine CallsOK.of_pi mixed Tryz.func130 (by kernel_rfl) (by kernel_rfl) (?_ : PI _ _ _ _ _ ⟨[ints l, .und, .und, .und, .und, .und, .und, .und, .und, .und, .und, .und, .und, .und, .und, .und, .und, .und], [], 0⟩)
  refine PI.q ?_
  refine rg130v3 (1) [] fun all1 _ => ?_
  refine GoI.z nf3 ?_
  refine PI.q ?_
  refine rg130v3 (2) [] fun all2 _ => ?_
  refine GoI.z nf3 ?_
  refine PI.q ?_
  refine PI.q ?_
  refine rg130v3 (5) [] fun all3 _ => ?_
  refine GoI.runN 2 nf3 ?_
  refine GoI.z nf3 ?_
  refine PI.b 0 ?_
  refine PI.lo (by kernel_rfl) (X := Nat) (fun i => (8, aI i) :: uk [2, 5, 9, 10, 11, 12, 13, 14, 15, 16]) (fun _ => []) (fun k i => k = l.length - i ∧ i ≤ l.length ∧ orI l = orI (l.drop i)) (l.length) (0) (GhI.of_wk ⟨by simp [ovr, uk, lessT, neJ2, neJ2', neJ3, neJ3'], by simp [lessR, lk, neJ2, neJ2', neJ3, neJ3'], by (try dsimp only); omega, keep0⟩) (by simp) ?_
  intro k1 x1 j1 hr1
  obtain ⟨rfl, hi1, ha⟩ := hr1
  simp only [ovr, uk, List.set_cons_zero, List.set_cons_succ]
  refine PI.q ?_
  refine rg130v3 (j1 + 6) [] fun all4 _ => ?_
  refine GoI.z nf3 ?_
  refine PI.q ?_
  refine PI.d 9 nf3 (fun hb1 => ?_) (fun hb1 => ?_)
  ·
   try simp only [hb1]
   obtain ⟨hlt, hw⟩ := up hb1 hl
   have hg := ints_at hlt
   have hs := orI_at hlt
   replace U := U.cons (And.intro (hw) (hg))
   refine PI.s ?_
   refine PI.q ?_
   refine PI.b 1 ?_
   refine PI.q ?_
   refine rg130v3 (j1 + 9) [] fun all5 _ => ?_
   refine GoI.runN 2 nf3 ?_
   refine GoI.z nf3 ?_
   refine PI.q ?_
   refine rg130v3 (j1 + 12) [] fun all6 _ => ?_
   refine GoI.runN 2 nf3 ?_
   refine GoI.z nf3 ?_
   refine PI.d 14 nf3 (fun hb2 => ?_) (fun hb2 => ?_)
   ·
    try simp only [hb2]
    refine PI.q ?_
    refine rg130v3 (j1 + 14) [] fun all7 _ => ?_
    refine GoI.z nf3 ?_
    refine PI.r ?_
    exact FinI.mk _ nf3 (by clear U; first | (rw [ha, hs, hb2]; rfl) | (rw [ha, List.drop_of_length_le hge]; rfl))
   try simp only [hb2]
   refine PI.s ?_
   refine rg130v3 (j1 + 14) [] fun all8 _ => ?_
   refine GoI.z nf3 ?_
   refine ⟨l.length - (x1 + 1), x1 + 1, j1 + 9, by omega, ⟨rfl, by omega, by rw [ha, hs, hb2]; rfl⟩, GhI.of_wk ⟨by simp [ovr, uk, lessT, neJ2, neJ2', neJ3, neJ3'], by simp [lessR, lk, neJ2, neJ2', neJ3, neJ3'], by (try dsimp only); omega, keep0⟩⟩
  try simp only [hb1]
  have hge := dn hb1
  refine PI.e 0 ?_
  refine PI.q ?_
  refine rg130v3 (j1 + 8) [] fun all9 _ => ?_
  refine GoI.z nf3 ?_
  refine PI.r ?_
  exact FinI.mk _ nf3 (by clear U; first | (rw [ha, hs, hb2]; rfl) | (rw [ha, List.drop_of_length_le hge]; rfl))
def signS (a b : Bool) : Int := if a then -1 else if b then 1 else 0
theorem rg175v3 {T : List Rid} {p : Path} {Q : Exit → SL → Prop} {tm : List AV} {L : RL} {n : Nat} {c : Code} {l : List Oper} (n' : Nat) (Qs : List Nat) (h : ∀ all, (ro c).toList = all → GoI Tryz.prog T p all false Qs n 0 l tm L fun tm' L' => Q .normal ⟨tm', L', n'⟩) (hk : kd c = 0 := by kernel_rfl) (hr : rd c = false := by kernel_rfl) (hl : (ro c).toList = l := by dsimp only [ro, s1, s2, c1, c2, bc, bod, Tryz.f175, Option.getD_some] <;> exact rfl) (hn : n + (ro c).size = n' := by kernel_rfl) : PI Tryz.prog T p c Q ⟨tm, L, n⟩ := PI.rg n' Qs hk hr hl (fun h => by cases h) hn (h _ rfl)
theorem okSign (a b : Bool) : CallsOK Tryz.prog 175 [aB a, aB b] (aI (signS a b)) := by
  have U : Hid True := ⟨trivial⟩
  refine CallsOK.of_pi mixed Tryz.func175 (by kernel_rfl) (by kernel_rfl) (?_ : PI _ _ _ _ _ ⟨[aB a, aB b, .und, .und, .und, .und, .und], [], 0⟩)
  refine PI.q ?_
  refine rg175v3 (1) [] fun all1 _ => ?_
  refine GoI.z nf3 ?_
  refine PI.q ?_
  refine PI.q ?_
  refine rg175v3 (2) [] fun all2 _ => ?_
  refine GoI.z nf3 ?_
  refine PI.d 5 nf3 (fun hb1 => ?_) (fun hb1 => ?_)
  ·
   try simp only [hb1]
   refine PI.q ?_
   refine rg175v3 (3) [] fun all3 _ => ?_
   refine GoI.z nf3 ?_
   refine PI.r ?_
   exact FinI.mk _ nf3 (by clear U; simp_all [finR, nrmA, nrm, AV.content, signS])
  try simp only [hb1]
  refine PI.s ?_
  refine PI.q ?_
  refine PI.q ?_
  refine rg175v3 (3) [] fun all4 _ => ?_
  refine GoI.z nf3 ?_
  refine PI.d 6 nf3 (fun hb2 => ?_) (fun hb2 => ?_)
  ·
   try simp only [hb2]
   refine PI.q ?_
   refine rg175v3 (4) [] fun all5 _ => ?_
   refine GoI.z nf3 ?_
   refine PI.r ?_
   exact FinI.mk _ nf3 (by clear U; simp_all [finR, nrmA, nrm, AV.content, signS])
  try simp only [hb2]
  refine PI.s ?_
  refine PI.q ?_
  refine rg175v3 (4) [] fun all6 _ => ?_
  refine GoI.z nf3 ?_
  refine PI.r ?_
  exact FinI.mk _ nf3 (by clear U; simp_all [finR, nrmA, nrm, AV.content, signS])
/-- The order of values. -/
def cmpV (a b : Vl) : Int :=
  if a.k != b.k then signS (decide (a.k < b.k)) (decide (a.k > b.k))
  else if a.i != b.i then signS (decide (a.i < b.i)) (decide (a.i > b.i))
  else signS (Op.bytesLess a.s.toList b.s.toList) (!(Op.bytesLess a.s.toList b.s.toList || a.s.toList == b.s.toList))
theorem rg135v3 {T : List Rid} {p : Path} {Q : Exit → SL → Prop} {tm : List AV} {L : RL} {n : Nat} {c : Code} {l : List Oper} (n' : Nat) (Qs : List Nat) (h : ∀ all, (ro c).toList = all → GoI Tryz.prog T p all false Qs n 0 l tm L fun tm' L' => Q .normal ⟨tm', L', n'⟩) (hk : kd c = 0 := by kernel_rfl) (hr : rd c = false := by kernel_rfl) (hl : (ro c).toList = l := by dsimp only [ro, s1, s2, c1, c2, bc, bod, Tryz.f135, Option.getD_some] <;> exact rfl) (hn : n + (ro c).size = n' := by kernel_rfl) : PI Tryz.prog T p c Q ⟨tm, L, n⟩ := PI.rg n' Qs hk hr hl (fun h => by cases h) hn (h _ rfl)
set_option maxRecDepth 100000 in
theorem okCmpV' (a b : Vl) : CallsOK Tryz.prog 135 [aVal a, aVal b] (aI (cmpV a b)) := by
  have U : Hid True := ⟨trivial⟩
  refine CallsOK.of_pi mixed Tryz.func135 (by kernel_rfl) (by kernel_rfl) (?_ : PI _ _ _ _ _ ⟨[aVal a, aVal b, .und, .und, .und, .und, .und, .und, .und, .und, .und, .und, .und, .und, .und, .und, .und, .und, .und, .und, .und, .und, .und, .und, .und, .und, .und, .und, .und, .und, .und, .und, .und, .und, .und, .und, .und, .und, .und, .und, .und, .und, .und, .und, .und, .und, .und, .und], [], 0⟩)
  refine PI.q ?_
  refine rg135v3 (3) [] fun all1 _ => ?_
  refine GoI.runN 2 nf3 ?_
  refine GoI.z nf3 ?_
  refine PI.q ?_
  refine PI.q ?_
  refine rg135v3 (8) [] fun all2 _ => ?_
  refine GoI.runN 2 nf3 ?_
  refine GoI.runN 2 nf3 ?_
  refine GoI.z nf3 ?_
  refine PI.d 9 nf3 (fun hb1 => ?_) (fun hb1 => ?_)
  ·
   try simp only [hb1]
   refine PI.q ?_
   refine rg135v3 (20) [] fun all3 _ => ?_
   refine GoI.runN 2 nf3 ?_
   refine GoI.runN 2 nf3 ?_
   refine GoI.runN 2 nf3 ?_
   refine GoI.runN 2 nf3 ?_
   refine GoI.runN 2 nf3 ?_
   refine GoI.call nf3 nf3 (by exact okSign ..) ?_
   refine GoI.z nf3 ?_
   refine PI.r ?_
   exact FinI.mk _ nf3 (by clear U; first | (simp only [cmpV, hb1, if_true]; rfl) | (simp only [cmpV, hb1, hb2, if_true, Bool.false_eq_true, if_false]; rfl))
  try simp only [hb1]
  refine PI.s ?_
  refine PI.q ?_
  refine PI.q ?_
  refine rg135v3 (13) [] fun all4 _ => ?_
  refine GoI.runN 2 nf3 ?_
  refine GoI.runN 2 nf3 ?_
  refine GoI.z nf3 ?_
  refine PI.d 25 nf3 (fun hb2 => ?_) (fun hb2 => ?_)
  ·
   try simp only [hb2]
   refine PI.q ?_
   refine rg135v3 (25) [] fun all5 _ => ?_
   refine GoI.runN 2 nf3 ?_
   refine GoI.runN 2 nf3 ?_
   refine GoI.runN 2 nf3 ?_
   refine GoI.runN 2 nf3 ?_
   refine GoI.runN 2 nf3 ?_
   refine GoI.call nf3 nf3 (by exact okSign ..) ?_
   refine GoI.z nf3 ?_
   refine PI.r ?_
   exact FinI.mk _ nf3 (by clear U; first | (simp only [cmpV, hb1, if_true]; rfl) | (simp only [cmpV, hb1, hb2, if_true, Bool.false_eq_true, if_false]; rfl))
  try simp only [hb2]
  refine PI.s ?_
  refine PI.q ?_
  refine rg135v3 (25) [] fun all6 _ => ?_
  refine GoI.runN 2 nf3 ?_
  refine GoI.runN 2 nf3 ?_
  refine GoI.runN 2 nf3 ?_
  refine GoI.runN 2 nf3 ?_
  refine GoI.runN 2 nf3 ?_
  refine GoI.call nf3 nf3 (by exact okSign ..) ?_
  refine GoI.z nf3 ?_
  refine PI.r ?_
  exact FinI.mk _ nf3 (by clear U; first | (simp only [cmpV, hb1, if_true]; rfl) | (simp only [cmpV, hb1, hb2, if_true, Bool.false_eq_true, if_false]; rfl))
theorem compareBytes_eq : ∀ a b : List UInt8, Lib.compareBytes a b = signS (Op.bytesLess a b) (!(Op.bytesLess a b || a == b))
  | [], [] => rfl
  | [], y :: b => by simp [Lib.compareBytes, Op.bytesLess, signS]
  | x :: a, [] => by simp [Lib.compareBytes, Op.bytesLess, signS]
  | x :: a, y :: b => by
    have ih := compareBytes_eq a b
    simp only [Lib.compareBytes, Op.bytesLess]
    by_cases h1 : x < y
    · have hne : x ≠ y := fun e => by subst e; exact absurd h1 (UInt8.lt_irrefl x)
      simp [h1, signS]
    · by_cases h2 : y < x
      · have hne : x ≠ y := fun e => by subst e; exact absurd h2 (UInt8.lt_irrefl x)
        simp [h1, h2, signS, hne]
      · have he : x = y := UInt8.le_antisymm (UInt8.not_lt.1 h2) (UInt8.not_lt.1 h1)
        subst he
        simp [h1, ih]
theorem or_last (x : Int) : (if x != 0 then x else 0) = x := by split <;> simp_all
theorem cmpV_or (a b : Vl) : orI [cmpI a.k b.k, cmpI a.i b.i, Lib.compareBytes a.s.data.toList b.s.data.toList] = cmpV a b := by
  rw [compareBytes_eq]
  simp only [orI, or_last]
  simp only [cmpV, cmpI, ByteArray.toList_eq]
  generalize signS (Op.bytesLess a.s.data.toList b.s.data.toList) (!(Op.bytesLess a.s.data.toList b.s.data.toList || a.s.data.toList == b.s.data.toList)) = z
  simp only [signS]
  by_cases h1 : a.k < b.k
  · have : a.k ≠ b.k := by omega
    simp [h1, this]
  · by_cases h2 : a.k > b.k
    · have : a.k ≠ b.k := by omega
      simp [h1, h2, this]
    · have : a.k = b.k := by omega
      simp [this]
      by_cases h3 : a.i < b.i
      · have : a.i ≠ b.i := by omega
        simp [h3, this]
      · by_cases h4 : a.i > b.i
        · have : a.i ≠ b.i := by omega
          simp [h3, h4, this]
        · have : a.i = b.i := by omega
          simp [this]
theorem rg96v3 {T : List Rid} {p : Path} {Q : Exit → SL → Prop} {tm : List AV} {L : RL} {n : Nat} {c : Code} {l : List Oper} (n' : Nat) (Qs : List Nat) (h : ∀ all, (ro c).toList = all → GoI Tryz.prog T p all false Qs n 0 l tm L fun tm' L' => Q .normal ⟨tm', L', n'⟩) (hk : kd c = 0 := by kernel_rfl) (hr : rd c = false := by kernel_rfl) (hl : (ro c).toList = l := by dsimp only [ro, s1, s2, c1, c2, bc, bod, Tryz.f96, Option.getD_some] <;> exact rfl) (hn : n + (ro c).size = n' := by kernel_rfl) : PI Tryz.prog T p c Q ⟨tm, L, n⟩ := PI.rg n' Qs hk hr hl (fun h => by cases h) hn (h _ rfl)
theorem rd96v3 {T : List Rid} {p : Path} {Q : Exit → SL → Prop} {tm : List AV} {L : RL} {n : Nat} {c : Code} {l : List Oper} (n' : Nat) (Qs : List Nat) (h : ∀ all, (ro c).toList = all → GoI Tryz.prog T p all true Qs n 0 l tm L fun tm' L' => Q .normal ⟨tm', L', n'⟩) (hk : kd c = 0 := by kernel_rfl) (hr : rd c = true := by kernel_rfl) (hl : (ro c).toList = l := by dsimp only [ro, s1, s2, c1, c2, bc, bod, Tryz.f96, Option.getD_some] <;> exact rfl) (hn : n + (ro c).size = n' := by kernel_rfl) (hd : drawOK (ro c) Qs = true := by kernel_rfl) : PI Tryz.prog T p c Q ⟨tm, L, n⟩ := PI.rg n' Qs hk hr hl (fun _ => hd) hn (h _ rfl)
set_option maxRecDepth 100000 in
theorem okCmpV (a b : Vl) : CallsOK Tryz.prog 96 [aVal a, aVal b] (aI (cmpV a b)) := by
  have U : Hid True := ⟨trivial⟩
  refine CallsOK.of_pi mixed Tryz.func96 (by kernel_rfl) (by kernel_rfl) (?_ : PI _ _ _ _ _ ⟨[aVal a, aVal b, .und, .und, .und, .und, .und, .und, .und, .und, .und, .und, .und, .und, .und, .und, .und, .und, .und, .und, .und, .und], [], 0⟩)
  refine PI.q ?_
  refine rg96v3 (3) [] fun all1 _ => ?_
  refine GoI.runN 2 nf3 ?_
  refine GoI.z nf3 ?_
  refine PI.q ?_
  refine rd96v3 (21) [] fun all2 _ => ?_
  refine GoI.runN 2 nf3 ?_
  refine GoI.runN 2 nf3 ?_
  refine GoI.call nf3 nf3 (by exact okCmpI ..) ?_
  refine GoI.runN 2 nf3 ?_
  refine GoI.runN 2 nf3 ?_
  refine GoI.call nf3 nf3 (by exact okCmpI ..) ?_
  refine GoI.runN 2 nf3 ?_
  refine GoI.runN 2 nf3 ?_
  refine GoI.call nf3 nf3 (by exact okCmpS ..) ?_
  refine GoI.run nf3 ?_
  refine GoI.call nf3 nf3 (by exact okOr [_, _, _]) ?_
  refine GoI.z nf3 ?_
  refine PI.r ?_
  exact FinI.mk _ nf3 (by clear U; simp only [finR, nrmA, nrm, AV.content, cmpV_or])
end Go.FE
