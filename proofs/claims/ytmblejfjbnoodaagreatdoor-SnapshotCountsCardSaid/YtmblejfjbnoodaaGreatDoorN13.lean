/- Rows. -/
import Derived.Test.YtmblejfjbnoodaaGreatDoorN09
import Derived.Test.YtmblejfjbnoodaaGreatDoorN12
set_option linter.unusedVariables false
set_option linter.unusedSimpArgs false
namespace Go.FE
open Go.Proofs
theorem nf4 {α : Type} {a b : α} (h : a = b := by simp only [goP, goN, mrk, Nat.reduceMul, Nat.one_mul, Nat.mul_one, eq_self, false_implies, implies_true, Nat.reduceLT, List.getElem?_toArray, isCall, List.contains_nil, List.contains_cons, Nat.reduceBEq, Bool.or_false, Bool.or_self, List.length_map, gOf, step, stepM, stepP, ev, okV, if_true, if_false, allocA, storeA, boxA, one1, tokN, tok1, buildA, rowA, nrmP, partV, partA, fieldA, fieldV, elemA, lenA, bltA, asSl, appA, makeA, makeR, cutA, bndA, binV, intOp, strOp, unV, eqB, nilB, sameT, List.all_cons, List.all_nil, Bool.and_self, Bool.and_true, Bool.true_and, List.map_cons, List.map_nil, List.nil_append, List.cons_append, List.append_nil, AV.bare, AV.content, AV.clean, AV.one, putD, List.set_cons_zero, List.set_cons_succ, List.reverse_cons, List.reverse_nil, List.getD_cons_zero, List.getD_cons_succ, List.getElem?_cons_zero, List.getElem?_cons_succ, Option.getD_some, Option.map_some, Option.map_none, Option.bind_some, List.length_cons, List.length_nil, lk, cellsA, fillA, fillS, isAggD, spl, nrm, nrmA, List.take_succ_cons, List.take_zero, List.drop_succ_cons, List.drop_zero, List.drop_nil, List.take_nil, Nat.reduceAdd, Nat.zero_add, Nat.add_zero, Nat.add_assoc, Nat.add_left_cancel_iff, reduceCtorEq, Prod.mk.injEq, List.cons.injEq, and_self, and_true, true_and, Nat.le_refl, Nat.reduceLeDiff, Nat.reduceEqDiff, List.getElem?_nil, Int.reduceToNat, Int.reduceLE, Int.reduceLT, ite_self, List.forall_mem_cons, List.not_mem_nil, false_and, and_false, Bool.false_eq_true, List.replicate_zero, List.replicate_succ, Int.toNat_natCast, neJ2, neJ2', neJ3, neJ3', callOf, callOf2, fnOf, argsA, args2, Array.isEmpty_empty, resLL, resVL, beq_self_eq_true, st3, zt3, it3, ct3, se3, Tryz.underlying3, st4, zt4, it4, ct4, se4, Tryz.underlying4, st9, zt9, it9, ct9, se9, Tryz.underlying9, st25, zt25, it25, ct25, pt25, eqs25, se25, Tryz.underlying25, st49, zt49, it49, ct49, se49, Tryz.underlying49, Tryz.results98, st121, Tryz.underlying121, Tryz.results174, Tryz.results134, Tryz.results105, Tryz.results61, Tryz.results92, Tryz.results63, st22, zt22, it22, ct22, se22, Tryz.underlying22, Tryz.results55, Int.natCast_nonneg, Tryz.results20, U.out] <;> rfl) : a = b := h
theorem map_take_succ {α β : Type} {l : List α} {f : α → β} {i : Nat} (h : i < l.length) : (l.take (i + 1)).map f = (l.take i).map f ++ [f l[i]] := by
  rw [List.take_succ_eq_append_getElem h, List.map_append]; rfl
theorem map_take_full {α β : Type} {l : List α} {f : α → β} {i : Nat} (h : l.length ≤ i) : (l.take i).map f = l.map f := by rw [List.take_of_length_le h]
/-- The order of rows. -/
def cmpR : Row → Row → Int
  | [], [] => 0
  | [], _ :: _ => -1
  | _ :: _, [] => 1
  | x :: a, y :: b => if cmpV x y != 0 then cmpV x y else cmpR a b
theorem cmpR_at {a b : Row} {i : Nat} (h : i < a.length) (h' : i < b.length) : cmpR (a.drop i) (b.drop i) = if cmpV a[i] b[i] != 0 then cmpV a[i] b[i] else cmpR (a.drop (i + 1)) (b.drop (i + 1)) := by
  rw [List.drop_eq_getElem_cons h, List.drop_eq_getElem_cons h', cmpR]
theorem cmpR_end {a b : Row} {i : Nat} (h : ¬ (i < a.length ∧ i < b.length)) (hi : i ≤ a.length ∧ i ≤ b.length) : cmpR (a.drop i) (b.drop i) = if a.length < b.length then -1 else if b.length < a.length then 1 else 0 := by
  rcases Nat.lt_or_ge i a.length with h1 | h1
  · have h2 : b.length ≤ i := by omega
    rw [List.drop_of_length_le h2, List.drop_eq_getElem_cons h1, cmpR, if_neg (by omega), if_pos (by omega)]
  · rw [List.drop_of_length_le h1]
    rcases Nat.lt_or_ge i b.length with h2 | h2
    · rw [List.drop_eq_getElem_cons h2, cmpR, if_pos (by omega)]
    · rw [List.drop_of_length_le h2, cmpR, if_neg (by omega), if_neg (by omega)]
theorem row_len {r : Row} {args : List AV} (h : ∀ q ∈ args, q.bd 1) (hm : aRow r ∈ args) : r.length ≤ maxLen := by have := (h _ hm).1; simpa using this
theorem rg98v4 {T : List Rid} {p : Path} {Q : Exit → SL → Prop} {tm : List AV} {L : RL} {n : Nat} {c : Code} {l : List Oper} (n' : Nat) (Qs : List Nat) (h : ∀ all, (ro c).toList = all → GoI Tryz.prog T p all false Qs n 0 l tm L fun tm' L' => Q .normal ⟨tm', L', n'⟩) (hk : kd c = 0 := by kernel_rfl) (hr : rd c = false := by kernel_rfl) (hl : (ro c).toList = l := by dsimp only [ro, s1, s2, c1, c2, bc, bod, Tryz.f98, Option.getD_some] <;> exact rfl) (hn : n + (ro c).size = n' := by kernel_rfl) : PI Tryz.prog T p c Q ⟨tm, L, n⟩ := PI.rg n' Qs hk hr hl (fun h => by cases h) hn (h _ rfl)
theorem rd98v4 {T : List Rid} {p : Path} {Q : Exit → SL → Prop} {tm : List AV} {L : RL} {n : Nat} {c : Code} {l : List Oper} (n' : Nat) (Qs : List Nat) (h : ∀ all, (ro c).toList = all → GoI Tryz.prog T p all true Qs n 0 l tm L fun tm' L' => Q .normal ⟨tm', L', n'⟩) (hk : kd c = 0 := by kernel_rfl) (hr : rd c = true := by kernel_rfl) (hl : (ro c).toList = l := by dsimp only [ro, s1, s2, c1, c2, bc, bod, Tryz.f98, Option.getD_some] <;> exact rfl) (hn : n + (ro c).size = n' := by kernel_rfl) (hd : drawOK (ro c) Qs = true := by kernel_rfl) : PI Tryz.prog T p c Q ⟨tm, L, n⟩ := PI.rg n' Qs hk hr hl (fun _ => hd) hn (h _ rfl)
set_option maxRecDepth 100000 in
theorem okCmpR' (a b : Row) : CallsOK Tryz.prog 98 [aRow a, aRow b] (aI (cmpR a b)) := by
  refine CallsOK.bd (by kernel_rfl) 1 fun hbd => ?_
  have hl : a.length ≤ maxLen := row_len hbd (by simp)
  have h0 : cmpR a b = cmpR (a.drop 0) (b.drop 0) := by simp
  have U : Hid True := ⟨trivial⟩
  refine CallsOK.of_pi mixed Tryz.func98 (by kernel_rfl) (by kernel_rfl) (?_ : PI _ _ _ _ _ ⟨[aRow a, aRow b, .und, .und, .und, .und, .und, .und, .und, .und, .und, .und, .und, .und, .und, .und, .und, .und, .und, .und, .und, .und, .und, .und, .und, .und, .und, .und, .und, .und, .und, .und, .und, .und, .und, .und, .und, .und, .und, .und, .und], [], 0⟩)
  refine PI.q ?_
  refine rg98v4 (1) [] fun all1 _ => ?_
  refine GoI.z nf4 ?_
  refine PI.q ?_
  refine PI.q ?_
  refine rg98v4 (2) [] fun all2 _ => ?_
  refine GoI.z nf4 ?_
  refine PI.b 0 ?_
  refine PI.lo (by kernel_rfl) (X := Nat) (fun i => (5, aI i) :: uk [4, 6, 7, 8, 9, 10, 11, 12, 13, 14, 15, 16, 17, 18, 19, 20, 21, 22, 23, 24, 25, 26, 27, 28, 29, 30]) (fun _ => []) (fun k i => k = a.length - i ∧ i ≤ a.length ∧ i ≤ b.length ∧ cmpR a b = cmpR (a.drop i) (b.drop i)) (a.length) (0) (GhI.of_wk ⟨by simp [ovr, uk, lessT, neJ2, neJ2', neJ3, neJ3'], by simp [lessR, lk, neJ2, neJ2', neJ3, neJ3'], by (try dsimp only); omega, keep0⟩) (by simp) ?_
  intro k1 x1 j1 hr1
  obtain ⟨rfl, hi1, hi2, ha⟩ := hr1
  simp only [ovr, uk, List.set_cons_zero, List.set_cons_succ]
  refine PI.q ?_
  refine PI.q ?_
  refine rg98v4 (j1 + 12) [] fun all3 hall3 => ?_
  have hgd3_4 : (all3[4]?).bind (fun o => o.dst) = some 11 := by rw [← hall3]; kernel_rfl
  replace U := U.cons (hgd3_4)
  refine GoI.runN 2 nf4 ?_
  refine GoI.runN 2 nf4 ?_
  refine GoI.runN 1 nf4 ?_
  refine GoI.grd 11 nf4 (fun hg1 => ?_) (fun hg1 => ?_)
  ·
   try simp only [hg1]
   refine GoI.runN 2 nf4 ?_
   refine GoI.runN 2 nf4 ?_
   refine GoI.z nf4 ?_
   refine PI.d 16 nf4 (fun hb1 => ?_) (fun hb1 => ?_)
   ·
    try simp only [hb1]
    obtain ⟨hlt, hw⟩ := up hg1 hl
    have hlt' : x1 < b.length := by simpa using hb1
    have hx := row_at hlt
    have hy := row_at hlt'
    have hstep := cmpR_at hlt hlt'
    replace U := U.cons (And.intro (hw) (And.intro (hx) (hy)))
    refine PI.s ?_
    refine PI.q ?_
    refine PI.b 1 ?_
    refine PI.q ?_
    refine rd98v4 (j1 + 22) [] fun all4 _ => ?_
    refine GoI.runN 2 nf4 ?_
    refine GoI.runN 2 nf4 ?_
    refine GoI.runN 2 nf4 ?_
    refine GoI.runN 2 nf4 ?_
    refine GoI.call nf4 nf4 (by exact okCmpV' _ _) ?_
    refine GoI.z nf4 ?_
    refine PI.q ?_
    refine rg98v4 (j1 + 24) [] fun all5 _ => ?_
    refine GoI.z nf4 ?_
    refine PI.d 29 nf4 (fun hb2 => ?_) (fun hb2 => ?_)
    ·
     try simp only [hb2]
     refine PI.q ?_
     refine rg98v4 (j1 + 26) [] fun all6 _ => ?_
     refine GoI.z nf4 ?_
     refine PI.r ?_
     exact FinI.mk _ nf4 (by clear U; first | (rw [ha, hstep, hb2]; rfl) | (rw [ha, cmpR_end (by simp at *; omega) ⟨hi1, hi2⟩]; simp at *; simp [finR, nrmA, nrm, AV.content]; (repeat' split) <;> omega))
    try simp only [hb2]
    refine PI.s ?_
    refine rg98v4 (j1 + 27) [] fun all7 _ => ?_
    refine GoI.runN 2 nf4 ?_
    refine GoI.z nf4 ?_
    refine ⟨a.length - (x1 + 1), x1 + 1, j1 + 25, by omega, ⟨rfl, by omega, by omega, by rw [ha, hstep, hb2]; rfl⟩, GhI.of_wk ⟨by simp [ovr, uk, lessT, neJ2, neJ2', neJ3, neJ3'], by simp [lessR, lk, neJ2, neJ2', neJ3, neJ3'], by (try dsimp only); omega, keep0⟩⟩
   try simp only [hb1]
   refine PI.e 0 ?_
   refine PI.q ?_
   refine PI.q ?_
   refine rg98v4 (j1 + 17) [] fun all8 _ => ?_
   refine GoI.runN 2 nf4 ?_
   refine GoI.runN 2 nf4 ?_
   refine GoI.z nf4 ?_
   refine PI.d 35 nf4 (fun hb3 => ?_) (fun hb3 => ?_)
   ·
    try simp only [hb3]
    refine PI.q ?_
    refine rg98v4 (j1 + 18) [] fun all9 _ => ?_
    refine GoI.z nf4 ?_
    refine PI.r ?_
    exact FinI.mk _ nf4 (by clear U; first | (rw [ha, hstep, hb2]; rfl) | (rw [ha, cmpR_end (by simp at *; omega) ⟨hi1, hi2⟩]; simp at *; simp [finR, nrmA, nrm, AV.content]; (repeat' split) <;> omega))
   try simp only [hb3]
   refine PI.s ?_
   refine PI.q ?_
   refine PI.q ?_
   refine rg98v4 (j1 + 22) [] fun all10 _ => ?_
   refine GoI.runN 2 nf4 ?_
   refine GoI.runN 2 nf4 ?_
   refine GoI.z nf4 ?_
   refine PI.d 40 nf4 (fun hb4 => ?_) (fun hb4 => ?_)
   ·
    try simp only [hb4]
    refine PI.q ?_
    refine rg98v4 (j1 + 23) [] fun all11 _ => ?_
    refine GoI.z nf4 ?_
    refine PI.r ?_
    exact FinI.mk _ nf4 (by clear U; first | (rw [ha, hstep, hb2]; rfl) | (rw [ha, cmpR_end (by simp at *; omega) ⟨hi1, hi2⟩]; simp at *; simp [finR, nrmA, nrm, AV.content]; (repeat' split) <;> omega))
   try simp only [hb4]
   refine PI.s ?_
   refine PI.q ?_
   refine rg98v4 (j1 + 23) [] fun all12 _ => ?_
   refine GoI.z nf4 ?_
   refine PI.r ?_
   exact FinI.mk _ nf4 (by clear U; first | (rw [ha, hstep, hb2]; rfl) | (rw [ha, cmpR_end (by simp at *; omega) ⟨hi1, hi2⟩]; simp at *; simp [finR, nrmA, nrm, AV.content]; (repeat' split) <;> omega))
  try simp only [hg1]
  refine GoI.runN 2 nf4 ?_
  refine GoI.runN 2 nf4 ?_
  refine GoI.z nf4 ?_
  refine PI.f 16 nf4 ?_
  refine PI.e 0 ?_
  refine PI.q ?_
  refine PI.q ?_
  refine rg98v4 (j1 + 17) [] fun all8 _ => ?_
  refine GoI.runN 2 nf4 ?_
  refine GoI.runN 2 nf4 ?_
  refine GoI.z nf4 ?_
  refine PI.d 35 nf4 (fun hb3 => ?_) (fun hb3 => ?_)
  ·
   try simp only [hb3]
   refine PI.q ?_
   refine rg98v4 (j1 + 18) [] fun all9 _ => ?_
   refine GoI.z nf4 ?_
   refine PI.r ?_
   exact FinI.mk _ nf4 (by clear U; first | (rw [ha, hstep, hb2]; rfl) | (rw [ha, cmpR_end (by simp at *; omega) ⟨hi1, hi2⟩]; simp at *; simp [finR, nrmA, nrm, AV.content]; (repeat' split) <;> omega))
  try simp only [hb3]
  refine PI.s ?_
  refine PI.q ?_
  refine PI.q ?_
  refine rg98v4 (j1 + 22) [] fun all10 _ => ?_
  refine GoI.runN 2 nf4 ?_
  refine GoI.runN 2 nf4 ?_
  refine GoI.z nf4 ?_
  refine PI.d 40 nf4 (fun hb4 => ?_) (fun hb4 => ?_)
  ·
   try simp only [hb4]
   refine PI.q ?_
   refine rg98v4 (j1 + 23) [] fun all11 _ => ?_
   refine GoI.z nf4 ?_
   refine PI.r ?_
   exact FinI.mk _ nf4 (by clear U; first | (rw [ha, hstep, hb2]; rfl) | (rw [ha, cmpR_end (by simp at *; omega) ⟨hi1, hi2⟩]; simp at *; simp [finR, nrmA, nrm, AV.content]; (repeat' split) <;> omega))
  try simp only [hb4]
  refine PI.s ?_
  refine PI.q ?_
  refine rg98v4 (j1 + 23) [] fun all12 _ => ?_
  refine GoI.z nf4 ?_
  refine PI.r ?_
  exact FinI.mk _ nf4 (by clear U; first | (rw [ha, hstep, hb2]; rfl) | (rw [ha, cmpR_end (by simp at *; omega) ⟨hi1, hi2⟩]; simp at *; simp [finR, nrmA, nrm, AV.content]; (repeat' split) <;> omega))
abbrev aFn (f : FuncId) : AV := .v (.func (.func f) #[] #[])
theorem rg174v4 {T : List Rid} {p : Path} {Q : Exit → SL → Prop} {tm : List AV} {L : RL} {n : Nat} {c : Code} {l : List Oper} (n' : Nat) (Qs : List Nat) (h : ∀ all, (ro c).toList = all → GoI Tryz.prog T p all false Qs n 0 l tm L fun tm' L' => Q .normal ⟨tm', L', n'⟩) (hk : kd c = 0 := by kernel_rfl) (hr : rd c = false := by kernel_rfl) (hl : (ro c).toList = l := by dsimp only [ro, s1, s2, c1, c2, bc, bod, Tryz.f174, Option.getD_some] <;> exact rfl) (hn : n + (ro c).size = n' := by kernel_rfl) : PI Tryz.prog T p c Q ⟨tm, L, n⟩ := PI.rg n' Qs hk hr hl (fun h => by cases h) hn (h _ rfl)
set_option maxRecDepth 100000 in
theorem okCompareFunc (a b : Row) : CallsOK Tryz.prog 174 [aRow a, aRow b, aFn 96] (aI (cmpR a b)) := by
  refine CallsOK.bd (by kernel_rfl) 1 fun hbd => ?_
  have hl : a.length ≤ maxLen := row_len hbd (by simp)
  have h0 : cmpR a b = cmpR (a.drop 0) (b.drop 0) := by simp
  have U : Hid True := ⟨trivial⟩
  refine CallsOK.of_pi mixed Tryz.func174 (by kernel_rfl) (by kernel_rfl) (?_ : PI _ _ _ _ _ ⟨[aRow a, aRow b, aFn 96, .und, .und, .und, .und, .und, .und, .und, .und, .und, .und, .und, .und, .und, .und, .und, .und, .und, .und, .und, .und, .und, .und, .und, .und, .und, .und, .und, .und, .und, .und, .und, .und, .und, .und, .und, .und], [], 0⟩)
  refine PI.q ?_
  refine rg174v4 (1) [] fun all1 _ => ?_
  refine GoI.z nf4 ?_
  refine PI.q ?_
  refine PI.q ?_
  refine rg174v4 (4) [] fun all2 _ => ?_
  refine GoI.runN 2 nf4 ?_
  refine GoI.z nf4 ?_
  refine PI.b 0 ?_
  refine PI.lo (by kernel_rfl) (X := Nat) (fun i => (13, aI i) :: uk [6, 7, 8, 9, 10, 14, 15, 16, 17, 18, 19, 20, 21, 22, 23, 24, 25, 26, 27, 28, 29, 30, 31, 32, 33]) (fun _ => []) (fun k i => k = a.length - i ∧ i ≤ a.length ∧ i ≤ b.length ∧ cmpR a b = cmpR (a.drop i) (b.drop i)) (a.length) (0) (GhI.of_wk ⟨by simp [ovr, uk, lessT, neJ2, neJ2', neJ3, neJ3'], by simp [lessR, lk, neJ2, neJ2', neJ3, neJ3'], by (try dsimp only); omega, keep0⟩) (by simp) ?_
  intro k1 x1 j1 hr1
  obtain ⟨rfl, hi1, hi2, ha⟩ := hr1
  simp only [ovr, uk, List.set_cons_zero, List.set_cons_succ]
  refine PI.q ?_
  refine rg174v4 (j1 + 5) [] fun all3 _ => ?_
  refine GoI.z nf4 ?_
  refine PI.q ?_
  refine PI.d 14 nf4 (fun hb1 => ?_) (fun hb1 => ?_)
  ·
   try simp only [hb1]
   obtain ⟨hlt, hw⟩ := up hb1 hl
   have hx := row_at hlt
   replace U := U.cons (And.intro (hw) (hx))
   refine PI.s ?_
   refine PI.q ?_
   refine PI.b 1 ?_
   refine PI.q ?_
   refine rg174v4 (j1 + 11) [] fun all4 _ => ?_
   refine GoI.runN 2 nf4 ?_
   refine GoI.runN 2 nf4 ?_
   refine GoI.z nf4 ?_
   refine PI.q ?_
   refine PI.q ?_
   refine rg174v4 (j1 + 15) [] fun all5 _ => ?_
   refine GoI.runN 2 nf4 ?_
   refine GoI.z nf4 ?_
   refine PI.d 21 nf4 (fun hb2 => ?_) (fun hb2 => ?_)
   ·
    try simp only [hb2]
    refine PI.q ?_
    refine rg174v4 (j1 + 16) [] fun all6 _ => ?_
    refine GoI.z nf4 ?_
    refine PI.r ?_
    exact FinI.mk _ nf4 (by clear U; first | (rw [ha, hstep, hb3]; rfl) | (rw [ha, cmpR_end (by simp at *; omega) ⟨hi1, hi2⟩]; simp at *; simp [finR, nrmA, nrm, AV.content]; (repeat' split) <;> omega))
   try simp only [hb2]
   have hlt' : x1 < b.length := by simp at hb2; omega
   have hy := row_at hlt'
   have hstep := cmpR_at hlt hlt'
   replace U := U.cons (hy)
   refine PI.s ?_
   refine PI.q ?_
   refine rg174v4 (j1 + 21) [] fun all7 _ => ?_
   refine GoI.runN 2 nf4 ?_
   refine GoI.runN 2 nf4 ?_
   refine GoI.z nf4 ?_
   refine PI.q ?_
   refine rg174v4 (j1 + 26) [] fun all8 _ => ?_
   refine GoI.runN 2 nf4 ?_
   refine GoI.run nf4 ?_
   refine GoI.call nf4 nf4 (by exact okCmpV _ _) ?_
   refine GoI.z nf4 ?_
   refine PI.q ?_
   refine rg174v4 (j1 + 28) [] fun all9 _ => ?_
   refine GoI.z nf4 ?_
   refine PI.d 31 nf4 (fun hb3 => ?_) (fun hb3 => ?_)
   ·
    try simp only [hb3]
    refine PI.q ?_
    refine rg174v4 (j1 + 30) [] fun all10 _ => ?_
    refine GoI.z nf4 ?_
    refine PI.r ?_
    exact FinI.mk _ nf4 (by clear U; first | (rw [ha, hstep, hb3]; rfl) | (rw [ha, cmpR_end (by simp at *; omega) ⟨hi1, hi2⟩]; simp at *; simp [finR, nrmA, nrm, AV.content]; (repeat' split) <;> omega))
   try simp only [hb3]
   refine PI.s ?_
   refine rg174v4 (j1 + 30) [] fun all11 _ => ?_
   refine GoI.z nf4 ?_
   refine ⟨a.length - (x1 + 1), x1 + 1, j1 + 26, by omega, ⟨rfl, by omega, by omega, by rw [ha, hstep, hb3]; rfl⟩, GhI.of_wk ⟨by simp [ovr, uk, lessT, neJ2, neJ2', neJ3, neJ3'], by simp [lessR, lk, neJ2, neJ2', neJ3, neJ3'], by (try dsimp only); omega, keep0⟩⟩
  try simp only [hb1]
  refine PI.e 0 ?_
  refine PI.q ?_
  refine PI.q ?_
  refine rg174v4 (j1 + 10) [] fun all12 _ => ?_
  refine GoI.runN 2 nf4 ?_
  refine GoI.runN 2 nf4 ?_
  refine GoI.z nf4 ?_
  refine PI.d 38 nf4 (fun hb4 => ?_) (fun hb4 => ?_)
  ·
   try simp only [hb4]
   refine PI.q ?_
   refine rg174v4 (j1 + 11) [] fun all13 _ => ?_
   refine GoI.z nf4 ?_
   refine PI.r ?_
   exact FinI.mk _ nf4 (by clear U; first | (rw [ha, hstep, hb3]; rfl) | (rw [ha, cmpR_end (by simp at *; omega) ⟨hi1, hi2⟩]; simp at *; simp [finR, nrmA, nrm, AV.content]; (repeat' split) <;> omega))
  try simp only [hb4]
  refine PI.s ?_
  refine PI.q ?_
  refine rg174v4 (j1 + 11) [] fun all14 _ => ?_
  refine GoI.z nf4 ?_
  refine PI.r ?_
  exact FinI.mk _ nf4 (by clear U; first | (rw [ha, hstep, hb3]; rfl) | (rw [ha, cmpR_end (by simp at *; omega) ⟨hi1, hi2⟩]; simp at *; simp [finR, nrmA, nrm, AV.content]; (repeat' split) <;> omega))
theorem rg134v4 {T : List Rid} {p : Path} {Q : Exit → SL → Prop} {tm : List AV} {L : RL} {n : Nat} {c : Code} {l : List Oper} (n' : Nat) (Qs : List Nat) (h : ∀ all, (ro c).toList = all → GoI Tryz.prog T p all false Qs n 0 l tm L fun tm' L' => Q .normal ⟨tm', L', n'⟩) (hk : kd c = 0 := by kernel_rfl) (hr : rd c = false := by kernel_rfl) (hl : (ro c).toList = l := by dsimp only [ro, s1, s2, c1, c2, bc, bod, Tryz.f134, Option.getD_some] <;> exact rfl) (hn : n + (ro c).size = n' := by kernel_rfl) : PI Tryz.prog T p c Q ⟨tm, L, n⟩ := PI.rg n' Qs hk hr hl (fun h => by cases h) hn (h _ rfl)
theorem okCmpR (a b : Row) : CallsOK Tryz.prog 134 [aRow a, aRow b] (aI (cmpR a b)) := by
  have U : Hid True := ⟨trivial⟩
  refine CallsOK.of_pi mixed Tryz.func134 (by kernel_rfl) (by kernel_rfl) (?_ : PI _ _ _ _ _ ⟨[aRow a, aRow b, .und, .und, .und, .und, .und, .und], [], 0⟩)
  refine PI.q ?_
  refine rg134v4 (1) [] fun all1 _ => ?_
  refine GoI.z nf4 ?_
  refine PI.q ?_
  refine rg134v4 (5) [] fun all2 _ => ?_
  refine GoI.runN 2 nf4 ?_
  refine GoI.call nf4 nf4 (by exact okCompareFunc a b) ?_
  refine GoI.z nf4 ?_
  refine PI.r ?_
  exact FinI.mk _ nf4 (by clear U; rfl)
def eqR (a b : Row) : Bool := cmpR a b == 0
theorem rg61v4 {T : List Rid} {p : Path} {Q : Exit → SL → Prop} {tm : List AV} {L : RL} {n : Nat} {c : Code} {l : List Oper} (n' : Nat) (Qs : List Nat) (h : ∀ all, (ro c).toList = all → GoI Tryz.prog T p all false Qs n 0 l tm L fun tm' L' => Q .normal ⟨tm', L', n'⟩) (hk : kd c = 0 := by kernel_rfl) (hr : rd c = false := by kernel_rfl) (hl : (ro c).toList = l := by dsimp only [ro, s1, s2, c1, c2, bc, bod, Tryz.f61, Option.getD_some] <;> exact rfl) (hn : n + (ro c).size = n' := by kernel_rfl) : PI Tryz.prog T p c Q ⟨tm, L, n⟩ := PI.rg n' Qs hk hr hl (fun h => by cases h) hn (h _ rfl)
theorem okEqR' (a b : Row) : CallsOK Tryz.prog 61 [aRow a, aRow b] (aB (eqR a b)) := by
  have U : Hid True := ⟨trivial⟩
  refine CallsOK.of_pi mixed Tryz.func61 (by kernel_rfl) (by kernel_rfl) (?_ : PI _ _ _ _ _ ⟨[aRow a, aRow b, .und, .und, .und, .und, .und, .und, .und], [], 0⟩)
  refine PI.q ?_
  refine rg61v4 (1) [] fun all1 _ => ?_
  refine GoI.z nf4 ?_
  refine PI.q ?_
  refine rg61v4 (6) [] fun all2 _ => ?_
  refine GoI.runN 2 nf4 ?_
  refine GoI.call nf4 nf4 (by exact okCmpR' a b) ?_
  refine GoI.z nf4 ?_
  refine PI.r ?_
  exact FinI.mk _ nf4 (by clear U; rfl)
/-- A row's column; a null where there is none. -/
def atR (r : Row) (i : Int) : Vl := if decide (i < 0) || decide (i ≥ r.length) then nullV else r.getD i.toNat nullV
theorem atR_in {r : Row} {i : Int} (h : ¬ i < 0) (h' : ¬ i ≥ r.length) : (r.map encV)[i.toNat]? = some (encV (atR r i)) := by
  have hlt : i.toNat < r.length := by omega
  have : atR r i = r[i.toNat] := by
    unfold atR
    rw [if_neg (by simp; omega)]
    simp [List.getD_eq_getElem?_getD, hlt]
  rw [this]; exact row_at hlt
theorem rg92v4 {T : List Rid} {p : Path} {Q : Exit → SL → Prop} {tm : List AV} {L : RL} {n : Nat} {c : Code} {l : List Oper} (n' : Nat) (Qs : List Nat) (h : ∀ all, (ro c).toList = all → GoI Tryz.prog T p all false Qs n 0 l tm L fun tm' L' => Q .normal ⟨tm', L', n'⟩) (hk : kd c = 0 := by kernel_rfl) (hr : rd c = false := by kernel_rfl) (hl : (ro c).toList = l := by dsimp only [ro, s1, s2, c1, c2, bc, bod, Tryz.f92, Option.getD_some] <;> exact rfl) (hn : n + (ro c).size = n' := by kernel_rfl) : PI Tryz.prog T p c Q ⟨tm, L, n⟩ := PI.rg n' Qs hk hr hl (fun h => by cases h) hn (h _ rfl)
set_option maxRecDepth 100000 in
theorem okAt (r : Row) (i : Int) : CallsOK Tryz.prog 92 [aRow r, aI i] (aVal (atR r i)) := by
  have U : Hid True := ⟨trivial⟩
  refine CallsOK.of_pi mixed Tryz.func92 (by kernel_rfl) (by kernel_rfl) (?_ : PI _ _ _ _ _ ⟨[aRow r, aI i, .und, .und, .und, .und, .und, .und, .und, .und, .und, .und, .und, .und, .und, .und, .und, .und], [], 0⟩)
  refine PI.q ?_
  refine rg92v4 (1) [] fun all1 _ => ?_
  refine GoI.z nf4 ?_
  refine PI.q ?_
  refine PI.q ?_
  refine rg92v4 (9) [] fun all2 hall2 => ?_
  have hgd2_2 : (all2[2]?).bind (fun o => o.dst) = some 7 := by rw [← hall2]; kernel_rfl
  replace U := U.cons (hgd2_2)
  refine GoI.runN 2 nf4 ?_
  refine GoI.runN 1 nf4 ?_
  refine GoI.grd 7 nf4 (fun hg1 => ?_) (fun hg1 => ?_)
  ·
   try simp only [hg1]
   refine GoI.runN 2 nf4 ?_
   refine GoI.runN 2 nf4 ?_
   refine GoI.z nf4 ?_
   refine PI.t 12 nf4 ?_
   refine PI.q ?_
   refine rg92v4 (11) [] fun all3 _ => ?_
   refine GoI.call nf4 nf4 (by exact okNull) ?_
   refine GoI.z nf4 ?_
   refine PI.r ?_
   exact FinI.mk _ nf4 (by clear U; first | rfl | (simp only [atR, hg1, Bool.true_or, if_true]; rfl) | (simp only [atR, hg1, hb1, Bool.or_true, if_true]; rfl))
  try simp only [hg1]
  refine GoI.runN 2 nf4 ?_
  refine GoI.runN 2 nf4 ?_
  refine GoI.z nf4 ?_
  refine PI.d 12 nf4 (fun hb1 => ?_) (fun hb1 => ?_)
  ·
   try simp only [hb1]
   refine PI.q ?_
   refine rg92v4 (11) [] fun all3 _ => ?_
   refine GoI.call nf4 nf4 (by exact okNull) ?_
   refine GoI.z nf4 ?_
   refine PI.r ?_
   exact FinI.mk _ nf4 (by clear U; first | rfl | (simp only [atR, hg1, Bool.true_or, if_true]; rfl) | (simp only [atR, hg1, hb1, Bool.or_true, if_true]; rfl))
  try simp only [hb1]
  have hi0 : ¬ i < 0 := by simpa using hg1
  have hi1 : ¬ i ≥ r.length := by simpa using hb1
  have hx := atR_in hi0 hi1
  have hi2 : 0 ≤ i := by omega
  replace U := U.cons (And.intro (hx) (hi2))
  refine PI.s ?_
  refine PI.q ?_
  refine rg92v4 (14) [] fun all4 _ => ?_
  refine GoI.runN 2 nf4 ?_
  refine GoI.runN 2 nf4 ?_
  refine GoI.z nf4 ?_
  refine PI.r ?_
  exact FinI.mk _ nf4 (by clear U; first | rfl | (simp only [atR, hg1, Bool.true_or, if_true]; rfl) | (simp only [atR, hg1, hb1, Bool.or_true, if_true]; rfl))
theorem rg63v4 {T : List Rid} {p : Path} {Q : Exit → SL → Prop} {tm : List AV} {L : RL} {n : Nat} {c : Code} {l : List Oper} (n' : Nat) (Qs : List Nat) (h : ∀ all, (ro c).toList = all → GoI Tryz.prog T p all false Qs n 0 l tm L fun tm' L' => Q .normal ⟨tm', L', n'⟩) (hk : kd c = 0 := by kernel_rfl) (hr : rd c = false := by kernel_rfl) (hl : (ro c).toList = l := by dsimp only [ro, s1, s2, c1, c2, bc, bod, Tryz.f63, Option.getD_some] <;> exact rfl) (hn : n + (ro c).size = n' := by kernel_rfl) : PI Tryz.prog T p c Q ⟨tm, L, n⟩ := PI.rg n' Qs hk hr hl (fun h => by cases h) hn (h _ rfl)
set_option maxRecDepth 100000 in
theorem okAt' (r : Row) (i : Int) : CallsOK Tryz.prog 63 [aRow r, aI i] (aVal (atR r i)) := by
  have U : Hid True := ⟨trivial⟩
  refine CallsOK.of_pi mixed Tryz.func63 (by kernel_rfl) (by kernel_rfl) (?_ : PI _ _ _ _ _ ⟨[aRow r, aI i, .und, .und, .und, .und, .und, .und, .und, .und, .und, .und, .und, .und, .und, .und, .und, .und], [], 0⟩)
  refine PI.q ?_
  refine rg63v4 (1) [] fun all1 _ => ?_
  refine GoI.z nf4 ?_
  refine PI.q ?_
  refine PI.q ?_
  refine rg63v4 (9) [] fun all2 hall2 => ?_
  have hgd2_2 : (all2[2]?).bind (fun o => o.dst) = some 7 := by rw [← hall2]; kernel_rfl
  replace U := U.cons (hgd2_2)
  refine GoI.runN 2 nf4 ?_
  refine GoI.runN 1 nf4 ?_
  refine GoI.grd 7 nf4 (fun hg1 => ?_) (fun hg1 => ?_)
  ·
   try simp only [hg1]
   refine GoI.runN 2 nf4 ?_
   refine GoI.runN 2 nf4 ?_
   refine GoI.z nf4 ?_
   refine PI.t 12 nf4 ?_
   refine PI.q ?_
   refine rg63v4 (11) [] fun all3 _ => ?_
   refine GoI.call nf4 nf4 (by exact okNull') ?_
   refine GoI.z nf4 ?_
   refine PI.r ?_
   exact FinI.mk _ nf4 (by clear U; first | rfl | (simp only [atR, hg1, Bool.true_or, if_true]; rfl) | (simp only [atR, hg1, hb1, Bool.or_true, if_true]; rfl))
  try simp only [hg1]
  refine GoI.runN 2 nf4 ?_
  refine GoI.runN 2 nf4 ?_
  refine GoI.z nf4 ?_
  refine PI.d 12 nf4 (fun hb1 => ?_) (fun hb1 => ?_)
  ·
   try simp only [hb1]
   refine PI.q ?_
   refine rg63v4 (11) [] fun all3 _ => ?_
   refine GoI.call nf4 nf4 (by exact okNull') ?_
   refine GoI.z nf4 ?_
   refine PI.r ?_
   exact FinI.mk _ nf4 (by clear U; first | rfl | (simp only [atR, hg1, Bool.true_or, if_true]; rfl) | (simp only [atR, hg1, hb1, Bool.or_true, if_true]; rfl))
  try simp only [hb1]
  have hi0 : ¬ i < 0 := by simpa using hg1
  have hi1 : ¬ i ≥ r.length := by simpa using hb1
  have hx := atR_in hi0 hi1
  have hi2 : 0 ≤ i := by omega
  replace U := U.cons (And.intro (hx) (hi2))
  refine PI.s ?_
  refine PI.q ?_
  refine rg63v4 (14) [] fun all4 _ => ?_
  refine GoI.runN 2 nf4 ?_
  refine GoI.runN 2 nf4 ?_
  refine GoI.z nf4 ?_
  refine PI.r ?_
  exact FinI.mk _ nf4 (by clear U; first | rfl | (simp only [atR, hg1, Bool.true_or, if_true]; rfl) | (simp only [atR, hg1, hb1, Bool.or_true, if_true]; rfl))
def pickR (r : Row) (l : List Int) : Row := l.map (atR r)
theorem rg55v4 {T : List Rid} {p : Path} {Q : Exit → SL → Prop} {tm : List AV} {L : RL} {n : Nat} {c : Code} {l : List Oper} (n' : Nat) (Qs : List Nat) (h : ∀ all, (ro c).toList = all → GoI Tryz.prog T p all false Qs n 0 l tm L fun tm' L' => Q .normal ⟨tm', L', n'⟩) (hk : kd c = 0 := by kernel_rfl) (hr : rd c = false := by kernel_rfl) (hl : (ro c).toList = l := by dsimp only [ro, s1, s2, c1, c2, bc, bod, Tryz.f55, Option.getD_some] <;> exact rfl) (hn : n + (ro c).size = n' := by kernel_rfl) : PI Tryz.prog T p c Q ⟨tm, L, n⟩ := PI.rg n' Qs hk hr hl (fun h => by cases h) hn (h _ rfl)
set_option maxRecDepth 100000 in
theorem okPick (r : Row) (l : List Int) (hl : l.length ≤ 1000000) : CallsOK Tryz.prog 55 [aRow r, ints l] (aRow (pickR r l)) := by
  have hl1 : l.length ≤ maxLen := Nat.le_trans hl (by decide +kernel)
  have h1 : 32 * l.length ≤ 281474976710656 := by omega
  have h2 : l.length ≤ 9223372036854775807 := by omega
  have U : Hid True := ⟨trivial⟩
  replace U := U.cons (And.intro (h1) (h2))
  refine CallsOK.of_pi mixed Tryz.func55 (by kernel_rfl) (by kernel_rfl) (?_ : PI _ _ _ _ _ ⟨[aRow r, ints l, .und, .und, .und, .und, .und, .und, .und, .und, .und, .und, .und, .und, .und, .und, .und, .und, .und, .und, .und, .und, .und, .und, .und], [], 0⟩)
  refine PI.q ?_
  refine rg55v4 (1) [] fun all1 _ => ?_
  refine GoI.z nf4 ?_
  refine PI.q ?_
  refine rg55v4 (5) [] fun all2 _ => ?_
  refine GoI.runN 2 nf4 ?_
  refine GoI.z nf4 ?_
  refine PI.q ?_
  refine PI.q ?_
  refine rg55v4 (8) [] fun all3 _ => ?_
  refine GoI.runN 2 nf4 ?_
  refine GoI.z nf4 ?_
  refine PI.b 0 ?_
  refine PI.lo (by kernel_rfl) (X := Nat) (fun i => (13, aI i) :: (5, .sl ((l.take i).map fun k => encV (atR r k)) (some (([3], 0), i))) :: uk [7, 14, 15, 16, 17, 18, 19, 20, 21, 22, 23]) (fun i => [(([3], 0), .tok i 25 3)]) (fun k i => k = l.length - i ∧ i ≤ l.length) (l.length) (0) (GhI.of_wk ⟨by simp [ovr, uk, lessT, neJ2, neJ2', neJ3, neJ3'], by simp [lessR, lk, neJ2, neJ2', neJ3, neJ3'], by (try dsimp only); omega, keep0⟩) (by simp) ?_
  intro k1 x1 j1 hr1
  obtain ⟨rfl, hi1⟩ := hr1
  simp only [ovr, uk, List.set_cons_zero, List.set_cons_succ]
  refine PI.q ?_
  refine rg55v4 (j1 + 9) [] fun all4 _ => ?_
  refine GoI.z nf4 ?_
  refine PI.q ?_
  refine PI.d 14 nf4 (fun hb1 => ?_) (fun hb1 => ?_)
  ·
   try simp only [hb1]
   obtain ⟨hlt, hw⟩ := up hb1 hl1
   have hg := ints_at hlt
   have ha : ((l.take x1).length + 1) * 32 ≤ 140737488355328 := by rw [List.length_take]; omega
   have hm := map_take_succ (f := fun k => encV (atR r k)) hlt
   replace U := U.cons (And.intro (hw) (And.intro (hg) (ha)))
   refine PI.s ?_
   refine PI.q ?_
   refine PI.b 1 ?_
   refine PI.q ?_
   refine rg55v4 (j1 + 12) [] fun all5 _ => ?_
   refine GoI.runN 2 nf4 ?_
   refine GoI.z nf4 ?_
   refine rg55v4 (j1 + 19) [] fun all6 _ => ?_
   refine GoI.runN 2 nf4 ?_
   refine GoI.run nf4 ?_
   refine GoI.call nf4 nf4 (by exact okAt r _) ?_
   refine GoI.runN 2 nf4 ?_
   refine GoI.z nf4 ?_
   refine rg55v4 (j1 + 21) [] fun all7 _ => ?_
   refine GoI.z nf4 ?_
   refine ⟨l.length - (x1 + 1), x1 + 1, j1 + 13, by omega, ⟨rfl, by omega⟩, GhI.of_wk ⟨by simp [ovr, uk, lessT, hm], by simp [lessR, lk], by (try dsimp only); omega, keep0⟩⟩
  try simp only [hb1]
  have hge := dn hb1
  refine PI.e 0 ?_
  refine PI.q ?_
  refine rg55v4 (j1 + 11) [] fun all8 _ => ?_
  refine GoI.z nf4 ?_
  refine PI.r ?_
  exact FinI.mk _ nf4 (by clear U; simp [finR, nrmA, nrm, AV.content, pickR, map_take_full hge])
theorem rg20v4 {T : List Rid} {p : Path} {Q : Exit → SL → Prop} {tm : List AV} {L : RL} {n : Nat} {c : Code} {l : List Oper} (n' : Nat) (Qs : List Nat) (h : ∀ all, (ro c).toList = all → GoI Tryz.prog T p all false Qs n 0 l tm L fun tm' L' => Q .normal ⟨tm', L', n'⟩) (hk : kd c = 0 := by kernel_rfl) (hr : rd c = false := by kernel_rfl) (hl : (ro c).toList = l := by dsimp only [ro, s1, s2, c1, c2, bc, bod, Tryz.f20, Option.getD_some] <;> exact rfl) (hn : n + (ro c).size = n' := by kernel_rfl) : PI Tryz.prog T p c Q ⟨tm, L, n⟩ := PI.rg n' Qs hk hr hl (fun h => by cases h) hn (h _ rfl)
set_option maxRecDepth 100000 in
theorem okPick' (r : Row) (l : List Int) (hl : l.length ≤ 1000000) : CallsOK Tryz.prog 20 [aRow r, ints l] (aRow (pickR r l)) := by
  have hl1 : l.length ≤ maxLen := Nat.le_trans hl (by decide +kernel)
  have U : Hid True := ⟨trivial⟩
  refine CallsOK.of_pi mixed Tryz.func20 (by kernel_rfl) (by kernel_rfl) (?_ : PI _ _ _ _ _ ⟨[aRow r, ints l, .und, .und, .und, .und, .und, .und, .und, .und, .und, .und, .und, .und, .und, .und, .und, .und, .und, .und, .und, .und, .und, .und], [], 0⟩)
  refine PI.q ?_
  refine rg20v4 (1) [] fun all1 _ => ?_
  refine GoI.z nf4 ?_
  refine PI.q ?_
  refine rg20v4 (3) [] fun all2 _ => ?_
  refine GoI.z nf4 ?_
  refine PI.q ?_
  refine PI.q ?_
  refine rg20v4 (4) [] fun all3 _ => ?_
  refine GoI.z nf4 ?_
  refine PI.b 0 ?_
  refine PI.lo (by kernel_rfl) (X := Nat) (fun i => (6, aI i) :: (5, .sl ((l.take i).map fun k => encV (atR r k)) (some (([1], 0), i))) :: uk [8, 9, 10, 11, 12, 13, 14, 15, 16, 17, 18, 19, 20, 21, 22]) (fun i => [(([1], 0), .tok i 25 3)]) (fun k i => k = l.length - i ∧ i ≤ l.length) (l.length) (0) (GhI.of_wk ⟨by simp [ovr, uk, lessT, neJ2, neJ2', neJ3, neJ3'], by simp [lessR, lk, neJ2, neJ2', neJ3, neJ3'], by (try dsimp only); omega, keep0⟩) (by simp) ?_
  intro k1 x1 j1 hr1
  obtain ⟨rfl, hi1⟩ := hr1
  simp only [ovr, uk, List.set_cons_zero, List.set_cons_succ]
  refine PI.q ?_
  refine PI.q ?_
  refine rg20v4 (j1 + 8) [] fun all4 _ => ?_
  refine GoI.runN 2 nf4 ?_
  refine GoI.z nf4 ?_
  refine PI.d 11 nf4 (fun hb1 => ?_) (fun hb1 => ?_)
  ·
   try simp only [hb1]
   obtain ⟨hlt, hw⟩ := up hb1 hl1
   have hg := ints_at hlt
   have ha : ((l.take x1).length + 1) * 32 ≤ 140737488355328 := by rw [List.length_take]; omega
   have hm := map_take_succ (f := fun k => encV (atR r k)) hlt
   replace U := U.cons (And.intro (hw) (And.intro (hg) (ha)))
   refine PI.s ?_
   refine PI.q ?_
   refine PI.b 1 ?_
   refine rg20v4 (j1 + 18) [] fun all5 _ => ?_
   refine GoI.runN 2 nf4 ?_
   refine GoI.runN 2 nf4 ?_
   refine GoI.runN 2 nf4 ?_
   refine GoI.call nf4 nf4 (by exact okAt' r _) ?_
   refine GoI.runN 2 nf4 ?_
   refine GoI.z nf4 ?_
   refine rg20v4 (j1 + 21) [] fun all6 _ => ?_
   refine GoI.runN 2 nf4 ?_
   refine GoI.z nf4 ?_
   refine ⟨l.length - (x1 + 1), x1 + 1, j1 + 17, by omega, ⟨rfl, by omega⟩, GhI.of_wk ⟨by simp [ovr, uk, lessT, hm], by simp [lessR, lk], by (try dsimp only); omega, keep0⟩⟩
  try simp only [hb1]
  have hge := dn hb1
  refine PI.e 0 ?_
  refine PI.q ?_
  refine rg20v4 (j1 + 10) [] fun all7 _ => ?_
  refine GoI.z nf4 ?_
  refine PI.r ?_
  exact FinI.mk _ nf4 (by clear U; simp [finR, nrmA, nrm, AV.content, pickR, map_take_full hge])
end Go.FE
