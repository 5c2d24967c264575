/- The kinds of an operator's result, or what is wrong. The document's kinds of an operator's result; nodes. -/
import Derived.Test.YtmblejfjbnoodaaGreatDoorC09
import Derived.Test.YtmblejfjbnoodaaGreatDoorC21
import Derived.Test.YtmblejfjbnoodaaGreatDoorC28
set_option linter.unusedVariables false
set_option linter.unusedSimpArgs false
namespace Go.FE
open Go.Proofs
theorem nfw10 {α : Type} {a b : α} (h : a = b := by simp only [goP, goN, mrk, Nat.reduceMul, Nat.one_mul, Nat.mul_one, eq_self, false_implies, implies_true, Nat.reduceLT, List.getElem?_toArray, isCall, List.contains_nil, List.contains_cons, Nat.reduceBEq, Bool.or_false, Bool.or_self, List.length_map, gOf, step, stepM, stepP, ev, okV, if_true, if_false, allocA, storeA, boxA, one1, tokN, tok1, buildA, rowA, nrmP, partV, partA, fieldA, fieldV, elemA, lenA, bltA, asSl, appA, makeA, makeR, cutA, bndA, binV, intOp, strOp, unV, eqB, nilB, sameT, List.all_cons, List.all_nil, Bool.and_self, Bool.and_true, Bool.true_and, List.map_cons, List.map_nil, List.nil_append, List.cons_append, List.append_nil, AV.bare, AV.content, AV.clean, AV.one, putD, List.set_cons_zero, List.set_cons_succ, List.reverse_cons, List.reverse_nil, List.getD_cons_zero, List.getD_cons_succ, List.getElem?_cons_zero, List.getElem?_cons_succ, Option.getD_some, Option.map_some, Option.map_none, Option.bind_some, List.length_cons, List.length_nil, lk, cellsA, fillA, fillS, isAggD, spl, nrm, nrmA, List.take_succ_cons, List.take_zero, List.drop_succ_cons, List.drop_zero, List.drop_nil, List.take_nil, Nat.reduceAdd, Nat.zero_add, Nat.add_zero, Nat.add_assoc, Nat.add_left_cancel_iff, reduceCtorEq, Prod.mk.injEq, List.cons.injEq, and_self, and_true, true_and, Nat.le_refl, Nat.reduceLeDiff, Nat.reduceEqDiff, List.getElem?_nil, Int.reduceToNat, Int.reduceLE, Int.reduceLT, ite_self, List.forall_mem_cons, List.not_mem_nil, false_and, and_false, Bool.false_eq_true, List.replicate_zero, List.replicate_succ, Int.toNat_natCast, neJ2, neJ2', neJ3, neJ3', callOf, callOf2, fnOf, argsA, args2, Array.isEmpty_empty, resLL, resVL, beq_self_eq_true, st3, zt3, it3, ct3, se3, Tryz.underlying3, st4, zt4, it4, ct4, se4, Tryz.underlying4, st22, zt22, it22, ct22, se22, Tryz.underlying22, st36, zt36, it36, ct36, se36, Tryz.underlying36, Tryz.results83, Tryz.results77, st9, zt9, it9, ct9, se9, Tryz.underlying9, st23, zt23, it23, ct23, se23, Tryz.underlying23, st25, zt25, it25, ct25, pt25, eqs25, se25, Tryz.underlying25, st26, zt26, it26, ct26, se26, Tryz.underlying26, st28, zt28, it28, ct28, pt28, se28, Tryz.underlying28, st29, zt29, it29, ct29, se29, Tryz.underlying29, st30, zt30, it30, ct30, se30, Tryz.underlying30, st32, zt32, it32, ct32, pt32, se32, Tryz.underlying32, st33, zt33, it33, ct33, se33, Tryz.underlying33, st48, zt48, it48, ct48, pt48, eqs48, se48, Tryz.underlying48, st49, zt49, it49, ct49, se49, Tryz.underlying49, Tryz.results123, st37, Tryz.underlying37, Tryz.results49, newB, oldB, decide_true, decide_false, Bool.not_true, Bool.not_false, Bool.true_or, Bool.false_or, Bool.or_true, U.out] <;> rfl) : a = b := h
abbrev aKs (l : List (List Int)) : AV := .sl (l.map fun k => [ints k]) none
theorem kss_at {l : List (List Int)} {i : Nat} (h : i < l.length) : (l.map fun k => [ints k])[i]? = some [ints (l.getD i [])] := by simp [h]
theorem kss_ix {l : List (List Int)} {k : Int} (h0 : 0 ≤ k) (h : k < l.length) : (l.map fun k => [ints k])[k.toNat]? = some [ints (l.getD k.toNat [])] := kss_at (by omega)
theorem rg83w10 {T : List Rid} {p : Path} {Q : Exit → SL → Prop} {tm : List AV} {L : RL} {n : Nat} {c : Code} {l : List Oper} (n' : Nat) (Qs : List Nat) (h : ∀ all, (ro c).toList = all → GoI Tryz.prog T p all false Qs n 0 l tm L fun tm' L' => Q .normal ⟨tm', L', n'⟩) (hk : kd c = 0 := by kernel_rfl) (hr : rd c = false := by kernel_rfl) (hl : (ro c).toList = l := by dsimp only [ro, s1, s2, c1, c2, bc, bod, Tryz.f83, Option.getD_some] <;> exact rfl) (hn : n + (ro c).size = n' := by kernel_rfl) : PI Tryz.prog T p c Q ⟨tm, L, n⟩ := PI.rg n' Qs hk hr hl (fun h => by cases h) hn (h _ rfl)
theorem rd83w10 {T : List Rid} {p : Path} {Q : Exit → SL → Prop} {tm : List AV} {L : RL} {n : Nat} {c : Code} {l : List Oper} (n' : Nat) (Qs : List Nat) (h : ∀ all, (ro c).toList = all → GoI Tryz.prog T p all true Qs n 0 l tm L fun tm' L' => Q .normal ⟨tm', L', n'⟩) (hk : kd c = 0 := by kernel_rfl) (hr : rd c = true := by kernel_rfl) (hl : (ro c).toList = l := by dsimp only [ro, s1, s2, c1, c2, bc, bod, Tryz.f83, Option.getD_some] <;> exact rfl) (hn : n + (ro c).size = n' := by kernel_rfl) (hd : drawOK (ro c) Qs = true := by kernel_rfl) : PI Tryz.prog T p c Q ⟨tm, L, n⟩ := PI.rg n' Qs hk hr hl (fun _ => hd) hn (h _ rfl)
set_option maxRecDepth 100000 in
theorem okEqual (a b : List Int) (hl : a.length ≤ maxLen) : CallsOK Tryz.prog 83 [ints a, ints b] (aI (eqlS a b)) := by
  have U : Hid True := ⟨trivial⟩
  refine CallsOK.of_pi mixed Tryz.func83 (by kernel_rfl) (by kernel_rfl) (?_ : PI _ _ _ _ _ ⟨[ints a, ints b, .und, .und, .und, .und, .und, .und, .und, .und, .und, .und, .und, .und, .und, .und, .und, .und, .und, .und, .und, .und, .und, .und, .und, .und], [], 0⟩)
  refine PI.q ?_
  refine rg83w10 (1) [] fun all1 _ => ?_
  refine GoI.z nfw10 ?_
  refine PI.q ?_
  refine PI.q ?_
  refine rg83w10 (6) [] fun all2 _ => ?_
  refine GoI.runN 2 nfw10 ?_
  refine GoI.runN 2 nfw10 ?_
  refine GoI.z nfw10 ?_
  refine PI.d 10 nfw10 (fun hb1 => ?_) (fun hb1 => ?_)
  ·
   try simp only [hb1]
   have hr : eqlS a b = 13 := by unfold eqlS; rw [if_pos (by simp at hb1; omega)]
   rw [hr]
   refine PI.q ?_
   refine rg83w10 (7) [] fun all3 _ => ?_
   refine GoI.z nfw10 ?_
   refine PI.r ?_
   exact FinI.mk _ nfw10 (by clear U; rfl)
  try simp only [hb1]
  have hlen : a.length = b.length := by simp at hb1; omega
  have hr : eqlS a b = if a == b then 0 else 7 := by unfold eqlS; rw [if_neg (by omega)]
  rw [hr]
  refine PI.s ?_
  refine PI.q ?_
  refine PI.q ?_
  refine rg83w10 (9) [] fun all4 _ => ?_
  refine GoI.runN 2 nfw10 ?_
  refine GoI.z nfw10 ?_
  refine PI.b 0 ?_
  refine PI.lo (by kernel_rfl) (X := Nat) (fun i => (13, aI i) :: uk [4, 5, 14, 15, 16, 17, 18, 19, 20, 21, 22, 23, 24, 25]) (fun _ => []) (fun k i => k = a.length - i ∧ i ≤ a.length ∧ a.take i = b.take i) (a.length) (0) (GhI.of_wk ⟨by simp [ovr, uk, lessT, neJ2, neJ2', neJ3, neJ3'], by simp [lessR, lk, neJ2, neJ2', neJ3, neJ3'], by (try dsimp only); omega, keep0⟩) (by simp) ?_
  intro k1 x1 j1 hr1
  obtain ⟨rfl, hi1, ha⟩ := hr1
  simp only [ovr, uk, List.set_cons_zero, List.set_cons_succ]
  refine PI.q ?_
  refine rg83w10 (j1 + 10) [] fun all5 _ => ?_
  refine GoI.z nfw10 ?_
  refine PI.q ?_
  refine PI.d 14 nfw10 (fun hb2 => ?_) (fun hb2 => ?_)
  ·
   try simp only [hb2]
   obtain ⟨hlt, hw⟩ := up hb2 hl
   have hg := ints_at hlt
   have hlt' : x1 < b.length := by omega
   have hg' := ints_at hlt'
   replace U := U.cons (And.intro (hw) (And.intro (hg) (hg')))
   refine PI.s ?_
   refine PI.q ?_
   refine PI.b 1 ?_
   refine PI.q ?_
   refine rg83w10 (j1 + 12) [] fun all6 _ => ?_
   refine GoI.z nfw10 ?_
   refine PI.q ?_
   refine rd83w10 (j1 + 21) [] fun all7 _ => ?_
   refine GoI.runN 2 nfw10 ?_
   refine GoI.runN 2 nfw10 ?_
   refine GoI.runN 2 nfw10 ?_
   refine GoI.runN 2 nfw10 ?_
   refine GoI.z nfw10 ?_
   refine PI.d 24 nfw10 (fun hb3 => ?_) (fun hb3 => ?_)
   ·
    try simp only [hb3]
    rw [if_neg (by simp; intro h; subst h; simp at hb3)]
    refine PI.q ?_
    refine rg83w10 (j1 + 22) [] fun all8 _ => ?_
    refine GoI.z nfw10 ?_
    refine PI.r ?_
    exact FinI.mk _ nfw10 (by clear U; rfl)
   try simp only [hb3]
   have h3 : a[x1] = b[x1] := by simpa using hb3
   refine PI.s ?_
   refine rg83w10 (j1 + 23) [] fun all9 _ => ?_
   refine GoI.z nfw10 ?_
   refine ⟨a.length - (x1 + 1), x1 + 1, j1 + 14, by omega, ⟨rfl, by omega, by rw [List.take_succ_eq_append_getElem hlt, List.take_succ_eq_append_getElem hlt', ha, h3]⟩, GhI.of_wk ⟨by simp [ovr, uk, lessT, neJ2, neJ2', neJ3, neJ3'], by simp [lessR, lk, neJ2, neJ2', neJ3, neJ3'], by (try dsimp only); omega, keep0⟩⟩
  try simp only [hb2]
  have hx := dn hb2
  rw [List.take_of_length_le (by omega), List.take_of_length_le (by omega)] at ha
  rw [if_pos (by simpa using ha)]
  refine PI.e 0 ?_
  refine PI.q ?_
  refine rg83w10 (j1 + 11) [] fun all10 _ => ?_
  refine GoI.z nfw10 ?_
  refine PI.r ?_
  exact FinI.mk _ nfw10 (by clear U; rfl)
theorem rg77w10 {T : List Rid} {p : Path} {Q : Exit → SL → Prop} {tm : List AV} {L : RL} {n : Nat} {c : Code} {l : List Oper} (n' : Nat) (Qs : List Nat) (h : ∀ all, (ro c).toList = all → GoI Tryz.prog T p all false Qs n 0 l tm L fun tm' L' => Q .normal ⟨tm', L', n'⟩) (hk : kd c = 0 := by kernel_rfl) (hr : rd c = false := by kernel_rfl) (hl : (ro c).toList = l := by dsimp only [ro, s1, s2, c1, c2, bc, bod, Tryz.f77, Option.getD_some] <;> exact rfl) (hn : n + (ro c).size = n' := by kernel_rfl) : PI Tryz.prog T p c Q ⟨tm, L, n⟩ := PI.rg n' Qs hk hr hl (fun h => by cases h) hn (h _ rfl)
set_option maxRecDepth 100000 in
theorem okJoined (a b : List Int) (ha : a.length ≤ 100000) (hb : b.length ≤ 100000) : CallsOK Tryz.prog 77 [ints a, ints b] (ints (a ++ b)) := by
  have U : Hid True := ⟨trivial⟩
  replace U := U.cons (And.intro (rowLen (f := fun k : Int => [aI k]) (n := 1) (fun _ => rfl) a) (And.intro (rowLen (f := fun k : Int => [aI k]) (n := 1) (fun _ => rfl) b) (And.intro ((show a.length * 8 ≤ 140737488355328 by omega)) ((show (a.length + b.length) * 8 ≤ 140737488355328 by omega)))))
  refine CallsOK.of_pi mixed Tryz.func77 (by kernel_rfl) (by kernel_rfl) (?_ : PI _ _ _ _ _ ⟨[ints a, ints b, .und, .und, .und, .und, .und, .und, .und, .und, .und, .und], [], 0⟩)
  refine PI.q ?_
  refine rg77w10 (1) [] fun all1 _ => ?_
  refine GoI.z nfw10 ?_
  refine PI.q ?_
  refine rg77w10 (2) [] fun all2 _ => ?_
  refine GoI.z nfw10 ?_
  refine PI.q ?_
  refine rg77w10 (6) [] fun all3 _ => ?_
  refine GoI.runN 2 nfw10 ?_
  refine GoI.z nfw10 ?_
  refine PI.q ?_
  refine rg77w10 (10) [] fun all4 _ => ?_
  refine GoI.runN 2 nfw10 ?_
  refine GoI.z nfw10 ?_
  refine PI.r ?_
  exact FinI.mk _ nfw10 (by clear U; simp [finR, nrmA, nrm, AV.content])
def scanS (int : Int) (ins : List (List Int)) : List Int × Int := if (decide (int < 0) || decide (int ≥ ins.length)) = true then ([], 6) else if (ins.getD int.toNat []).all kindS = false then ([], 7) else (ins.getD int.toNat [], 0)
theorem rg123w10 {T : List Rid} {p : Path} {Q : Exit → SL → Prop} {tm : List AV} {L : RL} {n : Nat} {c : Code} {l : List Oper} (n' : Nat) (Qs : List Nat) (h : ∀ all, (ro c).toList = all → GoI Tryz.prog T p all false Qs n 0 l tm L fun tm' L' => Q .normal ⟨tm', L', n'⟩) (hk : kd c = 0 := by kernel_rfl) (hr : rd c = false := by kernel_rfl) (hl : (ro c).toList = l := by dsimp only [ro, s1, s2, c1, c2, bc, bod, Tryz.f123, Option.getD_some] <;> exact rfl) (hn : n + (ro c).size = n' := by kernel_rfl) : PI Tryz.prog T p c Q ⟨tm, L, n⟩ := PI.rg n' Qs hk hr hl (fun h => by cases h) hn (h _ rfl)
set_option maxRecDepth 100000 in
theorem okScan (f : PlF) (ins : List (List Int)) : CallsOK Tryz.prog 123 [aP f, aKs ins] (.tup [ints (scanS f.int ins).1, aI (scanS f.int ins).2]) := by
  have U : Hid True := ⟨trivial⟩
  refine CallsOK.of_pi mixed Tryz.func123 (by kernel_rfl) (by kernel_rfl) (?_ : PI _ _ _ _ _ ⟨[aP f, aKs ins, .und, .und, .und, .und, .und, .und, .und, .und, .und, .und, .und, .und, .und, .und, .und, .und, .und, .und, .und, .und, .und, .und, .und, .und, .und, .und], [], 0⟩)
  refine PI.q ?_
  refine rg123w10 (3) [] fun all1 _ => ?_
  refine GoI.runN 2 nfw10 ?_
  refine GoI.z nfw10 ?_
  refine PI.q ?_
  refine PI.q ?_
  refine rg123w10 (13) [] fun all2 hall2 => ?_
  have hgd2_3 : (all2[3]?).bind (fun o => o.dst) = some 9 := by rw [← hall2]; kernel_rfl
  replace U := U.cons (hgd2_3)
  refine GoI.runN 2 nfw10 ?_
  refine GoI.runN 2 nfw10 ?_
  refine GoI.grd 9 nfw10 (fun hg1 => ?_) (fun hg1 => ?_)
  ·
   try simp only [hg1]
   refine GoI.runN 2 nfw10 ?_
   refine GoI.runN 2 nfw10 ?_
   refine GoI.z nfw10 ?_
   refine PI.t 15 nfw10 ?_
   have hr : scanS f.int ins = ([], 6) := by unfold scanS; rw [if_pos (by simp_all)]
   refine PI.q ?_
   refine rg123w10 (15) [] fun all3 _ => ?_
   refine GoI.z nfw10 ?_
   refine PI.r ?_
   exact FinI.mk _ nfw10 (by clear U; rw [hr]; simp [finR, nrmA, nrm, AV.content])
  try simp only [hg1]
  refine GoI.runN 2 nfw10 ?_
  refine GoI.runN 2 nfw10 ?_
  refine GoI.z nfw10 ?_
  refine PI.d 15 nfw10 (fun hb1 => ?_) (fun hb1 => ?_)
  ·
   try simp only [hb1]
   have hr : scanS f.int ins = ([], 6) := by unfold scanS; rw [if_pos (by simp_all)]
   refine PI.q ?_
   refine rg123w10 (15) [] fun all3 _ => ?_
   refine GoI.z nfw10 ?_
   refine PI.r ?_
   exact FinI.mk _ nfw10 (by clear U; rw [hr]; simp [finR, nrmA, nrm, AV.content])
  try simp only [hb1]
  have h0 : 0 ≤ f.int := by simp_all
  have h1 : f.int < (ins.length : Int) := by simp_all
  have hx := kss_ix h0 h1
  have hr : scanS f.int ins = if (ins.getD f.int.toNat []).all kindS = false then ([], 7) else (ins.getD f.int.toNat [], 0) := by unfold scanS; rw [if_neg (by simp; omega)]
  generalize ins.getD f.int.toNat [] = K at hx hr
  replace U := U.cons (And.intro (h0) (And.intro (h1) (hx)))
  refine PI.s ?_
  refine PI.q ?_
  refine PI.q ?_
  refine rg123w10 (20) [] fun all4 _ => ?_
  refine GoI.runN 2 nfw10 ?_
  refine GoI.runN 2 nfw10 ?_
  refine GoI.run nfw10 ?_
  refine GoI.call nfw10 nfw10 (by exact okKinds _) ?_
  refine GoI.z nfw10 ?_
  refine PI.d 22 nfw10 (fun hb2 => ?_) (fun hb2 => ?_)
  ·
   try simp only [hb2]
   rw [if_pos (by simpa using hb2)] at hr
   refine PI.q ?_
   refine rg123w10 (22) [] fun all5 _ => ?_
   refine GoI.z nfw10 ?_
   refine PI.r ?_
   exact FinI.mk _ nfw10 (by clear U; rw [hr]; simp [finR, nrmA, nrm, AV.content])
  try simp only [hb2]
  rw [if_neg (by simpa using hb2)] at hr
  refine PI.s ?_
  refine PI.q ?_
  refine rg123w10 (27) [] fun all6 _ => ?_
  refine GoI.runN 2 nfw10 ?_
  refine GoI.runN 2 nfw10 ?_
  refine GoI.runN 2 nfw10 ?_
  refine GoI.z nfw10 ?_
  refine PI.r ?_
  exact FinI.mk _ nfw10 (by clear U; rw [hr]; simp [finR, nrmA, nrm, AV.content])
theorem inp_1 {op : Int} {n : Nat} (h : inpS op = n) (h1 : op ≠ 1) (h2 : op ≠ 2) : 1 ≤ n := by
  unfold inpS at h
  rw [if_neg (by simp; omega)] at h
  repeat' split at h
  all_goals omega
theorem inp_2 {op : Int} {n : Nat} (h : inpS op = n) (h1 : op = 5 ∨ op = 6 ∨ op = 7 ∨ op = 8 ∨ op = 9) : n = 2 := by
  rcases h1 with rfl | rfl | rfl | rfl | rfl <;> (simp [inpS] at h; omega)
theorem inp_k {op : Int} {n : Nat} (h : inpS op = n) : 1 ≤ op ∧ op ≤ 11 := by
  unfold inpS at h
  repeat' split at h
  all_goals first | (rename_i hc; simp at hc; omega) | omega
def opS (f : PlF) (ins sub : List (List Int)) : List Int × Int :=
  if f.op == 1 then scanS f.int ins
  else if f.op == 2 then (f.kinds, valS f.rows f.kinds)
  else if f.op == 3 then (sub.getD 0 [], predS (sub.getD 0 []) f.pred)
  else if f.op == 4 then projS (sub.getD 0 []) f.exprs
  else if f.op == 11 then grpK f.keys f.aggs (sub.getD 0 [])
  else if f.op == 5 || f.op == 6 then (sub.getD 0 [] ++ sub.getD 1 [], predS (sub.getD 0 [] ++ sub.getD 1 []) f.pred)
  else if f.op == 7 || (f.op == 8 || f.op == 9) then (sub.getD 0 [], eqlS (sub.getD 0 []) (sub.getD 1 []))
  else (sub.getD 0 [], 0)
theorem aE_pred (f : PlF) : aE f.pred = aEx f.po f.pi f.pv f.pn f.pa := by unfold PlF.pred; exact aE_mk _ _ _ _ _
theorem rg49w10 {T : List Rid} {p : Path} {Q : Exit → SL → Prop} {tm : List AV} {L : RL} {n : Nat} {c : Code} {l : List Oper} (n' : Nat) (Qs : List Nat) (h : ∀ all, (ro c).toList = all → GoI Tryz.prog T p all false Qs n 0 l tm L fun tm' L' => Q .normal ⟨tm', L', n'⟩) (hk : kd c = 0 := by kernel_rfl) (hr : rd c = false := by kernel_rfl) (hl : (ro c).toList = l := by dsimp only [ro, s1, s2, c1, c2, bc, bod, Tryz.f49, Option.getD_some] <;> exact rfl) (hn : n + (ro c).size = n' := by kernel_rfl) : PI Tryz.prog T p c Q ⟨tm, L, n⟩ := PI.rg n' Qs hk hr hl (fun h => by cases h) hn (h _ rfl)
theorem rd49w10 {T : List Rid} {p : Path} {Q : Exit → SL → Prop} {tm : List AV} {L : RL} {n : Nat} {c : Code} {l : List Oper} (n' : Nat) (Qs : List Nat) (h : ∀ all, (ro c).toList = all → GoI Tryz.prog T p all true Qs n 0 l tm L fun tm' L' => Q .normal ⟨tm', L', n'⟩) (hk : kd c = 0 := by kernel_rfl) (hr : rd c = true := by kernel_rfl) (hl : (ro c).toList = l := by dsimp only [ro, s1, s2, c1, c2, bc, bod, Tryz.f49, Option.getD_some] <;> exact rfl) (hn : n + (ro c).size = n' := by kernel_rfl) (hd : drawOK (ro c) Qs = true := by kernel_rfl) : PI Tryz.prog T p c Q ⟨tm, L, n⟩ := PI.rg n' Qs hk hr hl (fun _ => hd) hn (h _ rfl)
set_option maxHeartbeats 2000000 in
set_option maxRecDepth 100000 in
theorem okOperator (f : PlF) (ins sub : List (List Int)) (hf : SmF f) (hn : inpS f.op = sub.length) (hi : ∀ k ∈ ins, k.length ≤ maxLen) (hs : ∀ k ∈ sub, k.length ≤ 100000) : CallsOK Tryz.prog 49 [aP f, aKs ins, aKs sub] (.tup [ints (opS f ins sub).1, aI (opS f ins sub).2]) := by
  have hin : ∀ {l : List (List Int)} {N i : Nat}, (∀ k ∈ l, k.length ≤ N) → (l.getD i []).length ≤ N := fun {l N i} h => by
    rw [List.getD_eq_getElem?_getD]
    by_cases hi : i < l.length
    · rw [List.getElem?_eq_getElem hi]; exact h _ (List.getElem_mem hi)
    · rw [List.getElem?_eq_none (by omega)]; exact Nat.zero_le _
  generalize hRS : opS f ins sub = RS
  have hk0 : (sub.getD 0 []).length ≤ 100000 := hin hs
  have hk1 : (sub.getD 1 []).length ≤ 100000 := hin hs
  have hkm : f.kinds.length ≤ maxLen := by have := hf.hk; unfold maxLen; omega
  unfold opS at hRS
  have U : Hid True := ⟨trivial⟩
  refine CallsOK.of_pi mixed Tryz.func49 (by kernel_rfl) (by kernel_rfl) (?_ : PI _ _ _ _ _ ⟨[aP f, aKs ins, aKs sub, .und, .und, .und, .und, .und, .und, .und, .und, .und, .und, .und, .und, .und, .und, .und, .und, .und, .und, .und, .und, .und, .und, .und, .und, .und, .und, .und, .und, .und, .und, .und, .und, .und, .und, .und, .und, .und, .und, .und, .und, .und, .und, .und, .und, .und, .und, .und, .und, .und, .und, .und, .und, .und, .und, .und, .und, .und, .und, .und, .und, .und, .und, .und, .und, .und, .und, .und, .und, .und, .und, .und, .und, .und, .und, .und, .und, .und, .und, .und, .und, .und, .und, .und, .und, .und, .und, .und, .und, .und, .und, .und, .und, .und, .und, .und, .und, .und, .und, .und, .und, .und, .und, .und, .und, .und], [], 0⟩)
  refine PI.q ?_
  refine rg49w10 (3) [] fun all1 _ => ?_
  refine GoI.runN 2 nfw10 ?_
  refine GoI.z nfw10 ?_
  refine PI.q ?_
  refine PI.q ?_
  refine rg49w10 (5) [] fun all2 _ => ?_
  refine GoI.z nfw10 ?_
  refine PI.b 0 ?_
  refine PI.q ?_
  refine rg49w10 (7) [] fun all3 _ => ?_
  refine GoI.z nfw10 ?_
  refine PI.d 11 nfw10 (fun hb1 => ?_) (fun hb1 => ?_)
  ·
   try simp only [hb1]
   rw [if_pos hb1] at hRS
   refine PI.q ?_
   refine PI.q ?_
   refine rg49w10 (17) [] fun all4 hall4 => ?_
   have hgd4_3 : (all4[3]?).bind (fun o => o.dst) = some 16 := by rw [← hall4]; kernel_rfl
   replace U := U.cons (hgd4_3)
   refine GoI.runN 2 nfw10 ?_
   refine GoI.runN 2 nfw10 ?_
   refine GoI.grd 16 nfw10 (fun hg1 => ?_) (fun hg1 => ?_)
   ·
    try simp only [hg1]
    refine GoI.runN 2 nfw10 ?_
    refine GoI.runN 2 nfw10 ?_
    refine GoI.z nfw10 ?_
    refine PI.t 22 nfw10 ?_
    have hr : scanS f.int ins = ([], 6) := by unfold scanS; rw [if_pos (by simp_all)]
    rw [hr] at hRS
    refine PI.q ?_
    refine rg49w10 (19) [] fun all5 _ => ?_
    refine GoI.z nfw10 ?_
    refine PI.r ?_
    exact FinI.mk _ nfw10 (by clear U; subst hRS; simp [finR, nrmA, nrm, AV.content])
   try simp only [hg1]
   refine GoI.runN 2 nfw10 ?_
   refine GoI.runN 2 nfw10 ?_
   refine GoI.z nfw10 ?_
   refine PI.d 22 nfw10 (fun hb2 => ?_) (fun hb2 => ?_)
   ·
    try simp only [hb2]
    have hr : scanS f.int ins = ([], 6) := by unfold scanS; rw [if_pos (by simp_all)]
    rw [hr] at hRS
    refine PI.q ?_
    refine rg49w10 (19) [] fun all5 _ => ?_
    refine GoI.z nfw10 ?_
    refine PI.r ?_
    exact FinI.mk _ nfw10 (by clear U; subst hRS; simp [finR, nrmA, nrm, AV.content])
   try simp only [hb2]
   have h0 : 0 ≤ f.int := by simp_all
   have h1 : f.int < (ins.length : Int) := by simp_all
   have hx := kss_ix h0 h1
   have hr : scanS f.int ins = if (ins.getD f.int.toNat []).all kindS = false then ([], 7) else (ins.getD f.int.toNat [], 0) := by unfold scanS; rw [if_neg (by simp; omega)]
   rw [hr] at hRS
   have hkl : (ins.getD f.int.toNat []).length ≤ maxLen := hin hi
   generalize ins.getD f.int.toNat [] = K at hx hRS hkl
   replace U := U.cons (And.intro (h0) (And.intro (h1) (hx)))
   refine PI.s ?_
   refine PI.q ?_
   refine PI.q ?_
   refine rg49w10 (24) [] fun all6 _ => ?_
   refine GoI.runN 2 nfw10 ?_
   refine GoI.runN 2 nfw10 ?_
   refine GoI.run nfw10 ?_
   refine GoI.call nfw10 nfw10 (by exact okBasic _ hkl) ?_
   refine GoI.z nfw10 ?_
   refine PI.d 29 nfw10 (fun hb3 => ?_) (fun hb3 => ?_)
   ·
    try simp only [hb3]
    rw [if_pos (by simpa using hb3)] at hRS
    refine PI.q ?_
    refine rg49w10 (26) [] fun all7 _ => ?_
    refine GoI.z nfw10 ?_
    refine PI.r ?_
    exact FinI.mk _ nfw10 (by clear U; subst hRS; simp [finR, nrmA, nrm, AV.content])
   try simp only [hb3]
   rw [if_neg (by simpa using hb3)] at hRS
   refine PI.s ?_
   refine PI.q ?_
   refine rg49w10 (31) [] fun all8 _ => ?_
   refine GoI.runN 2 nfw10 ?_
   refine GoI.runN 2 nfw10 ?_
   refine GoI.runN 2 nfw10 ?_
   refine GoI.z nfw10 ?_
   refine PI.r ?_
   exact FinI.mk _ nfw10 (by clear U; subst hRS; simp [finR, nrmA, nrm, AV.content])
  try simp only [hb1]
  rw [if_neg (by rw [hb1]; decide)] at hRS
  have hn1 : f.op ≠ 1 := by simpa using hb1
  refine PI.q ?_
  refine rg49w10 (9) [] fun all9 _ => ?_
  refine GoI.z nfw10 ?_
  refine PI.d 35 nfw10 (fun hb4 => ?_) (fun hb4 => ?_)
  ·
   try simp only [hb4]
   rw [if_pos hb4] at hRS
   refine PI.q ?_
   refine rd49w10 (15) [] fun all10 _ => ?_
   refine GoI.runN 2 nfw10 ?_
   refine GoI.run nfw10 ?_
   refine GoI.call nfw10 nfw10 (by exact okValues _ hf.hr hkm) ?_
   refine GoI.z nfw10 ?_
   refine PI.r ?_
   exact FinI.mk _ nfw10 (by clear U; subst hRS; simp [finR, nrmA, nrm, AV.content])
  try simp only [hb4]
  rw [if_neg (by rw [hb4]; decide)] at hRS
  have hn2 : f.op ≠ 2 := by simpa using hb4
  have hl1 := inp_1 hn hn1 hn2
  have hx0 := kss_at (l := sub) (i := 0) (by omega)
  have hl1i : (0 : Int) < (sub.length : Int) := by omega
  replace U := U.cons (And.intro (hx0) (And.intro (hl1) (hl1i)))
  refine PI.q ?_
  refine rg49w10 (11) [] fun all11 _ => ?_
  refine GoI.z nfw10 ?_
  refine PI.d 41 nfw10 (fun hb5 => ?_) (fun hb5 => ?_)
  ·
   try simp only [hb5]
   rw [if_pos hb5] at hRS
   refine PI.q ?_
   refine rd49w10 (22) [] fun all12 _ => ?_
   refine GoI.runN 2 nfw10 ?_
   refine GoI.runN 2 nfw10 ?_
   refine GoI.runN 2 nfw10 ?_
   refine GoI.runN 2 nfw10 ?_
   refine GoI.call nfw10 nfw10 (by have h0 := okPred (sub.getD 0 []) f.pred hf.hp; rw [aE_pred] at h0; exact h0) ?_
   refine GoI.z nfw10 ?_
   refine PI.r ?_
   exact FinI.mk _ nfw10 (by clear U; subst hRS; simp [finR, nrmA, nrm, AV.content])
  try simp only [hb5]
  rw [if_neg (by rw [hb5]; decide)] at hRS
  refine PI.q ?_
  refine rg49w10 (13) [] fun all13 _ => ?_
  refine GoI.z nfw10 ?_
  refine PI.d 52 nfw10 (fun hb6 => ?_) (fun hb6 => ?_)
  ·
   try simp only [hb6]
   rw [if_pos hb6] at hRS
   refine PI.q ?_
   refine rd49w10 (23) [] fun all14 _ => ?_
   refine GoI.runN 2 nfw10 ?_
   refine GoI.runN 2 nfw10 ?_
   refine GoI.run nfw10 ?_
   refine GoI.call nfw10 nfw10 (by exact okProjd (sub.getD 0 []) f.exprs hf.he hf.hx) ?_
   refine GoI.runN 2 nfw10 ?_
   refine GoI.z nfw10 ?_
   refine PI.r ?_
   exact FinI.mk _ nfw10 (by clear U; subst hRS; simp [finR, nrmA, nrm, AV.content])
  try simp only [hb6]
  rw [if_neg (by rw [hb6]; decide)] at hRS
  refine PI.q ?_
  refine rg49w10 (15) [] fun all15 _ => ?_
  refine GoI.z nfw10 ?_
  refine PI.d 62 nfw10 (fun hb7 => ?_) (fun hb7 => ?_)
  ·
   try simp only [hb7]
   rw [if_pos hb7] at hRS
   refine PI.q ?_
   refine rd49w10 (27) [] fun all16 _ => ?_
   refine GoI.runN 2 nfw10 ?_
   refine GoI.runN 2 nfw10 ?_
   refine GoI.runN 2 nfw10 ?_
   refine GoI.run nfw10 ?_
   refine GoI.call nfw10 nfw10 (by exact okGroupedS f.keys f.aggs (sub.getD 0 []) hf.hq hf.ha) ?_
   refine GoI.runN 2 nfw10 ?_
   refine GoI.z nfw10 ?_
   refine PI.r ?_
   exact FinI.mk _ nfw10 (by clear U; subst hRS; simp [finR, nrmA, nrm, AV.content])
  try simp only [hb7]
  rw [if_neg (by rw [hb7]; decide)] at hRS
  refine PI.q ?_
  refine PI.q ?_
  refine rg49w10 (17) [] fun all17 _ => ?_
  refine GoI.z nfw10 ?_
  refine PI.d 74 nfw10 (fun hb8 => ?_) (fun hb8 => ?_)
  ·
   try simp only [hb8]
   refine PI.s ?_
   refine PI.t 74 nfw10 ?_
   rw [if_pos (by simp_all)] at hRS
   have hl2 : sub.length = 2 := inp_2 hn (by simp_all)
   have hx1 := kss_at (l := sub) (i := 1) (by omega)
   have hl2i : (1 : Int) < (sub.length : Int) := by omega
   have hlt2 : 1 < sub.length := by omega
   have hap1 : (sub.getD 0 []).length * 8 ≤ 140737488355328 := by omega
   have hap2 : ((sub.getD 0 []).length + (sub.getD 1 []).length) * 8 ≤ 140737488355328 := by omega
   replace U := U.cons (And.intro (hx1) (And.intro (hl2i) (And.intro (hlt2) (And.intro (hap1) (And.intro (hap2) (And.intro (rowLen (f := fun k : Int => [aI k]) (n := 1) (fun _ => rfl) (sub.getD 0 [])) (rowLen (f := fun k : Int => [aI k]) (n := 1) (fun _ => rfl) (sub.getD 1 []))))))))
   refine PI.q ?_
   refine rd49w10 (27) [1000004, 1000008, 2000003, 2000007] fun all19 _ => ?_
   refine GoI.runN 2 nfw10 ?_
   refine GoI.runN 2 nfw10 ?_
   refine GoI.runN 2 nfw10 ?_
   refine GoI.runN 2 nfw10 ?_
   refine GoI.z nfw10 ?_
   refine PI.q ?_
   refine rg49w10 (34) [] fun all20 _ => ?_
   refine GoI.runN 2 nfw10 ?_
   refine GoI.runN 2 nfw10 ?_
   refine GoI.call nfw10 nfw10 (by have h0 := okPred (sub.getD 0 [] ++ sub.getD 1 []) f.pred hf.hp; rw [aE_pred] at h0; simp only [ints, List.map_append] at h0; exact h0) ?_
   refine GoI.z nfw10 ?_
   refine PI.r ?_
   exact FinI.mk _ nfw10 (by clear U; subst hRS; simp [finR, nrmA, nrm, AV.content])
  try simp only [hb8]
  refine rg49w10 (19) [] fun all18 _ => ?_
  refine GoI.z nfw10 ?_
  refine PI.d 74 nfw10 (fun hb9 => ?_) (fun hb9 => ?_)
  ·
   try simp only [hb9]
   rw [if_pos (by simp_all)] at hRS
   have hl2 : sub.length = 2 := inp_2 hn (by simp_all)
   have hx1 := kss_at (l := sub) (i := 1) (by omega)
   have hl2i : (1 : Int) < (sub.length : Int) := by omega
   have hlt2 : 1 < sub.length := by omega
   have hap1 : (sub.getD 0 []).length * 8 ≤ 140737488355328 := by omega
   have hap2 : ((sub.getD 0 []).length + (sub.getD 1 []).length) * 8 ≤ 140737488355328 := by omega
   replace U := U.cons (And.intro (hx1) (And.intro (hl2i) (And.intro (hlt2) (And.intro (hap1) (And.intro (hap2) (And.intro (rowLen (f := fun k : Int => [aI k]) (n := 1) (fun _ => rfl) (sub.getD 0 [])) (rowLen (f := fun k : Int => [aI k]) (n := 1) (fun _ => rfl) (sub.getD 1 []))))))))
   refine PI.q ?_
   refine rd49w10 (29) [1000004, 1000008, 2000003, 2000007] fun all19 _ => ?_
   refine GoI.runN 2 nfw10 ?_
   refine GoI.runN 2 nfw10 ?_
   refine GoI.runN 2 nfw10 ?_
   refine GoI.runN 2 nfw10 ?_
   refine GoI.z nfw10 ?_
   refine PI.q ?_
   refine rg49w10 (36) [] fun all20 _ => ?_
   refine GoI.runN 2 nfw10 ?_
   refine GoI.runN 2 nfw10 ?_
   refine GoI.call nfw10 nfw10 (by have h0 := okPred (sub.getD 0 [] ++ sub.getD 1 []) f.pred hf.hp; rw [aE_pred] at h0; simp only [ints, List.map_append] at h0; exact h0) ?_
   refine GoI.z nfw10 ?_
   refine PI.r ?_
   exact FinI.mk _ nfw10 (by clear U; subst hRS; simp [finR, nrmA, nrm, AV.content])
  try simp only [hb9]
  rw [if_neg (by simp_all)] at hRS
  refine PI.q ?_
  refine PI.q ?_
  refine rg49w10 (21) [] fun all21 _ => ?_
  refine GoI.z nfw10 ?_
  refine PI.d 91 nfw10 (fun hb10 => ?_) (fun hb10 => ?_)
  ·
   try simp only [hb10]
   refine PI.s ?_
   refine PI.t 91 nfw10 ?_
   rw [if_pos (by simp_all)] at hRS
   have hl2 : sub.length = 2 := inp_2 hn (by simp_all)
   have hx1 := kss_at (l := sub) (i := 1) (by omega)
   have hl2i : (1 : Int) < (sub.length : Int) := by omega
   have hlt2 : 1 < sub.length := by omega
   replace U := U.cons (And.intro (hx1) (And.intro (hl2i) (hlt2)))
   refine PI.q ?_
   refine rd49w10 (33) [] fun all24 _ => ?_
   refine GoI.runN 2 nfw10 ?_
   refine GoI.runN 2 nfw10 ?_
   refine GoI.runN 2 nfw10 ?_
   refine GoI.runN 2 nfw10 ?_
   refine GoI.run nfw10 ?_
   refine GoI.call nfw10 nfw10 (by exact okEqual _ _ (by unfold maxLen; omega)) ?_
   refine GoI.z nfw10 ?_
   refine PI.r ?_
   exact FinI.mk _ nfw10 (by clear U; subst hRS; simp [finR, nrmA, nrm, AV.content])
  try simp only [hb10]
  refine PI.q ?_
  refine rg49w10 (23) [] fun all22 _ => ?_
  refine GoI.z nfw10 ?_
  refine PI.d 91 nfw10 (fun hb11 => ?_) (fun hb11 => ?_)
  ·
   try simp only [hb11]
   refine PI.s ?_
   refine PI.t 91 nfw10 ?_
   rw [if_pos (by simp_all)] at hRS
   have hl2 : sub.length = 2 := inp_2 hn (by simp_all)
   have hx1 := kss_at (l := sub) (i := 1) (by omega)
   have hl2i : (1 : Int) < (sub.length : Int) := by omega
   have hlt2 : 1 < sub.length := by omega
   replace U := U.cons (And.intro (hx1) (And.intro (hl2i) (hlt2)))
   refine PI.q ?_
   refine rd49w10 (35) [] fun all24 _ => ?_
   refine GoI.runN 2 nfw10 ?_
   refine GoI.runN 2 nfw10 ?_
   refine GoI.runN 2 nfw10 ?_
   refine GoI.runN 2 nfw10 ?_
   refine GoI.run nfw10 ?_
   refine GoI.call nfw10 nfw10 (by exact okEqual _ _ (by unfold maxLen; omega)) ?_
   refine GoI.z nfw10 ?_
   refine PI.r ?_
   exact FinI.mk _ nfw10 (by clear U; subst hRS; simp [finR, nrmA, nrm, AV.content])
  try simp only [hb11]
  refine rg49w10 (25) [] fun all23 _ => ?_
  refine GoI.z nfw10 ?_
  refine PI.d 91 nfw10 (fun hb12 => ?_) (fun hb12 => ?_)
  ·
   try simp only [hb12]
   rw [if_pos (by simp_all)] at hRS
   have hl2 : sub.length = 2 := inp_2 hn (by simp_all)
   have hx1 := kss_at (l := sub) (i := 1) (by omega)
   have hl2i : (1 : Int) < (sub.length : Int) := by omega
   have hlt2 : 1 < sub.length := by omega
   replace U := U.cons (And.intro (hx1) (And.intro (hl2i) (hlt2)))
   refine PI.q ?_
   refine rd49w10 (37) [] fun all24 _ => ?_
   refine GoI.runN 2 nfw10 ?_
   refine GoI.runN 2 nfw10 ?_
   refine GoI.runN 2 nfw10 ?_
   refine GoI.runN 2 nfw10 ?_
   refine GoI.run nfw10 ?_
   refine GoI.call nfw10 nfw10 (by exact okEqual _ _ (by unfold maxLen; omega)) ?_
   refine GoI.z nfw10 ?_
   refine PI.r ?_
   exact FinI.mk _ nfw10 (by clear U; subst hRS; simp [finR, nrmA, nrm, AV.content])
  try simp only [hb12]
  rw [if_neg (by simp_all)] at hRS
  refine PI.s ?_
  refine PI.q ?_
  refine rg49w10 (30) [] fun all25 _ => ?_
  refine GoI.runN 2 nfw10 ?_
  refine GoI.runN 2 nfw10 ?_
  refine GoI.z nfw10 ?_
  refine PI.r ?_
  exact FinI.mk _ nfw10 (by clear U; subst hRS; simp [finR, nrmA, nrm, AV.content])
end Go.FE
namespace Go.FE
open Go.Proofs
theorem nfw11 {α : Type} {a b : α} (h : a = b := by simp only [goP, goN, mrk, Nat.reduceMul, Nat.one_mul, Nat.mul_one, eq_self, false_implies, implies_true, Nat.reduceLT, List.getElem?_toArray, isCall, List.contains_nil, List.contains_cons, Nat.reduceBEq, Bool.or_false, Bool.or_self, List.length_map, gOf, step, stepM, stepP, ev, okV, if_true, if_false, allocA, storeA, boxA, one1, tokN, tok1, buildA, rowA, nrmP, partV, partA, fieldA, fieldV, elemA, lenA, bltA, asSl, appA, makeA, makeR, cutA, bndA, binV, intOp, strOp, unV, eqB, nilB, sameT, List.all_cons, List.all_nil, Bool.and_self, Bool.and_true, Bool.true_and, List.map_cons, List.map_nil, List.nil_append, List.cons_append, List.append_nil, AV.bare, AV.content, AV.clean, AV.one, putD, List.set_cons_zero, List.set_cons_succ, List.reverse_cons, List.reverse_nil, List.getD_cons_zero, List.getD_cons_succ, List.getElem?_cons_zero, List.getElem?_cons_succ, Option.getD_some, Option.map_some, Option.map_none, Option.bind_some, List.length_cons, List.length_nil, lk, cellsA, fillA, fillS, isAggD, spl, nrm, nrmA, List.take_succ_cons, List.take_zero, List.drop_succ_cons, List.drop_zero, List.drop_nil, List.take_nil, Nat.reduceAdd, Nat.zero_add, Nat.add_zero, Nat.add_assoc, Nat.add_left_cancel_iff, reduceCtorEq, Prod.mk.injEq, List.cons.injEq, and_self, and_true, true_and, Nat.le_refl, Nat.reduceLeDiff, Nat.reduceEqDiff, List.getElem?_nil, Int.reduceToNat, Int.reduceLE, Int.reduceLT, ite_self, List.forall_mem_cons, List.not_mem_nil, false_and, and_false, Bool.false_eq_true, List.replicate_zero, List.replicate_succ, Int.toNat_natCast, neJ2, neJ2', neJ3, neJ3', callOf, callOf2, fnOf, argsA, args2, Array.isEmpty_empty, resLL, resVL, beq_self_eq_true, st3, zt3, it3, ct3, se3, Tryz.underlying3, st4, zt4, it4, ct4, se4, Tryz.underlying4, st9, zt9, it9, ct9, se9, Tryz.underlying9, st22, zt22, it22, ct22, se22, Tryz.underlying22, st23, zt23, it23, ct23, se23, Tryz.underlying23, st25, zt25, it25, ct25, pt25, eqs25, se25, Tryz.underlying25, st26, zt26, it26, ct26, se26, Tryz.underlying26, st28, zt28, it28, ct28, pt28, se28, Tryz.underlying28, st29, zt29, it29, ct29, se29, Tryz.underlying29, st30, zt30, it30, ct30, se30, Tryz.underlying30, st32, zt32, it32, ct32, pt32, se32, Tryz.underlying32, st33, zt33, it33, ct33, se33, Tryz.underlying33, st36, zt36, it36, ct36, se36, Tryz.underlying36, st37, Tryz.underlying37, st48, zt48, it48, ct48, pt48, eqs48, se48, Tryz.underlying48, st49, zt49, it49, ct49, se49, Tryz.underlying49, Tryz.results85, U.out] <;> rfl) : a = b := h
def nrmK (r : List Int × Int) : List Int × Int := if r.2 = 0 then r else ([], r.2)
theorem nrmK_nrmK (r : List Int × Int) : nrmK (nrmK r) = nrmK r := by
  unfold nrmK
  by_cases h : r.2 = 0
  · rw [if_pos h, if_pos h]
  · rw [if_neg h, if_neg h]
def opR (f : PlF) (ins sub : List (List Int)) : List Int × Int := if f.op == 2 || (f.op == 7 || (f.op == 8 || f.op == 9)) then nrmK (opS f ins sub) else opS f ins sub
theorem opR_nrm (f : PlF) (ins sub : List (List Int)) : nrmK (opR f ins sub) = nrmK (opS f ins sub) := by
  unfold opR
  split
  · exact nrmK_nrmK _
  · rfl
theorem rg85w11 {T : List Rid} {p : Path} {Q : Exit → SL → Prop} {tm : List AV} {L : RL} {n : Nat} {c : Code} {l : List Oper} (n' : Nat) (Qs : List Nat) (h : ∀ all, (ro c).toList = all → GoI Tryz.prog T p all false Qs n 0 l tm L fun tm' L' => Q .normal ⟨tm', L', n'⟩) (hk : kd c = 0 := by kernel_rfl) (hr : rd c = false := by kernel_rfl) (hl : (ro c).toList = l := by dsimp only [ro, s1, s2, c1, c2, bc, bod, Tryz.f85, Option.getD_some] <;> exact rfl) (hn : n + (ro c).size = n' := by kernel_rfl) : PI Tryz.prog T p c Q ⟨tm, L, n⟩ := PI.rg n' Qs hk hr hl (fun h => by cases h) hn (h _ rfl)
theorem rd85w11 {T : List Rid} {p : Path} {Q : Exit → SL → Prop} {tm : List AV} {L : RL} {n : Nat} {c : Code} {l : List Oper} (n' : Nat) (Qs : List Nat) (h : ∀ all, (ro c).toList = all → GoI Tryz.prog T p all true Qs n 0 l tm L fun tm' L' => Q .normal ⟨tm', L', n'⟩) (hk : kd c = 0 := by kernel_rfl) (hr : rd c = true := by kernel_rfl) (hl : (ro c).toList = l := by dsimp only [ro, s1, s2, c1, c2, bc, bod, Tryz.f85, Option.getD_some] <;> exact rfl) (hn : n + (ro c).size = n' := by kernel_rfl) (hd : drawOK (ro c) Qs = true := by kernel_rfl) : PI Tryz.prog T p c Q ⟨tm, L, n⟩ := PI.rg n' Qs hk hr hl (fun _ => hd) hn (h _ rfl)
set_option maxHeartbeats 2000000 in
set_option maxRecDepth 100000 in
theorem okResult (f : PlF) (ins sub : List (List Int)) (hf : SmF f) (hn : inpS f.op = sub.length) (hs : ∀ k ∈ sub, k.length ≤ 100000) : CallsOK Tryz.prog 85 [aP f, aKs ins, aKs sub] (.tup [ints (opR f ins sub).1, aI (opR f ins sub).2]) := by
  have hin : ∀ {l : List (List Int)} {N i : Nat}, (∀ k ∈ l, k.length ≤ N) → (l.getD i []).length ≤ N := fun {l N i} h => by
    rw [List.getD_eq_getElem?_getD]
    by_cases hi : i < l.length
    · rw [List.getElem?_eq_getElem hi]; exact h _ (List.getElem_mem hi)
    · rw [List.getElem?_eq_none (by omega)]; exact Nat.zero_le _
  have hk0 : (sub.getD 0 []).length ≤ 100000 := hin hs
  have hk1 : (sub.getD 1 []).length ≤ 100000 := hin hs
  have hkm : f.kinds.length ≤ maxLen := by have := hf.hk; unfold maxLen; omega
  have hko := inp_k hn
  generalize hRS : opR f ins sub = RS
  unfold opR opS at hRS
  have U : Hid True := ⟨trivial⟩
  refine CallsOK.of_pi mixed Tryz.func85 (by kernel_rfl) (by kernel_rfl) (?_ : PI _ _ _ _ _ ⟨[aP f, aKs ins, aKs sub, .und, .und, .und, .und, .und, .und, .und, .und, .und, .und, .und, .und, .und, .und, .und, .und, .und, .und, .und, .und, .und, .und, .und, .und, .und, .und, .und, .und, .und, .und, .und, .und, .und, .und, .und, .und, .und, .und, .und, .und, .und, .und, .und, .und, .und, .und, .und, .und, .und, .und, .und, .und, .und, .und, .und, .und, .und, .und, .und, .und, .und, .und, .und, .und, .und, .und, .und, .und, .und, .und, .und, .und, .und, .und, .und, .und, .und, .und, .und, .und, .und, .und, .und, .und, .und, .und, .und, .und, .und, .und, .und, .und, .und, .und, .und, .und, .und, .und, .und, .und, .und, .und, .und], [], 0⟩)
  refine PI.q ?_
  refine rg85w11 (3) [] fun all1 _ => ?_
  refine GoI.runN 2 nfw11 ?_
  refine GoI.z nfw11 ?_
  refine PI.q ?_
  refine PI.q ?_
  refine rg85w11 (6) [] fun all2 _ => ?_
  refine GoI.runN 2 nfw11 ?_
  refine GoI.z nfw11 ?_
  refine PI.d 11 nfw11 (fun hb1 => ?_) (fun hb1 => ?_)
  ·
   try simp only [hb1]
   refine PI.q ?_
   refine rg85w11 (13) [] fun all3 _ => ?_
   refine GoI.runN 2 nfw11 ?_
   refine GoI.call nfw11 nfw11 (by exact okScan f ins) ?_
   refine GoI.runN 2 nfw11 ?_
   refine GoI.z nfw11 ?_
   refine PI.r ?_
   exact FinI.mk _ nfw11 (by clear U; (simp_all [finR, nrmA, nrm, AV.content, nrmK]) <;> (subst hRS; (try split) <;> simp_all))
  try simp only [hb1]
  refine PI.s ?_
  refine PI.q ?_
  refine PI.q ?_
  refine rg85w11 (9) [] fun all4 _ => ?_
  refine GoI.runN 2 nfw11 ?_
  refine GoI.z nfw11 ?_
  refine PI.d 19 nfw11 (fun hb2 => ?_) (fun hb2 => ?_)
  ·
   try simp only [hb2]
   refine PI.q ?_
   refine rg85w11 (15) [] fun all5 _ => ?_
   refine GoI.run nfw11 ?_
   refine GoI.call nfw11 nfw11 (by exact okValues' _ hf.hr hkm) ?_
   refine GoI.runN 2 nfw11 ?_
   refine GoI.z nfw11 ?_
   refine PI.r ?_
   exact FinI.mk _ nfw11 (by clear U; (simp_all [finR, nrmA, nrm, AV.content, nrmK]) <;> (subst hRS; (try split) <;> simp_all))
  try simp only [hb2]
  have hn1 : f.op ≠ 1 := by simpa using hb1
  have hn2 : f.op ≠ 2 := by simpa using hb2
  have hl1 := inp_1 hn hn1 hn2
  have hx0 := kss_at (l := sub) (i := 0) (by omega)
  have hl1i : (0 : Int) < (sub.length : Int) := by omega
  generalize hS0 : sub.getD 0 [] = S0 at hx0 hRS hk0
  generalize hS1 : sub.getD 1 [] = S1 at hRS hk1
  replace U := U.cons (And.intro (hx0) (And.intro (hl1) (hl1i)))
  refine PI.s ?_
  refine PI.q ?_
  refine PI.q ?_
  refine rg85w11 (12) [] fun all6 _ => ?_
  refine GoI.runN 2 nfw11 ?_
  refine GoI.z nfw11 ?_
  refine PI.d 26 nfw11 (fun hb3 => ?_) (fun hb3 => ?_)
  ·
   try simp only [hb3]
   refine PI.q ?_
   refine rd85w11 (22) [] fun all7 _ => ?_
   refine GoI.runN 2 nfw11 ?_
   refine GoI.runN 2 nfw11 ?_
   refine GoI.run nfw11 ?_
   refine GoI.call nfw11 nfw11 (by exact okProjd' S0 f.exprs hf.he hf.hx) ?_
   refine GoI.runN 2 nfw11 ?_
   refine GoI.z nfw11 ?_
   refine PI.r ?_
   exact FinI.mk _ nfw11 (by clear U; (simp_all [finR, nrmA, nrm, AV.content, nrmK]) <;> (subst hRS; (try split) <;> simp_all))
  try simp only [hb3]
  refine PI.s ?_
  refine PI.q ?_
  refine PI.q ?_
  refine rg85w11 (15) [] fun all8 _ => ?_
  refine GoI.runN 2 nfw11 ?_
  refine GoI.z nfw11 ?_
  refine PI.d 37 nfw11 (fun hb4 => ?_) (fun hb4 => ?_)
  ·
   try simp only [hb4]
   refine PI.q ?_
   refine rd85w11 (27) [] fun all9 _ => ?_
   refine GoI.runN 2 nfw11 ?_
   refine GoI.runN 2 nfw11 ?_
   refine GoI.runN 2 nfw11 ?_
   refine GoI.run nfw11 ?_
   refine GoI.call nfw11 nfw11 (by exact okGrouped' f.keys f.aggs S0 hf.hq hf.ha) ?_
   refine GoI.runN 2 nfw11 ?_
   refine GoI.z nfw11 ?_
   refine PI.r ?_
   exact FinI.mk _ nfw11 (by clear U; (simp_all [finR, nrmA, nrm, AV.content, nrmK]) <;> (subst hRS; (try split) <;> simp_all))
  try simp only [hb4]
  refine PI.s ?_
  refine PI.q ?_
  refine PI.q ?_
  refine rg85w11 (18) [] fun all10 _ => ?_
  refine GoI.runN 2 nfw11 ?_
  refine GoI.z nfw11 ?_
  refine PI.d 50 nfw11 (fun hb5 => ?_) (fun hb5 => ?_)
  ·
   try simp only [hb5]
   refine PI.q ?_
   refine rg85w11 (23) [] fun all11 _ => ?_
   refine GoI.runN 2 nfw11 ?_
   refine GoI.runN 2 nfw11 ?_
   refine GoI.z nfw11 ?_
   refine PI.r ?_
   exact FinI.mk _ nfw11 (by clear U; (simp_all [finR, nrmA, nrm, AV.content, nrmK]) <;> (subst hRS; (try split) <;> simp_all))
  try simp only [hb5]
  refine PI.s ?_
  refine PI.q ?_
  refine PI.q ?_
  refine rg85w11 (21) [] fun all12 _ => ?_
  refine GoI.runN 2 nfw11 ?_
  refine GoI.z nfw11 ?_
  refine PI.d 56 nfw11 (fun hb6 => ?_) (fun hb6 => ?_)
  ·
   try simp only [hb6]
   refine PI.q ?_
   refine rd85w11 (32) [] fun all13 _ => ?_
   refine GoI.runN 2 nfw11 ?_
   refine GoI.runN 2 nfw11 ?_
   refine GoI.runN 2 nfw11 ?_
   refine GoI.runN 2 nfw11 ?_
   refine GoI.call nfw11 nfw11 (by have h0 := okPred' S0 f.pred hf.hp; rw [aE_pred] at h0; exact h0) ?_
   refine GoI.z nfw11 ?_
   refine PI.r ?_
   exact FinI.mk _ nfw11 (by clear U; (simp_all [finR, nrmA, nrm, AV.content, nrmK]) <;> (subst hRS; (try split) <;> simp_all))
  try simp only [hb6]
  refine PI.s ?_
  refine PI.q ?_
  refine PI.q ?_
  refine rg85w11 (29) [] fun all14 hall14 => ?_
  have hgd14_3 : (all14[3]?).bind (fun o => o.dst) = some 69 := by rw [← hall14]; kernel_rfl
  replace U := U.cons (hgd14_3)
  refine GoI.runN 2 nfw11 ?_
  refine GoI.runN 2 nfw11 ?_
  refine GoI.grd 69 nfw11 (fun hg1 => ?_) (fun hg1 => ?_)
  ·
   try simp only [hg1]
   refine GoI.runN 2 nfw11 ?_
   refine GoI.z nfw11 ?_
   refine PI.t 73 nfw11 ?_
   have hl2 : sub.length = 2 := inp_2 hn (by simp_all)
   have hx1 := kss_at (l := sub) (i := 1) (by omega)
   have hl2i : (1 : Int) < (sub.length : Int) := by omega
   have hlt2 : 1 < sub.length := by omega
   rw [hS1] at hx1
   replace U := U.cons (And.intro (hx1) (And.intro (hl2i) (hlt2)))
   refine PI.q ?_
   refine rd85w11 (37) [] fun all15 _ => ?_
   refine GoI.runN 2 nfw11 ?_
   refine GoI.runN 2 nfw11 ?_
   refine GoI.runN 2 nfw11 ?_
   refine GoI.call nfw11 nfw11 (by exact okJoined S0 S1 hk0 hk1) ?_
   refine GoI.z nfw11 ?_
   refine PI.q ?_
   refine rg85w11 (44) [] fun all16 _ => ?_
   refine GoI.runN 2 nfw11 ?_
   refine GoI.runN 2 nfw11 ?_
   refine GoI.call nfw11 nfw11 (by have h0 := okPred' (S0 ++ S1) f.pred hf.hp; rw [aE_pred] at h0; exact h0) ?_
   refine GoI.z nfw11 ?_
   refine PI.r ?_
   exact FinI.mk _ nfw11 (by clear U; (simp_all [finR, nrmA, nrm, AV.content, nrmK]) <;> (subst hRS; (try split) <;> simp_all))
  try simp only [hg1]
  refine GoI.runN 2 nfw11 ?_
  refine GoI.z nfw11 ?_
  refine PI.d 73 nfw11 (fun hb7 => ?_) (fun hb7 => ?_)
  ·
   try simp only [hb7]
   have hl2 : sub.length = 2 := inp_2 hn (by simp_all)
   have hx1 := kss_at (l := sub) (i := 1) (by omega)
   have hl2i : (1 : Int) < (sub.length : Int) := by omega
   have hlt2 : 1 < sub.length := by omega
   rw [hS1] at hx1
   replace U := U.cons (And.intro (hx1) (And.intro (hl2i) (hlt2)))
   refine PI.q ?_
   refine rd85w11 (37) [] fun all15 _ => ?_
   refine GoI.runN 2 nfw11 ?_
   refine GoI.runN 2 nfw11 ?_
   refine GoI.runN 2 nfw11 ?_
   refine GoI.call nfw11 nfw11 (by exact okJoined S0 S1 hk0 hk1) ?_
   refine GoI.z nfw11 ?_
   refine PI.q ?_
   refine rg85w11 (44) [] fun all16 _ => ?_
   refine GoI.runN 2 nfw11 ?_
   refine GoI.runN 2 nfw11 ?_
   refine GoI.call nfw11 nfw11 (by have h0 := okPred' (S0 ++ S1) f.pred hf.hp; rw [aE_pred] at h0; exact h0) ?_
   refine GoI.z nfw11 ?_
   refine PI.r ?_
   exact FinI.mk _ nfw11 (by clear U; (simp_all [finR, nrmA, nrm, AV.content, nrmK]) <;> (subst hRS; (try split) <;> simp_all))
  try simp only [hb7]
  have h789 : f.op = 7 ∨ f.op = 8 ∨ f.op = 9 := by
    simp only [beq_eq_false_iff_ne, ne_eq] at *
    omega
  have hl2 : sub.length = 2 := inp_2 hn (by omega)
  have hx1 := kss_at (l := sub) (i := 1) (by omega)
  have hl2i : (1 : Int) < (sub.length : Int) := by omega
  have hlt2 : 1 < sub.length := by omega
  rw [hS1] at hx1
  have hR : RS = nrmK (S0, eqlS S0 S1) := by
    rcases h789 with h | h | h <;> simp_all
  clear hRS
  replace U := U.cons (And.intro (hx1) (And.intro (hl2i) (hlt2)))
  refine PI.s ?_
  refine PI.q ?_
  refine PI.q ?_
  refine rd85w11 (38) [] fun all17 _ => ?_
  refine GoI.runN 2 nfw11 ?_
  refine GoI.runN 2 nfw11 ?_
  refine GoI.runN 2 nfw11 ?_
  refine GoI.runN 2 nfw11 ?_
  refine GoI.z nfw11 ?_
  refine PI.d 94 nfw11 (fun hb8 => ?_) (fun hb8 => ?_)
  ·
   try simp only [hb8]
   have hq : eqlS S0 S1 = 13 := by unfold eqlS; rw [if_pos (by simp at hb8; omega)]
   rw [hq] at hR
   refine PI.q ?_
   refine rg85w11 (40) [] fun all18 _ => ?_
   refine GoI.z nfw11 ?_
   refine PI.r ?_
   exact FinI.mk _ nfw11 (by clear U; (simp_all [finR, nrmA, nrm, AV.content, nrmK]) <;> (subst hRS; (try split) <;> simp_all))
  try simp only [hb8]
  have hle : S0.length = S1.length := by simp at hb8; omega
  have hq : eqlS S0 S1 = if S0 == S1 then 0 else 7 := by unfold eqlS; rw [if_neg (by omega)]
  rw [hq] at hR
  refine PI.s ?_
  refine PI.q ?_
  refine PI.q ?_
  refine rd85w11 (46) [] fun all19 _ => ?_
  refine GoI.runN 2 nfw11 ?_
  refine GoI.runN 2 nfw11 ?_
  refine GoI.runN 2 nfw11 ?_
  refine GoI.call nfw11 nfw11 (by exact okSameKinds S0 S1) ?_
  refine GoI.z nfw11 ?_
  refine PI.d 102 nfw11 (fun hb9 => ?_) (fun hb9 => ?_)
  ·
   try simp only [hb9]
   refine PI.q ?_
   refine rg85w11 (48) [] fun all20 _ => ?_
   refine GoI.z nfw11 ?_
   refine PI.r ?_
   exact FinI.mk _ nfw11 (by clear U; (simp_all [finR, nrmA, nrm, AV.content, nrmK]) <;> (subst hRS; (try split) <;> simp_all))
  try simp only [hb9]
  refine PI.s ?_
  refine PI.q ?_
  refine rg85w11 (51) [] fun all21 _ => ?_
  refine GoI.runN 2 nfw11 ?_
  refine GoI.runN 2 nfw11 ?_
  refine GoI.z nfw11 ?_
  refine PI.r ?_
  exact FinI.mk _ nfw11 (by clear U; (simp_all [finR, nrmA, nrm, AV.content, nrmK]) <;> (subst hRS; (try split) <;> simp_all))
end Go.FE
