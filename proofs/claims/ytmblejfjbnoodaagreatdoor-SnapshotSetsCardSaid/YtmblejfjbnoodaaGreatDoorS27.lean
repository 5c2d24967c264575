/- The kinds of an operator's result, or what is wrong. The document's kinds of an operator's result; nodes. Plans are checked, node by node. Plans are checked. The weight of expressions and of plans. The chapter's examples. -/
import Derived.Test.YtmblejfjbnoodaaGreatDoorS09
import Derived.Test.YtmblejfjbnoodaaGreatDoorS21
import Derived.Test.YtmblejfjbnoodaaGreatDoorS23
import Derived.Test.YtmblejfjbnoodaaGreatDoorS26
set_option linter.unusedVariables false
set_option linter.unusedSimpArgs false
namespace Go.FE
open Go.Proofs
theorem nfw10 {α : Type} {a b : α} (h : a = b := by simp only [goP, goN, mrk, Nat.reduceMul, Nat.one_mul, Nat.mul_one, eq_self, false_implies, implies_true, Nat.reduceLT, List.getElem?_toArray, isCall, List.contains_nil, List.contains_cons, Nat.reduceBEq, Bool.or_false, Bool.or_self, List.length_map, gOf, step, stepM, stepP, ev, okV, if_true, if_false, allocA, storeA, boxA, one1, tokN, tok1, buildA, rowA, nrmP, partV, partA, fieldA, fieldV, elemA, lenA, bltA, asSl, appA, makeA, makeR, cutA, bndA, binV, intOp, strOp, unV, eqB, nilB, sameT, List.all_cons, List.all_nil, Bool.and_self, Bool.and_true, Bool.true_and, List.map_cons, List.map_nil, List.nil_append, List.cons_append, List.append_nil, AV.bare, AV.content, AV.clean, AV.one, putD, List.set_cons_zero, List.set_cons_succ, List.reverse_cons, List.reverse_nil, List.getD_cons_zero, List.getD_cons_succ, List.getElem?_cons_zero, List.getElem?_cons_succ, Option.getD_some, Option.map_some, Option.map_none, Option.bind_some, List.length_cons, List.length_nil, lk, cellsA, fillA, fillS, isAggD, spl, nrm, nrmA, List.take_succ_cons, List.take_zero, List.drop_succ_cons, List.drop_zero, List.drop_nil, List.take_nil, Nat.reduceAdd, Nat.zero_add, Nat.add_zero, Nat.add_assoc, Nat.add_left_cancel_iff, reduceCtorEq, Prod.mk.injEq, List.cons.injEq, and_self, and_true, true_and, Nat.le_refl, Nat.reduceLeDiff, Nat.reduceEqDiff, List.getElem?_nil, Int.reduceToNat, Int.reduceLE, Int.reduceLT, ite_self, List.forall_mem_cons, List.not_mem_nil, false_and, and_false, Bool.false_eq_true, List.replicate_zero, List.replicate_succ, Int.toNat_natCast, neJ2, neJ2', neJ3, neJ3', callOf, callOf2, fnOf, argsA, args2, Array.isEmpty_empty, resLL, resVL, beq_self_eq_true, st3, zt3, it3, ct3, se3, Tryz.underlying3, st4, zt4, it4, ct4, se4, Tryz.underlying4, st22, zt22, it22, ct22, se22, Tryz.underlying22, st36, zt36, it36, ct36, se36, Tryz.underlying36, Tryz.results83, Tryz.results77, st9, zt9, it9, ct9, se9, Tryz.underlying9, st23, zt23, it23, ct23, se23, Tryz.underlying23, st25, zt25, it25, ct25, pt25, eqs25, se25, Tryz.underlying25, st26, zt26, it26, ct26, se26, Tryz.underlying26, st28, zt28, it28, ct28, pt28, se28, Tryz.underlying28, st29, zt29, it29, ct29, se29, Tryz.underlying29, st30, zt30, it30, ct30, se30, Tryz.underlying30, st32, zt32, it32, ct32, pt32, se32, Tryz.underlying32, st33, zt33, it33, ct33, se33, Tryz.underlying33, st48, zt48, it48, ct48, pt48, eqs48, se48, Tryz.underlying48, st49, zt49, it49, ct49, se49, Tryz.underlying49, Tryz.results123, st37, Tryz.underlying37, Tryz.results49, newB, oldB, decide_true, decide_false, Bool.not_true, Bool.not_false, Bool.true_or, Bool.false_or, Bool.or_true, U.out] <;> rfl) : a = b := h
abbrev aKs (l : List (List Int)) : AV := .sl (l.map fun k => [ints k]) none
theorem kss_at {l : List (List Int)} {i : Nat} (h : i < l.length) : (l.map fun k => [ints k])[i]? = some [ints (l.getD i [])] := by simp [h]
theorem kss_ix {l : List (List Int)} {k : Int} (h0 : 0 ≤ k) (h : k < l.length) : (l.map fun k => [ints k])[k.toNat]? = some [ints (l.getD k.toNat [])] := kss_at (by omega)
theorem rg83w10 {T : List Rid} {p : Path} {Q : Exit → SL → Prop} {tm : List AV} {L : RL} {n : Nat} {c : Code} {l : List Oper} (n' : Nat) (Qs : List Nat) (h : ∀ all, (ro c).toList = all → GoI Tryz.prog T p all false Qs n 0 l tm L fun tm' L' => Q .normal ⟨tm', L', n'⟩) (hk : kd c = 0 := by kernel_rfl) (hr : rd c = false := by kernel_rfl) (hl : (ro c).toList = l := by dsimp only [ro, s1, s2, c1, c2, bc, bod, Tryz.f83, Option.getD_some] <;> exact rfl) (hn : n + (ro c).size = n' := by kernel_rfl) : PI Tryz.prog T p c Q ⟨tm, L, n⟩ := PI.rg n' Qs hk hr hl (fun h => by cases h) hn (h _ rfl)
theorem rd83w10 {T : List Rid} {p : Path} {Q : Exit → SL → Prop} {tm : List AV} {L : RL} {n : Nat} {c : Code} {l : List Oper} (n' : Nat) (Qs : List Nat) (h : ∀ all, (ro c).toList = all → GoI Tryz.prog T p all true Qs n 0 l tm L fun tm' L' => Q .normal ⟨tm', L', n'⟩) (hk : kd c = 0 := by kernel_rfl) (hr : rd c = true := by kernel_rfl) (hl : (ro c).toList = l := by dsimp only [ro, s1, s2, c1, c2, bc, bod, Tryz.f83, Option.getD_some] <;> exact rfl) (hn : n + (ro c).size = n' := by kernel_rfl) (hd : drawOK (ro c) Qs = true := by kernel_rfl) : PI Tryz.prog T p c Q ⟨tm, L, n⟩ := PI.rg n' Qs hk hr hl (fun _ => hd) hn (h _ rfl)
set_option maxRecDepth 100000 in
theorem okEqual (a b : List Int) (hl : a.length ≤ maxLen) : CallsOK Tryz.prog 83 [ints a, ints b] (aI (eqlS a b)) := by
  have U : Hid True := ⟨trivial⟩
  refine CallsOK.of_pi mixed Tryz.func83 (by kernel_rfl) (by kernel_rfl) (?_ : PI _ _ _ _ _ ⟨[ints a, ints b, .und, .und, .und, .und, .und, .und, .und, .und, .und, .und, .und, .und, .und, .und, .und, .und, .und, .und, .und, .und, .und, .und, .und, .und], [], 0⟩)
  refine PI.q ?_
  refine rg83w10 (1) [] fun all1 _ => ?_
  refine GoI.z nfw10 ?_
  refine PI.q ?_
  refine PI.q ?_
  refine rg83w10 (6) [] fun all2 _ => ?_
  refine GoI.runN 2 nfw10 ?_
  refine GoI.runN 2 nfw10 ?_
  refine GoI.z nfw10 ?_
  refine PI.d 10 nfw10 (fun hb1 => ?_) (fun hb1 => ?_)
  ·
   try simp only [hb1]
   have hr : eqlS a b = 13 := by unfold eqlS; rw [if_pos (by simp at hb1; omega)]
   rw [hr]
   refine PI.q ?_
   refine rg83w10 (7) [] fun all3 _ => ?_
   refine GoI.z nfw10 ?_
   refine PI.r ?_
   exact FinI.mk _ nfw10 (by clear U; rfl)
  try simp only [hb1]
  have hlen : a.length = b.length := by simp at hb1; omega
  have hr : eqlS a b = if a == b then 0 else 7 := by unfold eqlS; rw [if_neg (by omega)]
  rw [hr]
  refine PI.s ?_
  refine PI.q ?_
  refine PI.q ?_
  refine rg83w10 (9) [] fun all4 _ => ?_
  refine GoI.runN 2 nfw10 ?_
  refine GoI.z nfw10 ?_
  refine PI.b 0 ?_
  refine PI.lo (by kernel_rfl) (X := Nat) (fun i => (13, aI i) :: uk [4, 5, 14, 15, 16, 17, 18, 19, 20, 21, 22, 23, 24, 25]) (fun _ => []) (fun k i => k = a.length - i ∧ i ≤ a.length ∧ a.take i = b.take i) (a.length) (0) (GhI.of_wk ⟨by simp [ovr, uk, lessT, neJ2, neJ2', neJ3, neJ3'], by simp [lessR, lk, neJ2, neJ2', neJ3, neJ3'], by (try dsimp only); omega, keep0⟩) (by simp) ?_
  intro k1 x1 j1 hr1
  obtain ⟨rfl, hi1, ha⟩ := hr1
  simp only [ovr, uk, List.set_cons_zero, List.set_cons_succ]
  refine PI.q ?_
  refine rg83w10 (j1 + 10) [] fun all5 _ => ?_
  refine GoI.z nfw10 ?_
  refine PI.q ?_
  refine PI.d 14 nfw10 (fun hb2 => ?_) (fun hb2 => ?_)
  ·
   try simp only [hb2]
   obtain ⟨hlt, hw⟩ := up hb2 hl
   have hg := ints_at hlt
   have hlt' : x1 < b.length := by omega
   have hg' := ints_at hlt'
   replace U := U.cons (And.intro (hw) (And.intro (hg) (hg')))
   refine PI.s ?_
   refine PI.q ?_
   refine PI.b 1 ?_
   refine PI.q ?_
   refine rg83w10 (j1 + 12) [] fun all6 _ => ?_
   refine GoI.z nfw10 ?_
   refine PI.q ?_
   refine rd83w10 (j1 + 21) [] fun all7 _ => ?_
   refine GoI.runN 2 nfw10 ?_
   refine GoI.runN 2 nfw10 ?_
   refine GoI.runN 2 nfw10 ?_
   refine GoI.runN 2 nfw10 ?_
   refine GoI.z nfw10 ?_
   refine PI.d 24 nfw10 (fun hb3 => ?_) (fun hb3 => ?_)
   ·
    try simp only [hb3]
    rw [if_neg (by simp; intro h; subst h; simp at hb3)]
    refine PI.q ?_
    refine rg83w10 (j1 + 22) [] fun all8 _ => ?_
    refine GoI.z nfw10 ?_
    refine PI.r ?_
    exact FinI.mk _ nfw10 (by clear U; rfl)
   try simp only [hb3]
   have h3 : a[x1] = b[x1] := by simpa using hb3
   refine PI.s ?_
   refine rg83w10 (j1 + 23) [] fun all9 _ => ?_
   refine GoI.z nfw10 ?_
   refine ⟨a.length - (x1 + 1), x1 + 1, j1 + 14, by omega, ⟨rfl, by omega, by rw [List.take_succ_eq_append_getElem hlt, List.take_succ_eq_append_getElem hlt', ha, h3]⟩, GhI.of_wk ⟨by simp [ovr, uk, lessT, neJ2, neJ2', neJ3, neJ3'], by simp [lessR, lk, neJ2, neJ2', neJ3, neJ3'], by (try dsimp only); omega, keep0⟩⟩
  try simp only [hb2]
  have hx := dn hb2
  rw [List.take_of_length_le (by omega), List.take_of_length_le (by omega)] at ha
  rw [if_pos (by simpa using ha)]
  refine PI.e 0 ?_
  refine PI.q ?_
  refine rg83w10 (j1 + 11) [] fun all10 _ => ?_
  refine GoI.z nfw10 ?_
  refine PI.r ?_
  exact FinI.mk _ nfw10 (by clear U; rfl)
def scanS (int : Int) (ins : List (List Int)) : List Int × Int := if (decide (int < 0) || decide (int ≥ ins.length)) = true then ([], 6) else if (ins.getD int.toNat []).all kindS = false then ([], 7) else (ins.getD int.toNat [], 0)
theorem inp_1 {op : Int} {n : Nat} (h : inpS op = n) (h1 : op ≠ 1) (h2 : op ≠ 2) : 1 ≤ n := by
  unfold inpS at h
  rw [if_neg (by simp; omega)] at h
  repeat' split at h
  all_goals omega
theorem inp_2 {op : Int} {n : Nat} (h : inpS op = n) (h1 : op = 5 ∨ op = 6 ∨ op = 7 ∨ op = 8 ∨ op = 9) : n = 2 := by
  rcases h1 with rfl | rfl | rfl | rfl | rfl <;> (simp [inpS] at h; omega)
def opS (f : PlF) (ins sub : List (List Int)) : List Int × Int :=
  if f.op == 1 then scanS f.int ins
  else if f.op == 2 then (f.kinds, valS f.rows f.kinds)
  else if f.op == 3 then (sub.getD 0 [], predS (sub.getD 0 []) f.pred)
  else if f.op == 4 then projS (sub.getD 0 []) f.exprs
  else if f.op == 11 then grpK f.keys f.aggs (sub.getD 0 [])
  else if f.op == 5 || f.op == 6 then (sub.getD 0 [] ++ sub.getD 1 [], predS (sub.getD 0 [] ++ sub.getD 1 []) f.pred)
  else if f.op == 7 || (f.op == 8 || f.op == 9) then (sub.getD 0 [], eqlS (sub.getD 0 []) (sub.getD 1 []))
  else (sub.getD 0 [], 0)
theorem aE_pred (f : PlF) : aE f.pred = aEx f.po f.pi f.pv f.pn f.pa := by unfold PlF.pred; exact aE_mk _ _ _ _ _
theorem rg49w10 {T : List Rid} {p : Path} {Q : Exit → SL → Prop} {tm : List AV} {L : RL} {n : Nat} {c : Code} {l : List Oper} (n' : Nat) (Qs : List Nat) (h : ∀ all, (ro c).toList = all → GoI Tryz.prog T p all false Qs n 0 l tm L fun tm' L' => Q .normal ⟨tm', L', n'⟩) (hk : kd c = 0 := by kernel_rfl) (hr : rd c = false := by kernel_rfl) (hl : (ro c).toList = l := by dsimp only [ro, s1, s2, c1, c2, bc, bod, Tryz.f49, Option.getD_some] <;> exact rfl) (hn : n + (ro c).size = n' := by kernel_rfl) : PI Tryz.prog T p c Q ⟨tm, L, n⟩ := PI.rg n' Qs hk hr hl (fun h => by cases h) hn (h _ rfl)
theorem rd49w10 {T : List Rid} {p : Path} {Q : Exit → SL → Prop} {tm : List AV} {L : RL} {n : Nat} {c : Code} {l : List Oper} (n' : Nat) (Qs : List Nat) (h : ∀ all, (ro c).toList = all → GoI Tryz.prog T p all true Qs n 0 l tm L fun tm' L' => Q .normal ⟨tm', L', n'⟩) (hk : kd c = 0 := by kernel_rfl) (hr : rd c = true := by kernel_rfl) (hl : (ro c).toList = l := by dsimp only [ro, s1, s2, c1, c2, bc, bod, Tryz.f49, Option.getD_some] <;> exact rfl) (hn : n + (ro c).size = n' := by kernel_rfl) (hd : drawOK (ro c) Qs = true := by kernel_rfl) : PI Tryz.prog T p c Q ⟨tm, L, n⟩ := PI.rg n' Qs hk hr hl (fun _ => hd) hn (h _ rfl)
set_option maxHeartbeats 2000000 in
set_option maxRecDepth 100000 in
theorem okOperator (f : PlF) (ins sub : List (List Int)) (hf : SmF f) (hn : inpS f.op = sub.length) (hi : ∀ k ∈ ins, k.length ≤ maxLen) (hs : ∀ k ∈ sub, k.length ≤ 100000) : CallsOK Tryz.prog 49 [aP f, aKs ins, aKs sub] (.tup [ints (opS f ins sub).1, aI (opS f ins sub).2]) := by
  have hin : ∀ {l : List (List Int)} {N i : Nat}, (∀ k ∈ l, k.length ≤ N) → (l.getD i []).length ≤ N := fun {l N i} h => by
    rw [List.getD_eq_getElem?_getD]
    by_cases hi : i < l.length
    · rw [List.getElem?_eq_getElem hi]; exact h _ (List.getElem_mem hi)
    · rw [List.getElem?_eq_none (by omega)]; exact Nat.zero_le _
  generalize hRS : opS f ins sub = RS
  have hk0 : (sub.getD 0 []).length ≤ 100000 := hin hs
  have hk1 : (sub.getD 1 []).length ≤ 100000 := hin hs
  have hkm : f.kinds.length ≤ maxLen := by have := hf.hk; unfold maxLen; omega
  unfold opS at hRS
  have U : Hid True := ⟨trivial⟩
  refine CallsOK.of_pi mixed Tryz.func49 (by kernel_rfl) (by kernel_rfl) (?_ : PI _ _ _ _ _ ⟨[aP f, aKs ins, aKs sub, .und, .und, .und, .und, .und, .und, .und, .und, .und, .und, .und, .und, .und, .und, .und, .und, .und, .und, .und, .und, .und, .und, .und, .und, .und, .und, .und, .und, .und, .und, .und, .und, .und, .und, .und, .und, .und, .und, .und, .und, .und, .und, .und, .und, .und, .und, .und, .und, .und, .und, .und, .und, .und, .und, .und, .und, .und, .und, .und, .und, .und, .und, .und, .und, .und, .und, .und, .und, .und, .und, .und, .und, .und, .und, .und, .und, .und, .und, .und, .und, .und, .und, .und, .und, .und, .und, .und, .und, .und, .und, .und, .und, .und, .und, .und, .und, .und, .und, .und, .und, .und, .und, .und, .und, .und], [], 0⟩)
  refine PI.q ?_
  refine rg49w10 (3) [] fun all1 _ => ?_
  refine GoI.runN 2 nfw10 ?_
  refine GoI.z nfw10 ?_
  refine PI.q ?_
  refine PI.q ?_
  refine rg49w10 (5) [] fun all2 _ => ?_
  refine GoI.z nfw10 ?_
  refine PI.b 0 ?_
  refine PI.q ?_
  refine rg49w10 (7) [] fun all3 _ => ?_
  refine GoI.z nfw10 ?_
  refine PI.d 11 nfw10 (fun hb1 => ?_) (fun hb1 => ?_)
  ·
   try simp only [hb1]
   rw [if_pos hb1] at hRS
   refine PI.q ?_
   refine PI.q ?_
   refine rg49w10 (17) [] fun all4 hall4 => ?_
   have hgd4_3 : (all4[3]?).bind (fun o => o.dst) = some 16 := by rw [← hall4]; kernel_rfl
   replace U := U.cons (hgd4_3)
   refine GoI.runN 2 nfw10 ?_
   refine GoI.runN 2 nfw10 ?_
   refine GoI.grd 16 nfw10 (fun hg1 => ?_) (fun hg1 => ?_)
   ·
    try simp only [hg1]
    refine GoI.runN 2 nfw10 ?_
    refine GoI.runN 2 nfw10 ?_
    refine GoI.z nfw10 ?_
    refine PI.t 22 nfw10 ?_
    have hr : scanS f.int ins = ([], 6) := by unfold scanS; rw [if_pos (by simp_all)]
    rw [hr] at hRS
    refine PI.q ?_
    refine rg49w10 (19) [] fun all5 _ => ?_
    refine GoI.z nfw10 ?_
    refine PI.r ?_
    exact FinI.mk _ nfw10 (by clear U; subst hRS; simp [finR, nrmA, nrm, AV.content])
   try simp only [hg1]
   refine GoI.runN 2 nfw10 ?_
   refine GoI.runN 2 nfw10 ?_
   refine GoI.z nfw10 ?_
   refine PI.d 22 nfw10 (fun hb2 => ?_) (fun hb2 => ?_)
   ·
    try simp only [hb2]
    have hr : scanS f.int ins = ([], 6) := by unfold scanS; rw [if_pos (by simp_all)]
    rw [hr] at hRS
    refine PI.q ?_
    refine rg49w10 (19) [] fun all5 _ => ?_
    refine GoI.z nfw10 ?_
    refine PI.r ?_
    exact FinI.mk _ nfw10 (by clear U; subst hRS; simp [finR, nrmA, nrm, AV.content])
   try simp only [hb2]
   have h0 : 0 ≤ f.int := by simp_all
   have h1 : f.int < (ins.length : Int) := by simp_all
   have hx := kss_ix h0 h1
   have hr : scanS f.int ins = if (ins.getD f.int.toNat []).all kindS = false then ([], 7) else (ins.getD f.int.toNat [], 0) := by unfold scanS; rw [if_neg (by simp; omega)]
   rw [hr] at hRS
   have hkl : (ins.getD f.int.toNat []).length ≤ maxLen := hin hi
   generalize ins.getD f.int.toNat [] = K at hx hRS hkl
   replace U := U.cons (And.intro (h0) (And.intro (h1) (hx)))
   refine PI.s ?_
   refine PI.q ?_
   refine PI.q ?_
   refine rg49w10 (24) [] fun all6 _ => ?_
   refine GoI.runN 2 nfw10 ?_
   refine GoI.runN 2 nfw10 ?_
   refine GoI.run nfw10 ?_
   refine GoI.call nfw10 nfw10 (by exact okBasic _ hkl) ?_
   refine GoI.z nfw10 ?_
   refine PI.d 29 nfw10 (fun hb3 => ?_) (fun hb3 => ?_)
   ·
    try simp only [hb3]
    rw [if_pos (by simpa using hb3)] at hRS
    refine PI.q ?_
    refine rg49w10 (26) [] fun all7 _ => ?_
    refine GoI.z nfw10 ?_
    refine PI.r ?_
    exact FinI.mk _ nfw10 (by clear U; subst hRS; simp [finR, nrmA, nrm, AV.content])
   try simp only [hb3]
   rw [if_neg (by simpa using hb3)] at hRS
   refine PI.s ?_
   refine PI.q ?_
   refine rg49w10 (31) [] fun all8 _ => ?_
   refine GoI.runN 2 nfw10 ?_
   refine GoI.runN 2 nfw10 ?_
   refine GoI.runN 2 nfw10 ?_
   refine GoI.z nfw10 ?_
   refine PI.r ?_
   exact FinI.mk _ nfw10 (by clear U; subst hRS; simp [finR, nrmA, nrm, AV.content])
  try simp only [hb1]
  rw [if_neg (by rw [hb1]; decide)] at hRS
  have hn1 : f.op ≠ 1 := by simpa using hb1
  refine PI.q ?_
  refine rg49w10 (9) [] fun all9 _ => ?_
  refine GoI.z nfw10 ?_
  refine PI.d 35 nfw10 (fun hb4 => ?_) (fun hb4 => ?_)
  ·
   try simp only [hb4]
   rw [if_pos hb4] at hRS
   refine PI.q ?_
   refine rd49w10 (15) [] fun all10 _ => ?_
   refine GoI.runN 2 nfw10 ?_
   refine GoI.run nfw10 ?_
   refine GoI.call nfw10 nfw10 (by exact okValues _ hf.hr hkm) ?_
   refine GoI.z nfw10 ?_
   refine PI.r ?_
   exact FinI.mk _ nfw10 (by clear U; subst hRS; simp [finR, nrmA, nrm, AV.content])
  try simp only [hb4]
  rw [if_neg (by rw [hb4]; decide)] at hRS
  have hn2 : f.op ≠ 2 := by simpa using hb4
  have hl1 := inp_1 hn hn1 hn2
  have hx0 := kss_at (l := sub) (i := 0) (by omega)
  have hl1i : (0 : Int) < (sub.length : Int) := by omega
  replace U := U.cons (And.intro (hx0) (And.intro (hl1) (hl1i)))
  refine PI.q ?_
  refine rg49w10 (11) [] fun all11 _ => ?_
  refine GoI.z nfw10 ?_
  refine PI.d 41 nfw10 (fun hb5 => ?_) (fun hb5 => ?_)
  ·
   try simp only [hb5]
   rw [if_pos hb5] at hRS
   refine PI.q ?_
   refine rd49w10 (22) [] fun all12 _ => ?_
   refine GoI.runN 2 nfw10 ?_
   refine GoI.runN 2 nfw10 ?_
   refine GoI.runN 2 nfw10 ?_
   refine GoI.runN 2 nfw10 ?_
   refine GoI.call nfw10 nfw10 (by have h0 := okPred (sub.getD 0 []) f.pred hf.hp; rw [aE_pred] at h0; exact h0) ?_
   refine GoI.z nfw10 ?_
   refine PI.r ?_
   exact FinI.mk _ nfw10 (by clear U; subst hRS; simp [finR, nrmA, nrm, AV.content])
  try simp only [hb5]
  rw [if_neg (by rw [hb5]; decide)] at hRS
  refine PI.q ?_
  refine rg49w10 (13) [] fun all13 _ => ?_
  refine GoI.z nfw10 ?_
  refine PI.d 52 nfw10 (fun hb6 => ?_) (fun hb6 => ?_)
  ·
   try simp only [hb6]
   rw [if_pos hb6] at hRS
   refine PI.q ?_
   refine rd49w10 (23) [] fun all14 _ => ?_
   refine GoI.runN 2 nfw10 ?_
   refine GoI.runN 2 nfw10 ?_
   refine GoI.run nfw10 ?_
   refine GoI.call nfw10 nfw10 (by exact okProjd (sub.getD 0 []) f.exprs hf.he hf.hx) ?_
   refine GoI.runN 2 nfw10 ?_
   refine GoI.z nfw10 ?_
   refine PI.r ?_
   exact FinI.mk _ nfw10 (by clear U; subst hRS; simp [finR, nrmA, nrm, AV.content])
  try simp only [hb6]
  rw [if_neg (by rw [hb6]; decide)] at hRS
  refine PI.q ?_
  refine rg49w10 (15) [] fun all15 _ => ?_
  refine GoI.z nfw10 ?_
  refine PI.d 62 nfw10 (fun hb7 => ?_) (fun hb7 => ?_)
  ·
   try simp only [hb7]
   rw [if_pos hb7] at hRS
   refine PI.q ?_
   refine rd49w10 (27) [] fun all16 _ => ?_
   refine GoI.runN 2 nfw10 ?_
   refine GoI.runN 2 nfw10 ?_
   refine GoI.runN 2 nfw10 ?_
   refine GoI.run nfw10 ?_
   refine GoI.call nfw10 nfw10 (by exact okGroupedS f.keys f.aggs (sub.getD 0 []) hf.hq hf.ha) ?_
   refine GoI.runN 2 nfw10 ?_
   refine GoI.z nfw10 ?_
   refine PI.r ?_
   exact FinI.mk _ nfw10 (by clear U; subst hRS; simp [finR, nrmA, nrm, AV.content])
  try simp only [hb7]
  rw [if_neg (by rw [hb7]; decide)] at hRS
  refine PI.q ?_
  refine PI.q ?_
  refine rg49w10 (17) [] fun all17 _ => ?_
  refine GoI.z nfw10 ?_
  refine PI.d 74 nfw10 (fun hb8 => ?_) (fun hb8 => ?_)
  ·
   try simp only [hb8]
   refine PI.s ?_
   refine PI.t 74 nfw10 ?_
   rw [if_pos (by simp_all)] at hRS
   have hl2 : sub.length = 2 := inp_2 hn (by simp_all)
   have hx1 := kss_at (l := sub) (i := 1) (by omega)
   have hl2i : (1 : Int) < (sub.length : Int) := by omega
   have hlt2 : 1 < sub.length := by omega
   have hap1 : (sub.getD 0 []).length * 8 ≤ 140737488355328 := by omega
   have hap2 : ((sub.getD 0 []).length + (sub.getD 1 []).length) * 8 ≤ 140737488355328 := by omega
   replace U := U.cons (And.intro (hx1) (And.intro (hl2i) (And.intro (hlt2) (And.intro (hap1) (And.intro (hap2) (And.intro (rowLen (f := fun k : Int => [aI k]) (n := 1) (fun _ => rfl) (sub.getD 0 [])) (rowLen (f := fun k : Int => [aI k]) (n := 1) (fun _ => rfl) (sub.getD 1 []))))))))
   refine PI.q ?_
   refine rd49w10 (27) [1000004, 1000008, 2000003, 2000007] fun all19 _ => ?_
   refine GoI.runN 2 nfw10 ?_
   refine GoI.runN 2 nfw10 ?_
   refine GoI.runN 2 nfw10 ?_
   refine GoI.runN 2 nfw10 ?_
   refine GoI.z nfw10 ?_
   refine PI.q ?_
   refine rg49w10 (34) [] fun all20 _ => ?_
   refine GoI.runN 2 nfw10 ?_
   refine GoI.runN 2 nfw10 ?_
   refine GoI.call nfw10 nfw10 (by have h0 := okPred (sub.getD 0 [] ++ sub.getD 1 []) f.pred hf.hp; rw [aE_pred] at h0; simp only [ints, List.map_append] at h0; exact h0) ?_
   refine GoI.z nfw10 ?_
   refine PI.r ?_
   exact FinI.mk _ nfw10 (by clear U; subst hRS; simp [finR, nrmA, nrm, AV.content])
  try simp only [hb8]
  refine rg49w10 (19) [] fun all18 _ => ?_
  refine GoI.z nfw10 ?_
  refine PI.d 74 nfw10 (fun hb9 => ?_) (fun hb9 => ?_)
  ·
   try simp only [hb9]
   rw [if_pos (by simp_all)] at hRS
   have hl2 : sub.length = 2 := inp_2 hn (by simp_all)
   have hx1 := kss_at (l := sub) (i := 1) (by omega)
   have hl2i : (1 : Int) < (sub.length : Int) := by omega
   have hlt2 : 1 < sub.length := by omega
   have hap1 : (sub.getD 0 []).length * 8 ≤ 140737488355328 := by omega
   have hap2 : ((sub.getD 0 []).length + (sub.getD 1 []).length) * 8 ≤ 140737488355328 := by omega
   replace U := U.cons (And.intro (hx1) (And.intro (hl2i) (And.intro (hlt2) (And.intro (hap1) (And.intro (hap2) (And.intro (rowLen (f := fun k : Int => [aI k]) (n := 1) (fun _ => rfl) (sub.getD 0 [])) (rowLen (f := fun k : Int => [aI k]) (n := 1) (fun _ => rfl) (sub.getD 1 []))))))))
   refine PI.q ?_
   refine rd49w10 (29) [1000004, 1000008, 2000003, 2000007] fun all19 _ => ?_
   refine GoI.runN 2 nfw10 ?_
   refine GoI.runN 2 nfw10 ?_
   refine GoI.runN 2 nfw10 ?_
   refine GoI.runN 2 nfw10 ?_
   refine GoI.z nfw10 ?_
   refine PI.q ?_
   refine rg49w10 (36) [] fun all20 _ => ?_
   refine GoI.runN 2 nfw10 ?_
   refine GoI.runN 2 nfw10 ?_
   refine GoI.call nfw10 nfw10 (by have h0 := okPred (sub.getD 0 [] ++ sub.getD 1 []) f.pred hf.hp; rw [aE_pred] at h0; simp only [ints, List.map_append] at h0; exact h0) ?_
   refine GoI.z nfw10 ?_
   refine PI.r ?_
   exact FinI.mk _ nfw10 (by clear U; subst hRS; simp [finR, nrmA, nrm, AV.content])
  try simp only [hb9]
  rw [if_neg (by simp_all)] at hRS
  refine PI.q ?_
  refine PI.q ?_
  refine rg49w10 (21) [] fun all21 _ => ?_
  refine GoI.z nfw10 ?_
  refine PI.d 91 nfw10 (fun hb10 => ?_) (fun hb10 => ?_)
  ·
   try simp only [hb10]
   refine PI.s ?_
   refine PI.t 91 nfw10 ?_
   rw [if_pos (by simp_all)] at hRS
   have hl2 : sub.length = 2 := inp_2 hn (by simp_all)
   have hx1 := kss_at (l := sub) (i := 1) (by omega)
   have hl2i : (1 : Int) < (sub.length : Int) := by omega
   have hlt2 : 1 < sub.length := by omega
   replace U := U.cons (And.intro (hx1) (And.intro (hl2i) (hlt2)))
   refine PI.q ?_
   refine rd49w10 (33) [] fun all24 _ => ?_
   refine GoI.runN 2 nfw10 ?_
   refine GoI.runN 2 nfw10 ?_
   refine GoI.runN 2 nfw10 ?_
   refine GoI.runN 2 nfw10 ?_
   refine GoI.run nfw10 ?_
   refine GoI.call nfw10 nfw10 (by exact okEqual _ _ (by unfold maxLen; omega)) ?_
   refine GoI.z nfw10 ?_
   refine PI.r ?_
   exact FinI.mk _ nfw10 (by clear U; subst hRS; simp [finR, nrmA, nrm, AV.content])
  try simp only [hb10]
  refine PI.q ?_
  refine rg49w10 (23) [] fun all22 _ => ?_
  refine GoI.z nfw10 ?_
  refine PI.d 91 nfw10 (fun hb11 => ?_) (fun hb11 => ?_)
  ·
   try simp only [hb11]
   refine PI.s ?_
   refine PI.t 91 nfw10 ?_
   rw [if_pos (by simp_all)] at hRS
   have hl2 : sub.length = 2 := inp_2 hn (by simp_all)
   have hx1 := kss_at (l := sub) (i := 1) (by omega)
   have hl2i : (1 : Int) < (sub.length : Int) := by omega
   have hlt2 : 1 < sub.length := by omega
   replace U := U.cons (And.intro (hx1) (And.intro (hl2i) (hlt2)))
   refine PI.q ?_
   refine rd49w10 (35) [] fun all24 _ => ?_
   refine GoI.runN 2 nfw10 ?_
   refine GoI.runN 2 nfw10 ?_
   refine GoI.runN 2 nfw10 ?_
   refine GoI.runN 2 nfw10 ?_
   refine GoI.run nfw10 ?_
   refine GoI.call nfw10 nfw10 (by exact okEqual _ _ (by unfold maxLen; omega)) ?_
   refine GoI.z nfw10 ?_
   refine PI.r ?_
   exact FinI.mk _ nfw10 (by clear U; subst hRS; simp [finR, nrmA, nrm, AV.content])
  try simp only [hb11]
  refine rg49w10 (25) [] fun all23 _ => ?_
  refine GoI.z nfw10 ?_
  refine PI.d 91 nfw10 (fun hb12 => ?_) (fun hb12 => ?_)
  ·
   try simp only [hb12]
   rw [if_pos (by simp_all)] at hRS
   have hl2 : sub.length = 2 := inp_2 hn (by simp_all)
   have hx1 := kss_at (l := sub) (i := 1) (by omega)
   have hl2i : (1 : Int) < (sub.length : Int) := by omega
   have hlt2 : 1 < sub.length := by omega
   replace U := U.cons (And.intro (hx1) (And.intro (hl2i) (hlt2)))
   refine PI.q ?_
   refine rd49w10 (37) [] fun all24 _ => ?_
   refine GoI.runN 2 nfw10 ?_
   refine GoI.runN 2 nfw10 ?_
   refine GoI.runN 2 nfw10 ?_
   refine GoI.runN 2 nfw10 ?_
   refine GoI.run nfw10 ?_
   refine GoI.call nfw10 nfw10 (by exact okEqual _ _ (by unfold maxLen; omega)) ?_
   refine GoI.z nfw10 ?_
   refine PI.r ?_
   exact FinI.mk _ nfw10 (by clear U; subst hRS; simp [finR, nrmA, nrm, AV.content])
  try simp only [hb12]
  rw [if_neg (by simp_all)] at hRS
  refine PI.s ?_
  refine PI.q ?_
  refine rg49w10 (30) [] fun all25 _ => ?_
  refine GoI.runN 2 nfw10 ?_
  refine GoI.runN 2 nfw10 ?_
  refine GoI.z nfw10 ?_
  refine PI.r ?_
  exact FinI.mk _ nfw10 (by clear U; subst hRS; simp [finR, nrmA, nrm, AV.content])
end Go.FE
namespace Go.FE
open Go.Proofs
def nrmK (r : List Int × Int) : List Int × Int := if r.2 = 0 then r else ([], r.2)
end Go.FE
namespace Go.FE
open Go.Proofs
def fitK (r : List Int × Int) : List Int × Int := if r.2 ≠ 0 then r else if (decide ((r.1.length : Int) < 1) || decide ((r.1.length : Int) > 48)) = true then ([], 13) else r
def nodR (ins : List (List Int)) (f : PlF) (rs : List (List Int × Int)) : List Int × Int :=
  if inpS f.op < 0 then ([], 7)
  else if inpS f.op ≠ rs.length then ([], 8)
  else match rs.find? (fun r => r.2 != 0) with
    | some r => ([], r.2)
    | none => fitK (nrmK (opS f ins (rs.map (·.1))))
mutual
def nodeS (ins : List (List Int)) : Pl → List Int × Int
  | .mk op int kinds rows pred exprs keys aggs inputs => nodR ins (Pl.mk op int kinds rows pred exprs keys aggs inputs).f (nodeSs ins inputs)
def nodeSs (ins : List (List Int)) : List Pl → List (List Int × Int)
  | [] => []
  | p :: l => nodeS ins p :: nodeSs ins l
end
theorem nodeSs_map (ins : List (List Int)) : ∀ l : List Pl, nodeSs ins l = l.map (nodeS ins)
  | [] => by simp [nodeSs]
  | e :: l => by rw [nodeSs, nodeSs_map ins l]; rfl
theorem nodeS_f (ins : List (List Int)) (p : Pl) : nodeS ins p = nodR ins p.f (p.f.inputs.map (nodeS ins)) := by
  obtain ⟨op, int, kinds, rows, pred, exprs, keys, aggs, inputs⟩ := p
  obtain ⟨po, pi, pv, pn, pa⟩ := pred
  rw [nodeS, nodeSs_map]; rfl
theorem fitK_len (r : List Int × Int) (h : r.2 ≠ 0 → r.1.length ≤ 48) : (fitK r).1.length ≤ 48 := by
  unfold fitK
  split
  · exact h (by assumption)
  · split
    · exact Nat.zero_le _
    · rename_i hc; simp at hc; omega
theorem nodR_len (ins : List (List Int)) (f : PlF) (rs : List (List Int × Int)) : (nodR ins f rs).1.length ≤ 48 := by
  unfold nodR
  split
  · exact Nat.zero_le _
  · split
    · exact Nat.zero_le _
    · split
      · exact Nat.zero_le _
      · refine fitK_len _ fun h => ?_
        unfold nrmK at h ⊢
        split
        · rename_i hc; rw [if_pos hc] at h; exact absurd hc h
        · exact Nat.zero_le _
theorem nodeS_len (ins : List (List Int)) (p : Pl) : (nodeS ins p).1.length ≤ 48 := by rw [nodeS_f]; exact nodR_len _ _ _
theorem findK_ok {rs : List (List Int × Int)} (h : ∀ j (hj : j < rs.length), rs[j].2 = 0) : rs.find? (fun r => r.2 != 0) = none :=
  List.find?_eq_none.2 fun a ha => by obtain ⟨j, hj, e⟩ := List.mem_iff_getElem.1 ha; rw [← e, h j hj]; decide
theorem findK_er {rs : List (List Int × Int)} {i : Nat} (hi : i < rs.length) (h : ∀ j (hj : j < rs.length), j < i → rs[j].2 = 0) (he : rs[i].2 ≠ 0) : rs.find? (fun r => r.2 != 0) = some rs[i] := by
  rw [List.find?_eq_some_iff_getElem]
  exact ⟨by simpa using he, i, hi, rfl, fun j hj => by rw [h j (by omega) hj]; rfl⟩
theorem nod_7 {ins : List (List Int)} {f : PlF} {rs : List (List Int × Int)} (h : inpS f.op < 0) : nodR ins f rs = ([], 7) := by unfold nodR; rw [if_pos h]
theorem nod_8 {ins : List (List Int)} {f : PlF} {l : List Pl} (h : ¬ inpS f.op < 0) (h2 : inpS f.op ≠ l.length) : nodR ins f (l.map (nodeS ins)) = ([], 8) := by unfold nodR; rw [if_neg h, if_pos (by rw [List.length_map]; exact h2)]
theorem nod_er {ins : List (List Int)} {f : PlF} {l : List Pl} {i : Nat} (h : ¬ inpS f.op < 0) (h2 : inpS f.op = l.length) (hi : i < l.length) (hok : ∀ j (hj : j < l.length), j < i → (nodeS ins l[j]).2 = 0) (he : (nodeS ins l[i]).2 ≠ 0) : nodR ins f (l.map (nodeS ins)) = ([], (nodeS ins l[i]).2) := by
  unfold nodR
  rw [if_neg h, if_neg (by rw [List.length_map]; exact fun h' => h' h2), findK_er (i := i) (by simpa using hi) (fun j hj hji => by simpa using hok j (by simpa using hj) hji) (by simpa using he)]
  simp
theorem nod_ok {ins : List (List Int)} {f : PlF} {l : List Pl} (h : ¬ inpS f.op < 0) (h2 : inpS f.op = l.length) (hok : ∀ j (hj : j < l.length), (nodeS ins l[j]).2 = 0) : nodR ins f (l.map (nodeS ins)) = fitK (nrmK (opS f ins (l.map fun q => (nodeS ins q).1))) := by
  unfold nodR
  rw [if_neg h, if_neg (by rw [List.length_map]; exact fun h' => h' h2), findK_ok (fun j hj => by simpa using hok j (by simpa using hj))]
  dsimp only
  rw [List.map_map]; rfl
theorem okn_succ {ins : List (List Int)} {l : List Pl} {i : Nat} (h : ∀ j (hj : j < l.length), j < i → (nodeS ins l[j]).2 = 0) (hi : i < l.length) (h1 : (nodeS ins l[i]).2 = 0) : ∀ j (hj : j < l.length), j < i + 1 → (nodeS ins l[j]).2 = 0 := fun j hj hji => by
  rcases Nat.lt_or_ge j i with h2 | h2
  · exact h j hj h2
  · have e : j = i := by omega
    subst e; exact h1
theorem fit_1 {r : List Int × Int} (h : r.2 ≠ 0) : fitK (nrmK r) = ([], r.2) := by
  have hn : nrmK r = ([], r.2) := if_neg h
  unfold fitK
  rw [hn, if_pos h]
theorem fit_2 {r : List Int × Int} (h : r.2 = 0) (h2 : (decide ((r.1.length : Int) < 1) || decide ((r.1.length : Int) > 48)) = true) : fitK (nrmK r) = ([], 13) := by
  have hn : nrmK r = r := if_pos h
  unfold fitK
  rw [hn, if_neg (fun h' => h' h), if_pos h2]
theorem fit_3 {r : List Int × Int} (h : r.2 = 0) (h2 : (decide ((r.1.length : Int) < 1) || decide ((r.1.length : Int) > 48)) = false) : fitK (nrmK r) = r := by
  have hn : nrmK r = r := if_pos h
  unfold fitK
  rw [hn, if_neg (fun h' => h' h), if_neg (by rw [h2]; decide)]
end Go.FE
namespace Go.FE
open Go.Proofs
theorem nfw13 {α : Type} {a b : α} (h : a = b := by simp only [goP, goN, mrk, Nat.reduceMul, Nat.one_mul, Nat.mul_one, eq_self, false_implies, implies_true, Nat.reduceLT, List.getElem?_toArray, isCall, List.contains_nil, List.contains_cons, Nat.reduceBEq, Bool.or_false, Bool.or_self, List.length_map, gOf, step, stepM, stepP, ev, okV, if_true, if_false, allocA, storeA, boxA, one1, tokN, tok1, buildA, rowA, nrmP, partV, partA, fieldA, fieldV, elemA, lenA, bltA, asSl, appA, makeA, makeR, cutA, bndA, binV, intOp, strOp, unV, eqB, nilB, sameT, List.all_cons, List.all_nil, Bool.and_self, Bool.and_true, Bool.true_and, List.map_cons, List.map_nil, List.nil_append, List.cons_append, List.append_nil, AV.bare, AV.content, AV.clean, AV.one, putD, List.set_cons_zero, List.set_cons_succ, List.reverse_cons, List.reverse_nil, List.getD_cons_zero, List.getD_cons_succ, List.getElem?_cons_zero, List.getElem?_cons_succ, Option.getD_some, Option.map_some, Option.map_none, Option.bind_some, List.length_cons, List.length_nil, lk, cellsA, fillA, fillS, isAggD, spl, nrm, nrmA, List.take_succ_cons, List.take_zero, List.drop_succ_cons, List.drop_zero, List.drop_nil, List.take_nil, Nat.reduceAdd, Nat.zero_add, Nat.add_zero, Nat.add_assoc, Nat.add_left_cancel_iff, reduceCtorEq, Prod.mk.injEq, List.cons.injEq, and_self, and_true, true_and, Nat.le_refl, Nat.reduceLeDiff, Nat.reduceEqDiff, List.getElem?_nil, Int.reduceToNat, Int.reduceLE, Int.reduceLT, ite_self, List.forall_mem_cons, List.not_mem_nil, false_and, and_false, Bool.false_eq_true, List.replicate_zero, List.replicate_succ, Int.toNat_natCast, neJ2, neJ2', neJ3, neJ3', callOf, callOf2, fnOf, argsA, args2, Array.isEmpty_empty, resLL, resVL, beq_self_eq_true, st3, zt3, it3, ct3, se3, Tryz.underlying3, st4, zt4, it4, ct4, se4, Tryz.underlying4, st9, zt9, it9, ct9, se9, Tryz.underlying9, st22, zt22, it22, ct22, se22, Tryz.underlying22, st23, zt23, it23, ct23, se23, Tryz.underlying23, st25, zt25, it25, ct25, pt25, eqs25, se25, Tryz.underlying25, st26, zt26, it26, ct26, se26, Tryz.underlying26, st28, zt28, it28, ct28, pt28, se28, Tryz.underlying28, st29, zt29, it29, ct29, se29, Tryz.underlying29, st30, zt30, it30, ct30, se30, Tryz.underlying30, st32, zt32, it32, ct32, pt32, se32, Tryz.underlying32, st33, zt33, it33, ct33, se33, Tryz.underlying33, st36, zt36, it36, ct36, se36, Tryz.underlying36, st37, Tryz.underlying37, st48, zt48, it48, ct48, pt48, eqs48, se48, Tryz.underlying48, st49, zt49, it49, ct49, se49, Tryz.underlying49, st68, Tryz.underlying68, Tryz.results47, Tryz.results13, capsA, Tryz.results12, U.out] <;> rfl) : a = b := h
theorem rg47w13 {T : List Rid} {p : Path} {Q : Exit → SL → Prop} {tm : List AV} {L : RL} {n : Nat} {c : Code} {l : List Oper} (n' : Nat) (Qs : List Nat) (h : ∀ all, (ro c).toList = all → GoI Tryz.prog T p all false Qs n 0 l tm L fun tm' L' => Q .normal ⟨tm', L', n'⟩) (hk : kd c = 0 := by kernel_rfl) (hr : rd c = false := by kernel_rfl) (hl : (ro c).toList = l := by dsimp only [ro, s1, s2, c1, c2, bc, bod, Tryz.f47, Option.getD_some] <;> exact rfl) (hn : n + (ro c).size = n' := by kernel_rfl) : PI Tryz.prog T p c Q ⟨tm, L, n⟩ := PI.rg n' Qs hk hr hl (fun h => by cases h) hn (h _ rfl)
set_option maxHeartbeats 4000000 in
set_option maxRecDepth 100000 in
theorem okClos (ins : List (List Int)) (hin : ∀ k ∈ ins, k.length ≤ maxLen) {nd inn : Rid} (hne : inn ≠ nd) : ∀ (n : Nat) (q : Pl) {rs : Rid → Res} {p : Path}, dpPs q.f.inputs < n → SmP q → ¬ Under p nd → ¬ Under p inn → rs nd = .var 68 [.fn 47 [nd, inn]] → rs inn = .var 33 [aKs ins] →
    Calls2 Tryz.prog 47 [aP q.f, .vp nd 0, .vp inn 0] [nd, inn] rs p (.tup [ints (nodeS ins q).1, aI (nodeS ins q).2]) [] := by
  intro n
  induction n with
  | zero => intro q rs p h; omega
  | succ n ih =>
  intro q rs p hd hs hid ht hrs hrt
  have hsf := hs.smf
  have hsi := hs.inp
  rw [nodeS_f]
  generalize hf : q.f = f
  rw [hf] at hd hsf hsi
  clear hs hf
  have hl := hsf.hi
  have hl' : f.inputs.length ≤ maxLen := by unfold maxLen; omega
  generalize hRS : nodR ins f (f.inputs.map (nodeS ins)) = RS
  have U : Hid True := ⟨trivial⟩
  replace U := U.cons (And.intro (nu1 hid) (And.intro (nu2 hid) (And.intro (nu1 ht) (And.intro (nu2 ht) (And.intro (ne1 hne) (ne2 hne))))))
  refine Calls2.of_pi ([(nd, .var 68 [.fn 47 [nd, inn]]), (inn, .var 33 [aKs ins])]) mixed Tryz.func47 (by kernel_rfl) (by kernel_rfl) (by simp [lk, hrs, hrt, hne, hid, ht]) (by simp [lk, hrs, hrt, hne, hid, ht]) (by simp [lk, hrs, hrt, hne, hid, ht]) (by simp [lk, hrs, hrt, hne, hid, ht]) (by simp [lk, hrs, hrt, hne, hid, ht]) (?_ : PI _ _ _ _ _ ⟨[aP f, .vp nd 0, .vp inn 0, .und, .und, .und, .und, .und, .und, .und, .und, .und, .und, .und, .und, .und, .und, .und, .und, .und, .und, .und, .und, .und, .und, .und, .und, .und, .und, .und, .und, .und, .und, .und, .und, .und, .und, .und, .und, .und, .und, .und, .und, .und, .und, .und, .und, .und, .und, .und, .und, .und, .und, .und, .und, .und, .und, .und, .und, .und, .und, .und, .und, .und], [(nd, .var 68 [.fn 47 [nd, inn]]), (inn, .var 33 [aKs ins])], 0⟩)
  refine PI.q ?_
  refine rg47w13 (3) [] fun all1 _ => ?_
  refine GoI.runN 2 nfw13 ?_
  refine GoI.z nfw13 ?_
  refine PI.q ?_
  refine rg47w13 (7) [] fun all2 _ => ?_
  refine GoI.runN 2 nfw13 ?_
  refine GoI.call nfw13 nfw13 (by exact okInputs _) ?_
  refine GoI.z nfw13 ?_
  refine PI.q ?_
  refine PI.q ?_
  refine rg47w13 (9) [] fun all3 _ => ?_
  refine GoI.z nfw13 ?_
  refine PI.d 18 nfw13 (fun hb1 => ?_) (fun hb1 => ?_)
  ·
   try simp only [hb1]
   have h1 : inpS f.op < 0 := by simpa using hb1
   rw [nod_7 h1] at hRS
   refine PI.q ?_
   refine rg47w13 (11) [] fun all4 _ => ?_
   refine GoI.z nfw13 ?_
   refine PI.r ?_
   exact FinI.mk _ nfw13 ⟨by clear U; subst hRS; (first | rfl | (rw [h5]; rfl)), fin_keys (by simp [lk, under_self, nu1 hid, nu2 hid, nu1 ht, nu2 ht, ne1 hne, ne2 hne]) (by simp [lk, under_self, nu1 hid, nu2 hid, nu1 ht, nu2 ht, ne1 hne, ne2 hne])⟩
  try simp only [hb1]
  have h1 : ¬ inpS f.op < 0 := by simpa using hb1
  refine PI.s ?_
  refine PI.q ?_
  refine PI.q ?_
  refine rg47w13 (14) [] fun all5 _ => ?_
  refine GoI.runN 2 nfw13 ?_
  refine GoI.runN 2 nfw13 ?_
  refine GoI.z nfw13 ?_
  refine PI.d 23 nfw13 (fun hb2 => ?_) (fun hb2 => ?_)
  ·
   try simp only [hb2]
   have h2 : inpS f.op ≠ f.inputs.length := by simp at hb2; omega
   rw [nod_8 h1 h2] at hRS
   refine PI.q ?_
   refine rg47w13 (16) [] fun all6 _ => ?_
   refine GoI.z nfw13 ?_
   refine PI.r ?_
   exact FinI.mk _ nfw13 ⟨by clear U; subst hRS; (first | rfl | (rw [h5]; rfl)), fin_keys (by simp [lk, under_self, nu1 hid, nu2 hid, nu1 ht, nu2 ht, ne1 hne, ne2 hne]) (by simp [lk, under_self, nu1 hid, nu2 hid, nu1 ht, nu2 ht, ne1 hne, ne2 hne])⟩
  try simp only [hb2]
  have h2 : inpS f.op = f.inputs.length := by simp at hb2; omega
  refine PI.s ?_
  refine PI.q ?_
  refine rg47w13 (15) [] fun all7 _ => ?_
  refine GoI.z nfw13 ?_
  refine PI.q ?_
  refine PI.q ?_
  refine rg47w13 (19) [] fun all8 _ => ?_
  refine GoI.runN 2 nfw13 ?_
  refine GoI.z nfw13 ?_
  refine PI.b 0 ?_
  refine PI.lo (by kernel_rfl) (X := Nat) (fun i => (27, aI i) :: (7, .sl (((f.inputs.take i).map fun q => (nodeS ins q).1).map fun k => [ints k]) (some ((14 :: p, 0), i))) :: uk [4, 5, 9, 10, 11, 28, 29, 30, 31, 32, 33, 34, 35, 36, 37, 38, 39, 40, 41, 42, 43, 44]) (fun i => [((0 :: p, 0), .var 32 (pC f)), ((14 :: p, 0), .tok i 22 1), (nd, .var 68 [.fn 47 [nd, inn]]), (inn, .var 33 [aKs ins])]) (fun k i => k = f.inputs.length - i ∧ i ≤ f.inputs.length ∧ ∀ j (hj : j < f.inputs.length), j < i → (nodeS ins f.inputs[j]).2 = 0) (f.inputs.length) (0) (GhI.of_wk ⟨by simp [ovr, uk, lessT], by simp [lessR, lk, nu1 hid, nu2 hid, nu1 ht, nu2 ht, ne1 hne, ne2 hne, neJ2, neJ2', neJ3, neJ3'], by (try dsimp only); omega, by simp [keepR, lk, under_self, nu1 hid, nu2 hid, nu1 ht, nu2 ht, ne1 hne, ne2 hne, neJ2, neJ2', neJ3, neJ3']⟩) (⟨rfl, Nat.zero_le _, fun j hj hji => by omega⟩) ?_
  intro k1 x1 j1 hr1
  obtain ⟨rfl, hi1, hok⟩ := hr1
  simp only [ovr, uk, List.set_cons_zero, List.set_cons_succ]
  refine PI.q ?_
  refine rg47w13 (j1 + 20) [] fun all9 _ => ?_
  refine GoI.z nfw13 ?_
  refine PI.q ?_
  refine PI.d 28 nfw13 (fun hb3 => ?_) (fun hb3 => ?_)
  ·
   try simp only [hb3]
   obtain ⟨hlt, hw⟩ := up hb3 hl'
   have hx := pls_at hlt
   have hts : (f.inputs.take (x1 + 1)).map (fun q => (nodeS ins q).1) = (f.inputs.take x1).map (fun q => (nodeS ins q).1) ++ [(nodeS ins f.inputs[x1]).1] := map_snoc hlt
   have hs1 := hsi _ (List.getElem_mem hlt)
   have hdm := dpPs_mem (List.getElem_mem hlt)
   rw [dpP_f] at hdm
   have hap : ((f.inputs.take x1).length + 1) * 24 ≤ 140737488355328 := by simp; omega
   replace U := U.cons (And.intro (hw) (And.intro (hx) (hap)))
   refine PI.s ?_
   refine PI.q ?_
   refine PI.b 1 ?_
   refine PI.q ?_
   refine rg47w13 (j1 + 24) [] fun all10 _ => ?_
   refine GoI.runN 2 nfw13 ?_
   refine GoI.z nfw13 ?_
   refine PI.q ?_
   refine rg47w13 (j1 + 32) [2] fun all11 _ => ?_
   refine GoI.runN 2 nfw13 ?_
   refine GoI.call2e nfw13 nfw13 (by exact ih _ (by omega) hs1 (fun h => hid h.tail) (fun h => ht h.tail) (by simp [lk, nu1 hid, nu2 hid, nu1 ht, nu2 ht, ne1 hne, ne2 hne]) (by simp [lk, nu1 hid, nu2 hid, nu1 ht, nu2 ht, ne1 hne, ne2 hne])) (by first | exact .inr rfl | exact .inl rfl) (by exact fun h => by cases h) ?_
   try simp only [List.reverse_cons, List.reverse_nil, List.nil_append, List.cons_append, List.append_assoc]
   refine GoI.runN 2 nfw13 ?_
   refine GoI.runN 2 nfw13 ?_
   refine GoI.z nfw13 ?_
   refine PI.q ?_
   refine PI.q ?_
   refine rg47w13 (j1 + 34) [] fun all12 _ => ?_
   refine GoI.z nfw13 ?_
   refine PI.d 38 nfw13 (fun hb4 => ?_) (fun hb4 => ?_)
   ·
    try simp only [hb4]
    have h6 : (nodeS ins f.inputs[x1]).2 ≠ 0 := by simpa using hb4
    rw [nod_er h1 h2 hlt hok h6] at hRS
    refine PI.q ?_
    refine rg47w13 (j1 + 37) [] fun all13 _ => ?_
    refine GoI.runN 2 nfw13 ?_
    refine GoI.z nfw13 ?_
    refine PI.r ?_
    exact FinI.mk _ nfw13 ⟨by clear U; subst hRS; (first | rfl | (rw [h5]; rfl)), fin_keys (by simp [lk, under_self, nu1 hid, nu2 hid, nu1 ht, nu2 ht, ne1 hne, ne2 hne]) (by simp [lk, under_self, nu1 hid, nu2 hid, nu1 ht, nu2 ht, ne1 hne, ne2 hne])⟩
   try simp only [hb4]
   have h6 : (nodeS ins f.inputs[x1]).2 = 0 := by simpa using hb4
   refine PI.s ?_
   refine rg47w13 (j1 + 39) [] fun all14 _ => ?_
   refine GoI.runN 2 nfw13 ?_
   refine GoI.runN 2 nfw13 ?_
   refine GoI.z nfw13 ?_
   refine rg47w13 (j1 + 41) [] fun all15 _ => ?_
   refine GoI.z nfw13 ?_
   refine ⟨f.inputs.length - (x1 + 1), x1 + 1, j1 + 22, by omega, ⟨rfl, by omega, okn_succ hok hlt h6⟩, GhI.of_wk ⟨by simp only [ovr, uk, lessT, hts, List.map_append, List.map_cons, List.map_nil]; simp [lessT], by simp [lessR, lk, neJ2, neJ2', nu1 hid, nu2 hid, nu1 ht, nu2 ht, ne1 hne, ne2 hne], by (try dsimp only); omega, by simp [keepR, lk, under_self, nu1 hid, nu2 hid, nu1 ht, nu2 ht, ne1 hne, ne2 hne]⟩⟩
  try simp only [hb3]
  have hge := dn hb3
  rw [List.take_of_length_le hge]
  rw [nod_ok h1 h2 (fun j hj => hok j hj (by omega))] at hRS
  refine PI.e 0 ?_
  refine PI.q ?_
  refine rg47w13 (j1 + 29) [] fun all16 _ => ?_
  refine GoI.runN 2 nfw13 ?_
  refine GoI.run nfw13 ?_
  refine GoI.call nfw13 nfw13 (by exact okOperator f ins _ hsf (by rw [List.length_map]; exact h2) hin (fun k hk => by obtain ⟨q, _, rfl⟩ := List.mem_map.1 hk; have := nodeS_len ins q; omega)) ?_
  refine GoI.runN 2 nfw13 ?_
  refine GoI.runN 2 nfw13 ?_
  refine GoI.z nfw13 ?_
  refine PI.q ?_
  refine PI.q ?_
  refine rg47w13 (j1 + 31) [] fun all17 _ => ?_
  refine GoI.z nfw13 ?_
  refine PI.d 53 nfw13 (fun hb5 => ?_) (fun hb5 => ?_)
  ·
   try simp only [hb5]
   rw [fit_1 (by simpa using hb5)] at hRS
   refine PI.q ?_
   refine rg47w13 (j1 + 34) [] fun all18 _ => ?_
   refine GoI.runN 2 nfw13 ?_
   refine GoI.z nfw13 ?_
   refine PI.r ?_
   exact FinI.mk _ nfw13 ⟨by clear U; subst hRS; (first | rfl | (rw [h5]; rfl)), fin_keys (by simp [lk, under_self, nu1 hid, nu2 hid, nu1 ht, nu2 ht, ne1 hne, ne2 hne]) (by simp [lk, under_self, nu1 hid, nu2 hid, nu1 ht, nu2 ht, ne1 hne, ne2 hne])⟩
  try simp only [hb5]
  have h5 : (opS f ins (f.inputs.map fun q => (nodeS ins q).1)).2 = 0 := by simpa using hb5
  refine PI.s ?_
  refine PI.q ?_
  refine PI.q ?_
  refine rg47w13 (j1 + 39) [] fun all19 hall19 => ?_
  have hgd19_3 : (all19[3]?).bind (fun o => o.dst) = some 58 := by rw [← hall19]; kernel_rfl
  replace U := U.cons (hgd19_3)
  refine GoI.runN 2 nfw13 ?_
  refine GoI.runN 2 nfw13 ?_
  refine GoI.grd 58 nfw13 (fun hg1 => ?_) (fun hg1 => ?_)
  ·
   try simp only [hg1]
   refine GoI.runN 2 nfw13 ?_
   refine GoI.z nfw13 ?_
   refine PI.t 62 nfw13 ?_
   rw [fit_2 h5 (by simp at h5 ⊢; simp_all)] at hRS
   refine PI.q ?_
   refine rg47w13 (j1 + 41) [] fun all20 _ => ?_
   refine GoI.z nfw13 ?_
   refine PI.r ?_
   exact FinI.mk _ nfw13 ⟨by clear U; subst hRS; (first | rfl | (rw [h5]; rfl)), fin_keys (by simp [lk, under_self, nu1 hid, nu2 hid, nu1 ht, nu2 ht, ne1 hne, ne2 hne]) (by simp [lk, under_self, nu1 hid, nu2 hid, nu1 ht, nu2 ht, ne1 hne, ne2 hne])⟩
  try simp only [hg1]
  refine GoI.runN 2 nfw13 ?_
  refine GoI.z nfw13 ?_
  refine PI.d 62 nfw13 (fun hb6 => ?_) (fun hb6 => ?_)
  ·
   try simp only [hb6]
   rw [fit_2 h5 (by simp at h5 ⊢; simp_all)] at hRS
   refine PI.q ?_
   refine rg47w13 (j1 + 41) [] fun all20 _ => ?_
   refine GoI.z nfw13 ?_
   refine PI.r ?_
   exact FinI.mk _ nfw13 ⟨by clear U; subst hRS; (first | rfl | (rw [h5]; rfl)), fin_keys (by simp [lk, under_self, nu1 hid, nu2 hid, nu1 ht, nu2 ht, ne1 hne, ne2 hne]) (by simp [lk, under_self, nu1 hid, nu2 hid, nu1 ht, nu2 ht, ne1 hne, ne2 hne])⟩
  try simp only [hb6]
  rw [fit_3 h5 (by simp at h5 ⊢; simp_all)] at hRS
  refine PI.s ?_
  refine PI.q ?_
  refine rg47w13 (j1 + 42) [] fun all21 _ => ?_
  refine GoI.runN 2 nfw13 ?_
  refine GoI.z nfw13 ?_
  refine PI.r ?_
  exact FinI.mk _ nfw13 ⟨by clear U; subst hRS; (first | rfl | (rw [h5]; rfl)), fin_keys (by simp [lk, under_self, nu1 hid, nu2 hid, nu1 ht, nu2 ht, ne1 hne, ne2 hne]) (by simp [lk, under_self, nu1 hid, nu2 hid, nu1 ht, nu2 ht, ne1 hne, ne2 hne])⟩
theorem fitK_nil (r : List Int × Int) (h : (fitK (nrmK r)).2 ≠ 0) : (fitK (nrmK r)).1 = [] := by
  by_cases h1 : r.2 = 0
  · by_cases h2 : (decide ((r.1.length : Int) < 1) || decide ((r.1.length : Int) > 48)) = true
    · rw [fit_2 h1 h2]
    · rw [fit_3 h1 (by simpa using h2)] at h
      exact absurd h1 h
  · rw [fit_1 h1]
theorem nodeS_nil (ins : List (List Int)) (p : Pl) (h : (nodeS ins p).2 ≠ 0) : (nodeS ins p).1 = [] := by
  rw [nodeS_f] at h ⊢
  unfold nodR at h ⊢
  split
  · rfl
  · rename_i h1
    rw [if_neg h1] at h
    split
    · rfl
    · rename_i h2
      rw [if_neg h2] at h
      split
      · rfl
      · rename_i h3
        rw [h3] at h
        exact fitK_nil _ h
/-- What Check says of a plan. -/
def checkS (ins : List (List Int)) (p : Pl) : List Int × Int := if 24 < dpP p then ([], 26) else nodeS ins p
theorem rg12w13 {T : List Rid} {p : Path} {Q : Exit → SL → Prop} {tm : List AV} {L : RL} {n : Nat} {c : Code} {l : List Oper} (n' : Nat) (Qs : List Nat) (h : ∀ all, (ro c).toList = all → GoI Tryz.prog T p all false Qs n 0 l tm L fun tm' L' => Q .normal ⟨tm', L', n'⟩) (hk : kd c = 0 := by kernel_rfl) (hr : rd c = false := by kernel_rfl) (hl : (ro c).toList = l := by dsimp only [ro, s1, s2, c1, c2, bc, bod, Tryz.f12, Option.getD_some] <;> exact rfl) (hn : n + (ro c).size = n' := by kernel_rfl) : PI Tryz.prog T p c Q ⟨tm, L, n⟩ := PI.rg n' Qs hk hr hl (fun h => by cases h) hn (h _ rfl)
set_option maxHeartbeats 1000000 in
set_option maxRecDepth 100000 in
theorem okCheckP (ins : List (List Int)) (p : Pl) (hs : SmP p) (hin : ∀ k ∈ ins, k.length ≤ maxLen) : CallsOK Tryz.prog 12 [aP p.f, aKs ins] (.tup [ints (checkS ins p).1, aI (checkS ins p).2]) := by
  have hX : checkS ins p = if 24 < dpP p then ([], 26) else nodeS ins p := rfl
  generalize hRS : checkS ins p = RS
  rw [hRS] at hX
  rw [dpP_f] at hX
  have hdp := okDepthP1 _ p 24 (Nat.lt_succ_self _) (by omega) hs
  have hnl := nodeS_len ins p
  have hni := nodeS_nil ins p
  have hnd := fun {rs : Rid → Res} {q : Path} => okClos ins hin (nd := ([7], 0)) (inn := ([1], 0)) (by simp) _ p (rs := rs) (p := q) (Nat.lt_succ_self _) hs
  generalize nodeS ins p = N at hX hnd hnl hni
  generalize p.f = f at hX hdp hnd
  have U : Hid True := ⟨trivial⟩
  replace U := U.cons (And.intro (rowLen (f := fun k : Int => [aI k]) (n := 1) (fun _ => rfl) N.1) ((show N.1.length * 8 ≤ 140737488355328 by omega)))
  refine CallsOK.of_pi mixed Tryz.func12 (by kernel_rfl) (by kernel_rfl) (?_ : PI _ _ _ _ _ ⟨[aP f, aKs ins, .und, .und, .und, .und, .und, .und, .und, .und, .und, .und, .und, .und, .und, .und, .und, .und, .und, .und, .und, .und, .und, .und, .und], [], 0⟩)
  refine PI.q ?_
  refine rg12w13 (4) [] fun all1 _ => ?_
  refine GoI.runN 2 nfw13 ?_
  refine GoI.z nfw13 ?_
  refine PI.q ?_
  refine PI.q ?_
  refine rg12w13 (7) [] fun all2 _ => ?_
  refine GoI.run nfw13 ?_
  refine GoI.call nfw13 nfw13 (by exact hdp) ?_
  refine GoI.z nfw13 ?_
  refine PI.d 11 nfw13 (fun hb1 => ?_) (fun hb1 => ?_)
  ·
   try simp only [hb1]
   rw [if_pos (by simp at hb1; omega)] at hX
   refine PI.q ?_
   refine rg12w13 (9) [] fun all3 _ => ?_
   refine GoI.z nfw13 ?_
   refine PI.r ?_
   exact FinI.mk _ nfw13 (by clear U; subst hX; simp_all [finR, nrmA, nrm, AV.content])
  try simp only [hb1]
  rw [if_neg (by simp at hb1; omega)] at hX
  refine PI.s ?_
  refine PI.q ?_
  refine rg12w13 (8) [] fun all4 _ => ?_
  refine GoI.z nfw13 ?_
  refine PI.q ?_
  refine rg12w13 (10) [] fun all5 _ => ?_
  refine GoI.z nfw13 ?_
  refine PI.q ?_
  refine rg12w13 (18) [2] fun all6 _ => ?_
  refine GoI.runN 2 nfw13 ?_
  refine GoI.call2e nfw13 nfw13 (by exact hnd (nul (by omega)) (nul (by omega)) (by repeat (first | exact lk_hd | refine lk_tl (by simp <;> omega) ?_)) (by repeat (first | exact lk_hd | refine lk_tl (by simp <;> omega) ?_))) (by first | exact .inr rfl | exact .inl rfl) (by exact fun h => by cases h) ?_
  try simp only [List.reverse_cons, List.reverse_nil, List.nil_append, List.cons_append, List.append_assoc]
  refine GoI.runN 2 nfw13 ?_
  refine GoI.runN 2 nfw13 ?_
  refine GoI.z nfw13 ?_
  refine PI.q ?_
  refine PI.q ?_
  refine rg12w13 (20) [] fun all7 _ => ?_
  refine GoI.z nfw13 ?_
  refine PI.d 20 nfw13 (fun hb2 => ?_) (fun hb2 => ?_)
  ·
   try simp only [hb2]
   have h2 : N.2 ≠ 0 := by simpa using hb2
   have h3 := hni h2
   refine PI.q ?_
   refine rg12w13 (23) [] fun all8 _ => ?_
   refine GoI.runN 2 nfw13 ?_
   refine GoI.z nfw13 ?_
   refine PI.r ?_
   exact FinI.mk _ nfw13 (by clear U; subst hX; simp_all [finR, nrmA, nrm, AV.content])
  try simp only [hb2]
  have h2 : N.2 = 0 := by simpa using hb2
  refine PI.s ?_
  refine PI.q ?_
  refine rg12w13 (25) [] fun all9 _ => ?_
  refine GoI.runN 2 nfw13 ?_
  refine GoI.runN 2 nfw13 ?_
  refine GoI.z nfw13 ?_
  refine PI.r ?_
  exact FinI.mk _ nfw13 (by clear U; subst hX; simp_all [finR, nrmA, nrm, AV.content])
end Go.FE
namespace Go.FE
open Go.Proofs
structure WX where
  i : Nat
  n : Nat
end Go.FE
namespace Go.FE
open Go.Proofs
abbrev nB (n : Int) : Vl := ⟨1, n, .empty⟩
abbrev tX : Vl := ⟨2, 0, ⟨#[120]⟩⟩
abbrev tY : Vl := ⟨2, 0, ⟨#[121]⟩⟩
abbrev smpR : List Row := [[nB 1, tX], [nB 2, tY], [nB 2, tY], [nullV, tX]]
abbrev smpB : Bag := ⟨[1, 2], smpR⟩
theorem sd_dec {l : List Row} (h : (l.zip (l.drop 1)).all (fun p => decide (cmpR p.1 p.2 < 0)) = true) : Ss l := by
  induction l with
  | nil => exact List.Pairwise.nil
  | cons x l ih =>
    cases l with
    | nil => exact List.pairwise_singleton _ _
    | cons y l =>
      simp only [List.drop_succ_cons, List.drop_zero, List.zip_cons_cons, List.all_cons, Bool.and_eq_true, decide_eq_true_eq] at h ih
      have hs := ih h.2
      refine List.pairwise_cons.2 ⟨fun z hz => ?_, hs⟩
      rcases List.mem_cons.1 hz with rfl | hz
      · exact h.1
      · exact preR.tr1 h.1 (Int.le_of_lt ((List.pairwise_cons.1 hs).1 z hz))
theorem ddk : dd (smpR.map fun r => pickR r [1]) = [[tX], [tY]] := by
  refine ss_unique (dd_ss _) (sd_dec (by decide +kernel)) fun r => ?_
  rw [dd_mem]
  show r ∈ [[tX], [tY], [tY], [tX]] ↔ _
  simp
  constructor
  · rintro (h | h | h) <;> simp [h]
  · rintro (h | h) <;> simp [h]
theorem ddr : dd smpR = [[nullV, tX], [nB 1, tX], [nB 2, tY]] := by
  refine ss_unique (dd_ss _) (sd_dec (by decide +kernel)) fun r => ?_
  rw [dd_mem]
  show r ∈ [[nB 1, tX], [nB 2, tY], [nB 2, tY], [nullV, tX]] ↔ _
  simp
  constructor
  · rintro (h | h | h) <;> simp [h]
  · rintro (h | h | h) <;> simp [h]
theorem ex1 : eqRs (srt (grpOut [1] [⟨1, -1⟩, ⟨1, 0⟩, ⟨2, 0⟩] smpR)) [[tX, nB 2, nB 1, nB 1], [tY, nB 2, nB 2, nB 4]] = true := by
  rw [srt_congr (grp_law _ _ _)]
  unfold grpD keysD
  rw [if_neg (by simp), ddk, ← srt_of (a := [[tX, nB 2, nB 1, nB 1], [tY, nB 2, nB 2, nB 4]]) (ss_sd (sd_dec (by decide +kernel))) (by
    rw [show ([[tX], [tY]] : List Row).map (fun k => k ++ [(⟨1, -1⟩ : Ag), ⟨1, 0⟩, ⟨2, 0⟩].map (aggV (selR [1] k smpR))) = [[tX, nB 2, nB 1, nB 1], [tY, nB 2, nB 2, nB 4]] from eqRs_iff.1 (by decide +kernel)])]
  exact eqRs_iff.2 rfl
theorem ex2 : eqRs (srt (splR smpR [[nB 2, tY]]).y) [[nullV, tX], [nB 1, tX], [nB 2, tY]] = true := by
  rw [ex_law]
  unfold exS
  rw [ddr]
  decide +kernel
theorem ex3 : eqRs (srt (grpOut [] [⟨1, -1⟩, ⟨2, 0⟩] [])) [[nB 0, nullV]] = true := by
  rw [srt_congr (grp_law _ _ _), ← srt_of (a := grpD [] [⟨1, -1⟩, ⟨2, 0⟩] []) (List.pairwise_singleton _ _) (.refl _)]
  decide +kernel
def exP : Pl := .mk 7 0 [] [] (.mk 0 0 nullV .empty []) [] [] [] [.mk 1 0 [] [] (.mk 0 0 nullV .empty []) [] [] [] [], .mk 1 1 [] [] (.mk 0 0 nullV .empty []) [] [] [] []]
theorem ex4 : checkS [[1, 2], [1]] exP = ([], 13) := by decide +kernel
end Go.FE
