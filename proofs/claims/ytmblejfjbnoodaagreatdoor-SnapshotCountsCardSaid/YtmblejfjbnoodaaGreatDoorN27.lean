/- Plans: depth, operators, rows. -/
import Derived.Test.YtmblejfjbnoodaaGreatDoorN09
import Derived.Test.YtmblejfjbnoodaaGreatDoorN26
set_option linter.unusedVariables false
set_option linter.unusedSimpArgs false
namespace Go.FE
open Go.Proofs
theorem nfw9 {α : Type} {a b : α} (h : a = b := by simp only [goP, goN, mrk, Nat.reduceMul, Nat.one_mul, Nat.mul_one, eq_self, false_implies, implies_true, Nat.reduceLT, List.getElem?_toArray, isCall, List.contains_nil, List.contains_cons, Nat.reduceBEq, Bool.or_false, Bool.or_self, List.length_map, gOf, step, stepM, stepP, ev, okV, if_true, if_false, allocA, storeA, boxA, one1, tokN, tok1, buildA, rowA, nrmP, partV, partA, fieldA, fieldV, elemA, lenA, bltA, asSl, appA, makeA, makeR, cutA, bndA, binV, intOp, strOp, unV, eqB, nilB, sameT, List.all_cons, List.all_nil, Bool.and_self, Bool.and_true, Bool.true_and, List.map_cons, List.map_nil, List.nil_append, List.cons_append, List.append_nil, AV.bare, AV.content, AV.clean, AV.one, putD, List.set_cons_zero, List.set_cons_succ, List.reverse_cons, List.reverse_nil, List.getD_cons_zero, List.getD_cons_succ, List.getElem?_cons_zero, List.getElem?_cons_succ, Option.getD_some, Option.map_some, Option.map_none, Option.bind_some, List.length_cons, List.length_nil, lk, cellsA, fillA, fillS, isAggD, spl, nrm, nrmA, List.take_succ_cons, List.take_zero, List.drop_succ_cons, List.drop_zero, List.drop_nil, List.take_nil, Nat.reduceAdd, Nat.zero_add, Nat.add_zero, Nat.add_assoc, Nat.add_left_cancel_iff, reduceCtorEq, Prod.mk.injEq, List.cons.injEq, and_self, and_true, true_and, Nat.le_refl, Nat.reduceLeDiff, Nat.reduceEqDiff, List.getElem?_nil, Int.reduceToNat, Int.reduceLE, Int.reduceLT, ite_self, List.forall_mem_cons, List.not_mem_nil, false_and, and_false, Bool.false_eq_true, List.replicate_zero, List.replicate_succ, Int.toNat_natCast, neJ2, neJ2', neJ3, neJ3', callOf, callOf2, fnOf, argsA, args2, Array.isEmpty_empty, resLL, resVL, beq_self_eq_true, st3, zt3, it3, ct3, se3, Tryz.underlying3, st4, zt4, it4, ct4, se4, Tryz.underlying4, st9, zt9, it9, ct9, se9, Tryz.underlying9, st22, zt22, it22, ct22, se22, Tryz.underlying22, st23, zt23, it23, ct23, se23, Tryz.underlying23, st25, zt25, it25, ct25, pt25, eqs25, se25, Tryz.underlying25, st26, zt26, it26, ct26, se26, Tryz.underlying26, st28, zt28, it28, ct28, pt28, se28, Tryz.underlying28, st29, zt29, it29, ct29, se29, Tryz.underlying29, st30, zt30, it30, ct30, se30, Tryz.underlying30, st32, zt32, it32, ct32, pt32, se32, Tryz.underlying32, st48, zt48, it48, ct48, pt48, eqs48, se48, Tryz.underlying48, st49, zt49, it49, ct49, se49, Tryz.underlying49, Tryz.results46, Tryz.results50, Tryz.results48, Tryz.results84, Tryz.results80, st36, zt36, it36, ct36, se36, Tryz.underlying36, Tryz.results81, Tryz.results124, U.out] <;> rfl) : a = b := h
structure PlF where
  op : Int
  int : Int
  kinds : List Int
  rows : List Row
  po : Int
  pi : Int
  pv : Vl
  pn : ByteArray
  pa : List Ex
  exprs : List Ex
  keys : List Int
  aggs : List Ag
  inputs : List Pl
def Pl.f : Pl → PlF
  | .mk op int kinds rows (.mk po pi pv pn pa) exprs keys aggs inputs => ⟨op, int, kinds, rows, po, pi, pv, pn, pa, exprs, keys, aggs, inputs⟩
def PlF.pred (f : PlF) : Ex := .mk f.po f.pi f.pv f.pn f.pa
abbrev pC (f : PlF) : List AV := [aI f.op, aI f.int, ints f.kinds, aRows f.rows, aI f.po, aI f.pi, aI f.pv.k, aI f.pv.i, aS f.pv.s, aS f.pn, .sl (f.pa.map encE) none, aExs f.exprs, ints f.keys, aAggs f.aggs, .sl (f.inputs.map encP) none]
theorem encP_f (p : Pl) : encP p = pC p.f := by
  obtain ⟨op, int, kinds, rows, pred, exprs, keys, aggs, inputs⟩ := p
  obtain ⟨po, pi, pv, pn, pa⟩ := pred
  rw [encP_mk, encE_mk]; rfl
abbrev aP (f : PlF) : AV := .agg 15 (pC f)
theorem pls_at {l : List Pl} {i : Nat} (h : i < l.length) : (l.map encP)[i]? = some (pC l[i].f) := by simp [h, encP_f]
mutual
def dpP : Pl → Nat
  | .mk _ _ _ _ _ _ _ _ inputs => dpPs inputs + 1
def dpPs : List Pl → Nat
  | [] => 0
  | e :: l => max (dpP e) (dpPs l)
end
theorem dpP_f (p : Pl) : dpP p = dpPs p.f.inputs + 1 := by
  obtain ⟨op, int, kinds, rows, pred, exprs, keys, aggs, inputs⟩ := p
  obtain ⟨po, pi, pv, pn, pa⟩ := pred
  rw [dpP]; rfl
theorem dpPs_nil : dpPs [] = 0 := by rw [dpPs]
theorem dpPs_app : ∀ (l : List Pl) (e : Pl), dpPs (l ++ [e]) = max (dpPs l) (dpP e)
  | [], e => by simp only [List.nil_append, dpPs]; omega
  | x :: l, e => by rw [List.cons_append, dpPs, dpPs, dpPs_app l e]; omega
theorem dpPs_succ {l : List Pl} {i : Nat} (h : i < l.length) : dpPs (l.take (i + 1)) = max (dpPs (l.take i)) (dpP l[i]) := by
  rw [List.take_succ_eq_append_getElem h, dpPs_app]
theorem dpPs_mem : ∀ {l : List Pl} {e : Pl}, e ∈ l → dpP e ≤ dpPs l
  | x :: l, e, h => by
    rw [dpPs]
    rcases List.mem_cons.1 h with rfl | h
    · omega
    · have := dpPs_mem h; omega
/-- A plan that is small everywhere. -/
inductive SmP : Pl → Prop
  | mk {p : Pl} (hk : p.f.kinds.length ≤ 100000) (hr : p.f.rows.length ≤ maxLen) (hp : OkEx p.f.pred) (he : p.f.exprs.length ≤ 100000) (hx : ∀ e ∈ p.f.exprs, OkEx e) (hq : p.f.keys.length ≤ 100000) (ha : p.f.aggs.length ≤ 100000) (hi : p.f.inputs.length ≤ 100000) (h : ∀ q ∈ p.f.inputs, SmP q) : SmP p
structure SmF (f : PlF) : Prop where
  hk : f.kinds.length ≤ 100000
  hr : f.rows.length ≤ maxLen
  hp : OkEx f.pred
  he : f.exprs.length ≤ 100000
  hx : ∀ e ∈ f.exprs, OkEx e
  hq : f.keys.length ≤ 100000
  ha : f.aggs.length ≤ 100000
  hi : f.inputs.length ≤ 100000
theorem SmP.smf {p : Pl} (h : SmP p) : SmF p.f := by cases h with | mk hk hr hp he hx hq ha hi h => exact ⟨hk, hr, hp, he, hx, hq, ha, hi⟩
theorem SmP.inp {p : Pl} (h : SmP p) : ∀ q ∈ p.f.inputs, SmP q := by cases h with | mk hk hr hp he hx hq ha hi h => exact h
theorem rg46w9 {T : List Rid} {p : Path} {Q : Exit → SL → Prop} {tm : List AV} {L : RL} {n : Nat} {c : Code} {l : List Oper} (n' : Nat) (Qs : List Nat) (h : ∀ all, (ro c).toList = all → GoI Tryz.prog T p all false Qs n 0 l tm L fun tm' L' => Q .normal ⟨tm', L', n'⟩) (hk : kd c = 0 := by kernel_rfl) (hr : rd c = false := by kernel_rfl) (hl : (ro c).toList = l := by dsimp only [ro, s1, s2, c1, c2, bc, bod, Tryz.f46, Option.getD_some] <;> exact rfl) (hn : n + (ro c).size = n' := by kernel_rfl) : PI Tryz.prog T p c Q ⟨tm, L, n⟩ := PI.rg n' Qs hk hr hl (fun h => by cases h) hn (h _ rfl)
set_option maxHeartbeats 1000000 in
set_option maxRecDepth 100000 in
theorem okDepthP1 : ∀ (n : Nat) (p : Pl) (most : Nat), dpPs p.f.inputs < n → most ≤ 1000000 → SmP p → CallsOK Tryz.prog 46 [aP p.f, aI most] (aI (min (dpPs p.f.inputs + 1) (most + 1) : Nat)) := by
  intro n
  induction n with
  | zero => intro p most h; omega
  | succ n ih =>
  intro p most hd hm hs
  have hl := hs.smf.hi
  have hsi := hs.inp
  generalize hf : p.f = f
  rw [hf] at hd hl hsi
  clear hs
  have hl' : f.inputs.length ≤ maxLen := by unfold maxLen; omega
  have U : Hid True := ⟨trivial⟩
  refine CallsOK.of_pi mixed Tryz.func46 (by kernel_rfl) (by kernel_rfl) (?_ : PI _ _ _ _ _ ⟨[aP f, aI most, .und, .und, .und, .und, .und, .und, .und, .und, .und, .und, .und, .und, .und, .und, .und, .und, .und, .und, .und, .und, .und, .und, .und, .und], [], 0⟩)
  refine PI.q ?_
  refine rg46w9 (2) [] fun all1 _ => ?_
  refine GoI.z nfw9 ?_
  refine PI.q ?_
  refine rg46w9 (3) [] fun all2 _ => ?_
  refine GoI.z nfw9 ?_
  refine PI.q ?_
  refine PI.q ?_
  refine rg46w9 (5) [] fun all3 _ => ?_
  refine GoI.z nfw9 ?_
  refine PI.d 9 nfw9 (fun hb1 => ?_) (fun hb1 => ?_)
  ·
   try simp only [hb1]
   have h1 : most = 0 := by simp at hb1; omega
   refine PI.q ?_
   refine rg46w9 (6) [] fun all4 _ => ?_
   refine GoI.z nfw9 ?_
   refine PI.r ?_
   exact FinI.mk _ nfw9 (by clear U; (simp_all [finR, nrmA, nrm, AV.content]) <;> omega)
  try simp only [hb1]
  have h1 : 1 ≤ most := by simp at hb1; omega
  refine PI.s ?_
  refine PI.q ?_
  refine PI.q ?_
  refine rg46w9 (9) [] fun all5 _ => ?_
  refine GoI.runN 2 nfw9 ?_
  refine GoI.z nfw9 ?_
  refine PI.b 0 ?_
  refine PI.lo (by kernel_rfl) (X := Nat) (fun i => (13, aI i) :: (5, aI (min (dpPs (f.inputs.take i)) most : Nat)) :: uk [7, 14, 15, 16, 17, 18, 19, 20, 21, 22, 23]) (fun i => []) (fun k i => k = f.inputs.length - i ∧ i ≤ f.inputs.length) (f.inputs.length) (0) (GhI.of_wk ⟨by simp [ovr, uk, lessT, dpPs_nil], by simp [lessR, lk], by (try dsimp only); omega, keep0⟩) (by simp) ?_
  intro k1 x1 j1 hr1
  obtain ⟨rfl, hi1⟩ := hr1
  simp only [ovr, uk, List.set_cons_zero, List.set_cons_succ]
  refine PI.q ?_
  refine rg46w9 (j1 + 10) [] fun all6 _ => ?_
  refine GoI.z nfw9 ?_
  refine PI.q ?_
  refine PI.d 14 nfw9 (fun hb2 => ?_) (fun hb2 => ?_)
  ·
   try simp only [hb2]
   obtain ⟨hlt, hw⟩ := up hb2 hl'
   have hx := pls_at hlt
   have hts := dpPs_succ hlt
   have hs1 := hsi _ (List.getElem_mem hlt)
   have hdm := dpPs_mem (List.getElem_mem hlt)
   rw [dpP_f] at hts hdm
   generalize he : f.inputs[x1] = q at hx hts hs1 hdm
   generalize hD : dpPs (f.inputs.take x1) = D
   generalize hE : dpPs q.f.inputs + 1 = E1
   rw [hD, hE] at hts
   have hw2 : IntKind.i64.wrap ((most : Int) - 1) = ((most - 1 : Nat) : Int) := by rw [w64 (by omega) (by omega)]; omega
   replace U := U.cons (And.intro (hw) (And.intro (hx) (And.intro (hw2) (And.intro (hD) (hE)))))
   refine PI.s ?_
   refine PI.q ?_
   refine PI.b 1 ?_
   refine PI.q ?_
   refine rg46w9 (j1 + 14) [] fun all7 _ => ?_
   refine GoI.runN 2 nfw9 ?_
   refine GoI.z nfw9 ?_
   refine rg46w9 (j1 + 21) [] fun all8 _ => ?_
   refine GoI.runN 2 nfw9 ?_
   refine GoI.runN 2 nfw9 ?_
   refine GoI.call nfw9 nfw9 (by exact ih _ _ (by omega) (by omega) hs1) ?_
   refine GoI.z nfw9 ?_
   refine rg46w9 (j1 + 23) [] fun all9 _ => ?_
   refine GoI.z nfw9 ?_
   refine ⟨f.inputs.length - (x1 + 1), x1 + 1, j1 + 14, by omega, ⟨rfl, by omega⟩, GhI.of_wk ⟨by simp [ovr, uk, lessT, hts]; omega, by simp [lessR, lk], by (try dsimp only); omega, keep0⟩⟩
  try simp only [hb2]
  have hge := dn hb2
  rw [List.take_of_length_le hge]
  have hw9 : IntKind.i64.wrap (((min (dpPs f.inputs) most : Nat) : Int) + 1) = ((min (dpPs f.inputs) most + 1 : Nat) : Int) := by rw [w64 (by omega) (by omega)]; omega
  replace U := U.cons (hw9)
  refine PI.e 0 ?_
  refine PI.q ?_
  refine rg46w9 (j1 + 13) [] fun all10 _ => ?_
  refine GoI.runN 2 nfw9 ?_
  refine GoI.z nfw9 ?_
  refine PI.r ?_
  exact FinI.mk _ nfw9 (by clear U; (simp_all [finR, nrmA, nrm, AV.content]) <;> omega)
/-- How many inputs an operator has. -/
def inpS (op : Int) : Int :=
  if op == 1 || op == 2 then 0
  else if op == 3 || (op == 4 || (op == 10 || op == 11)) then 1
  else if op == 5 || (op == 6 || (op == 7 || (op == 8 || op == 9))) then 2
  else -1
theorem rg48w9 {T : List Rid} {p : Path} {Q : Exit → SL → Prop} {tm : List AV} {L : RL} {n : Nat} {c : Code} {l : List Oper} (n' : Nat) (Qs : List Nat) (h : ∀ all, (ro c).toList = all → GoI Tryz.prog T p all false Qs n 0 l tm L fun tm' L' => Q .normal ⟨tm', L', n'⟩) (hk : kd c = 0 := by kernel_rfl) (hr : rd c = false := by kernel_rfl) (hl : (ro c).toList = l := by dsimp only [ro, s1, s2, c1, c2, bc, bod, Tryz.f48, Option.getD_some] <;> exact rfl) (hn : n + (ro c).size = n' := by kernel_rfl) : PI Tryz.prog T p c Q ⟨tm, L, n⟩ := PI.rg n' Qs hk hr hl (fun h => by cases h) hn (h _ rfl)
set_option maxRecDepth 100000 in
theorem okInputs (op : Int) : CallsOK Tryz.prog 48 [aI op] (aI (inpS op)) := by
  have U : Hid True := ⟨trivial⟩
  refine CallsOK.of_pi mixed Tryz.func48 (by kernel_rfl) (by kernel_rfl) (?_ : PI _ _ _ _ _ ⟨[aI op, .und, .und, .und, .und, .und, .und, .und, .und, .und, .und, .und, .und, .und, .und, .und, .und, .und], [], 0⟩)
  refine PI.q ?_
  refine rg48w9 (1) [] fun all1 _ => ?_
  refine GoI.z nfw9 ?_
  refine PI.q ?_
  refine PI.q ?_
  refine rg48w9 (2) [] fun all2 _ => ?_
  refine GoI.z nfw9 ?_
  refine PI.b 0 ?_
  refine PI.q ?_
  refine PI.q ?_
  refine rg48w9 (4) [] fun all3 _ => ?_
  refine GoI.z nfw9 ?_
  refine PI.d 4 nfw9 (fun hb1 => ?_) (fun hb1 => ?_)
  ·
   try simp only [hb1]
   refine PI.s ?_
   refine PI.t 4 nfw9 ?_
   refine PI.q ?_
   refine rg48w9 (5) [] fun all5 _ => ?_
   refine GoI.z nfw9 ?_
   refine PI.r ?_
   exact FinI.mk _ nfw9 (by clear U; simp_all [finR, nrmA, nrm, AV.content, inpS])
  try simp only [hb1]
  refine rg48w9 (6) [] fun all4 _ => ?_
  refine GoI.z nfw9 ?_
  refine PI.d 4 nfw9 (fun hb2 => ?_) (fun hb2 => ?_)
  ·
   try simp only [hb2]
   refine PI.q ?_
   refine rg48w9 (7) [] fun all5 _ => ?_
   refine GoI.z nfw9 ?_
   refine PI.r ?_
   exact FinI.mk _ nfw9 (by clear U; simp_all [finR, nrmA, nrm, AV.content, inpS])
  try simp only [hb2]
  refine PI.q ?_
  refine PI.q ?_
  refine rg48w9 (8) [] fun all6 _ => ?_
  refine GoI.z nfw9 ?_
  refine PI.d 7 nfw9 (fun hb3 => ?_) (fun hb3 => ?_)
  ·
   try simp only [hb3]
   refine PI.s ?_
   refine PI.t 7 nfw9 ?_
   refine PI.q ?_
   refine rg48w9 (9) [] fun all10 _ => ?_
   refine GoI.z nfw9 ?_
   refine PI.r ?_
   exact FinI.mk _ nfw9 (by clear U; simp_all [finR, nrmA, nrm, AV.content, inpS])
  try simp only [hb3]
  refine PI.q ?_
  refine rg48w9 (10) [] fun all7 _ => ?_
  refine GoI.z nfw9 ?_
  refine PI.d 7 nfw9 (fun hb4 => ?_) (fun hb4 => ?_)
  ·
   try simp only [hb4]
   refine PI.s ?_
   refine PI.t 7 nfw9 ?_
   refine PI.q ?_
   refine rg48w9 (11) [] fun all10 _ => ?_
   refine GoI.z nfw9 ?_
   refine PI.r ?_
   exact FinI.mk _ nfw9 (by clear U; simp_all [finR, nrmA, nrm, AV.content, inpS])
  try simp only [hb4]
  refine PI.q ?_
  refine rg48w9 (12) [] fun all8 _ => ?_
  refine GoI.z nfw9 ?_
  refine PI.d 7 nfw9 (fun hb5 => ?_) (fun hb5 => ?_)
  ·
   try simp only [hb5]
   refine PI.s ?_
   refine PI.t 7 nfw9 ?_
   refine PI.q ?_
   refine rg48w9 (13) [] fun all10 _ => ?_
   refine GoI.z nfw9 ?_
   refine PI.r ?_
   exact FinI.mk _ nfw9 (by clear U; simp_all [finR, nrmA, nrm, AV.content, inpS])
  try simp only [hb5]
  refine rg48w9 (14) [] fun all9 _ => ?_
  refine GoI.z nfw9 ?_
  refine PI.d 7 nfw9 (fun hb6 => ?_) (fun hb6 => ?_)
  ·
   try simp only [hb6]
   refine PI.q ?_
   refine rg48w9 (15) [] fun all10 _ => ?_
   refine GoI.z nfw9 ?_
   refine PI.r ?_
   exact FinI.mk _ nfw9 (by clear U; simp_all [finR, nrmA, nrm, AV.content, inpS])
  try simp only [hb6]
  refine PI.q ?_
  refine PI.q ?_
  refine rg48w9 (16) [] fun all11 _ => ?_
  refine GoI.z nfw9 ?_
  refine PI.d 12 nfw9 (fun hb7 => ?_) (fun hb7 => ?_)
  ·
   try simp only [hb7]
   refine PI.s ?_
   refine PI.t 12 nfw9 ?_
   refine PI.q ?_
   refine rg48w9 (17) [] fun all16 _ => ?_
   refine GoI.z nfw9 ?_
   refine PI.r ?_
   exact FinI.mk _ nfw9 (by clear U; simp_all [finR, nrmA, nrm, AV.content, inpS])
  try simp only [hb7]
  refine PI.q ?_
  refine rg48w9 (18) [] fun all12 _ => ?_
  refine GoI.z nfw9 ?_
  refine PI.d 12 nfw9 (fun hb8 => ?_) (fun hb8 => ?_)
  ·
   try simp only [hb8]
   refine PI.s ?_
   refine PI.t 12 nfw9 ?_
   refine PI.q ?_
   refine rg48w9 (19) [] fun all16 _ => ?_
   refine GoI.z nfw9 ?_
   refine PI.r ?_
   exact FinI.mk _ nfw9 (by clear U; simp_all [finR, nrmA, nrm, AV.content, inpS])
  try simp only [hb8]
  refine PI.q ?_
  refine rg48w9 (20) [] fun all13 _ => ?_
  refine GoI.z nfw9 ?_
  refine PI.d 12 nfw9 (fun hb9 => ?_) (fun hb9 => ?_)
  ·
   try simp only [hb9]
   refine PI.s ?_
   refine PI.t 12 nfw9 ?_
   refine PI.q ?_
   refine rg48w9 (21) [] fun all16 _ => ?_
   refine GoI.z nfw9 ?_
   refine PI.r ?_
   exact FinI.mk _ nfw9 (by clear U; simp_all [finR, nrmA, nrm, AV.content, inpS])
  try simp only [hb9]
  refine PI.q ?_
  refine rg48w9 (22) [] fun all14 _ => ?_
  refine GoI.z nfw9 ?_
  refine PI.d 12 nfw9 (fun hb10 => ?_) (fun hb10 => ?_)
  ·
   try simp only [hb10]
   refine PI.s ?_
   refine PI.t 12 nfw9 ?_
   refine PI.q ?_
   refine rg48w9 (23) [] fun all16 _ => ?_
   refine GoI.z nfw9 ?_
   refine PI.r ?_
   exact FinI.mk _ nfw9 (by clear U; simp_all [finR, nrmA, nrm, AV.content, inpS])
  try simp only [hb10]
  refine rg48w9 (24) [] fun all15 _ => ?_
  refine GoI.z nfw9 ?_
  refine PI.d 12 nfw9 (fun hb11 => ?_) (fun hb11 => ?_)
  ·
   try simp only [hb11]
   refine PI.q ?_
   refine rg48w9 (25) [] fun all16 _ => ?_
   refine GoI.z nfw9 ?_
   refine PI.r ?_
   exact FinI.mk _ nfw9 (by clear U; simp_all [finR, nrmA, nrm, AV.content, inpS])
  try simp only [hb11]
  refine PI.s ?_
  refine PI.q ?_
  refine rg48w9 (25) [] fun all17 _ => ?_
  refine GoI.z nfw9 ?_
  refine PI.r ?_
  exact FinI.mk _ nfw9 (by clear U; simp_all [finR, nrmA, nrm, AV.content, inpS])
theorem kind_rng (k : Int) : kindS k = !(decide (k < 1) || decide (k > 3)) := by
  unfold kindS
  rw [Bool.eq_iff_iff]; simp; omega
theorem rg80w9 {T : List Rid} {p : Path} {Q : Exit → SL → Prop} {tm : List AV} {L : RL} {n : Nat} {c : Code} {l : List Oper} (n' : Nat) (Qs : List Nat) (h : ∀ all, (ro c).toList = all → GoI Tryz.prog T p all false Qs n 0 l tm L fun tm' L' => Q .normal ⟨tm', L', n'⟩) (hk : kd c = 0 := by kernel_rfl) (hr : rd c = false := by kernel_rfl) (hl : (ro c).toList = l := by dsimp only [ro, s1, s2, c1, c2, bc, bod, Tryz.f80, Option.getD_some] <;> exact rfl) (hn : n + (ro c).size = n' := by kernel_rfl) : PI Tryz.prog T p c Q ⟨tm, L, n⟩ := PI.rg n' Qs hk hr hl (fun h => by cases h) hn (h _ rfl)
set_option maxRecDepth 100000 in
theorem okBasic (l : List Int) (hl : l.length ≤ maxLen) : CallsOK Tryz.prog 80 [ints l] (aB (l.all kindS)) := by
  have U : Hid True := ⟨trivial⟩
  refine CallsOK.of_pi mixed Tryz.func80 (by kernel_rfl) (by kernel_rfl) (?_ : PI _ _ _ _ _ ⟨[ints l, .und, .und, .und, .und, .und, .und, .und, .und, .und, .und, .und, .und, .und, .und, .und, .und, .und], [], 0⟩)
  refine PI.q ?_
  refine rg80w9 (1) [] fun all1 _ => ?_
  refine GoI.z nfw9 ?_
  refine PI.q ?_
  refine PI.q ?_
  refine rg80w9 (4) [] fun all2 _ => ?_
  refine GoI.runN 2 nfw9 ?_
  refine GoI.z nfw9 ?_
  refine PI.b 0 ?_
  refine PI.lo (by kernel_rfl) (X := Nat) (fun i => (7, aI i) :: uk [2, 4, 8, 9, 10, 11, 12, 13, 14, 15, 16, 17]) (fun i => []) (fun k i => k = l.length - i ∧ i ≤ l.length ∧ (l.take i).all kindS = true) (l.length) (0) (GhI.of_wk ⟨by simp [ovr, uk, lessT, neJ2, neJ2', neJ3, neJ3'], by simp [lessR, lk, neJ2, neJ2', neJ3, neJ3'], by (try dsimp only); omega, keep0⟩) (by simp) ?_
  intro k1 x1 j1 hr1
  obtain ⟨rfl, hi1, ha⟩ := hr1
  simp only [ovr, uk, List.set_cons_zero, List.set_cons_succ]
  refine PI.q ?_
  refine rg80w9 (j1 + 5) [] fun all3 _ => ?_
  refine GoI.z nfw9 ?_
  refine PI.q ?_
  refine PI.d 8 nfw9 (fun hb1 => ?_) (fun hb1 => ?_)
  ·
   try simp only [hb1]
   obtain ⟨hlt, hw⟩ := up hb1 hl
   have hx := ints_at hlt
   have hk := kind_rng l[x1]
   replace U := U.cons (And.intro (hw) (hx))
   refine PI.s ?_
   refine PI.q ?_
   refine PI.b 1 ?_
   refine PI.q ?_
   refine rg80w9 (j1 + 8) [] fun all4 _ => ?_
   refine GoI.runN 2 nfw9 ?_
   refine GoI.z nfw9 ?_
   refine PI.q ?_
   refine rg80w9 (j1 + 14) [] fun all5 hall5 => ?_
   have hgd5_2 : (all5[2]?).bind (fun o => o.dst) = some 13 := by rw [← hall5]; kernel_rfl
   replace U := U.cons (hgd5_2)
   refine GoI.runN 2 nfw9 ?_
   refine GoI.runN 1 nfw9 ?_
   refine GoI.grd 13 nfw9 (fun hg1 => ?_) (fun hg1 => ?_)
   ·
    try simp only [hg1]
    refine GoI.runN 2 nfw9 ?_
    refine GoI.z nfw9 ?_
    refine PI.t 16 nfw9 ?_
    have hr := all_not (p := kindS) hlt (by simp_all)
    refine PI.q ?_
    refine rg80w9 (j1 + 15) [] fun all6 _ => ?_
    refine GoI.z nfw9 ?_
    refine PI.r ?_
    exact FinI.mk _ nfw9 (by clear U; rw [hr]; rfl)
   try simp only [hg1]
   refine GoI.runN 2 nfw9 ?_
   refine GoI.z nfw9 ?_
   refine PI.d 16 nfw9 (fun hb2 => ?_) (fun hb2 => ?_)
   ·
    try simp only [hb2]
    have hr := all_not (p := kindS) hlt (by simp_all)
    refine PI.q ?_
    refine rg80w9 (j1 + 15) [] fun all6 _ => ?_
    refine GoI.z nfw9 ?_
    refine PI.r ?_
    exact FinI.mk _ nfw9 (by clear U; rw [hr]; rfl)
   try simp only [hb2]
   have hr := all_take (p := kindS) hlt ha (by simp_all)
   refine PI.s ?_
   refine rg80w9 (j1 + 16) [] fun all7 _ => ?_
   refine GoI.z nfw9 ?_
   refine ⟨l.length - (x1 + 1), x1 + 1, j1 + 12, by omega, ⟨rfl, by omega, hr⟩, GhI.of_wk ⟨by simp [ovr, uk, lessT, neJ2, neJ2', neJ3, neJ3'], by simp [lessR, lk, neJ2, neJ2', neJ3, neJ3'], by (try dsimp only); omega, keep0⟩⟩
  try simp only [hb1]
  have hr := all_full (dn hb1) ha
  refine PI.e 0 ?_
  refine PI.q ?_
  refine rg80w9 (j1 + 6) [] fun all8 _ => ?_
  refine GoI.z nfw9 ?_
  refine PI.r ?_
  exact FinI.mk _ nfw9 (by clear U; rw [hr]; rfl)
def valS (rows : List Row) (kinds : List Int) : Int := if decide ((rows.length : Int) > 4096) = true then 5 else if kinds.all kindS = false then 7 else if (rows.all fun r => fits r kinds) = true then 0 else 8
theorem rg81w9 {T : List Rid} {p : Path} {Q : Exit → SL → Prop} {tm : List AV} {L : RL} {n : Nat} {c : Code} {l : List Oper} (n' : Nat) (Qs : List Nat) (h : ∀ all, (ro c).toList = all → GoI Tryz.prog T p all false Qs n 0 l tm L fun tm' L' => Q .normal ⟨tm', L', n'⟩) (hk : kd c = 0 := by kernel_rfl) (hr : rd c = false := by kernel_rfl) (hl : (ro c).toList = l := by dsimp only [ro, s1, s2, c1, c2, bc, bod, Tryz.f81, Option.getD_some] <;> exact rfl) (hn : n + (ro c).size = n' := by kernel_rfl) : PI Tryz.prog T p c Q ⟨tm, L, n⟩ := PI.rg n' Qs hk hr hl (fun h => by cases h) hn (h _ rfl)
set_option maxHeartbeats 1000000 in
set_option maxRecDepth 100000 in
theorem okValues (f : PlF) (hr : f.rows.length ≤ maxLen) (hk : f.kinds.length ≤ maxLen) : CallsOK Tryz.prog 81 [aP f] (aI (valS f.rows f.kinds)) := by
  have U : Hid True := ⟨trivial⟩
  refine CallsOK.of_pi mixed Tryz.func81 (by kernel_rfl) (by kernel_rfl) (?_ : PI _ _ _ _ _ ⟨[aP f, .und, .und, .und, .und, .und, .und, .und, .und, .und, .und, .und, .und, .und, .und, .und, .und, .und, .und, .und, .und, .und, .und, .und, .und, .und], [], 0⟩)
  refine PI.q ?_
  refine rg81w9 (2) [] fun all1 _ => ?_
  refine GoI.z nfw9 ?_
  refine PI.q ?_
  refine PI.q ?_
  refine rg81w9 (6) [] fun all2 _ => ?_
  refine GoI.runN 2 nfw9 ?_
  refine GoI.z nfw9 ?_
  refine PI.d 8 nfw9 (fun hb1 => ?_) (fun hb1 => ?_)
  ·
   try simp only [hb1]
   have hv : valS f.rows f.kinds = 5 := by unfold valS; rw [if_pos hb1]
   refine PI.q ?_
   refine rg81w9 (7) [] fun all3 _ => ?_
   refine GoI.z nfw9 ?_
   refine PI.r ?_
   exact FinI.mk _ nfw9 (by clear U; rw [hv]; rfl)
  try simp only [hb1]
  have h1 : ¬ decide ((f.rows.length : Int) > 4096) = true := by simpa using hb1
  refine PI.s ?_
  refine PI.q ?_
  refine PI.q ?_
  refine rg81w9 (10) [] fun all4 _ => ?_
  refine GoI.runN 2 nfw9 ?_
  refine GoI.call nfw9 nfw9 (by exact okBasic _ hk) ?_
  refine GoI.z nfw9 ?_
  refine PI.d 12 nfw9 (fun hb2 => ?_) (fun hb2 => ?_)
  ·
   try simp only [hb2]
   have h2 : f.kinds.all kindS = false := by simpa using hb2
   have hv : valS f.rows f.kinds = 7 := by unfold valS; rw [if_neg h1, if_pos h2]
   refine PI.q ?_
   refine rg81w9 (11) [] fun all5 _ => ?_
   refine GoI.z nfw9 ?_
   refine PI.r ?_
   exact FinI.mk _ nfw9 (by clear U; rw [hv]; rfl)
  try simp only [hb2]
  have h2 : ¬ f.kinds.all kindS = false := by simpa using hb2
  have hv : valS f.rows f.kinds = if (f.rows.all fun r => fits r f.kinds) = true then 0 else 8 := by unfold valS; rw [if_neg h1, if_neg h2]
  refine PI.s ?_
  refine PI.q ?_
  refine PI.q ?_
  refine rg81w9 (14) [] fun all6 _ => ?_
  refine GoI.runN 2 nfw9 ?_
  refine GoI.z nfw9 ?_
  refine PI.b 0 ?_
  refine PI.lo (by kernel_rfl) (X := Nat) (fun i => (16, aI i) :: uk [2, 4, 17, 18, 19, 20, 21, 22, 23, 24, 25]) (fun i => [(([0], 0), .var 32 (pC f))]) (fun k i => k = f.rows.length - i ∧ i ≤ f.rows.length ∧ ((f.rows.take i).all fun r => fits r f.kinds) = true) (f.rows.length) (0) (GhI.of_wk ⟨by simp [ovr, uk, lessT, neJ2, neJ2', neJ3, neJ3'], by simp [lessR, lk, neJ2, neJ2', neJ3, neJ3'], by (try dsimp only); omega, keep0⟩) (by simp) ?_
  intro k1 x1 j1 hr1
  obtain ⟨rfl, hi1, ha⟩ := hr1
  simp only [ovr, uk, List.set_cons_zero, List.set_cons_succ]
  refine PI.q ?_
  refine rg81w9 (j1 + 15) [] fun all7 _ => ?_
  refine GoI.z nfw9 ?_
  refine PI.q ?_
  refine PI.d 17 nfw9 (fun hb3 => ?_) (fun hb3 => ?_)
  ·
   try simp only [hb3]
   obtain ⟨hlt, hw⟩ := up hb3 hr
   have hx := rows_at hlt
   replace U := U.cons (And.intro (hw) (hx))
   refine PI.s ?_
   refine PI.q ?_
   refine PI.b 1 ?_
   refine PI.q ?_
   refine rg81w9 (j1 + 18) [] fun all8 _ => ?_
   refine GoI.runN 2 nfw9 ?_
   refine GoI.z nfw9 ?_
   refine PI.q ?_
   refine rg81w9 (j1 + 23) [] fun all9 _ => ?_
   refine GoI.runN 2 nfw9 ?_
   refine GoI.run nfw9 ?_
   refine GoI.call nfw9 nfw9 (by exact okFits _ _) ?_
   refine GoI.z nfw9 ?_
   refine PI.d 24 nfw9 (fun hb4 => ?_) (fun hb4 => ?_)
   ·
    try simp only [hb4]
    have hh := all_not (p := fun r => fits r f.kinds) hlt (by simpa using hb4)
    rw [if_neg (by rw [hh]; decide)] at hv
    refine PI.q ?_
    refine rg81w9 (j1 + 24) [] fun all10 _ => ?_
    refine GoI.z nfw9 ?_
    refine PI.r ?_
    exact FinI.mk _ nfw9 (by clear U; rw [hv]; rfl)
   try simp only [hb4]
   have hh := all_take (p := fun r => fits r f.kinds) hlt ha (by simpa using hb4)
   refine PI.s ?_
   refine rg81w9 (j1 + 25) [] fun all11 _ => ?_
   refine GoI.z nfw9 ?_
   refine ⟨f.rows.length - (x1 + 1), x1 + 1, j1 + 11, by omega, ⟨rfl, by omega, hh⟩, GhI.of_wk ⟨by simp [ovr, uk, lessT, neJ2, neJ2', neJ3, neJ3'], by simp [lessR, lk, neJ2, neJ2', neJ3, neJ3'], by (try dsimp only); omega, keep0⟩⟩
  try simp only [hb3]
  have hh := all_full (dn hb3) ha
  rw [if_pos hh] at hv
  refine PI.e 0 ?_
  refine PI.q ?_
  refine rg81w9 (j1 + 16) [] fun all12 _ => ?_
  refine GoI.z nfw9 ?_
  refine PI.r ?_
  exact FinI.mk _ nfw9 (by clear U; rw [hv]; rfl)
def eqlS (a b : List Int) : Int := if a.length ≠ b.length then 13 else if a == b then 0 else 7
end Go.FE
