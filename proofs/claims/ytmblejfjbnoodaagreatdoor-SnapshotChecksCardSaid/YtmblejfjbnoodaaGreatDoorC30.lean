/- Plans are checked, node by node. Plans are checked. The weight of expressions and of plans. The chapter's examples. -/
import Derived.Test.YtmblejfjbnoodaaGreatDoorC09
import Derived.Test.YtmblejfjbnoodaaGreatDoorC23
import Derived.Test.YtmblejfjbnoodaaGreatDoorC29
set_option linter.unusedVariables false
set_option linter.unusedSimpArgs false
namespace Go.FE
open Go.Proofs
theorem nfw12 {α : Type} {a b : α} (h : a = b := by simp only [goP, goN, mrk, Nat.reduceMul, Nat.one_mul, Nat.mul_one, eq_self, false_implies, implies_true, Nat.reduceLT, List.getElem?_toArray, isCall, List.contains_nil, List.contains_cons, Nat.reduceBEq, Bool.or_false, Bool.or_self, List.length_map, gOf, step, stepM, stepP, ev, okV, if_true, if_false, allocA, storeA, boxA, one1, tokN, tok1, buildA, rowA, nrmP, partV, partA, fieldA, fieldV, elemA, lenA, bltA, asSl, appA, makeA, makeR, cutA, bndA, binV, intOp, strOp, unV, eqB, nilB, sameT, List.all_cons, List.all_nil, Bool.and_self, Bool.and_true, Bool.true_and, List.map_cons, List.map_nil, List.nil_append, List.cons_append, List.append_nil, AV.bare, AV.content, AV.clean, AV.one, putD, List.set_cons_zero, List.set_cons_succ, List.reverse_cons, List.reverse_nil, List.getD_cons_zero, List.getD_cons_succ, List.getElem?_cons_zero, List.getElem?_cons_succ, Option.getD_some, Option.map_some, Option.map_none, Option.bind_some, List.length_cons, List.length_nil, lk, cellsA, fillA, fillS, isAggD, spl, nrm, nrmA, List.take_succ_cons, List.take_zero, List.drop_succ_cons, List.drop_zero, List.drop_nil, List.take_nil, Nat.reduceAdd, Nat.zero_add, Nat.add_zero, Nat.add_assoc, Nat.add_left_cancel_iff, reduceCtorEq, Prod.mk.injEq, List.cons.injEq, and_self, and_true, true_and, Nat.le_refl, Nat.reduceLeDiff, Nat.reduceEqDiff, List.getElem?_nil, Int.reduceToNat, Int.reduceLE, Int.reduceLT, ite_self, List.forall_mem_cons, List.not_mem_nil, false_and, and_false, Bool.false_eq_true, List.replicate_zero, List.replicate_succ, Int.toNat_natCast, neJ2, neJ2', neJ3, neJ3', callOf, callOf2, fnOf, argsA, args2, Array.isEmpty_empty, resLL, resVL, beq_self_eq_true, st3, zt3, it3, ct3, se3, Tryz.underlying3, st4, zt4, it4, ct4, se4, Tryz.underlying4, st9, zt9, it9, ct9, se9, Tryz.underlying9, st22, zt22, it22, ct22, se22, Tryz.underlying22, st23, zt23, it23, ct23, se23, Tryz.underlying23, st25, zt25, it25, ct25, pt25, eqs25, se25, Tryz.underlying25, st26, zt26, it26, ct26, se26, Tryz.underlying26, st28, zt28, it28, ct28, pt28, se28, Tryz.underlying28, st29, zt29, it29, ct29, se29, Tryz.underlying29, st30, zt30, it30, ct30, se30, Tryz.underlying30, st32, zt32, it32, ct32, pt32, se32, Tryz.underlying32, st33, zt33, it33, ct33, se33, Tryz.underlying33, st36, zt36, it36, ct36, se36, Tryz.underlying36, st37, Tryz.underlying37, st48, zt48, it48, ct48, pt48, eqs48, se48, Tryz.underlying48, st49, zt49, it49, ct49, se49, Tryz.underlying49, Tryz.results51, U.out] <;> rfl) : a = b := h
def fitK (r : List Int × Int) : List Int × Int := if r.2 ≠ 0 then r else if (decide ((r.1.length : Int) < 1) || decide ((r.1.length : Int) > 48)) = true then ([], 13) else r
def nodR (ins : List (List Int)) (f : PlF) (rs : List (List Int × Int)) : List Int × Int :=
  if inpS f.op < 0 then ([], 7)
  else if inpS f.op ≠ rs.length then ([], 8)
  else match rs.find? (fun r => r.2 != 0) with
    | some r => ([], r.2)
    | none => fitK (nrmK (opS f ins (rs.map (·.1))))
mutual
def nodeS (ins : List (List Int)) : Pl → List Int × Int
  | .mk op int kinds rows pred exprs keys aggs inputs => nodR ins (Pl.mk op int kinds rows pred exprs keys aggs inputs).f (nodeSs ins inputs)
def nodeSs (ins : List (List Int)) : List Pl → List (List Int × Int)
  | [] => []
  | p :: l => nodeS ins p :: nodeSs ins l
end
theorem nodeSs_map (ins : List (List Int)) : ∀ l : List Pl, nodeSs ins l = l.map (nodeS ins)
  | [] => by simp [nodeSs]
  | e :: l => by rw [nodeSs, nodeSs_map ins l]; rfl
theorem nodeS_f (ins : List (List Int)) (p : Pl) : nodeS ins p = nodR ins p.f (p.f.inputs.map (nodeS ins)) := by
  obtain ⟨op, int, kinds, rows, pred, exprs, keys, aggs, inputs⟩ := p
  obtain ⟨po, pi, pv, pn, pa⟩ := pred
  rw [nodeS, nodeSs_map]; rfl
theorem fitK_len (r : List Int × Int) (h : r.2 ≠ 0 → r.1.length ≤ 48) : (fitK r).1.length ≤ 48 := by
  unfold fitK
  split
  · exact h (by assumption)
  · split
    · exact Nat.zero_le _
    · rename_i hc; simp at hc; omega
theorem nodR_len (ins : List (List Int)) (f : PlF) (rs : List (List Int × Int)) : (nodR ins f rs).1.length ≤ 48 := by
  unfold nodR
  split
  · exact Nat.zero_le _
  · split
    · exact Nat.zero_le _
    · split
      · exact Nat.zero_le _
      · refine fitK_len _ fun h => ?_
        unfold nrmK at h ⊢
        split
        · rename_i hc; rw [if_pos hc] at h; exact absurd hc h
        · exact Nat.zero_le _
theorem nodeS_len (ins : List (List Int)) (p : Pl) : (nodeS ins p).1.length ≤ 48 := by rw [nodeS_f]; exact nodR_len _ _ _
theorem findK_ok {rs : List (List Int × Int)} (h : ∀ j (hj : j < rs.length), rs[j].2 = 0) : rs.find? (fun r => r.2 != 0) = none :=
  List.find?_eq_none.2 fun a ha => by obtain ⟨j, hj, e⟩ := List.mem_iff_getElem.1 ha; rw [← e, h j hj]; decide
theorem findK_er {rs : List (List Int × Int)} {i : Nat} (hi : i < rs.length) (h : ∀ j (hj : j < rs.length), j < i → rs[j].2 = 0) (he : rs[i].2 ≠ 0) : rs.find? (fun r => r.2 != 0) = some rs[i] := by
  rw [List.find?_eq_some_iff_getElem]
  exact ⟨by simpa using he, i, hi, rfl, fun j hj => by rw [h j (by omega) hj]; rfl⟩
theorem nod_7 {ins : List (List Int)} {f : PlF} {rs : List (List Int × Int)} (h : inpS f.op < 0) : nodR ins f rs = ([], 7) := by unfold nodR; rw [if_pos h]
theorem nod_8 {ins : List (List Int)} {f : PlF} {l : List Pl} (h : ¬ inpS f.op < 0) (h2 : inpS f.op ≠ l.length) : nodR ins f (l.map (nodeS ins)) = ([], 8) := by unfold nodR; rw [if_neg h, if_pos (by rw [List.length_map]; exact h2)]
theorem nod_er {ins : List (List Int)} {f : PlF} {l : List Pl} {i : Nat} (h : ¬ inpS f.op < 0) (h2 : inpS f.op = l.length) (hi : i < l.length) (hok : ∀ j (hj : j < l.length), j < i → (nodeS ins l[j]).2 = 0) (he : (nodeS ins l[i]).2 ≠ 0) : nodR ins f (l.map (nodeS ins)) = ([], (nodeS ins l[i]).2) := by
  unfold nodR
  rw [if_neg h, if_neg (by rw [List.length_map]; exact fun h' => h' h2), findK_er (i := i) (by simpa using hi) (fun j hj hji => by simpa using hok j (by simpa using hj) hji) (by simpa using he)]
  simp
theorem nod_ok {ins : List (List Int)} {f : PlF} {l : List Pl} (h : ¬ inpS f.op < 0) (h2 : inpS f.op = l.length) (hok : ∀ j (hj : j < l.length), (nodeS ins l[j]).2 = 0) : nodR ins f (l.map (nodeS ins)) = fitK (nrmK (opS f ins (l.map fun q => (nodeS ins q).1))) := by
  unfold nodR
  rw [if_neg h, if_neg (by rw [List.length_map]; exact fun h' => h' h2), findK_ok (fun j hj => by simpa using hok j (by simpa using hj))]
  dsimp only
  rw [List.map_map]; rfl
theorem okn_succ {ins : List (List Int)} {l : List Pl} {i : Nat} (h : ∀ j (hj : j < l.length), j < i → (nodeS ins l[j]).2 = 0) (hi : i < l.length) (h1 : (nodeS ins l[i]).2 = 0) : ∀ j (hj : j < l.length), j < i + 1 → (nodeS ins l[j]).2 = 0 := fun j hj hji => by
  rcases Nat.lt_or_ge j i with h2 | h2
  · exact h j hj h2
  · have e : j = i := by omega
    subst e; exact h1
theorem fit_1 {r : List Int × Int} (h : r.2 ≠ 0) : fitK (nrmK r) = ([], r.2) := by
  have hn : nrmK r = ([], r.2) := if_neg h
  unfold fitK
  rw [hn, if_pos h]
theorem fit_2 {r : List Int × Int} (h : r.2 = 0) (h2 : (decide ((r.1.length : Int) < 1) || decide ((r.1.length : Int) > 48)) = true) : fitK (nrmK r) = ([], 13) := by
  have hn : nrmK r = r := if_pos h
  unfold fitK
  rw [hn, if_neg (fun h' => h' h), if_pos h2]
theorem fit_3 {r : List Int × Int} (h : r.2 = 0) (h2 : (decide ((r.1.length : Int) < 1) || decide ((r.1.length : Int) > 48)) = false) : fitK (nrmK r) = r := by
  have hn : nrmK r = r := if_pos h
  unfold fitK
  rw [hn, if_neg (fun h' => h' h), if_neg (by rw [h2]; decide)]
theorem rg51w12 {T : List Rid} {p : Path} {Q : Exit → SL → Prop} {tm : List AV} {L : RL} {n : Nat} {c : Code} {l : List Oper} (n' : Nat) (Qs : List Nat) (h : ∀ all, (ro c).toList = all → GoI Tryz.prog T p all false Qs n 0 l tm L fun tm' L' => Q .normal ⟨tm', L', n'⟩) (hk : kd c = 0 := by kernel_rfl) (hr : rd c = false := by kernel_rfl) (hl : (ro c).toList = l := by dsimp only [ro, s1, s2, c1, c2, bc, bod, Tryz.f51, Option.getD_some] <;> exact rfl) (hn : n + (ro c).size = n' := by kernel_rfl) : PI Tryz.prog T p c Q ⟨tm, L, n⟩ := PI.rg n' Qs hk hr hl (fun h => by cases h) hn (h _ rfl)
set_option maxHeartbeats 2000000 in
set_option maxRecDepth 100000 in
theorem okNode (ins : List (List Int)) : ∀ (n : Nat) (p : Pl), dpPs p.f.inputs < n → SmP p → CallsOK Tryz.prog 51 [aP p.f, aKs ins] (.tup [ints (nodeS ins p).1, aI (nodeS ins p).2]) := by
  intro n
  induction n with
  | zero => intro p h; omega
  | succ n ih =>
  intro p hd hs
  have hsf := hs.smf
  have hsi := hs.inp
  rw [nodeS_f]
  generalize hf : p.f = f
  rw [hf] at hd hsf hsi
  clear hs hf
  have hl := hsf.hi
  have hl' : f.inputs.length ≤ maxLen := by unfold maxLen; omega
  generalize hRS : nodR ins f (f.inputs.map (nodeS ins)) = RS
  have U : Hid True := ⟨trivial⟩
  refine CallsOK.of_pi mixed Tryz.func51 (by kernel_rfl) (by kernel_rfl) (?_ : PI _ _ _ _ _ ⟨[aP f, aKs ins, .und, .und, .und, .und, .und, .und, .und, .und, .und, .und, .und, .und, .und, .und, .und, .und, .und, .und, .und, .und, .und, .und, .und, .und, .und, .und, .und, .und, .und, .und, .und, .und, .und, .und, .und, .und, .und, .und, .und, .und, .und, .und, .und, .und, .und, .und, .und, .und, .und, .und, .und, .und, .und, .und, .und, .und, .und, .und, .und, .und, .und, .und], [], 0⟩)
  refine PI.q ?_
  refine rg51w12 (3) [] fun all1 _ => ?_
  refine GoI.runN 2 nfw12 ?_
  refine GoI.z nfw12 ?_
  refine PI.q ?_
  refine rg51w12 (7) [] fun all2 _ => ?_
  refine GoI.runN 2 nfw12 ?_
  refine GoI.call nfw12 nfw12 (by exact okInputs' _) ?_
  refine GoI.z nfw12 ?_
  refine PI.q ?_
  refine PI.q ?_
  refine rg51w12 (9) [] fun all3 _ => ?_
  refine GoI.z nfw12 ?_
  refine PI.d 17 nfw12 (fun hb1 => ?_) (fun hb1 => ?_)
  ·
   try simp only [hb1]
   have h1 : inpS f.op < 0 := by simpa using hb1
   rw [nod_7 h1] at hRS
   refine PI.q ?_
   refine rg51w12 (11) [] fun all4 _ => ?_
   refine GoI.z nfw12 ?_
   refine PI.r ?_
   exact FinI.mk _ nfw12 (by clear U; subst hRS; simp_all [finR, nrmA, nrm, AV.content])
  try simp only [hb1]
  have h1 : ¬ inpS f.op < 0 := by simpa using hb1
  refine PI.s ?_
  refine PI.q ?_
  refine PI.q ?_
  refine rg51w12 (14) [] fun all5 _ => ?_
  refine GoI.runN 2 nfw12 ?_
  refine GoI.runN 2 nfw12 ?_
  refine GoI.z nfw12 ?_
  refine PI.d 22 nfw12 (fun hb2 => ?_) (fun hb2 => ?_)
  ·
   try simp only [hb2]
   have h2 : inpS f.op ≠ f.inputs.length := by simp at hb2; omega
   rw [nod_8 h1 h2] at hRS
   refine PI.q ?_
   refine rg51w12 (16) [] fun all6 _ => ?_
   refine GoI.z nfw12 ?_
   refine PI.r ?_
   exact FinI.mk _ nfw12 (by clear U; subst hRS; simp_all [finR, nrmA, nrm, AV.content])
  try simp only [hb2]
  have h2 : inpS f.op = f.inputs.length := by simp at hb2; omega
  replace U := U.cons (h2)
  refine PI.s ?_
  refine PI.q ?_
  refine rg51w12 (15) [] fun all7 _ => ?_
  refine GoI.z nfw12 ?_
  refine PI.q ?_
  refine PI.q ?_
  refine rg51w12 (16) [] fun all8 _ => ?_
  refine GoI.z nfw12 ?_
  refine PI.b 0 ?_
  refine PI.lo (by kernel_rfl) (X := Nat) (fun i => (8, aI i) :: (7, .sl (((f.inputs.take i).map fun q => (nodeS ins q).1).map fun k => [ints k]) (some (([14], 0), i))) :: uk [4, 5, 9, 10, 23, 24, 25, 26, 27, 28, 29, 30, 31, 32, 33, 34, 35, 36, 37, 38, 39, 40, 41, 42, 43, 44]) (fun i => [(([0], 0), .var 32 (pC f)), (([14], 0), .tok i 22 1)]) (fun k i => k = f.inputs.length - i ∧ i ≤ f.inputs.length ∧ ∀ j (hj : j < f.inputs.length), j < i → (nodeS ins f.inputs[j]).2 = 0) (f.inputs.length) (0) (GhI.of_wk ⟨by simp [ovr, uk, lessT, neJ2, neJ2', neJ3, neJ3'], by simp [lessR, lk, neJ2, neJ2', neJ3, neJ3'], by (try dsimp only); omega, keep0⟩) (⟨rfl, Nat.zero_le _, fun j hj hji => by omega⟩) ?_
  intro k1 x1 j1 hr1
  obtain ⟨rfl, hi1, hok⟩ := hr1
  simp only [ovr, uk, List.set_cons_zero, List.set_cons_succ]
  refine PI.q ?_
  refine PI.q ?_
  refine rg51w12 (j1 + 19) [] fun all9 _ => ?_
  refine GoI.runN 2 nfw12 ?_
  refine GoI.z nfw12 ?_
  refine PI.d 25 nfw12 (fun hb3 => ?_) (fun hb3 => ?_)
  ·
   try simp only [hb3]
   obtain ⟨hlt, hw⟩ := up hb3 hl'
   have hx := pls_at hlt
   have hts : (f.inputs.take (x1 + 1)).map (fun q => (nodeS ins q).1) = (f.inputs.take x1).map (fun q => (nodeS ins q).1) ++ [(nodeS ins f.inputs[x1]).1] := map_snoc hlt
   have hs1 := hsi _ (List.getElem_mem hlt)
   have hdm := dpPs_mem (List.getElem_mem hlt)
   rw [dpP_f] at hdm
   have hap : ((f.inputs.take x1).length + 1) * 24 ≤ 140737488355328 := by simp; omega
   replace U := U.cons (And.intro (hw) (And.intro (hx) (hap)))
   refine PI.s ?_
   refine PI.q ?_
   refine PI.b 1 ?_
   refine PI.q ?_
   refine rg51w12 (j1 + 31) [] fun all10 _ => ?_
   refine GoI.runN 2 nfw12 ?_
   refine GoI.runN 2 nfw12 ?_
   refine GoI.runN 2 nfw12 ?_
   refine GoI.call nfw12 nfw12 (by exact ih _ (by omega) hs1) ?_
   refine GoI.runN 2 nfw12 ?_
   refine GoI.runN 2 nfw12 ?_
   refine GoI.z nfw12 ?_
   refine PI.q ?_
   refine PI.q ?_
   refine rg51w12 (j1 + 33) [] fun all11 _ => ?_
   refine GoI.z nfw12 ?_
   refine PI.d 39 nfw12 (fun hb4 => ?_) (fun hb4 => ?_)
   ·
    try simp only [hb4]
    have h6 : (nodeS ins f.inputs[x1]).2 ≠ 0 := by simpa using hb4
    rw [nod_er h1 h2 hlt hok h6] at hRS
    refine PI.q ?_
    refine rg51w12 (j1 + 36) [] fun all12 _ => ?_
    refine GoI.runN 2 nfw12 ?_
    refine GoI.z nfw12 ?_
    refine PI.r ?_
    exact FinI.mk _ nfw12 (by clear U; subst hRS; simp_all [finR, nrmA, nrm, AV.content])
   try simp only [hb4]
   have h6 : (nodeS ins f.inputs[x1]).2 = 0 := by simpa using hb4
   refine PI.s ?_
   refine rg51w12 (j1 + 38) [] fun all13 _ => ?_
   refine GoI.runN 2 nfw12 ?_
   refine GoI.runN 2 nfw12 ?_
   refine GoI.z nfw12 ?_
   refine rg51w12 (j1 + 41) [] fun all14 _ => ?_
   refine GoI.runN 2 nfw12 ?_
   refine GoI.z nfw12 ?_
   refine ⟨f.inputs.length - (x1 + 1), x1 + 1, j1 + 25, by omega, ⟨rfl, by omega, okn_succ hok hlt h6⟩, GhI.of_wk ⟨by simp only [ovr, uk, lessT, hts, List.map_append, List.map_cons, List.map_nil]; simp [lessT], by simp [lessR, lk, neJ2, neJ2'], by (try dsimp only); omega, keep0⟩⟩
  try simp only [hb3]
  have hge := dn hb3
  rw [List.take_of_length_le hge]
  rw [nod_ok h1 h2 (fun j hj => hok j hj (by omega)), ← opR_nrm] at hRS
  refine PI.e 0 ?_
  refine PI.q ?_
  refine rg51w12 (j1 + 28) [] fun all15 _ => ?_
  refine GoI.runN 2 nfw12 ?_
  refine GoI.run nfw12 ?_
  refine GoI.call nfw12 nfw12 (by exact okResult f ins _ hsf (by rw [List.length_map]; exact h2) (fun k hk => by obtain ⟨q, _, rfl⟩ := List.mem_map.1 hk; have := nodeS_len ins q; omega)) ?_
  refine GoI.runN 2 nfw12 ?_
  refine GoI.runN 2 nfw12 ?_
  refine GoI.z nfw12 ?_
  refine PI.q ?_
  refine PI.q ?_
  refine rg51w12 (j1 + 30) [] fun all16 _ => ?_
  refine GoI.z nfw12 ?_
  refine PI.d 53 nfw12 (fun hb5 => ?_) (fun hb5 => ?_)
  ·
   try simp only [hb5]
   rw [fit_1 (by simpa using hb5)] at hRS
   refine PI.q ?_
   refine rg51w12 (j1 + 33) [] fun all17 _ => ?_
   refine GoI.runN 2 nfw12 ?_
   refine GoI.z nfw12 ?_
   refine PI.r ?_
   exact FinI.mk _ nfw12 (by clear U; subst hRS; simp_all [finR, nrmA, nrm, AV.content])
  try simp only [hb5]
  have h5 : (opR f ins (f.inputs.map fun q => (nodeS ins q).1)).2 = 0 := by simpa using hb5
  refine PI.s ?_
  refine PI.q ?_
  refine PI.q ?_
  refine rg51w12 (j1 + 38) [] fun all18 hall18 => ?_
  have hgd18_3 : (all18[3]?).bind (fun o => o.dst) = some 58 := by rw [← hall18]; kernel_rfl
  replace U := U.cons (hgd18_3)
  refine GoI.runN 2 nfw12 ?_
  refine GoI.runN 2 nfw12 ?_
  refine GoI.grd 58 nfw12 (fun hg1 => ?_) (fun hg1 => ?_)
  ·
   try simp only [hg1]
   refine GoI.runN 2 nfw12 ?_
   refine GoI.z nfw12 ?_
   refine PI.t 62 nfw12 ?_
   rw [fit_2 h5 (by simp at h5 ⊢; simp_all)] at hRS
   refine PI.q ?_
   refine rg51w12 (j1 + 40) [] fun all19 _ => ?_
   refine GoI.z nfw12 ?_
   refine PI.r ?_
   exact FinI.mk _ nfw12 (by clear U; subst hRS; simp_all [finR, nrmA, nrm, AV.content])
  try simp only [hg1]
  refine GoI.runN 2 nfw12 ?_
  refine GoI.z nfw12 ?_
  refine PI.d 62 nfw12 (fun hb6 => ?_) (fun hb6 => ?_)
  ·
   try simp only [hb6]
   rw [fit_2 h5 (by simp at h5 ⊢; simp_all)] at hRS
   refine PI.q ?_
   refine rg51w12 (j1 + 40) [] fun all19 _ => ?_
   refine GoI.z nfw12 ?_
   refine PI.r ?_
   exact FinI.mk _ nfw12 (by clear U; subst hRS; simp_all [finR, nrmA, nrm, AV.content])
  try simp only [hb6]
  rw [fit_3 h5 (by simp at h5 ⊢; simp_all; try (have := List.length_pos_iff.2 hg1; omega))] at hRS
  refine PI.s ?_
  refine PI.q ?_
  refine rg51w12 (j1 + 41) [] fun all20 _ => ?_
  refine GoI.runN 2 nfw12 ?_
  refine GoI.z nfw12 ?_
  refine PI.r ?_
  exact FinI.mk _ nfw12 (by clear U; subst hRS; simp_all [finR, nrmA, nrm, AV.content])
end Go.FE
namespace Go.FE
open Go.Proofs
theorem nfw13 {α : Type} {a b : α} (h : a = b := by simp only [goP, goN, mrk, Nat.reduceMul, Nat.one_mul, Nat.mul_one, eq_self, false_implies, implies_true, Nat.reduceLT, List.getElem?_toArray, isCall, List.contains_nil, List.contains_cons, Nat.reduceBEq, Bool.or_false, Bool.or_self, List.length_map, gOf, step, stepM, stepP, ev, okV, if_true, if_false, allocA, storeA, boxA, one1, tokN, tok1, buildA, rowA, nrmP, partV, partA, fieldA, fieldV, elemA, lenA, bltA, asSl, appA, makeA, makeR, cutA, bndA, binV, intOp, strOp, unV, eqB, nilB, sameT, List.all_cons, List.all_nil, Bool.and_self, Bool.and_true, Bool.true_and, List.map_cons, List.map_nil, List.nil_append, List.cons_append, List.append_nil, AV.bare, AV.content, AV.clean, AV.one, putD, List.set_cons_zero, List.set_cons_succ, List.reverse_cons, List.reverse_nil, List.getD_cons_zero, List.getD_cons_succ, List.getElem?_cons_zero, List.getElem?_cons_succ, Option.getD_some, Option.map_some, Option.map_none, Option.bind_some, List.length_cons, List.length_nil, lk, cellsA, fillA, fillS, isAggD, spl, nrm, nrmA, List.take_succ_cons, List.take_zero, List.drop_succ_cons, List.drop_zero, List.drop_nil, List.take_nil, Nat.reduceAdd, Nat.zero_add, Nat.add_zero, Nat.add_assoc, Nat.add_left_cancel_iff, reduceCtorEq, Prod.mk.injEq, List.cons.injEq, and_self, and_true, true_and, Nat.le_refl, Nat.reduceLeDiff, Nat.reduceEqDiff, List.getElem?_nil, Int.reduceToNat, Int.reduceLE, Int.reduceLT, ite_self, List.forall_mem_cons, List.not_mem_nil, false_and, and_false, Bool.false_eq_true, List.replicate_zero, List.replicate_succ, Int.toNat_natCast, neJ2, neJ2', neJ3, neJ3', callOf, callOf2, fnOf, argsA, args2, Array.isEmpty_empty, resLL, resVL, beq_self_eq_true, st3, zt3, it3, ct3, se3, Tryz.underlying3, st4, zt4, it4, ct4, se4, Tryz.underlying4, st9, zt9, it9, ct9, se9, Tryz.underlying9, st22, zt22, it22, ct22, se22, Tryz.underlying22, st23, zt23, it23, ct23, se23, Tryz.underlying23, st25, zt25, it25, ct25, pt25, eqs25, se25, Tryz.underlying25, st26, zt26, it26, ct26, se26, Tryz.underlying26, st28, zt28, it28, ct28, pt28, se28, Tryz.underlying28, st29, zt29, it29, ct29, se29, Tryz.underlying29, st30, zt30, it30, ct30, se30, Tryz.underlying30, st32, zt32, it32, ct32, pt32, se32, Tryz.underlying32, st33, zt33, it33, ct33, se33, Tryz.underlying33, st36, zt36, it36, ct36, se36, Tryz.underlying36, st37, Tryz.underlying37, st48, zt48, it48, ct48, pt48, eqs48, se48, Tryz.underlying48, st49, zt49, it49, ct49, se49, Tryz.underlying49, st68, Tryz.underlying68, Tryz.results47, Tryz.results13, capsA, Tryz.results12, U.out] <;> rfl) : a = b := h
theorem rg47w13 {T : List Rid} {p : Path} {Q : Exit → SL → Prop} {tm : List AV} {L : RL} {n : Nat} {c : Code} {l : List Oper} (n' : Nat) (Qs : List Nat) (h : ∀ all, (ro c).toList = all → GoI Tryz.prog T p all false Qs n 0 l tm L fun tm' L' => Q .normal ⟨tm', L', n'⟩) (hk : kd c = 0 := by kernel_rfl) (hr : rd c = false := by kernel_rfl) (hl : (ro c).toList = l := by dsimp only [ro, s1, s2, c1, c2, bc, bod, Tryz.f47, Option.getD_some] <;> exact rfl) (hn : n + (ro c).size = n' := by kernel_rfl) : PI Tryz.prog T p c Q ⟨tm, L, n⟩ := PI.rg n' Qs hk hr hl (fun h => by cases h) hn (h _ rfl)
set_option maxHeartbeats 4000000 in
set_option maxRecDepth 100000 in
theorem okClos (ins : List (List Int)) (hin : ∀ k ∈ ins, k.length ≤ maxLen) {nd inn : Rid} (hne : inn ≠ nd) : ∀ (n : Nat) (q : Pl) {rs : Rid → Res} {p : Path}, dpPs q.f.inputs < n → SmP q → ¬ Under p nd → ¬ Under p inn → rs nd = .var 68 [.fn 47 [nd, inn]] → rs inn = .var 33 [aKs ins] →
    Calls2 Tryz.prog 47 [aP q.f, .vp nd 0, .vp inn 0] [nd, inn] rs p (.tup [ints (nodeS ins q).1, aI (nodeS ins q).2]) [] := by
  intro n
  induction n with
  | zero => intro q rs p h; omega
  | succ n ih =>
  intro q rs p hd hs hid ht hrs hrt
  have hsf := hs.smf
  have hsi := hs.inp
  rw [nodeS_f]
  generalize hf : q.f = f
  rw [hf] at hd hsf hsi
  clear hs hf
  have hl := hsf.hi
  have hl' : f.inputs.length ≤ maxLen := by unfold maxLen; omega
  generalize hRS : nodR ins f (f.inputs.map (nodeS ins)) = RS
  have U : Hid True := ⟨trivial⟩
  replace U := U.cons (And.intro (nu1 hid) (And.intro (nu2 hid) (And.intro (nu1 ht) (And.intro (nu2 ht) (And.intro (ne1 hne) (ne2 hne))))))
  refine Calls2.of_pi ([(nd, .var 68 [.fn 47 [nd, inn]]), (inn, .var 33 [aKs ins])]) mixed Tryz.func47 (by kernel_rfl) (by kernel_rfl) (by simp [lk, hrs, hrt, hne, hid, ht]) (by simp [lk, hrs, hrt, hne, hid, ht]) (by simp [lk, hrs, hrt, hne, hid, ht]) (by simp [lk, hrs, hrt, hne, hid, ht]) (by simp [lk, hrs, hrt, hne, hid, ht]) (?_ : PI _ _ _ _ _ ⟨[aP f, .vp nd 0, .vp inn 0, .und, .und, .und, .und, .und, .und, .und, .und, .und, .und, .und, .und, .und, .und, .und, .und, .und, .und, .und, .und, .und, .und, .und, .und, .und, .und, .und, .und, .und, .und, .und, .und, .und, .und, .und, .und, .und, .und, .und, .und, .und, .und, .und, .und, .und, .und, .und, .und, .und, .und, .und, .und, .und, .und, .und, .und, .und, .und, .und, .und, .und], [(nd, .var 68 [.fn 47 [nd, inn]]), (inn, .var 33 [aKs ins])], 0⟩)
  refine PI.q ?_
  refine rg47w13 (3) [] fun all1 _ => ?_
  refine GoI.runN 2 nfw13 ?_
  refine GoI.z nfw13 ?_
  refine PI.q ?_
  refine rg47w13 (7) [] fun all2 _ => ?_
  refine GoI.runN 2 nfw13 ?_
  refine GoI.call nfw13 nfw13 (by exact okInputs _) ?_
  refine GoI.z nfw13 ?_
  refine PI.q ?_
  refine PI.q ?_
  refine rg47w13 (9) [] fun all3 _ => ?_
  refine GoI.z nfw13 ?_
  refine PI.d 18 nfw13 (fun hb1 => ?_) (fun hb1 => ?_)
  ·
   try simp only [hb1]
   have h1 : inpS f.op < 0 := by simpa using hb1
   rw [nod_7 h1] at hRS
   refine PI.q ?_
   refine rg47w13 (11) [] fun all4 _ => ?_
   refine GoI.z nfw13 ?_
   refine PI.r ?_
   exact FinI.mk _ nfw13 ⟨by clear U; subst hRS; (first | rfl | (rw [h5]; rfl)), fin_keys (by simp [lk, under_self, nu1 hid, nu2 hid, nu1 ht, nu2 ht, ne1 hne, ne2 hne]) (by simp [lk, under_self, nu1 hid, nu2 hid, nu1 ht, nu2 ht, ne1 hne, ne2 hne])⟩
  try simp only [hb1]
  have h1 : ¬ inpS f.op < 0 := by simpa using hb1
  refine PI.s ?_
  refine PI.q ?_
  refine PI.q ?_
  refine rg47w13 (14) [] fun all5 _ => ?_
  refine GoI.runN 2 nfw13 ?_
  refine GoI.runN 2 nfw13 ?_
  refine GoI.z nfw13 ?_
  refine PI.d 23 nfw13 (fun hb2 => ?_) (fun hb2 => ?_)
  ·
   try simp only [hb2]
   have h2 : inpS f.op ≠ f.inputs.length := by simp at hb2; omega
   rw [nod_8 h1 h2] at hRS
   refine PI.q ?_
   refine rg47w13 (16) [] fun all6 _ => ?_
   refine GoI.z nfw13 ?_
   refine PI.r ?_
   exact FinI.mk _ nfw13 ⟨by clear U; subst hRS; (first | rfl | (rw [h5]; rfl)), fin_keys (by simp [lk, under_self, nu1 hid, nu2 hid, nu1 ht, nu2 ht, ne1 hne, ne2 hne]) (by simp [lk, under_self, nu1 hid, nu2 hid, nu1 ht, nu2 ht, ne1 hne, ne2 hne])⟩
  try simp only [hb2]
  have h2 : inpS f.op = f.inputs.length := by simp at hb2; omega
  refine PI.s ?_
  refine PI.q ?_
  refine rg47w13 (15) [] fun all7 _ => ?_
  refine GoI.z nfw13 ?_
  refine PI.q ?_
  refine PI.q ?_
  refine rg47w13 (19) [] fun all8 _ => ?_
  refine GoI.runN 2 nfw13 ?_
  refine GoI.z nfw13 ?_
  refine PI.b 0 ?_
  refine PI.lo (by kernel_rfl) (X := Nat) (fun i => (27, aI i) :: (7, .sl (((f.inputs.take i).map fun q => (nodeS ins q).1).map fun k => [ints k]) (some ((14 :: p, 0), i))) :: uk [4, 5, 9, 10, 11, 28, 29, 30, 31, 32, 33, 34, 35, 36, 37, 38, 39, 40, 41, 42, 43, 44]) (fun i => [((0 :: p, 0), .var 32 (pC f)), ((14 :: p, 0), .tok i 22 1), (nd, .var 68 [.fn 47 [nd, inn]]), (inn, .var 33 [aKs ins])]) (fun k i => k = f.inputs.length - i ∧ i ≤ f.inputs.length ∧ ∀ j (hj : j < f.inputs.length), j < i → (nodeS ins f.inputs[j]).2 = 0) (f.inputs.length) (0) (GhI.of_wk ⟨by simp [ovr, uk, lessT], by simp [lessR, lk, nu1 hid, nu2 hid, nu1 ht, nu2 ht, ne1 hne, ne2 hne, neJ2, neJ2', neJ3, neJ3'], by (try dsimp only); omega, by simp [keepR, lk, under_self, nu1 hid, nu2 hid, nu1 ht, nu2 ht, ne1 hne, ne2 hne, neJ2, neJ2', neJ3, neJ3']⟩) (⟨rfl, Nat.zero_le _, fun j hj hji => by omega⟩) ?_
  intro k1 x1 j1 hr1
  obtain ⟨rfl, hi1, hok⟩ := hr1
  simp only [ovr, uk, List.set_cons_zero, List.set_cons_succ]
  refine PI.q ?_
  refine rg47w13 (j1 + 20) [] fun all9 _ => ?_
  refine GoI.z nfw13 ?_
  refine PI.q ?_
  refine PI.d 28 nfw13 (fun hb3 => ?_) (fun hb3 => ?_)
  ·
   try simp only [hb3]
   obtain ⟨hlt, hw⟩ := up hb3 hl'
   have hx := pls_at hlt
   have hts : (f.inputs.take (x1 + 1)).map (fun q => (nodeS ins q).1) = (f.inputs.take x1).map (fun q => (nodeS ins q).1) ++ [(nodeS ins f.inputs[x1]).1] := map_snoc hlt
   have hs1 := hsi _ (List.getElem_mem hlt)
   have hdm := dpPs_mem (List.getElem_mem hlt)
   rw [dpP_f] at hdm
   have hap : ((f.inputs.take x1).length + 1) * 24 ≤ 140737488355328 := by simp; omega
   replace U := U.cons (And.intro (hw) (And.intro (hx) (hap)))
   refine PI.s ?_
   refine PI.q ?_
   refine PI.b 1 ?_
   refine PI.q ?_
   refine rg47w13 (j1 + 24) [] fun all10 _ => ?_
   refine GoI.runN 2 nfw13 ?_
   refine GoI.z nfw13 ?_
   refine PI.q ?_
   refine rg47w13 (j1 + 32) [2] fun all11 _ => ?_
   refine GoI.runN 2 nfw13 ?_
   refine GoI.call2e nfw13 nfw13 (by exact ih _ (by omega) hs1 (fun h => hid h.tail) (fun h => ht h.tail) (by simp [lk, nu1 hid, nu2 hid, nu1 ht, nu2 ht, ne1 hne, ne2 hne]) (by simp [lk, nu1 hid, nu2 hid, nu1 ht, nu2 ht, ne1 hne, ne2 hne])) (by first | exact .inr rfl | exact .inl rfl) (by exact fun h => by cases h) ?_
   try simp only [List.reverse_cons, List.reverse_nil, List.nil_append, List.cons_append, List.append_assoc]
   refine GoI.runN 2 nfw13 ?_
   refine GoI.runN 2 nfw13 ?_
   refine GoI.z nfw13 ?_
   refine PI.q ?_
   refine PI.q ?_
   refine rg47w13 (j1 + 34) [] fun all12 _ => ?_
   refine GoI.z nfw13 ?_
   refine PI.d 38 nfw13 (fun hb4 => ?_) (fun hb4 => ?_)
   ·
    try simp only [hb4]
    have h6 : (nodeS ins f.inputs[x1]).2 ≠ 0 := by simpa using hb4
    rw [nod_er h1 h2 hlt hok h6] at hRS
    refine PI.q ?_
    refine rg47w13 (j1 + 37) [] fun all13 _ => ?_
    refine GoI.runN 2 nfw13 ?_
    refine GoI.z nfw13 ?_
    refine PI.r ?_
    exact FinI.mk _ nfw13 ⟨by clear U; subst hRS; (first | rfl | (rw [h5]; rfl)), fin_keys (by simp [lk, under_self, nu1 hid, nu2 hid, nu1 ht, nu2 ht, ne1 hne, ne2 hne]) (by simp [lk, under_self, nu1 hid, nu2 hid, nu1 ht, nu2 ht, ne1 hne, ne2 hne])⟩
   try simp only [hb4]
   have h6 : (nodeS ins f.inputs[x1]).2 = 0 := by simpa using hb4
   refine PI.s ?_
   refine rg47w13 (j1 + 39) [] fun all14 _ => ?_
   refine GoI.runN 2 nfw13 ?_
   refine GoI.runN 2 nfw13 ?_
   refine GoI.z nfw13 ?_
   refine rg47w13 (j1 + 41) [] fun all15 _ => ?_
   refine GoI.z nfw13 ?_
   refine ⟨f.inputs.length - (x1 + 1), x1 + 1, j1 + 22, by omega, ⟨rfl, by omega, okn_succ hok hlt h6⟩, GhI.of_wk ⟨by simp only [ovr, uk, lessT, hts, List.map_append, List.map_cons, List.map_nil]; simp [lessT], by simp [lessR, lk, neJ2, neJ2', nu1 hid, nu2 hid, nu1 ht, nu2 ht, ne1 hne, ne2 hne], by (try dsimp only); omega, by simp [keepR, lk, under_self, nu1 hid, nu2 hid, nu1 ht, nu2 ht, ne1 hne, ne2 hne]⟩⟩
  try simp only [hb3]
  have hge := dn hb3
  rw [List.take_of_length_le hge]
  rw [nod_ok h1 h2 (fun j hj => hok j hj (by omega))] at hRS
  refine PI.e 0 ?_
  refine PI.q ?_
  refine rg47w13 (j1 + 29) [] fun all16 _ => ?_
  refine GoI.runN 2 nfw13 ?_
  refine GoI.run nfw13 ?_
  refine GoI.call nfw13 nfw13 (by exact okOperator f ins _ hsf (by rw [List.length_map]; exact h2) hin (fun k hk => by obtain ⟨q, _, rfl⟩ := List.mem_map.1 hk; have := nodeS_len ins q; omega)) ?_
  refine GoI.runN 2 nfw13 ?_
  refine GoI.runN 2 nfw13 ?_
  refine GoI.z nfw13 ?_
  refine PI.q ?_
  refine PI.q ?_
  refine rg47w13 (j1 + 31) [] fun all17 _ => ?_
  refine GoI.z nfw13 ?_
  refine PI.d 53 nfw13 (fun hb5 => ?_) (fun hb5 => ?_)
  ·
   try simp only [hb5]
   rw [fit_1 (by simpa using hb5)] at hRS
   refine PI.q ?_
   refine rg47w13 (j1 + 34) [] fun all18 _ => ?_
   refine GoI.runN 2 nfw13 ?_
   refine GoI.z nfw13 ?_
   refine PI.r ?_
   exact FinI.mk _ nfw13 ⟨by clear U; subst hRS; (first | rfl | (rw [h5]; rfl)), fin_keys (by simp [lk, under_self, nu1 hid, nu2 hid, nu1 ht, nu2 ht, ne1 hne, ne2 hne]) (by simp [lk, under_self, nu1 hid, nu2 hid, nu1 ht, nu2 ht, ne1 hne, ne2 hne])⟩
  try simp only [hb5]
  have h5 : (opS f ins (f.inputs.map fun q => (nodeS ins q).1)).2 = 0 := by simpa using hb5
  refine PI.s ?_
  refine PI.q ?_
  refine PI.q ?_
  refine rg47w13 (j1 + 39) [] fun all19 hall19 => ?_
  have hgd19_3 : (all19[3]?).bind (fun o => o.dst) = some 58 := by rw [← hall19]; kernel_rfl
  replace U := U.cons (hgd19_3)
  refine GoI.runN 2 nfw13 ?_
  refine GoI.runN 2 nfw13 ?_
  refine GoI.grd 58 nfw13 (fun hg1 => ?_) (fun hg1 => ?_)
  ·
   try simp only [hg1]
   refine GoI.runN 2 nfw13 ?_
   refine GoI.z nfw13 ?_
   refine PI.t 62 nfw13 ?_
   rw [fit_2 h5 (by simp at h5 ⊢; simp_all)] at hRS
   refine PI.q ?_
   refine rg47w13 (j1 + 41) [] fun all20 _ => ?_
   refine GoI.z nfw13 ?_
   refine PI.r ?_
   exact FinI.mk _ nfw13 ⟨by clear U; subst hRS; (first | rfl | (rw [h5]; rfl)), fin_keys (by simp [lk, under_self, nu1 hid, nu2 hid, nu1 ht, nu2 ht, ne1 hne, ne2 hne]) (by simp [lk, under_self, nu1 hid, nu2 hid, nu1 ht, nu2 ht, ne1 hne, ne2 hne])⟩
  try simp only [hg1]
  refine GoI.runN 2 nfw13 ?_
  refine GoI.z nfw13 ?_
  refine PI.d 62 nfw13 (fun hb6 => ?_) (fun hb6 => ?_)
  ·
   try simp only [hb6]
   rw [fit_2 h5 (by simp at h5 ⊢; simp_all)] at hRS
   refine PI.q ?_
   refine rg47w13 (j1 + 41) [] fun all20 _ => ?_
   refine GoI.z nfw13 ?_
   refine PI.r ?_
   exact FinI.mk _ nfw13 ⟨by clear U; subst hRS; (first | rfl | (rw [h5]; rfl)), fin_keys (by simp [lk, under_self, nu1 hid, nu2 hid, nu1 ht, nu2 ht, ne1 hne, ne2 hne]) (by simp [lk, under_self, nu1 hid, nu2 hid, nu1 ht, nu2 ht, ne1 hne, ne2 hne])⟩
  try simp only [hb6]
  rw [fit_3 h5 (by simp at h5 ⊢; simp_all)] at hRS
  refine PI.s ?_
  refine PI.q ?_
  refine rg47w13 (j1 + 42) [] fun all21 _ => ?_
  refine GoI.runN 2 nfw13 ?_
  refine GoI.z nfw13 ?_
  refine PI.r ?_
  exact FinI.mk _ nfw13 ⟨by clear U; subst hRS; (first | rfl | (rw [h5]; rfl)), fin_keys (by simp [lk, under_self, nu1 hid, nu2 hid, nu1 ht, nu2 ht, ne1 hne, ne2 hne]) (by simp [lk, under_self, nu1 hid, nu2 hid, nu1 ht, nu2 ht, ne1 hne, ne2 hne])⟩
theorem fitK_nil (r : List Int × Int) (h : (fitK (nrmK r)).2 ≠ 0) : (fitK (nrmK r)).1 = [] := by
  by_cases h1 : r.2 = 0
  · by_cases h2 : (decide ((r.1.length : Int) < 1) || decide ((r.1.length : Int) > 48)) = true
    · rw [fit_2 h1 h2]
    · rw [fit_3 h1 (by simpa using h2)] at h
      exact absurd h1 h
  · rw [fit_1 h1]
theorem nodeS_nil (ins : List (List Int)) (p : Pl) (h : (nodeS ins p).2 ≠ 0) : (nodeS ins p).1 = [] := by
  rw [nodeS_f] at h ⊢
  unfold nodR at h ⊢
  split
  · rfl
  · rename_i h1
    rw [if_neg h1] at h
    split
    · rfl
    · rename_i h2
      rw [if_neg h2] at h
      split
      · rfl
      · rename_i h3
        rw [h3] at h
        exact fitK_nil _ h
/-- What Check says of a plan. -/
def checkS (ins : List (List Int)) (p : Pl) : List Int × Int := if 24 < dpP p then ([], 26) else nodeS ins p
theorem rg13w13 {T : List Rid} {p : Path} {Q : Exit → SL → Prop} {tm : List AV} {L : RL} {n : Nat} {c : Code} {l : List Oper} (n' : Nat) (Qs : List Nat) (h : ∀ all, (ro c).toList = all → GoI Tryz.prog T p all false Qs n 0 l tm L fun tm' L' => Q .normal ⟨tm', L', n'⟩) (hk : kd c = 0 := by kernel_rfl) (hr : rd c = false := by kernel_rfl) (hl : (ro c).toList = l := by dsimp only [ro, s1, s2, c1, c2, bc, bod, Tryz.f13, Option.getD_some] <;> exact rfl) (hn : n + (ro c).size = n' := by kernel_rfl) : PI Tryz.prog T p c Q ⟨tm, L, n⟩ := PI.rg n' Qs hk hr hl (fun h => by cases h) hn (h _ rfl)
theorem okCheckP' (ins : List (List Int)) (p : Pl) (hs : SmP p) (hd : dpP p ≤ 100000) : CallsOK Tryz.prog 13 [aP p.f, aKs ins] (.tup [ints (checkS ins p).1, aI (checkS ins p).2]) := by
  have hX : checkS ins p = if 24 < dpP p then ([], 26) else nodeS ins p := rfl
  generalize hRS : checkS ins p = RS
  rw [hRS] at hX
  rw [dpP_f] at hX hd
  have hdp := okDepthP1' _ p (Nat.lt_succ_self _) (by omega) hs
  have hnd := okNode ins _ p (Nat.lt_succ_self _) hs
  generalize nodeS ins p = N at hX hnd
  generalize p.f = f at hX hdp hnd hd
  generalize hD : dpPs f.inputs + 1 = D
  rw [hD] at hdp hX
  have U : Hid True := ⟨trivial⟩
  refine CallsOK.of_pi mixed Tryz.func13 (by kernel_rfl) (by kernel_rfl) (?_ : PI _ _ _ _ _ ⟨[aP f, aKs ins, .und, .und, .und, .und, .und, .und, .und, .und, .und, .und, .und, .und], [], 0⟩)
  refine PI.q ?_
  refine rg13w13 (3) [] fun all1 _ => ?_
  refine GoI.runN 2 nfw13 ?_
  refine GoI.z nfw13 ?_
  refine PI.q ?_
  refine PI.q ?_
  refine rg13w13 (6) [] fun all2 _ => ?_
  refine GoI.run nfw13 ?_
  refine GoI.call nfw13 nfw13 (by exact hdp) ?_
  refine GoI.z nfw13 ?_
  refine PI.d 8 nfw13 (fun hb1 => ?_) (fun hb1 => ?_)
  ·
   try simp only [hb1]
   rw [if_pos (by simp at hb1; omega)] at hX
   refine PI.q ?_
   refine rg13w13 (8) [] fun all3 _ => ?_
   refine GoI.z nfw13 ?_
   refine PI.r ?_
   exact FinI.mk _ nfw13 (by clear U; subst hX; simp [finR, nrmA, nrm, AV.content])
  try simp only [hb1]
  rw [if_neg (by simp at hb1; omega)] at hX
  refine PI.s ?_
  refine PI.q ?_
  refine rg13w13 (13) [] fun all4 _ => ?_
  refine GoI.runN 2 nfw13 ?_
  refine GoI.call nfw13 nfw13 (by exact hnd) ?_
  refine GoI.runN 2 nfw13 ?_
  refine GoI.z nfw13 ?_
  refine PI.r ?_
  exact FinI.mk _ nfw13 (by clear U; subst hX; simp [finR, nrmA, nrm, AV.content])
theorem rg12w13 {T : List Rid} {p : Path} {Q : Exit → SL → Prop} {tm : List AV} {L : RL} {n : Nat} {c : Code} {l : List Oper} (n' : Nat) (Qs : List Nat) (h : ∀ all, (ro c).toList = all → GoI Tryz.prog T p all false Qs n 0 l tm L fun tm' L' => Q .normal ⟨tm', L', n'⟩) (hk : kd c = 0 := by kernel_rfl) (hr : rd c = false := by kernel_rfl) (hl : (ro c).toList = l := by dsimp only [ro, s1, s2, c1, c2, bc, bod, Tryz.f12, Option.getD_some] <;> exact rfl) (hn : n + (ro c).size = n' := by kernel_rfl) : PI Tryz.prog T p c Q ⟨tm, L, n⟩ := PI.rg n' Qs hk hr hl (fun h => by cases h) hn (h _ rfl)
set_option maxHeartbeats 1000000 in
set_option maxRecDepth 100000 in
theorem okCheckP (ins : List (List Int)) (p : Pl) (hs : SmP p) (hin : ∀ k ∈ ins, k.length ≤ maxLen) : CallsOK Tryz.prog 12 [aP p.f, aKs ins] (.tup [ints (checkS ins p).1, aI (checkS ins p).2]) := by
  have hX : checkS ins p = if 24 < dpP p then ([], 26) else nodeS ins p := rfl
  generalize hRS : checkS ins p = RS
  rw [hRS] at hX
  rw [dpP_f] at hX
  have hdp := okDepthP1 _ p 24 (Nat.lt_succ_self _) (by omega) hs
  have hnl := nodeS_len ins p
  have hni := nodeS_nil ins p
  have hnd := fun {rs : Rid → Res} {q : Path} => okClos ins hin (nd := ([7], 0)) (inn := ([1], 0)) (by simp) _ p (rs := rs) (p := q) (Nat.lt_succ_self _) hs
  generalize nodeS ins p = N at hX hnd hnl hni
  generalize p.f = f at hX hdp hnd
  have U : Hid True := ⟨trivial⟩
  replace U := U.cons (And.intro (rowLen (f := fun k : Int => [aI k]) (n := 1) (fun _ => rfl) N.1) ((show N.1.length * 8 ≤ 140737488355328 by omega)))
  refine CallsOK.of_pi mixed Tryz.func12 (by kernel_rfl) (by kernel_rfl) (?_ : PI _ _ _ _ _ ⟨[aP f, aKs ins, .und, .und, .und, .und, .und, .und, .und, .und, .und, .und, .und, .und, .und, .und, .und, .und, .und, .und, .und, .und, .und, .und, .und], [], 0⟩)
  refine PI.q ?_
  refine rg12w13 (4) [] fun all1 _ => ?_
  refine GoI.runN 2 nfw13 ?_
  refine GoI.z nfw13 ?_
  refine PI.q ?_
  refine PI.q ?_
  refine rg12w13 (7) [] fun all2 _ => ?_
  refine GoI.run nfw13 ?_
  refine GoI.call nfw13 nfw13 (by exact hdp) ?_
  refine GoI.z nfw13 ?_
  refine PI.d 11 nfw13 (fun hb1 => ?_) (fun hb1 => ?_)
  ·
   try simp only [hb1]
   rw [if_pos (by simp at hb1; omega)] at hX
   refine PI.q ?_
   refine rg12w13 (9) [] fun all3 _ => ?_
   refine GoI.z nfw13 ?_
   refine PI.r ?_
   exact FinI.mk _ nfw13 (by clear U; subst hX; simp_all [finR, nrmA, nrm, AV.content])
  try simp only [hb1]
  rw [if_neg (by simp at hb1; omega)] at hX
  refine PI.s ?_
  refine PI.q ?_
  refine rg12w13 (8) [] fun all4 _ => ?_
  refine GoI.z nfw13 ?_
  refine PI.q ?_
  refine rg12w13 (10) [] fun all5 _ => ?_
  refine GoI.z nfw13 ?_
  refine PI.q ?_
  refine rg12w13 (18) [2] fun all6 _ => ?_
  refine GoI.runN 2 nfw13 ?_
  refine GoI.call2e nfw13 nfw13 (by exact hnd (nul (by omega)) (nul (by omega)) (by repeat (first | exact lk_hd | refine lk_tl (by simp <;> omega) ?_)) (by repeat (first | exact lk_hd | refine lk_tl (by simp <;> omega) ?_))) (by first | exact .inr rfl | exact .inl rfl) (by exact fun h => by cases h) ?_
  try simp only [List.reverse_cons, List.reverse_nil, List.nil_append, List.cons_append, List.append_assoc]
  refine GoI.runN 2 nfw13 ?_
  refine GoI.runN 2 nfw13 ?_
  refine GoI.z nfw13 ?_
  refine PI.q ?_
  refine PI.q ?_
  refine rg12w13 (20) [] fun all7 _ => ?_
  refine GoI.z nfw13 ?_
  refine PI.d 20 nfw13 (fun hb2 => ?_) (fun hb2 => ?_)
  ·
   try simp only [hb2]
   have h2 : N.2 ≠ 0 := by simpa using hb2
   have h3 := hni h2
   refine PI.q ?_
   refine rg12w13 (23) [] fun all8 _ => ?_
   refine GoI.runN 2 nfw13 ?_
   refine GoI.z nfw13 ?_
   refine PI.r ?_
   exact FinI.mk _ nfw13 (by clear U; subst hX; simp_all [finR, nrmA, nrm, AV.content])
  try simp only [hb2]
  have h2 : N.2 = 0 := by simpa using hb2
  refine PI.s ?_
  refine PI.q ?_
  refine rg12w13 (25) [] fun all9 _ => ?_
  refine GoI.runN 2 nfw13 ?_
  refine GoI.runN 2 nfw13 ?_
  refine GoI.z nfw13 ?_
  refine PI.r ?_
  exact FinI.mk _ nfw13 (by clear U; subst hX; simp_all [finR, nrmA, nrm, AV.content])
end Go.FE
namespace Go.FE
open Go.Proofs
theorem nfw14 {α : Type} {a b : α} (h : a = b := by simp only [goP, goN, mrk, Nat.reduceMul, Nat.one_mul, Nat.mul_one, eq_self, false_implies, implies_true, Nat.reduceLT, List.getElem?_toArray, isCall, List.contains_nil, List.contains_cons, Nat.reduceBEq, Bool.or_false, Bool.or_self, List.length_map, gOf, step, stepM, stepP, ev, okV, if_true, if_false, allocA, storeA, boxA, one1, tokN, tok1, buildA, rowA, nrmP, partV, partA, fieldA, fieldV, elemA, lenA, bltA, asSl, appA, makeA, makeR, cutA, bndA, binV, intOp, strOp, unV, eqB, nilB, sameT, List.all_cons, List.all_nil, Bool.and_self, Bool.and_true, Bool.true_and, List.map_cons, List.map_nil, List.nil_append, List.cons_append, List.append_nil, AV.bare, AV.content, AV.clean, AV.one, putD, List.set_cons_zero, List.set_cons_succ, List.reverse_cons, List.reverse_nil, List.getD_cons_zero, List.getD_cons_succ, List.getElem?_cons_zero, List.getElem?_cons_succ, Option.getD_some, Option.map_some, Option.map_none, Option.bind_some, List.length_cons, List.length_nil, lk, cellsA, fillA, fillS, isAggD, spl, nrm, nrmA, List.take_succ_cons, List.take_zero, List.drop_succ_cons, List.drop_zero, List.drop_nil, List.take_nil, Nat.reduceAdd, Nat.zero_add, Nat.add_zero, Nat.add_assoc, Nat.add_left_cancel_iff, reduceCtorEq, Prod.mk.injEq, List.cons.injEq, and_self, and_true, true_and, Nat.le_refl, Nat.reduceLeDiff, Nat.reduceEqDiff, List.getElem?_nil, Int.reduceToNat, Int.reduceLE, Int.reduceLT, ite_self, List.forall_mem_cons, List.not_mem_nil, false_and, and_false, Bool.false_eq_true, List.replicate_zero, List.replicate_succ, Int.toNat_natCast, neJ2, neJ2', neJ3, neJ3', callOf, callOf2, fnOf, argsA, args2, Array.isEmpty_empty, resLL, resVL, beq_self_eq_true, st3, zt3, it3, ct3, se3, Tryz.underlying3, st4, zt4, it4, ct4, se4, Tryz.underlying4, st9, zt9, it9, ct9, se9, Tryz.underlying9, st25, zt25, it25, ct25, pt25, eqs25, se25, Tryz.underlying25, st26, zt26, it26, ct26, se26, Tryz.underlying26, st28, zt28, it28, ct28, pt28, se28, Tryz.underlying28, Tryz.results42, U.out] <;> rfl) : a = b := h
mutual
def wtE : Ex → Nat → Nat
  | .mk _ _ _ _ args, most => wtEs args most 1
def wtEs : List Ex → Nat → Nat → Nat
  | [], _, n => n
  | e :: l, most, n => if n < most then wtEs l most (n + wtE e (most - n)) else n
end
theorem wtE_mk (op int : Int) (v : Vl) (name : ByteArray) (args : List Ex) (most : Nat) : wtE (.mk op int v name args) most = wtEs args most 1 := by rw [wtE]
mutual
theorem wtE_le : ∀ (e : Ex) (most : Nat), 1 ≤ most → wtE e most ≤ most
  | .mk op int v name args, most, h => by rw [wtE_mk]; exact wtEs_le args most 1 h
theorem wtEs_le : ∀ (l : List Ex) (most n : Nat), n ≤ most → wtEs l most n ≤ most
  | [], most, n, h => by rw [wtEs]; exact h
  | e :: l, most, n, h => by
    rw [wtEs]
    split
    · rename_i hlt
      have := wtE_le e (most - n) (by omega)
      exact wtEs_le l most _ (by omega)
    · exact h
end
mutual
theorem wtE_pos : ∀ (e : Ex) (most : Nat), 1 ≤ wtE e most
  | .mk op int v name args, most => by rw [wtE_mk]; exact wtEs_mono args most 1
theorem wtEs_mono : ∀ (l : List Ex) (most n : Nat), n ≤ wtEs l most n
  | [], most, n => by rw [wtEs]; exact Nat.le_refl _
  | e :: l, most, n => by
    rw [wtEs]
    split
    · have h1 := wtE_pos e (most - n)
      have h2 := wtEs_mono l most (n + wtE e (most - n))
      omega
    · exact Nat.le_refl _
end
theorem wtEs_at {l : List Ex} {i : Nat} (most n : Nat) (h : i < l.length) : wtEs (l.drop i) most n = if n < most then wtEs (l.drop (i + 1)) most (n + wtE l[i] (most - n)) else n := by
  rw [List.drop_eq_getElem_cons h, wtEs]
structure WX where
  i : Nat
  n : Nat
theorem rg42w14 {T : List Rid} {p : Path} {Q : Exit → SL → Prop} {tm : List AV} {L : RL} {n : Nat} {c : Code} {l : List Oper} (n' : Nat) (Qs : List Nat) (h : ∀ all, (ro c).toList = all → GoI Tryz.prog T p all false Qs n 0 l tm L fun tm' L' => Q .normal ⟨tm', L', n'⟩) (hk : kd c = 0 := by kernel_rfl) (hr : rd c = false := by kernel_rfl) (hl : (ro c).toList = l := by dsimp only [ro, s1, s2, c1, c2, bc, bod, Tryz.f42, Option.getD_some] <;> exact rfl) (hn : n + (ro c).size = n' := by kernel_rfl) : PI Tryz.prog T p c Q ⟨tm, L, n⟩ := PI.rg n' Qs hk hr hl (fun h => by cases h) hn (h _ rfl)
set_option maxHeartbeats 1000000 in
set_option maxRecDepth 100000 in
theorem okWeight : ∀ (n : Nat) (op int : Int) (v : Vl) (name : ByteArray) (args : List Ex) (most : Nat), dpEs args < n → SmE maxLen (.mk op int v name args) → most ≤ 100000 → 1 ≤ most → CallsOK Tryz.prog 42 [aEx op int v name args, aI most] (aI (wtEs args most 1 : Nat)) := by
  intro n
  induction n with
  | zero => intro op int v name args most h; omega
  | succ n ih =>
  intro op int v name args most hd hs hm hm1
  have hl' := hs.len
  generalize hRS : wtEs args most 1 = RS
  have U : Hid True := ⟨trivial⟩
  refine CallsOK.of_pi mixed Tryz.func42 (by kernel_rfl) (by kernel_rfl) (?_ : PI _ _ _ _ _ ⟨[aEx op int v name args, aI most, .und, .und, .und, .und, .und, .und, .und, .und, .und, .und, .und, .und, .und, .und, .und, .und, .und, .und, .und, .und, .und, .und, .und, .und, .und, .und, .und, .und, .und], [], 0⟩)
  refine PI.q ?_
  refine rg42w14 (2) [] fun all1 _ => ?_
  refine GoI.z nfw14 ?_
  refine PI.q ?_
  refine rg42w14 (3) [] fun all2 _ => ?_
  refine GoI.z nfw14 ?_
  refine PI.q ?_
  refine PI.q ?_
  refine rg42w14 (4) [] fun all3 _ => ?_
  refine GoI.z nfw14 ?_
  refine PI.b 0 ?_
  refine PI.lo (by kernel_rfl) (X := WX) (fun x => (6, aI x.i) :: (5, aI x.n) :: uk [7, 8, 9, 10, 11, 12, 13, 14, 15, 16, 17, 18, 19, 20, 21, 22, 23, 24, 25, 26, 27, 28, 29]) (fun x => [(([0], 0), .var 28 [aI op, aI int, aI v.k, aI v.i, aS v.s, aS name, .sl (args.map encE) none])]) (fun k x => k = args.length - x.i ∧ x.i ≤ args.length ∧ x.n ≤ most ∧ wtEs (args.drop x.i) most x.n = RS) (args.length) (⟨0, 1⟩) (GhI.of_wk ⟨by simp [ovr, uk, lessT, neJ2, neJ2', neJ3, neJ3'], by simp [lessR, lk, neJ2, neJ2', neJ3, neJ3'], by (try dsimp only); omega, keep0⟩) (⟨rfl, Nat.zero_le _, hm1, hRS⟩) ?_
  intro k1 x1 j1 hr1
  obtain ⟨rfl, hi1, hn1, hu⟩ := hr1
  simp only [ovr, uk, List.set_cons_zero, List.set_cons_succ]
  refine PI.q ?_
  refine PI.q ?_
  refine rg42w14 (j1 + 14) [] fun all4 hall4 => ?_
  have hgd4_5 : (all4[5]?).bind (fun o => o.dst) = some 12 := by rw [← hall4]; kernel_rfl
  replace U := U.cons (hgd4_5)
  refine GoI.runN 2 nfw14 ?_
  refine GoI.runN 2 nfw14 ?_
  refine GoI.runN 2 nfw14 ?_
  refine GoI.grd 12 nfw14 (fun hg1 => ?_) (fun hg1 => ?_)
  ·
   try simp only [hg1]
   obtain ⟨hlt, hw⟩ := up hg1 hl'
   have hx := exs_at hlt
   have ha := wtEs_at most x1.n hlt
   rw [hu] at ha
   have hs1 := hs.arg _ (List.getElem_mem hlt)
   have hdm := dpEs_mem (List.getElem_mem hlt)
   generalize he : args[x1.i] = e1 at hx hs1 hdm ha
   obtain ⟨op1, int1, v1, name1, args1⟩ := e1
   rw [encE_mk] at hx
   rw [dpE_mk] at hdm
   rw [wtE_mk] at ha
   replace U := U.cons (And.intro (hw) (hx))
   refine GoI.runN 2 nfw14 ?_
   refine GoI.z nfw14 ?_
   refine PI.d 16 nfw14 (fun hb1 => ?_) (fun hb1 => ?_)
   ·
    try simp only [hb1]
    have hnl : x1.n < most := by simp at hb1; omega
    rw [if_pos hnl] at ha
    have hle := wtEs_le args1 (most - x1.n) 1 (by omega)
    have hw2 : IntKind.i64.wrap ((most : Int) - (x1.n : Int)) = ((most - x1.n : Nat) : Int) := by rw [w64 (by omega) (by omega)]; omega
    generalize hW : wtEs args1 (most - x1.n) 1 = W at ha hle
    have hw3 : IntKind.i64.wrap ((x1.n : Int) + (W : Int)) = ((x1.n + W : Nat) : Int) := by rw [w64 (by omega) (by omega)]; omega
    replace U := U.cons (And.intro (hw2) (And.intro (hw3) (hW)))
    refine PI.s ?_
    refine PI.q ?_
    refine PI.b 1 ?_
    refine rg42w14 (j1 + 26) [] fun all5 _ => ?_
    refine GoI.runN 2 nfw14 ?_
    refine GoI.runN 2 nfw14 ?_
    refine GoI.runN 2 nfw14 ?_
    refine GoI.runN 2 nfw14 ?_
    refine GoI.run nfw14 ?_
    refine GoI.call nfw14 nfw14 (by exact ih _ _ _ _ _ (most - x1.n) (by omega) hs1 (by omega) (by omega)) ?_
    refine GoI.z nfw14 ?_
    refine rg42w14 (j1 + 29) [] fun all6 _ => ?_
    refine GoI.runN 2 nfw14 ?_
    refine GoI.z nfw14 ?_
    refine ⟨args.length - (x1.i + 1), ⟨x1.i + 1, x1.n + W⟩, j1 + 25, by omega, ⟨rfl, by dsimp only; omega, by dsimp only; omega, ha.symm⟩, GhI.of_wk ⟨by simp [ovr, uk, lessT, neJ2, neJ2', neJ3, neJ3'], by simp [lessR, lk, neJ2, neJ2', neJ3, neJ3'], by (try dsimp only); omega, keep0⟩⟩
   try simp only [hb1]
   have hnl : ¬ x1.n < most := by simp at hb1; omega
   rw [if_neg hnl] at ha
   refine PI.e 0 ?_
   refine PI.q ?_
   refine rg42w14 (j1 + 16) [] fun all7 _ => ?_
   refine GoI.z nfw14 ?_
   refine PI.r ?_
   exact FinI.mk _ nfw14 (by clear U; subst RS; simp_all [finR, nrmA, nrm, AV.content])
  try simp only [hg1]
  have hge := dn hg1
  rw [List.drop_of_length_le hge, wtEs] at hu
  refine GoI.runN 2 nfw14 ?_
  refine GoI.z nfw14 ?_
  refine PI.f 16 nfw14 ?_
  refine PI.e 0 ?_
  refine PI.q ?_
  refine rg42w14 (j1 + 16) [] fun all7 _ => ?_
  refine GoI.z nfw14 ?_
  refine PI.r ?_
  exact FinI.mk _ nfw14 (by clear U; subst RS; simp_all [finR, nrmA, nrm, AV.content])
end Go.FE
namespace Go.FE
open Go.Proofs
abbrev nB (n : Int) : Vl := ⟨1, n, .empty⟩
abbrev tX : Vl := ⟨2, 0, ⟨#[120]⟩⟩
abbrev tY : Vl := ⟨2, 0, ⟨#[121]⟩⟩
abbrev smpR : List Row := [[nB 1, tX], [nB 2, tY], [nB 2, tY], [nullV, tX]]
abbrev smpB : Bag := ⟨[1, 2], smpR⟩
theorem sd_dec {l : List Row} (h : (l.zip (l.drop 1)).all (fun p => decide (cmpR p.1 p.2 < 0)) = true) : Ss l := by
  induction l with
  | nil => exact List.Pairwise.nil
  | cons x l ih =>
    cases l with
    | nil => exact List.pairwise_singleton _ _
    | cons y l =>
      simp only [List.drop_succ_cons, List.drop_zero, List.zip_cons_cons, List.all_cons, Bool.and_eq_true, decide_eq_true_eq] at h ih
      have hs := ih h.2
      refine List.pairwise_cons.2 ⟨fun z hz => ?_, hs⟩
      rcases List.mem_cons.1 hz with rfl | hz
      · exact h.1
      · exact preR.tr1 h.1 (Int.le_of_lt ((List.pairwise_cons.1 hs).1 z hz))
theorem ddk : dd (smpR.map fun r => pickR r [1]) = [[tX], [tY]] := by
  refine ss_unique (dd_ss _) (sd_dec (by decide +kernel)) fun r => ?_
  rw [dd_mem]
  show r ∈ [[tX], [tY], [tY], [tX]] ↔ _
  simp
  constructor
  · rintro (h | h | h) <;> simp [h]
  · rintro (h | h) <;> simp [h]
theorem ddr : dd smpR = [[nullV, tX], [nB 1, tX], [nB 2, tY]] := by
  refine ss_unique (dd_ss _) (sd_dec (by decide +kernel)) fun r => ?_
  rw [dd_mem]
  show r ∈ [[nB 1, tX], [nB 2, tY], [nB 2, tY], [nullV, tX]] ↔ _
  simp
  constructor
  · rintro (h | h | h) <;> simp [h]
  · rintro (h | h | h) <;> simp [h]
theorem ex1 : eqRs (srt (grpOut [1] [⟨1, -1⟩, ⟨1, 0⟩, ⟨2, 0⟩] smpR)) [[tX, nB 2, nB 1, nB 1], [tY, nB 2, nB 2, nB 4]] = true := by
  rw [srt_congr (grp_law _ _ _)]
  unfold grpD keysD
  rw [if_neg (by simp), ddk, ← srt_of (a := [[tX, nB 2, nB 1, nB 1], [tY, nB 2, nB 2, nB 4]]) (ss_sd (sd_dec (by decide +kernel))) (by
    rw [show ([[tX], [tY]] : List Row).map (fun k => k ++ [(⟨1, -1⟩ : Ag), ⟨1, 0⟩, ⟨2, 0⟩].map (aggV (selR [1] k smpR))) = [[tX, nB 2, nB 1, nB 1], [tY, nB 2, nB 2, nB 4]] from eqRs_iff.1 (by decide +kernel)])]
  exact eqRs_iff.2 rfl
theorem ex2 : eqRs (srt (splR smpR [[nB 2, tY]]).y) [[nullV, tX], [nB 1, tX], [nB 2, tY]] = true := by
  rw [ex_law]
  unfold exS
  rw [ddr]
  decide +kernel
theorem ex3 : eqRs (srt (grpOut [] [⟨1, -1⟩, ⟨2, 0⟩] [])) [[nB 0, nullV]] = true := by
  rw [srt_congr (grp_law _ _ _), ← srt_of (a := grpD [] [⟨1, -1⟩, ⟨2, 0⟩] []) (List.pairwise_singleton _ _) (.refl _)]
  decide +kernel
def exP : Pl := .mk 7 0 [] [] (.mk 0 0 nullV .empty []) [] [] [] [.mk 1 0 [] [] (.mk 0 0 nullV .empty []) [] [] [] [], .mk 1 1 [] [] (.mk 0 0 nullV .empty []) [] [] [] []]
theorem ex4 : checkS [[1, 2], [1]] exP = ([], 13) := by decide +kernel
end Go.FE
