/- The document's groups. The numbers of rows of the groups add up. Grouping and aggregates are as defined; the numbers of rows of the groups add up. -/
import Derived.Test.YtmblejfjbnoodaaGreatDoorK09
import Derived.Test.YtmblejfjbnoodaaGreatDoorK24
import Derived.Test.YtmblejfjbnoodaaGreatDoorK29
set_option linter.unusedVariables false
set_option linter.unusedSimpArgs false
namespace Go.FE
open Go.Proofs
theorem nfw19 {α : Type} {a b : α} (h : a = b := by simp only [goP, goN, mrk, Nat.reduceMul, Nat.one_mul, Nat.mul_one, eq_self, false_implies, implies_true, Nat.reduceLT, List.getElem?_toArray, isCall, List.contains_nil, List.contains_cons, Nat.reduceBEq, Bool.or_false, Bool.or_self, List.length_map, gOf, step, stepM, stepP, ev, okV, if_true, if_false, allocA, storeA, boxA, one1, tokN, tok1, buildA, rowA, nrmP, partV, partA, fieldA, fieldV, elemA, lenA, bltA, asSl, appA, makeA, makeR, cutA, bndA, binV, intOp, strOp, unV, eqB, nilB, sameT, List.all_cons, List.all_nil, Bool.and_self, Bool.and_true, Bool.true_and, List.map_cons, List.map_nil, List.nil_append, List.cons_append, List.append_nil, AV.bare, AV.content, AV.clean, AV.one, putD, List.set_cons_zero, List.set_cons_succ, List.reverse_cons, List.reverse_nil, List.getD_cons_zero, List.getD_cons_succ, List.getElem?_cons_zero, List.getElem?_cons_succ, Option.getD_some, Option.map_some, Option.map_none, Option.bind_some, List.length_cons, List.length_nil, lk, cellsA, fillA, fillS, isAggD, spl, nrm, nrmA, List.take_succ_cons, List.take_zero, List.drop_succ_cons, List.drop_zero, List.drop_nil, List.take_nil, Nat.reduceAdd, Nat.zero_add, Nat.add_zero, Nat.add_assoc, Nat.add_left_cancel_iff, reduceCtorEq, Prod.mk.injEq, List.cons.injEq, and_self, and_true, true_and, Nat.le_refl, Nat.reduceLeDiff, Nat.reduceEqDiff, List.getElem?_nil, Int.reduceToNat, Int.reduceLE, Int.reduceLT, ite_self, List.forall_mem_cons, List.not_mem_nil, false_and, and_false, Bool.false_eq_true, List.replicate_zero, List.replicate_succ, Int.toNat_natCast, neJ2, neJ2', neJ3, neJ3', callOf, callOf2, fnOf, argsA, args2, Array.isEmpty_empty, resLL, resVL, beq_self_eq_true, st3, zt3, it3, ct3, se3, Tryz.underlying3, st4, zt4, it4, ct4, se4, Tryz.underlying4, st9, zt9, it9, ct9, se9, Tryz.underlying9, st23, zt23, it23, ct23, se23, Tryz.underlying23, st25, zt25, it25, ct25, pt25, eqs25, se25, Tryz.underlying25, st29, zt29, it29, ct29, se29, Tryz.underlying29, st48, zt48, it48, ct48, pt48, eqs48, se48, Tryz.underlying48, st49, zt49, it49, ct49, se49, Tryz.underlying49, Tryz.results60, neJ4, neJ4', neJ5, neJ5', neK, neK', neK2, neK2', neL, neL', neL2, neL2', st22, zt22, it22, ct22, se22, Tryz.underlying22, st36, zt36, it36, ct36, se36, Tryz.underlying36, st37, Tryz.underlying37, st42, zt42, it42, ct42, pt42, se42, Tryz.underlying42, st81, zt81, it81, ct81, se81, Tryz.underlying81, st83, zt83, it83, ct83, pt83, se83, Tryz.underlying83, Tryz.results19, Int.natCast_nonneg, neM, neM', U.out] <;> rfl) : a = b := h
theorem rg60w19 {T : List Rid} {p : Path} {Q : Exit → SL → Prop} {tm : List AV} {L : RL} {n : Nat} {c : Code} {l : List Oper} (n' : Nat) (Qs : List Nat) (h : ∀ all, (ro c).toList = all → GoI Tryz.prog T p all false Qs n 0 l tm L fun tm' L' => Q .normal ⟨tm', L', n'⟩) (hk : kd c = 0 := by kernel_rfl) (hr : rd c = false := by kernel_rfl) (hl : (ro c).toList = l := by dsimp only [ro, s1, s2, c1, c2, bc, bod, Tryz.f60, Option.getD_some] <;> exact rfl) (hn : n + (ro c).size = n' := by kernel_rfl) : PI Tryz.prog T p c Q ⟨tm, L, n⟩ := PI.rg n' Qs hk hr hl (fun h => by cases h) hn (h _ rfl)
set_option maxHeartbeats 2000000 in
set_option maxRecDepth 100000 in
theorem okOne (key : Row) (rows : List Row) (aggs : List Ag) (hk : key.length ≤ 100000) (hg : aggs.length ≤ 100000) (hl : rows.length ≤ 100000) (hr : ∀ a ∈ aggs, 0 ≤ a.arg → ∀ r ∈ rows, a.arg.toNat < r.length) (hv : ∀ r ∈ rows, ∀ v ∈ r, inV v) : CallsOK Tryz.prog 60 [aRow key, aRows rows, aAggs aggs] (aRow (oneR key rows aggs)) := by
  have hgm : aggs.length ≤ maxLen := by unfold maxLen; omega
  have hap0 : key.length * 32 ≤ 140737488355328 := by omega
  have U : Hid True := ⟨trivial⟩
  replace U := U.cons (And.intro (hap0) (rowLen (f := encV) (n := 3) (fun _ => rfl) key))
  refine CallsOK.of_pi mixed Tryz.func60 (by kernel_rfl) (by kernel_rfl) (?_ : PI _ _ _ _ _ ⟨[aRow key, aRows rows, aAggs aggs, .und, .und, .und, .und, .und, .und, .und, .und, .und, .und, .und, .und, .und, .und, .und, .und, .und, .und, .und, .und, .und, .und, .und, .und, .und], [], 0⟩)
  refine PI.q ?_
  refine rg60w19 (1) [] fun all1 _ => ?_
  refine GoI.z nfw19 ?_
  refine PI.q ?_
  refine rg60w19 (5) [] fun all2 _ => ?_
  refine GoI.runN 2 nfw19 ?_
  refine GoI.z nfw19 ?_
  refine PI.q ?_
  refine PI.q ?_
  refine rg60w19 (6) [] fun all3 _ => ?_
  refine GoI.z nfw19 ?_
  refine PI.b 0 ?_
  refine PI.lo (by kernel_rfl) (X := Nat) (fun i => (8, aI i) :: (7, .sl ((key ++ (aggs.take i).map (aggV rows)).map encV) (some (([1], 0), 1 + i))) :: uk [12, 13, 14, 15, 16, 17, 18, 19, 20, 21, 22, 23, 24, 25, 26]) (fun i => [(([1], 0), .tok (1 + i) 25 3)]) (fun k i => k = aggs.length - i ∧ i ≤ aggs.length) (aggs.length) (0) (GhI.of_wk ⟨by simp [ovr, uk, lessT, neJ2, neJ2', neJ3, neJ3'], by simp [lessR, lk, neJ2, neJ2', neJ3, neJ3'], by (try dsimp only); omega, keep0⟩) (by simp) ?_
  intro k1 x1 j1 hr1
  obtain ⟨rfl, hi1⟩ := hr1
  simp only [ovr, uk, List.set_cons_zero, List.set_cons_succ]
  refine PI.q ?_
  refine PI.q ?_
  refine rg60w19 (j1 + 10) [] fun all4 _ => ?_
  refine GoI.runN 2 nfw19 ?_
  refine GoI.z nfw19 ?_
  refine PI.d 15 nfw19 (fun hb1 => ?_) (fun hb1 => ?_)
  ·
   try simp only [hb1]
   obtain ⟨hlt, hw⟩ := up hb1 hgm
   have hx := aggs_at hlt
   have hts : (aggs.take (x1 + 1)).map (aggV rows) = (aggs.take x1).map (aggV rows) ++ [aggV rows aggs[x1]] := map_take_succ' hlt
   have hap := ap3 (g := rows) (x3 := x1) hk hg
   replace U := U.cons (And.intro (hw) (And.intro (hx) (hap)))
   refine PI.s ?_
   refine PI.q ?_
   refine PI.b 1 ?_
   refine rg60w19 (j1 + 20) [] fun all5 _ => ?_
   refine GoI.runN 2 nfw19 ?_
   refine GoI.runN 2 nfw19 ?_
   refine GoI.runN 2 nfw19 ?_
   refine GoI.call nfw19 nfw19 (by exact okAggregate' rows _ hl (hr _ (List.getElem_mem hlt)) hv) ?_
   refine GoI.runN 2 nfw19 ?_
   refine GoI.z nfw19 ?_
   refine rg60w19 (j1 + 23) [] fun all6 _ => ?_
   refine GoI.runN 2 nfw19 ?_
   refine GoI.z nfw19 ?_
   refine ⟨aggs.length - (x1 + 1), x1 + 1, j1 + 17, by omega, ⟨rfl, by omega⟩, GhI.of_wk ⟨by simp [ovr, uk, lessT, hts, Nat.add_assoc], by simp [lessR, lk, Nat.add_assoc], by (try dsimp only); omega, keep0⟩⟩
  try simp only [hb1]
  have hge := dn hb1
  rw [List.take_of_length_le hge]
  refine PI.e 0 ?_
  refine PI.q ?_
  refine rg60w19 (j1 + 12) [] fun all7 _ => ?_
  refine GoI.z nfw19 ?_
  refine PI.r ?_
  exact FinI.mk _ nfw19 (by clear U; simp [finR, nrmA, nrm, AV.content, oneR])
structure GSX where
  i : Nat
  o : List Row
  ks : List Row
theorem grpW0_len (keys : List Int) (aggs : List Ag) (rows : List Row) : (grpW0 keys aggs rows).length ≤ 1 := by unfold grpW0; split <;> simp
theorem dt_succ {all : List Kd} {i m : Nat} (h : i + m < all.length) : ((all.drop i).take (m + 1)).map (·.2) = ((all.drop i).take m).map (·.2) ++ [all[i + m].2] := by
  rw [List.take_succ_eq_append_getElem (show m < (all.drop i).length by simp; omega), List.map_append]
  simp
theorem out_len {keys : List Int} {aggs : List Ag} {rows : List Row} {all : List Kd} {i : Nat} {ks : List Row} (h : SegI all i ks) (hm : ∀ x ∈ all, x.1.length = keys.length) : ∀ r ∈ grpW0 keys aggs rows ++ ks.map (segF keys aggs rows), r.length ≤ keys.length + aggs.length := fun r hr => by
  rcases List.mem_append.1 hr with hr | hr
  · unfold grpW0 at hr
    split at hr
    · rw [List.mem_singleton.1 hr]; simp [oneR]
    · cases hr
  · obtain ⟨k, hk, rfl⟩ := List.mem_map.1 hr
    obtain ⟨x, hx, e⟩ := (h.me k).1 hk
    have := hm x (List.mem_of_mem_take hx)
    rw [e] at this
    simp [segF, oneR, this]
theorem rg19w19 {T : List Rid} {p : Path} {Q : Exit → SL → Prop} {tm : List AV} {L : RL} {n : Nat} {c : Code} {l : List Oper} (n' : Nat) (Qs : List Nat) (h : ∀ all, (ro c).toList = all → GoI Tryz.prog T p all false Qs n 0 l tm L fun tm' L' => Q .normal ⟨tm', L', n'⟩) (hk : kd c = 0 := by kernel_rfl) (hr : rd c = false := by kernel_rfl) (hl : (ro c).toList = l := by dsimp only [ro, s1, s2, c1, c2, bc, bod, Tryz.f19, Option.getD_some] <;> exact rfl) (hn : n + (ro c).size = n' := by kernel_rfl) : PI Tryz.prog T p c Q ⟨tm, L, n⟩ := PI.rg n' Qs hk hr hl (fun h => by cases h) hn (h _ rfl)
theorem rd19w19 {T : List Rid} {p : Path} {Q : Exit → SL → Prop} {tm : List AV} {L : RL} {n : Nat} {c : Code} {l : List Oper} (n' : Nat) (Qs : List Nat) (h : ∀ all, (ro c).toList = all → GoI Tryz.prog T p all true Qs n 0 l tm L fun tm' L' => Q .normal ⟨tm', L', n'⟩) (hk : kd c = 0 := by kernel_rfl) (hr : rd c = true := by kernel_rfl) (hl : (ro c).toList = l := by dsimp only [ro, s1, s2, c1, c2, bc, bod, Tryz.f19, Option.getD_some] <;> exact rfl) (hn : n + (ro c).size = n' := by kernel_rfl) (hd : drawOK (ro c) Qs = true := by kernel_rfl) : PI Tryz.prog T p c Q ⟨tm, L, n⟩ := PI.rg n' Qs hk hr hl (fun _ => hd) hn (h _ rfl)
set_option maxHeartbeats 8000000 in
set_option maxRecDepth 100000 in
theorem okGroup' (a : Bag) (keys : List Int) (aggs : List Ag) (hla : a.rows.length ≤ 90000) (hlk : keys.length ≤ 100000) (hlg : aggs.length ≤ 100000) (hag : ∀ g ∈ aggs, 0 ≤ g.arg → ∀ r ∈ a.rows, g.arg.toNat < r.length) (hiv : ∀ r ∈ a.rows, ∀ v ∈ r, inV v) : CallsOK Tryz.prog 19 [aBag a, ints keys, aAggs aggs] (aBag ⟨(grpK keys aggs a.kinds).1, srt (grpD keys aggs a.rows)⟩) := by
  have hl' : a.rows.length ≤ maxLen := by unfold maxLen; omega
  have hG := okGrouped' keys aggs a.kinds hlk hlg
  have hO := okOrdered _ (a.rows.map (kdOf keys)) (Nat.le_refl _) (by rw [List.length_map]; omega)
  have hal : (ordS (a.rows.map (kdOf keys))).length = a.rows.length := by rw [ordS_len, List.length_map]
  have hsd := ordS_sd (a.rows.map (kdOf keys))
  have hsf := fun {ks : List Row} => seg_fin (keys := keys) (aggs := aggs) (rows := a.rows) (ks := ks)
  have hmm : ∀ x ∈ ordS (a.rows.map (kdOf keys)), x.2 ∈ a.rows ∧ x.1.length = keys.length := fun x hx => by
    obtain ⟨r, hr, e⟩ := List.mem_map.1 (ordS_mem.1 hx)
    rw [← e]; exact ⟨hr, by simp [kdOf, pickR]⟩
  have hsel : ∀ k, selR keys k a.rows = (fk k (ordS (a.rows.map (kdOf keys)))).map (·.2) := fun k => by rw [ordS_fk, fk_sel]
  generalize ordS (a.rows.map (kdOf keys)) = all at hO hal hsd hsf hmm hsel
  have hWl := grpW0_len keys aggs a.rows
  have hW0 : grpW0 keys aggs a.rows = if a.rows = [] ∧ keys = [] then [oneR [] [] aggs] else [] := rfl
  have hol := fun {i : Nat} {ks : List Row} => out_len (keys := keys) (aggs := aggs) (rows := a.rows) (all := all) (i := i) (ks := ks)
  generalize grpW0 keys aggs a.rows = W0 at hWl hW0 hsf hol
  generalize grpK keys aggs a.kinds = KK at hG
  obtain ⟨K, KE⟩ := KK
  dsimp only at hG ⊢
  have U : Hid True := ⟨trivial⟩
  refine CallsOK.of_pi mixed Tryz.func19 (by kernel_rfl) (by kernel_rfl) (?_ : PI _ _ _ _ _ ⟨[aBag a, ints keys, aAggs aggs, .und, .und, .und, .und, .und, .und, .und, .und, .und, .und, .und, .und, .und, .und, .und, .und, .und, .und, .und, .und, .und, .und, .und, .und, .und, .und, .und, .und, .und, .und, .und, .und, .und, .und, .und, .und, .und, .und, .und, .und, .und, .und, .und, .und, .und, .und, .und, .und, .und, .und, .und, .und, .und, .und, .und, .und, .und, .und, .und, .und, .und, .und, .und, .und, .und, .und, .und, .und, .und, .und, .und, .und, .und, .und, .und, .und, .und, .und, .und, .und, .und, .und, .und, .und, .und, .und, .und, .und, .und, .und, .und, .und, .und, .und, .und, .und, .und, .und, .und, .und, .und, .und, .und, .und, .und, .und, .und, .und, .und, .und, .und, .und, .und], [], 0⟩)
  refine PI.q ?_
  refine rg19w19 (2) [] fun all1 _ => ?_
  refine GoI.z nfw19 ?_
  refine PI.q ?_
  refine rg19w19 (12) [] fun all2 _ => ?_
  refine GoI.runN 2 nfw19 ?_
  refine GoI.runN 2 nfw19 ?_
  refine GoI.call nfw19 nfw19 (by exact hG) ?_
  refine GoI.runN 2 nfw19 ?_
  refine GoI.runN 2 nfw19 ?_
  refine GoI.z nfw19 ?_
  refine PI.q ?_
  refine rg19w19 (16) [] fun all3 _ => ?_
  refine GoI.runN 2 nfw19 ?_
  refine GoI.z nfw19 ?_
  refine PI.q ?_
  refine rg19w19 (17) [] fun all4 _ => ?_
  refine GoI.z nfw19 ?_
  refine PI.q ?_
  refine PI.q ?_
  refine rg19w19 (18) [] fun all5 _ => ?_
  refine GoI.z nfw19 ?_
  refine PI.b 0 ?_
  refine PI.lo (by kernel_rfl) (X := Nat) (fun i => (11, aI i) :: (10, .sl (((a.rows.take i).map (kdOf keys)).map encK) (some (([16], 0), i))) :: uk [25, 26, 27, 28, 29, 30, 31, 32, 33, 34, 35, 36, 37, 38, 39, 40, 41, 42, 43, 44, 45, 46, 47]) (fun i => [(([0], 0), .var 42 (encB a)), (([1], 0), .var 42 [.sl [] (some (([1], 1), 0)), .sl [] (some (([1], 2), 0))]), (([14], 0), .var 42 [ints K, .sl [] (some (([15], 1), 0))]), (([15], 1), .tok 0 49 1), (([16], 0), .tok i 83 2)]) (fun k i => k = a.rows.length - i ∧ i ≤ a.rows.length) (a.rows.length) (0) (GhI.of_wk ⟨by simp [ovr, uk, lessT, neJ2, neJ2', neJ3, neJ3', neJ4, neJ4', neJ5, neJ5', neK, neK', neK2, neK2', neL, neL', neL2, neL2'], by simp [lessR, lk, neJ2, neJ2', neJ3, neJ3', neJ4, neJ4', neJ5, neJ5', neK, neK', neK2, neK2', neL, neL', neL2, neL2'], by (try dsimp only); omega, keep0⟩) (by simp) ?_
  intro k1 x1 j1 hr1
  obtain ⟨rfl, hi1⟩ := hr1
  simp only [ovr, uk, List.set_cons_zero, List.set_cons_succ]
  refine PI.q ?_
  refine PI.q ?_
  refine rg19w19 (j1 + 23) [] fun all6 _ => ?_
  refine GoI.runN 2 nfw19 ?_
  refine GoI.runN 2 nfw19 ?_
  refine GoI.z nfw19 ?_
  refine PI.d 29 nfw19 (fun hb1 => ?_) (fun hb1 => ?_)
  ·
   try simp only [hb1]
   obtain ⟨hlt, hw⟩ := up hb1 hl'
   have hx := rows_at hlt
   have hts : (a.rows.take (x1 + 1)).map (kdOf keys) = (a.rows.take x1).map (kdOf keys) ++ [kdOf keys a.rows[x1]] := map_take_succ' hlt
   have hap : ((a.rows.take x1).length + 1) * 48 ≤ 140737488355328 := by rw [List.length_take]; omega
   have hkd : encK (kdOf keys a.rows[x1]) = [aRow (pickR a.rows[x1] keys), aRow a.rows[x1]] := rfl
   replace U := U.cons (And.intro (hw) (And.intro (hx) (hap)))
   refine PI.s ?_
   refine PI.q ?_
   refine PI.b 1 ?_
   refine rd19w19 (j1 + 40) [] fun all7 _ => ?_
   refine GoI.runN 2 nfw19 ?_
   refine GoI.runN 2 nfw19 ?_
   refine GoI.runN 2 nfw19 ?_
   refine GoI.run nfw19 ?_
   refine GoI.call nfw19 nfw19 (by exact okPick' _ _ (by omega)) ?_
   refine GoI.runN 2 nfw19 ?_
   refine GoI.runN 2 nfw19 ?_
   refine GoI.runN 2 nfw19 ?_
   refine GoI.runN 2 nfw19 ?_
   refine GoI.z nfw19 ?_
   refine rg19w19 (j1 + 43) [] fun all8 _ => ?_
   refine GoI.runN 2 nfw19 ?_
   refine GoI.z nfw19 ?_
   refine ⟨a.rows.length - (x1 + 1), x1 + 1, j1 + 25, by omega, ⟨rfl, by omega⟩, GhI.of_wk ⟨by simp [ovr, uk, lessT, hts, kdOf], by simp [lessR, lk, neJ2, neJ2'], by (try dsimp only); omega, keep0⟩⟩
  try simp only [hb1]
  have hge := dn hb1
  rw [List.take_of_length_le hge]
  refine PI.e 0 ?_
  refine PI.q ?_
  refine rg19w19 (j1 + 26) [] fun all9 _ => ?_
  refine GoI.run nfw19 ?_
  refine GoI.call nfw19 nfw19 (by exact hO) ?_
  refine GoI.z nfw19 ?_
  refine PI.sj (by kernel_rfl) (by kernel_rfl) (X := Unit) (fun _ => uk [50, 51, 52, 53, 54, 55, 56, 57, 58, 59, 60, 61, 62, 63, 64]) (fun _ => [(([0], 0), .var 42 (encB a)), (([1], 0), .var 42 [.sl [] (some (([1], 1), 0)), .sl [] (some (([1], 2), 0))]), (([14], 0), .var 42 [ints K, .sl (W0.map fun r => [aRow r]) (some (([15], 1), W0.length))]), (([15], 1), .tok W0.length 49 1)]) (fun _ => True) ?_ ?_
  ·
   refine PI.q ?_
   refine rg19w19 (j1 + 34) [] fun all10 hall10 => ?_
   have hgd10_3 : (all10[3]?).bind (fun o => o.dst) = some 53 := by rw [← hall10]; kernel_rfl
   replace U := U.cons (hgd10_3)
   refine GoI.runN 2 nfw19 ?_
   refine GoI.runN 2 nfw19 ?_
   refine GoI.grd 53 nfw19 (fun hg1 => ?_) (fun hg1 => ?_)
   ·
    try simp only [hg1]
    refine GoI.runN 2 nfw19 ?_
    refine GoI.z nfw19 ?_
    refine PI.d 57 nfw19 (fun hb2 => ?_) (fun hb2 => ?_)
    ·
     try simp only [hb2]
     have hW : W0 = [oneR [] [] aggs] := by
       rw [hW0, if_pos]
       have h1 : all.length = 0 := by simp_all
       have h2 : keys.length = 0 := by simp_all
       exact ⟨List.eq_nil_of_length_eq_zero (by omega), List.eq_nil_of_length_eq_zero h2⟩
     refine rd19w19 (j1 + 42) [] fun all11 _ => ?_
     refine GoI.runN 2 nfw19 ?_
     refine GoI.run nfw19 ?_
     refine GoI.call nfw19 nfw19 (by exact okOne [] [] aggs (Nat.zero_le _) hlg (Nat.zero_le _) (fun _ _ _ r hr => by cases hr) (fun r hr => by cases hr)) ?_
     refine GoI.runN 2 nfw19 ?_
     refine GoI.z nfw19 ?_
     refine ⟨(), 16, trivial, GhI.of_wk ⟨by simp [ovr, uk, lessT], by simp [lessR, lk, hW, neJ2, neJ2'], by (try dsimp only); omega, keep0⟩⟩
    try simp only [hb2]
    have hW : W0 = [] := by
      rw [hW0, if_neg]
      rintro ⟨h1, h2⟩
      have h3 : all.length = 0 := by rw [hal, h1]; rfl
      simp_all
    refine PI.s ?_
    refine ⟨(), 8, trivial, GhI.of_wk ⟨by simp [ovr, uk, lessT], by simp [lessR, lk, hW, neJ2, neJ2'], by (try dsimp only); omega, keep0⟩⟩
   try simp only [hg1]
   refine GoI.runN 2 nfw19 ?_
   refine GoI.z nfw19 ?_
   refine PI.f 57 nfw19 ?_
   have hW : W0 = [] := by
     rw [hW0, if_neg]
     rintro ⟨h1, h2⟩
     have h3 : all.length = 0 := by rw [hal, h1]; rfl
     simp_all
   refine PI.s ?_
   refine ⟨(), 8, trivial, GhI.of_wk ⟨by simp [ovr, uk, lessT], by simp [lessR, lk, hW, neJ2, neJ2'], by (try dsimp only); omega, keep0⟩⟩
  intro y2 i1 hr2
  skip
  simp only [ovr, uk, List.set_cons_zero, List.set_cons_succ]
  refine PI.q ?_
  refine PI.q ?_
  refine rg19w19 (i1 + (j1 + 27)) [] fun all12 _ => ?_
  refine GoI.z nfw19 ?_
  refine PI.b 2 ?_
  refine PI.lo (by kernel_rfl) (X := GSX) (fun x => (12, aI x.i) :: uk [13, 14, 65, 66, 67, 68, 69, 70, 71, 72, 73, 74, 75, 76, 77, 78, 79, 80, 81, 82, 83, 84, 85, 86, 87, 88, 89, 90, 91, 92, 93, 94, 95, 96, 97, 98, 99, 100, 101, 102, 103, 104, 105, 106, 107, 108, 109, 110]) (fun x => [(([0], 0), .var 42 (encB a)), (([1], 0), .var 42 [.sl [] (some (([1], 1), 0)), .sl [] (some (([1], 2), 0))]), (([14], 0), .var 42 [ints K, .sl (x.o.map fun r => [aRow r]) (some (([15], 1), x.o.length))]), (([15], 1), .tok x.o.length 49 1)]) (fun k x => k = all.length - x.i ∧ x.i ≤ all.length ∧ x.ks.length ≤ x.i ∧ SegI all x.i x.ks ∧ x.o = W0 ++ x.ks.map (segF keys aggs a.rows)) (all.length) (⟨0, W0, []⟩) (GhI.of_wk ⟨by simp [ovr, uk, lessT, neJ2, neJ2', neJ3, neJ3', neJ4, neJ4', neJ5, neJ5', neK, neK', neK2, neK2', neL, neL', neL2, neL2'], by simp [lessR, lk, neJ2, neJ2', neJ3, neJ3', neJ4, neJ4', neJ5, neJ5', neK, neK', neK2, neK2', neL, neL', neL2, neL2'], by (try dsimp only); omega, keep0⟩) (⟨rfl, Nat.zero_le _, Nat.le_refl _, SegI.start all, by simp⟩) ?_
  intro k2 x2 j2 hr2
  obtain ⟨rfl, hi2, hkl, hS, hoe⟩ := hr2
  have holn : x2.o.length ≤ 90001 := by rw [hoe, List.length_append, List.length_map]; omega
  simp only [ovr, uk, List.set_cons_zero, List.set_cons_succ]
  refine PI.q ?_
  refine PI.q ?_
  refine rg19w19 (j2 + (i1 + (j1 + 31))) [] fun all13 _ => ?_
  refine GoI.runN 2 nfw19 ?_
  refine GoI.z nfw19 ?_
  refine PI.d 68 nfw19 (fun hb3 => ?_) (fun hb3 => ?_)
  ·
   try simp only [hb3]
   obtain ⟨hlt2, hw2⟩ := up hb3 (by omega)
   have hx2 := kds_at hlt2
   have hap2 : (x2.o.length + 1) * 24 ≤ 140737488355328 := by omega
   have hm2 := hmm _ (List.getElem_mem hlt2)
   replace U := U.cons (And.intro (hx2) (hap2))
   refine PI.s ?_
   refine PI.b 3 ?_
   refine PI.q ?_
   refine rg19w19 (j2 + (i1 + (j1 + 32))) [] fun all14 _ => ?_
   refine GoI.z nfw19 ?_
   refine PI.q ?_
   refine rg19w19 (j2 + (i1 + (j1 + 34))) [] fun all15 _ => ?_
   refine GoI.z nfw19 ?_
   refine PI.q ?_
   refine PI.b 4 ?_
   refine PI.lo (by kernel_rfl) (X := Nat) (fun m => (14, aI (x2.i + m : Nat)) :: (13, .sl ((((all.drop x2.i).take m).map (·.2)).map fun r => [aRow r]) (some (([j2 + (i1 + (j1 + 31))], 0), m))) :: uk [70, 71, 72, 73, 74, 75, 76, 77, 78, 79, 80, 81, 82, 83, 84, 85, 86, 87, 88, 89, 90, 91, 92, 93, 94, 95, 96]) (fun m => [(([j2 + (i1 + (j1 + 31))], 0), .tok m 49 1), (([0], 0), .var 42 (encB a)), (([1], 0), .var 42 [.sl [] (some (([1], 1), 0)), .sl [] (some (([1], 2), 0))]), (([14], 0), .var 42 [ints K, .sl (x2.o.map fun r => [aRow r]) (some (([15], 1), x2.o.length))]), (([15], 1), .tok x2.o.length 49 1)]) (fun q m => q = all.length - (x2.i + m) ∧ x2.i + m ≤ all.length ∧ ∀ j (hj : j < all.length), x2.i ≤ j → j < x2.i + m → all[j].1 = all[x2.i].1) (all.length - x2.i) (0) (GhI.of_wk ⟨by simp [ovr, uk, lessT, neJ2, neJ2', neJ3, neJ3', neJ4, neJ4', neJ5, neJ5', neK, neK', neK2, neK2', neL, neL', neL2, neL2'], by simp [lessR, lk, neJ2, neJ2', neJ3, neJ3', neJ4, neJ4', neJ5, neJ5', neK, neK', neK2, neK2', neL, neL', neL2, neL2'], by (try dsimp only); omega, keep0⟩) (⟨rfl, hi2, fun j hj h1 h2 => by omega⟩) ?_
   intro k3 x3 j3 hr3
   obtain ⟨rfl, hi3, heq⟩ := hr3
   simp only [ovr, uk, List.set_cons_zero, List.set_cons_succ]
   refine PI.q ?_
   refine PI.q ?_
   refine rd19w19 (j3 + (j2 + (i1 + (j1 + 51)))) [] fun all16 hall16 => ?_
   have hgd16_4 : (all16[4]?).bind (fun o => o.dst) = some 74 := by rw [← hall16]; kernel_rfl
   replace U := U.cons (hgd16_4)
   refine GoI.runN 2 nfw19 ?_
   refine GoI.runN 2 nfw19 ?_
   refine GoI.runN 1 nfw19 ?_
   refine GoI.grd 74 nfw19 (fun hg2 => ?_) (fun hg2 => ?_)
   ·
    try simp only [hg2]
    obtain ⟨hlt3, hw3⟩ := up hg2 (by omega)
    have hx3 := kds_at hlt3
    have hts3 := dt_succ hlt3
    have hap3 : (((all.drop x2.i).take x3).length + 1) * 24 ≤ 140737488355328 := by rw [List.length_take, List.length_drop]; omega
    replace U := U.cons (And.intro (hw3) (And.intro (hx3) (hap3)))
    refine GoI.runN 2 nfw19 ?_
    refine GoI.runN 2 nfw19 ?_
    refine GoI.runN 2 nfw19 ?_
    refine GoI.runN 2 nfw19 ?_
    refine GoI.runN 2 nfw19 ?_
    refine GoI.call nfw19 nfw19 (by exact okEqR' _ _) ?_
    refine GoI.z nfw19 ?_
    refine PI.d 86 nfw19 (fun hb4 => ?_) (fun hb4 => ?_)
    ·
     try simp only [hb4]
     have hke : all[x2.i + x3].1 = all[x2.i].1 := eqR_iff.1 (by simpa using hb4)
     refine PI.s ?_
     refine PI.b 5 ?_
     refine PI.q ?_
     refine rg19w19 (j3 + (j2 + (i1 + (j1 + 60)))) [] fun all17 _ => ?_
     refine GoI.runN 2 nfw19 ?_
     refine GoI.runN 2 nfw19 ?_
     refine GoI.runN 2 nfw19 ?_
     refine GoI.runN 2 nfw19 ?_
     refine GoI.z nfw19 ?_
     refine rg19w19 (j3 + (j2 + (i1 + (j1 + 63)))) [] fun all18 _ => ?_
     refine GoI.runN 2 nfw19 ?_
     refine GoI.z nfw19 ?_
     refine ⟨all.length - (x2.i + (x3 + 1)), x3 + 1, j3 + 29, by omega, ⟨rfl, by omega, fun j hj h1 h2 => by
     rcases Nat.lt_or_ge j (x2.i + x3) with q | q
     · exact heq j hj h1 q
     · have e : j = x2.i + x3 := by omega
       subst e; exact hke⟩, GhI.of_wk ⟨by simp [ovr, uk, lessT, hts3, Nat.add_assoc], by simp [lessR, lk, neJ2, neJ2', neJ3, neJ3', neK, neK', neL, neL', neK2, neK2', neL2, neL2', neM, neM'], by (try dsimp only); omega, keep0⟩⟩
    try simp only [hb4]
    have hn4 : ∀ hk : x2.i + x3 < all.length, all[x2.i + x3].1 ≠ all[x2.i].1 := fun hk e => by rw [eqR_iff.2 e] at hb4; cases hb4
    have hm1 : 1 ≤ x3 := by
      rcases Nat.eq_zero_or_pos x3 with q | q
      · subst q; exact absurd rfl (hn4 (by omega))
      · exact q
    obtain ⟨hS2, hfk⟩ := seg_step hsd hS hlt2 (show x2.i < x2.i + x3 by omega) hi3 heq hn4
    have hrw : ((all.drop x2.i).take x3).map (·.2) = selR keys all[x2.i].1 a.rows := by
      rw [hsel, hfk, List.drop_take]
      congr 2; omega
    rw [hrw]
    have hseg : oneR all[x2.i].1 (selR keys all[x2.i].1 a.rows) aggs = segF keys aggs a.rows all[x2.i].1 := rfl
    have hss : ∀ r ∈ selR keys all[x2.i].1 a.rows, r ∈ a.rows := fun r hr => (List.mem_filter.1 hr).1
    have hsl : (selR keys all[x2.i].1 a.rows).length ≤ 100000 := Nat.le_trans (List.length_filter_le _ _) (by omega)
    refine PI.e 4 ?_
    refine PI.q ?_
    refine rd19w19 (j3 + (j2 + (i1 + (j1 + 65)))) [] fun all19 _ => ?_
    refine GoI.runN 2 nfw19 ?_
    refine GoI.runN 2 nfw19 ?_
    refine GoI.runN 2 nfw19 ?_
    refine GoI.runN 2 nfw19 ?_
    refine GoI.run nfw19 ?_
    refine GoI.call nfw19 nfw19 (by exact okOne all[x2.i].1 (selR keys all[x2.i].1 a.rows) aggs (by omega) hlg hsl (fun g hg h0 r hr => hag g hg h0 r (hss r hr)) (fun r hr => hiv r (hss r hr))) ?_
    refine GoI.runN 2 nfw19 ?_
    refine GoI.z nfw19 ?_
    refine rg19w19 (j3 + (j2 + (i1 + (j1 + 67)))) [] fun all20 _ => ?_
    refine GoI.z nfw19 ?_
    refine ⟨all.length - (x2.i + x3), ⟨x2.i + x3, x2.o ++ [segF keys aggs a.rows all[x2.i].1], x2.ks ++ [all[x2.i].1]⟩, j3 + (j2 + 40), by omega, ⟨rfl, hi3, by dsimp only; rw [List.length_append]; simp; omega, hS2, by dsimp only; rw [hoe, List.map_append, List.append_assoc]; rfl⟩, GhI.of_wk ⟨by simp [ovr, uk, lessT], by simp [lessR, lk, hseg, neJ2, neJ2', neJ3, neJ3', neJ4, neJ4', neK, neK', neL, neL', neK2, neK2', neL2, neL2', neM, neM'], by (try dsimp only); omega, keep0⟩⟩
   try simp only [hg2]
   have hge3 : all.length ≤ x2.i + x3 := by simp at hg2; omega
   have hn4 : ∀ hk : x2.i + x3 < all.length, all[x2.i + x3].1 ≠ all[x2.i].1 := fun hk => by omega
   have hm1 : 1 ≤ x3 := by omega
   refine GoI.runN 2 nfw19 ?_
   refine GoI.runN 2 nfw19 ?_
   refine GoI.runN 2 nfw19 ?_
   refine GoI.runN 2 nfw19 ?_
   refine GoI.runN 2 nfw19 ?_
   refine GoI.z nfw19 ?_
   refine PI.f 86 nfw19 ?_
   obtain ⟨hS2, hfk⟩ := seg_step hsd hS hlt2 (show x2.i < x2.i + x3 by omega) hi3 heq hn4
   have hrw : ((all.drop x2.i).take x3).map (·.2) = selR keys all[x2.i].1 a.rows := by
     rw [hsel, hfk, List.drop_take]
     congr 2; omega
   rw [hrw]
   have hseg : oneR all[x2.i].1 (selR keys all[x2.i].1 a.rows) aggs = segF keys aggs a.rows all[x2.i].1 := rfl
   have hss : ∀ r ∈ selR keys all[x2.i].1 a.rows, r ∈ a.rows := fun r hr => (List.mem_filter.1 hr).1
   have hsl : (selR keys all[x2.i].1 a.rows).length ≤ 100000 := Nat.le_trans (List.length_filter_le _ _) (by omega)
   refine PI.e 4 ?_
   refine PI.q ?_
   refine rd19w19 (j3 + (j2 + (i1 + (j1 + 65)))) [] fun all19 _ => ?_
   refine GoI.runN 2 nfw19 ?_
   refine GoI.runN 2 nfw19 ?_
   refine GoI.runN 2 nfw19 ?_
   refine GoI.runN 2 nfw19 ?_
   refine GoI.run nfw19 ?_
   refine GoI.call nfw19 nfw19 (by exact okOne all[x2.i].1 (selR keys all[x2.i].1 a.rows) aggs (by omega) hlg hsl (fun g hg h0 r hr => hag g hg h0 r (hss r hr)) (fun r hr => hiv r (hss r hr))) ?_
   refine GoI.runN 2 nfw19 ?_
   refine GoI.z nfw19 ?_
   refine rg19w19 (j3 + (j2 + (i1 + (j1 + 67)))) [] fun all20 _ => ?_
   refine GoI.z nfw19 ?_
   refine ⟨all.length - (x2.i + x3), ⟨x2.i + x3, x2.o ++ [segF keys aggs a.rows all[x2.i].1], x2.ks ++ [all[x2.i].1]⟩, j3 + (j2 + 40), by omega, ⟨rfl, hi3, by dsimp only; rw [List.length_append]; simp; omega, hS2, by dsimp only; rw [hoe, List.map_append, List.append_assoc]; rfl⟩, GhI.of_wk ⟨by simp [ovr, uk, lessT], by simp [lessR, lk, hseg, neJ2, neJ2', neJ3, neJ3', neJ4, neJ4', neK, neK', neL, neL', neK2, neK2', neL2, neL2', neM, neM'], by (try dsimp only); omega, keep0⟩⟩
  try simp only [hb3]
  have hge2 := dn hb3
  have hie : x2.i = a.rows.length := by omega
  rw [hie] at hS
  have hpm := hsf hS
  rw [← hoe] at hpm
  rw [← srt_congr hpm]
  have hrl := hol hS (fun x hx => (hmm x hx).2)
  rw [← hoe] at hrl
  refine PI.e 2 ?_
  refine PI.q ?_
  refine rg19w19 (j2 + (i1 + (j1 + 36))) [] fun all21 _ => ?_
  refine GoI.runN 2 nfw19 ?_
  refine GoI.call nfw19 nfw19 (by exact okSort' _ (by omega) (fun r hr => by have := hrl r hr; omega)) ?_
  refine GoI.z nfw19 ?_
  refine PI.q ?_
  refine rg19w19 (j2 + (i1 + (j1 + 38))) [] fun all22 _ => ?_
  refine GoI.z nfw19 ?_
  refine PI.r ?_
  exact FinI.mk _ nfw19 (by clear U; first | (simp [finR, nrmA, nrm, AV.content]; done) | rfl)
end Go.FE
namespace Go.FE
theorem aggs_ok {keys : List Int} {aggs : List Ag} {kinds : List Int} (h : (grpK keys aggs kinds).2 = 0) : ∀ g ∈ aggs, 0 ≤ g.arg → g.arg < kinds.length := fun g hg h0 => by
  unfold grpK at h
  split at h
  · split at h
    · rename_i a ha
      have := List.find?_some ha
      simp at this
      exact absurd h this
    · rename_i hn
      have h1 := List.find?_eq_none.1 hn g hg
      have h2 : (aggK kinds g).1 = 0 := by simpa using h1
      rcases Int.lt_or_le g.arg kinds.length with q | q
      · exact q
      · exfalso
        unfold aggK at h2
        split at h2
        · cases h2
        · split at h2
          · rename_i hc; simp at hc; omega
          · rw [if_pos (by simp; omega)] at h2; cases h2
  · cases h
end Go.FE
namespace Go.FE
open Go.Proofs
theorem nfw21 {α : Type} {a b : α} (h : a = b := by simp only [goP, goN, mrk, Nat.reduceMul, Nat.one_mul, Nat.mul_one, eq_self, false_implies, implies_true, Nat.reduceLT, List.getElem?_toArray, isCall, List.contains_nil, List.contains_cons, Nat.reduceBEq, Bool.or_false, Bool.or_self, List.length_map, gOf, step, stepM, stepP, ev, okV, if_true, if_false, allocA, storeA, boxA, one1, tokN, tok1, buildA, rowA, nrmP, partV, partA, fieldA, fieldV, elemA, lenA, bltA, asSl, appA, makeA, makeR, cutA, bndA, binV, intOp, strOp, unV, eqB, nilB, sameT, List.all_cons, List.all_nil, Bool.and_self, Bool.and_true, Bool.true_and, List.map_cons, List.map_nil, List.nil_append, List.cons_append, List.append_nil, AV.bare, AV.content, AV.clean, AV.one, putD, List.set_cons_zero, List.set_cons_succ, List.reverse_cons, List.reverse_nil, List.getD_cons_zero, List.getD_cons_succ, List.getElem?_cons_zero, List.getElem?_cons_succ, Option.getD_some, Option.map_some, Option.map_none, Option.bind_some, List.length_cons, List.length_nil, lk, cellsA, fillA, fillS, isAggD, spl, nrm, nrmA, List.take_succ_cons, List.take_zero, List.drop_succ_cons, List.drop_zero, List.drop_nil, List.take_nil, Nat.reduceAdd, Nat.zero_add, Nat.add_zero, Nat.add_assoc, Nat.add_left_cancel_iff, reduceCtorEq, Prod.mk.injEq, List.cons.injEq, and_self, and_true, true_and, Nat.le_refl, Nat.reduceLeDiff, Nat.reduceEqDiff, List.getElem?_nil, Int.reduceToNat, Int.reduceLE, Int.reduceLT, ite_self, List.forall_mem_cons, List.not_mem_nil, false_and, and_false, Bool.false_eq_true, List.replicate_zero, List.replicate_succ, Int.toNat_natCast, neJ2, neJ2', neJ3, neJ3', callOf, callOf2, fnOf, argsA, args2, Array.isEmpty_empty, resLL, resVL, beq_self_eq_true, st3, zt3, it3, ct3, se3, Tryz.underlying3, st4, zt4, it4, ct4, se4, Tryz.underlying4, st9, zt9, it9, ct9, se9, Tryz.underlying9, st22, zt22, it22, ct22, se22, Tryz.underlying22, st23, zt23, it23, ct23, se23, Tryz.underlying23, st25, zt25, it25, ct25, pt25, eqs25, se25, Tryz.underlying25, st29, zt29, it29, ct29, se29, Tryz.underlying29, st36, zt36, it36, ct36, se36, Tryz.underlying36, st37, Tryz.underlying37, st42, zt42, it42, ct42, pt42, se42, Tryz.underlying42, st48, zt48, it48, ct48, pt48, eqs48, se48, Tryz.underlying48, st49, zt49, it49, ct49, se49, Tryz.underlying49, Tryz.results16, Tryz.results4, neJ4, neJ4', neJ5, neJ5', neK, neK', neK2, neK2', neL, neL', neL2, neL2', Tryz.results5, Int.natCast_nonneg, U.out] <;> rfl) : a = b := h
def grpB (keys : List Int) (aggs : List Ag) (kinds : List Int) : Bool := !((keys.length + aggs.length == 0) || decide (keys.length + aggs.length > 48)) && (grpK keys aggs kinds).2 == 0
theorem rg16w21 {T : List Rid} {p : Path} {Q : Exit → SL → Prop} {tm : List AV} {L : RL} {n : Nat} {c : Code} {l : List Oper} (n' : Nat) (Qs : List Nat) (h : ∀ all, (ro c).toList = all → GoI Tryz.prog T p all false Qs n 0 l tm L fun tm' L' => Q .normal ⟨tm', L', n'⟩) (hk : kd c = 0 := by kernel_rfl) (hr : rd c = false := by kernel_rfl) (hl : (ro c).toList = l := by dsimp only [ro, s1, s2, c1, c2, bc, bod, Tryz.f16, Option.getD_some] <;> exact rfl) (hn : n + (ro c).size = n' := by kernel_rfl) : PI Tryz.prog T p c Q ⟨tm, L, n⟩ := PI.rg n' Qs hk hr hl (fun h => by cases h) hn (h _ rfl)
set_option maxRecDepth 100000 in
theorem okGrpB (b : Bag) (keys : List Int) (aggs : List Ag) (hk : keys.length ≤ 140737488355328) (hg : aggs.length ≤ 140737488355328) : CallsOK Tryz.prog 16 [aBag b, ints keys, aAggs aggs] (aB (grpB keys aggs b.kinds)) := by
  have hw : IntKind.i64.wrap ((keys.length : Int) + (aggs.length : Int)) = ((keys.length + aggs.length : Nat) : Int) := by rw [w64 (by omega) (by omega)]; omega
  have hG := fun h : keys.length + aggs.length ≤ 48 => okGrouped' keys aggs b.kinds (by omega) (by omega)
  have hS : grpB keys aggs b.kinds = (!((keys.length + aggs.length == 0) || decide (keys.length + aggs.length > 48)) && (grpK keys aggs b.kinds).2 == 0) := rfl
  generalize grpB keys aggs b.kinds = S at hS ⊢
  generalize grpK keys aggs b.kinds = KK at hG hS
  have U : Hid True := ⟨trivial⟩
  replace U := U.cons (hw)
  refine CallsOK.of_pi mixed Tryz.func16 (by kernel_rfl) (by kernel_rfl) (?_ : PI _ _ _ _ _ ⟨[aBag b, ints keys, aAggs aggs, .und, .und, .und, .und, .und, .und, .und, .und, .und, .und, .und, .und, .und, .und, .und, .und, .und, .und, .und, .und, .und, .und, .und, .und, .und, .und, .und, .und, .und, .und], [], 0⟩)
  refine PI.q ?_
  refine rg16w21 (2) [] fun all1 _ => ?_
  refine GoI.z nfw21 ?_
  refine PI.q ?_
  refine PI.q ?_
  refine rg16w21 (16) [] fun all2 hall2 => ?_
  have hgd2_6 : (all2[6]?).bind (fun o => o.dst) = some 15 := by rw [← hall2]; kernel_rfl
  replace U := U.cons (hgd2_6)
  refine GoI.runN 2 nfw21 ?_
  refine GoI.runN 2 nfw21 ?_
  refine GoI.runN 2 nfw21 ?_
  refine GoI.runN 1 nfw21 ?_
  refine GoI.grd 15 nfw21 (fun hg1 => ?_) (fun hg1 => ?_)
  ·
   try simp only [hg1]
   refine GoI.runN 2 nfw21 ?_
   refine GoI.runN 2 nfw21 ?_
   refine GoI.runN 2 nfw21 ?_
   refine GoI.z nfw21 ?_
   refine PI.t 22 nfw21 ?_
   have hS' : S = false := by
     rw [hS]
     have hc : keys.length + aggs.length = 0 ∨ keys.length + aggs.length > 48 := by first | (left; have := hg1; simp [hw] at this; omega) | (right; have := hb1; simp [hw] at this; omega)
     rcases hc with h | h <;> simp [h]
   refine PI.q ?_
   refine rg16w21 (17) [] fun all3 _ => ?_
   refine GoI.z nfw21 ?_
   refine PI.r ?_
   exact FinI.mk _ nfw21 (by clear U; rw [hS']; simp [finR, nrmA, nrm, AV.content])
  try simp only [hg1]
  refine GoI.runN 2 nfw21 ?_
  refine GoI.runN 2 nfw21 ?_
  refine GoI.runN 2 nfw21 ?_
  refine GoI.z nfw21 ?_
  refine PI.d 22 nfw21 (fun hb1 => ?_) (fun hb1 => ?_)
  ·
   try simp only [hb1]
   have hS' : S = false := by
     rw [hS]
     have hc : keys.length + aggs.length = 0 ∨ keys.length + aggs.length > 48 := by first | (left; have := hg1; simp [hw] at this; omega) | (right; have := hb1; simp [hw] at this; omega)
     rcases hc with h | h <;> simp [h]
   refine PI.q ?_
   refine rg16w21 (17) [] fun all3 _ => ?_
   refine GoI.z nfw21 ?_
   refine PI.r ?_
   exact FinI.mk _ nfw21 (by clear U; rw [hS']; simp [finR, nrmA, nrm, AV.content])
  try simp only [hb1]
  have h1 : ¬ (keys.length + aggs.length = 0) := by have := hg1; simp [hw] at this; omega
  have h2 : ¬ (keys.length + aggs.length > 48) := by have := hb1; simp [hw] at this; omega
  have hS' : S = (KK.2 == 0) := by rw [hS, (beq_eq_false_iff_ne.2 h1 : (keys.length + aggs.length == 0) = false), (decide_eq_false h2 : decide (keys.length + aggs.length > 48) = false)]; rfl
  refine PI.s ?_
  refine PI.q ?_
  refine rg16w21 (26) [] fun all4 _ => ?_
  refine GoI.runN 2 nfw21 ?_
  refine GoI.runN 2 nfw21 ?_
  refine GoI.call nfw21 nfw21 (by exact hG (by clear hG; have := h2; omega)) ?_
  refine GoI.runN 2 nfw21 ?_
  refine GoI.runN 2 nfw21 ?_
  refine GoI.z nfw21 ?_
  refine PI.q ?_
  refine rg16w21 (29) [] fun all5 _ => ?_
  refine GoI.runN 2 nfw21 ?_
  refine GoI.z nfw21 ?_
  refine PI.r ?_
  exact FinI.mk _ nfw21 (by clear U; rw [hS']; simp [finR, nrmA, nrm, AV.content])
theorem few_len {b : Bag} {most : Int} (h : few b most = true) : ∀ r ∈ b.rows, r.length = b.kinds.length := by
  unfold few sound at h
  simp only [Bool.and_eq_true, decide_eq_true_eq, List.all_eq_true] at h
  exact fun r hr => fits_len (h.2.2.1 r hr)
theorem grpB_ok {keys : List Int} {aggs : List Ag} {kinds : List Int} (h : grpB keys aggs kinds = true) : keys.length ≤ 48 ∧ aggs.length ≤ 48 ∧ (grpK keys aggs kinds).2 = 0 := by
  unfold grpB at h
  simp at h
  exact ⟨by omega, by omega, h.2⟩
theorem okGroupGD (b : Bag) (keys : List Int) (aggs : List Ag) (h : few b 40 = true) (hk : keys.length ≤ 48) (hg : aggs.length ≤ 48) : CallsOK Tryz.prog 18 [aBag b, ints keys, aAggs aggs] (aBag ⟨(grpK keys aggs b.kinds).1, srt (grpD keys aggs b.rows)⟩) := by
  have h0 := okGroupG b keys aggs (few_good h (by decide)) (by omega) (by omega)
  rw [srt_congr (grp_law keys aggs b.rows)] at h0
  exact h0
theorem rg4w21 {T : List Rid} {p : Path} {Q : Exit → SL → Prop} {tm : List AV} {L : RL} {n : Nat} {c : Code} {l : List Oper} (n' : Nat) (Qs : List Nat) (h : ∀ all, (ro c).toList = all → GoI Tryz.prog T p all false Qs n 0 l tm L fun tm' L' => Q .normal ⟨tm', L', n'⟩) (hk : kd c = 0 := by kernel_rfl) (hr : rd c = false := by kernel_rfl) (hl : (ro c).toList = l := by dsimp only [ro, s1, s2, c1, c2, bc, bod, Tryz.f4, Option.getD_some] <;> exact rfl) (hn : n + (ro c).size = n' := by kernel_rfl) : PI Tryz.prog T p c Q ⟨tm, L, n⟩ := PI.rg n' Qs hk hr hl (fun h => by cases h) hn (h _ rfl)
theorem rd4w21 {T : List Rid} {p : Path} {Q : Exit → SL → Prop} {tm : List AV} {L : RL} {n : Nat} {c : Code} {l : List Oper} (n' : Nat) (Qs : List Nat) (h : ∀ all, (ro c).toList = all → GoI Tryz.prog T p all true Qs n 0 l tm L fun tm' L' => Q .normal ⟨tm', L', n'⟩) (hk : kd c = 0 := by kernel_rfl) (hr : rd c = true := by kernel_rfl) (hl : (ro c).toList = l := by dsimp only [ro, s1, s2, c1, c2, bc, bod, Tryz.f4, Option.getD_some] <;> exact rfl) (hn : n + (ro c).size = n' := by kernel_rfl) (hd : drawOK (ro c) Qs = true := by kernel_rfl) : PI Tryz.prog T p c Q ⟨tm, L, n⟩ := PI.rg n' Qs hk hr hl (fun _ => hd) hn (h _ rfl)
set_option maxHeartbeats 4000000 in
set_option maxRecDepth 100000 in
theorem okGroupsLaw (b : Bag) (keys : List Int) (aggs : List Ag) (hk : keys.length ≤ 140737488355328) (hg : aggs.length ≤ 140737488355328) : CallsOK Tryz.prog 4 [aBag b, ints keys, aAggs aggs] (.v (.bool true)) := by
  have U : Hid True := ⟨trivial⟩
  refine CallsOK.of_pi mixed Tryz.func4 (by kernel_rfl) (by kernel_rfl) (?_ : PI _ _ _ _ _ ⟨[aBag b, ints keys, aAggs aggs, .und, .und, .und, .und, .und, .und, .und, .und, .und, .und, .und, .und, .und, .und, .und, .und, .und, .und, .und, .und, .und, .und, .und, .und, .und, .und, .und], [], 0⟩)
  refine PI.q ?_
  refine rg4w21 (2) [] fun all1 _ => ?_
  refine GoI.z nfw21 ?_
  refine PI.q ?_
  refine PI.q ?_
  refine rg4w21 (12) [] fun all2 hall2 => ?_
  have hgd2_3 : (all2[3]?).bind (fun o => o.dst) = some 10 := by rw [← hall2]; kernel_rfl
  replace U := U.cons (hgd2_3)
  refine GoI.run nfw21 ?_
  refine GoI.call nfw21 nfw21 (by exact okFew _ _ (by decide)) ?_
  refine GoI.runN 2 nfw21 ?_
  refine GoI.grd 10 nfw21 (fun hg1 => ?_) (fun hg1 => ?_)
  ·
   try simp only [hg1]
   refine GoI.runN 2 nfw21 ?_
   refine GoI.runN 2 nfw21 ?_
   refine GoI.z nfw21 ?_
   refine PI.t 16 nfw21 ?_
   refine PI.q ?_
   refine rg4w21 (14) [] fun all3 _ => ?_
   refine GoI.call nfw21 nfw21 (by exact okAwake) ?_
   refine GoI.z nfw21 ?_
   refine PI.r ?_
   exact FinI.mk _ nfw21 (by clear U; first | (simp [finR, nrmA, nrm, AV.content]; done) | rfl)
  try simp only [hg1]
  refine GoI.runN 2 nfw21 ?_
  refine GoI.run nfw21 ?_
  refine GoI.call nfw21 nfw21 (by exact okGrpB b keys aggs hk hg) ?_
  refine GoI.z nfw21 ?_
  refine PI.d 16 nfw21 (fun hb1 => ?_) (fun hb1 => ?_)
  ·
   try simp only [hb1]
   refine PI.q ?_
   refine rg4w21 (14) [] fun all3 _ => ?_
   refine GoI.call nfw21 nfw21 (by exact okAwake) ?_
   refine GoI.z nfw21 ?_
   refine PI.r ?_
   exact FinI.mk _ nfw21 (by clear U; first | (simp [finR, nrmA, nrm, AV.content]; done) | rfl)
  try simp only [hb1]
  have hf : few b 40 = true := by simpa using hg1
  have hgb : grpB keys aggs b.kinds = true := by simpa using hb1
  obtain ⟨k1, k2, k3⟩ := grpB_ok hgb
  have hG := few_good hf (by decide)
  have c1 := okGroupGD b keys aggs hf k1 k2
  have c2 := okGroup' b keys aggs (by have := hG.l; omega) (by omega) (by omega) (fun g hg h0 r hr => by have := aggs_ok k3 g hg h0; have := few_len hf r hr; omega) (fun r hr v hv => (valid_VF (hG.v r hr v hv)).i)
  have y1 := okExactly ⟨(grpK keys aggs b.kinds).1, srt (grpD keys aggs b.rows)⟩ ⟨(grpK keys aggs b.kinds).1, srt (grpD keys aggs b.rows)⟩
  rw [exactly_self] at y1
  refine PI.s ?_
  refine PI.q ?_
  refine rd4w21 (25) [] fun all4 hall4 => ?_
  have hgd4_9 : (all4[9]?).bind (fun o => o.dst) = some 27 := by rw [← hall4]; kernel_rfl
  replace U := U.cons (hgd4_9)
  refine GoI.runN 2 nfw21 ?_
  refine GoI.run nfw21 ?_
  refine GoI.call nfw21 nfw21 (by exact c1) ?_
  refine GoI.runN 2 nfw21 ?_
  refine GoI.run nfw21 ?_
  refine GoI.call nfw21 nfw21 (by exact c2) ?_
  refine GoI.call nfw21 nfw21 (by exact y1) ?_
  refine GoI.runN 1 nfw21 ?_
  refine GoI.grd 27 nfw21 (fun hg2 => ?_) (fun hg2 => ?_)
  ·
   try simp only [hg2]
   refine GoI.call nfw21 nfw21 (by exact okAwake) ?_
   refine GoI.z nfw21 ?_
   refine PI.r ?_
   exact FinI.mk _ nfw21 (by clear U; first | (simp [finR, nrmA, nrm, AV.content]; done) | rfl)
  try simp only [hg2]
  cases hg2
structure CtX where
  i : Nat
  n : Int
end Go.FE
