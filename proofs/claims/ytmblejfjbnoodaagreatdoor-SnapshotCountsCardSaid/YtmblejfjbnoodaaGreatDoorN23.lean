/- Groups of rows that grow, each in a row of its own. Picked values, in a row of the caller's own. More of groups: none is empty where there are keys, and their rows are rows of the bag. Groups: the key columns and the aggregates of each group. A row's key tells the row. The groups are those of the rows with the same keys. -/
import Derived.Test.YtmblejfjbnoodaaGreatDoorN09
import Derived.Test.YtmblejfjbnoodaaGreatDoorN22
set_option linter.unusedVariables false
set_option linter.unusedSimpArgs false
namespace Go.FE
open Go.Proofs
abbrev GT := Rid × List Row
def gTok (g : GT) : Rid × Res := (g.1, .tok g.2.length 49 1)
def gCell (g : GT) : List AV := [.sl (g.2.map fun r => [aRow r]) (some (g.1, g.2.length))]
theorem lk_gs {R : RL} : ∀ {gs : List GT}, (gs.map (·.1)).Nodup → ∀ g ∈ gs, lk (gs.map gTok ++ R) g.1 = .tok g.2.length 49 1
  | [], _, g, hg => by cases hg
  | g0 :: gs, hn, g, hg => by
    rw [List.map_cons, List.nodup_cons] at hn
    rw [List.map_cons, List.cons_append, gTok, lk]
    rcases List.mem_cons.1 hg with rfl | hg
    · rw [if_pos rfl]
    · rw [if_neg (fun e : g.1 = g0.1 => hn.1 (by rw [← e]; exact List.mem_map_of_mem (f := (·.1)) hg))]
      exact lk_gs hn.2 g hg
theorem gCell_at {gs : List GT} {i : Nat} (h : i < gs.length) : (gs.map gCell)[i]? = some (gCell gs[i]) := by simp [h]
/-- The groups of rows by key, in the order of their first rows. -/
structure GrS where
  f : MF
  g : List (List Row)
def grpStep (keys : List Int) (st : GrS) (r : Row) : GrS :=
  match st.f (keyB (pickR r keys)) with
  | some i => ⟨st.f, st.g.set i.toNat (st.g.getD i.toNat [] ++ [r])⟩
  | none => ⟨upd st.f (keyB (pickR r keys)) st.g.length, st.g ++ [[r]]⟩
def grp0 (keys : List Int) : GrS := if keys = [] then ⟨upd (fun _ => none) (keyB []) 0, [[]]⟩ else ⟨fun _ => none, []⟩
def grpR (keys : List Int) (rows : List Row) : GrS := rows.foldl (grpStep keys) (grp0 keys)
theorem grpR_snoc (keys : List Int) (a : List Row) (r : Row) : grpR keys (a ++ [r]) = grpStep keys (grpR keys a) r := by rw [grpR, List.foldl_append]; rfl
theorem grpR_succ (keys : List Int) {a : List Row} {i : Nat} (h : i < a.length) : grpR keys (a.take (i + 1)) = grpStep keys (grpR keys (a.take i)) a[i] := by rw [List.take_succ_eq_append_getElem h, grpR_snoc]
structure GrI (st : GrS) (n : Nat) : Prop where
  ix : ∀ s i, st.f s = some i → 0 ≤ i ∧ i.toNat < st.g.length
  ln : st.g.length ≤ n + 1
  el : ∀ x ∈ st.g, x.length ≤ n
theorem grpI (keys : List Int) (a : List Row) : GrI (grpR keys a) a.length := by
  induction a using snoc_ind with
  | h0 =>
    unfold grpR
    rw [List.foldl_nil]
    unfold grp0
    split
    · exact ⟨fun s i h => (by dsimp only [upd] at h; split at h; (injection h with h; subst h; decide); cases h), Nat.le_refl _, fun x hx => (by simp at hx; subst hx; exact Nat.le_refl _)⟩
    · exact ⟨fun s i h => (by cases h), Nat.zero_le _, fun x hx => (by cases hx)⟩
  | h1 a r ih =>
    rw [grpR_snoc, grpStep]
    have hln : (a ++ [r]).length = a.length + 1 := by simp
    rw [hln]
    split
    · rename_i i hf
      obtain ⟨h1, h2⟩ := ih.ix _ _ hf
      refine ⟨fun s i' h => (by rw [List.length_set]; exact ih.ix s i' h), by rw [List.length_set]; have := ih.ln; omega, fun x hx => ?_⟩
      rcases List.mem_or_eq_of_mem_set hx with h | h
      · have := ih.el x h; omega
      · subst h
        rw [List.getD_eq_getElem?_getD, List.getElem?_eq_getElem h2, Option.getD_some, List.length_append]
        have := ih.el _ (List.getElem_mem h2)
        simp; omega
    · refine ⟨fun s i' h => ?_, by have := ih.ln; simp; omega, fun x hx => ?_⟩
      · dsimp only at h ⊢
        unfold upd at h
        split at h
        · injection h with h; subst h; simp
        · have := ih.ix s i' h; simp; omega
      · rcases List.mem_append.1 hx with h | h
        · have := ih.el x h; omega
        · rw [List.mem_singleton.1 h]; simp
end Go.FE
namespace Go.FE
open Go.Proofs
theorem nf26 {α : Type} {a b : α} (h : a = b := by simp only [goP, goN, mrk, Nat.reduceMul, Nat.one_mul, Nat.mul_one, eq_self, false_implies, implies_true, Nat.reduceLT, List.getElem?_toArray, isCall, List.contains_nil, List.contains_cons, Nat.reduceBEq, Bool.or_false, Bool.or_self, List.length_map, gOf, step, stepM, stepP, ev, okV, if_true, if_false, allocA, storeA, boxA, one1, tokN, tok1, buildA, rowA, nrmP, partV, partA, fieldA, fieldV, elemA, lenA, bltA, asSl, appA, makeA, makeR, cutA, bndA, binV, intOp, strOp, unV, eqB, nilB, sameT, List.all_cons, List.all_nil, Bool.and_self, Bool.and_true, Bool.true_and, List.map_cons, List.map_nil, List.nil_append, List.cons_append, List.append_nil, AV.bare, AV.content, AV.clean, AV.one, putD, List.set_cons_zero, List.set_cons_succ, List.reverse_cons, List.reverse_nil, List.getD_cons_zero, List.getD_cons_succ, List.getElem?_cons_zero, List.getElem?_cons_succ, Option.getD_some, Option.map_some, Option.map_none, Option.bind_some, List.length_cons, List.length_nil, lk, cellsA, fillA, fillS, isAggD, spl, nrm, nrmA, List.take_succ_cons, List.take_zero, List.drop_succ_cons, List.drop_zero, List.drop_nil, List.take_nil, Nat.reduceAdd, Nat.zero_add, Nat.add_zero, Nat.add_assoc, Nat.add_left_cancel_iff, reduceCtorEq, Prod.mk.injEq, List.cons.injEq, and_self, and_true, true_and, Nat.le_refl, Nat.reduceLeDiff, Nat.reduceEqDiff, List.getElem?_nil, Int.reduceToNat, Int.reduceLE, Int.reduceLT, ite_self, List.forall_mem_cons, List.not_mem_nil, false_and, and_false, Bool.false_eq_true, List.replicate_zero, List.replicate_succ, Int.toNat_natCast, neJ2, neJ2', neJ3, neJ3', callOf, callOf2, fnOf, argsA, args2, Array.isEmpty_empty, resLL, resVL, beq_self_eq_true, st3, zt3, it3, ct3, se3, Tryz.underlying3, st9, zt9, it9, ct9, se9, Tryz.underlying9, st22, zt22, it22, ct22, se22, Tryz.underlying22, st25, zt25, it25, ct25, pt25, eqs25, se25, Tryz.underlying25, st49, zt49, it49, ct49, se49, Tryz.underlying49, Tryz.results55, Int.natCast_nonneg, renA, renR, U.out] <;> rfl) : a = b := h
theorem rg55v26 {T : List Rid} {p : Path} {Q : Exit → SL → Prop} {tm : List AV} {L : RL} {n : Nat} {c : Code} {l : List Oper} (n' : Nat) (Qs : List Nat) (h : ∀ all, (ro c).toList = all → GoI Tryz.prog T p all false Qs n 0 l tm L fun tm' L' => Q .normal ⟨tm', L', n'⟩) (hk : kd c = 0 := by kernel_rfl) (hr : rd c = false := by kernel_rfl) (hl : (ro c).toList = l := by dsimp only [ro, s1, s2, c1, c2, bc, bod, Tryz.f55, Option.getD_some] <;> exact rfl) (hn : n + (ro c).size = n' := by kernel_rfl) : PI Tryz.prog T p c Q ⟨tm, L, n⟩ := PI.rg n' Qs hk hr hl (fun h => by cases h) hn (h _ rfl)
set_option maxRecDepth 100000 in
theorem okPick2 {rs : Rid → Res} {p : Path} (r : Row) (l : List Int) (hl : l.length ≤ 1000000) : Calls2 Tryz.prog 55 [aRow r, ints l] [] rs p (.sl ((pickR r l).map encV) (some ((p, 0), l.length))) [((p, 0), .tok l.length 25 3)] := by
  have hl1 : l.length ≤ maxLen := Nat.le_trans hl (by decide +kernel)
  have h1 : 32 * l.length ≤ 281474976710656 := by omega
  have h2 : l.length ≤ 9223372036854775807 := by omega
  have hpk : (pickR r l).map encV = l.map fun k => encV (atR r k) := by simp [pickR]
  rw [hpk]
  have U : Hid True := ⟨trivial⟩
  replace U := U.cons (And.intro (h1) (h2))
  refine Calls2.of_pi ([]) mixed Tryz.func55 (by kernel_rfl) (by kernel_rfl) (by simp [lk, under_nil]) (by simp [lk, under_nil]) (by simp [lk, under_nil]) (by simp [lk, under_nil]) (by simp [lk, under_nil]) (?_ : PI _ _ _ _ _ ⟨[aRow r, ints l, .und, .und, .und, .und, .und, .und, .und, .und, .und, .und, .und, .und, .und, .und, .und, .und, .und, .und, .und, .und, .und, .und, .und], [], 0⟩)
  refine PI.q ?_
  refine rg55v26 (1) [] fun all1 _ => ?_
  refine GoI.z nf26 ?_
  refine PI.q ?_
  refine rg55v26 (5) [] fun all2 _ => ?_
  refine GoI.runN 2 nf26 ?_
  refine GoI.z nf26 ?_
  refine PI.q ?_
  refine PI.q ?_
  refine rg55v26 (8) [] fun all3 _ => ?_
  refine GoI.runN 2 nf26 ?_
  refine GoI.z nf26 ?_
  refine PI.b 0 ?_
  refine PI.lo (by kernel_rfl) (X := Nat) (fun i => (13, aI i) :: (5, .sl ((l.take i).map fun k => encV (atR r k)) (some ((3 :: p, 0), i))) :: uk [7, 14, 15, 16, 17, 18, 19, 20, 21, 22, 23]) (fun i => [((3 :: p, 0), .tok i 25 3)]) (fun k i => k = l.length - i ∧ i ≤ l.length) (l.length) (0) (GhI.of_wk ⟨by simp [ovr, uk, lessT], by simp [lessR, lk, h1, h2, Int.natCast_nonneg, renA, renR, neJ2, neJ2', neJ3, neJ3'], by (try dsimp only); omega, by simp [keepR, lk, under_self, h1, h2, Int.natCast_nonneg, renA, renR, neJ2, neJ2', neJ3, neJ3']⟩) (by simp) ?_
  intro k1 x1 j1 hr1
  obtain ⟨rfl, hi1⟩ := hr1
  simp only [ovr, uk, List.set_cons_zero, List.set_cons_succ]
  refine PI.q ?_
  refine rg55v26 (j1 + 9) [] fun all4 _ => ?_
  refine GoI.z nf26 ?_
  refine PI.q ?_
  refine PI.d 14 nf26 (fun hb1 => ?_) (fun hb1 => ?_)
  ·
   try simp only [hb1]
   obtain ⟨hlt, hw⟩ := up hb1 hl1
   have hg := ints_at hlt
   have ha : ((l.take x1).length + 1) * 32 ≤ 140737488355328 := by rw [List.length_take]; omega
   have hm := map_take_succ (f := fun k => encV (atR r k)) hlt
   replace U := U.cons (And.intro (hw) (And.intro (hg) (ha)))
   refine PI.s ?_
   refine PI.q ?_
   refine PI.b 1 ?_
   refine PI.q ?_
   refine rg55v26 (j1 + 12) [] fun all5 _ => ?_
   refine GoI.runN 2 nf26 ?_
   refine GoI.z nf26 ?_
   refine rg55v26 (j1 + 19) [] fun all6 _ => ?_
   refine GoI.runN 2 nf26 ?_
   refine GoI.run nf26 ?_
   refine GoI.call nf26 nf26 (by exact okAt r _) ?_
   refine GoI.runN 2 nf26 ?_
   refine GoI.z nf26 ?_
   refine rg55v26 (j1 + 21) [] fun all7 _ => ?_
   refine GoI.z nf26 ?_
   refine ⟨l.length - (x1 + 1), x1 + 1, j1 + 13, by omega, ⟨rfl, by omega⟩, GhI.of_wk ⟨by simp [ovr, uk, lessT, hm], by simp [lessR, lk], by (try dsimp only); omega, by simp [keepR, lk, under_self]⟩⟩
  try simp only [hb1]
  have hge := dn hb1
  have hxe : x1 = l.length := by omega
  subst hxe
  simp only [List.take_length]
  refine PI.e 0 ?_
  refine PI.q ?_
  refine rg55v26 (j1 + 11) [] fun all8 _ => ?_
  refine GoI.z nf26 ?_
  refine PI.r ?_
  exact FinI.ren (3 :: p, 0) 0 under_self (by simp) (by simp [lk]) _ nf26 ⟨by clear U; rfl, fin_keys (by dsimp only; simp [lk, under_self, under_nil]) (by dsimp only; simp [lk, under_self, under_nil])⟩
end Go.FE
namespace Go.FE
open Go.Proofs
theorem grp_ne {keys : List Int} (hk : keys ≠ []) (a : List Row) : ∀ g ∈ (grpR keys a).g, g ≠ [] := by
  induction a using snoc_ind with
  | h0 => unfold grpR; rw [List.foldl_nil]; unfold grp0; rw [if_neg hk]; intro g hg; cases hg
  | h1 a r ih =>
    rw [grpR_snoc, grpStep]
    split
    · intro g hg
      rcases List.mem_or_eq_of_mem_set hg with h | h
      · exact ih g h
      · rw [h]; simp
    · intro g hg
      rcases List.mem_append.1 hg with h | h
      · exact ih g h
      · rw [List.mem_singleton.1 h]; simp
theorem grp_mem (keys : List Int) (a : List Row) : ∀ g ∈ (grpR keys a).g, ∀ r ∈ g, r ∈ a := by
  induction a using snoc_ind with
  | h0 => unfold grpR; rw [List.foldl_nil]; unfold grp0; split <;> (intro g hg r hr; simp at hg); subst hg; cases hr
  | h1 a r ih =>
    have hI := grpI keys a
    rw [grpR_snoc, grpStep]
    split
    · rename_i i hf
      obtain ⟨h1, h2⟩ := hI.ix _ _ hf
      intro g hg q hq
      rcases List.mem_or_eq_of_mem_set hg with h | h
      · exact List.mem_append_left _ (ih g h q hq)
      · rw [h, List.getD_eq_getElem?_getD, List.getElem?_eq_getElem h2, Option.getD_some] at hq
        rcases List.mem_append.1 hq with h | h
        · exact List.mem_append_left _ (ih _ (List.getElem_mem h2) q h)
        · exact List.mem_append_right _ h
    · intro g hg q hq
      rcases List.mem_append.1 hg with h | h
      · exact List.mem_append_left _ (ih g h q hq)
      · rw [List.mem_singleton.1 h] at hq
        exact List.mem_append_right _ hq
def baseRow (keys : List Int) (g : List Row) : Row := if keys = [] then [] else pickR (g.getD 0 []) keys
theorem baseRow_nil (g : List Row) : baseRow [] g = [] := rfl
theorem baseRow_ne {keys : List Int} (h : keys ≠ []) (g : List Row) : baseRow keys g = pickR (g.getD 0 []) keys := if_neg h
theorem baseRow_len (keys : List Int) (g : List Row) : (baseRow keys g).length ≤ keys.length := by unfold baseRow; split <;> simp [pickR]
def outRow (keys : List Int) (aggs : List Ag) (g : List Row) : Row := baseRow keys g ++ aggs.map (aggV g)
theorem outRow_len (keys : List Int) (aggs : List Ag) (g : List Row) : (outRow keys aggs g).length ≤ keys.length + aggs.length := by
  have := baseRow_len keys g
  simp [outRow]; omega
theorem grpK_len (keys : List Int) (aggs : List Ag) (kinds : List Int) : (grpK keys aggs kinds).1.length ≤ keys.length + aggs.length := by
  unfold grpK
  split
  · split <;> simp
  · simp
def grpOut (keys : List Int) (aggs : List Ag) (rows : List Row) : List Row := (grpR keys rows).g.map (outRow keys aggs)
theorem mem_set_nd {gs : List GT} (hn : (gs.map (·.1)).Nodup) {i : Nat} (h : i < gs.length) {r : List Row} : ∀ g ∈ gs.set i (gs[i].1, r), g = (gs[i].1, r) ∨ (g ∈ gs ∧ g.1 ≠ gs[i].1) := by
  intro g hg
  obtain ⟨k, hk, e⟩ := List.mem_iff_getElem.1 hg
  rw [List.getElem_set] at e
  split at e
  · exact .inl e.symm
  · rename_i hne
    simp at hk
    refine .inr ⟨by rw [← e]; exact List.getElem_mem _, fun h1 => hne ?_⟩
    rw [← e] at h1
    have := (List.getElem_inj (h₀ := by simpa using hk) (h₁ := by simpa using h) hn).1 (by simpa using h1)
    exact this.symm
theorem gs_cont {gs : List GT} (k : Nat) (hk : k = gs.length) : ((gs.map gCell).take k).map (List.map nrmC) = (gs.map (·.2)).map fun g => [aRows g] := by
  subst hk
  rw [List.take_of_length_le (by simp), List.map_map, List.map_map]
  apply List.map_congr_left
  intro g _
  show (gCell g).map nrmC = _
  rfl
theorem rows2_at {G : List (List Row)} {i : Nat} (h : i < G.length) : (G.map fun g => [aRows g])[i]? = some [aRows G[i]] := by simp [h]
theorem row0_at {g : List Row} (h : g ≠ []) : (g.map fun r => [aRow r])[0]? = some [aRow (g.getD 0 [])] := by
  cases g with
  | nil => exact absurd rfl h
  | cons r g => rfl
end Go.FE
namespace Go.FE
open Go.Proofs
theorem nf27 {α : Type} {a b : α} (h : a = b := by simp only [goP, goN, mrk, Nat.reduceMul, Nat.one_mul, Nat.mul_one, eq_self, false_implies, implies_true, Nat.reduceLT, List.getElem?_toArray, isCall, List.contains_nil, List.contains_cons, Nat.reduceBEq, Bool.or_false, Bool.or_self, List.length_map, gOf, step, stepM, stepP, ev, okV, if_true, if_false, allocA, storeA, boxA, one1, tokN, tok1, buildA, rowA, nrmP, partV, partA, fieldA, fieldV, elemA, lenA, bltA, asSl, appA, makeA, makeR, cutA, bndA, binV, intOp, strOp, unV, eqB, nilB, sameT, List.all_cons, List.all_nil, Bool.and_self, Bool.and_true, Bool.true_and, List.map_cons, List.map_nil, List.nil_append, List.cons_append, List.append_nil, AV.bare, AV.content, AV.clean, AV.one, putD, List.set_cons_zero, List.set_cons_succ, List.reverse_cons, List.reverse_nil, List.getD_cons_zero, List.getD_cons_succ, List.getElem?_cons_zero, List.getElem?_cons_succ, Option.getD_some, Option.map_some, Option.map_none, Option.bind_some, List.length_cons, List.length_nil, lk, cellsA, fillA, fillS, isAggD, spl, nrm, nrmA, List.take_succ_cons, List.take_zero, List.drop_succ_cons, List.drop_zero, List.drop_nil, List.take_nil, Nat.reduceAdd, Nat.zero_add, Nat.add_zero, Nat.add_assoc, Nat.add_left_cancel_iff, reduceCtorEq, Prod.mk.injEq, List.cons.injEq, and_self, and_true, true_and, Nat.le_refl, Nat.reduceLeDiff, Nat.reduceEqDiff, List.getElem?_nil, Int.reduceToNat, Int.reduceLE, Int.reduceLT, ite_self, List.forall_mem_cons, List.not_mem_nil, false_and, and_false, Bool.false_eq_true, List.replicate_zero, List.replicate_succ, Int.toNat_natCast, neJ2, neJ2', neJ3, neJ3', callOf, callOf2, fnOf, argsA, args2, Array.isEmpty_empty, resLL, resVL, beq_self_eq_true, lookA, look, Option.getD_none, updA, unMk, appR, newR, storeP, neJ4, neJ4', neJ5, neJ5', neK, neK', neK2, neK2', neL, neL', neL2, neL2', st3, zt3, it3, ct3, se3, Tryz.underlying3, st4, zt4, it4, ct4, se4, Tryz.underlying4, st9, zt9, it9, ct9, se9, Tryz.underlying9, st22, zt22, it22, ct22, se22, Tryz.underlying22, st23, zt23, it23, ct23, se23, Tryz.underlying23, st25, zt25, it25, ct25, pt25, eqs25, se25, Tryz.underlying25, st29, zt29, it29, ct29, se29, Tryz.underlying29, st36, zt36, it36, ct36, se36, Tryz.underlying36, st37, Tryz.underlying37, st42, zt42, it42, ct42, pt42, se42, Tryz.underlying42, st48, zt48, it48, ct48, pt48, eqs48, se48, Tryz.underlying48, st49, zt49, it49, ct49, se49, Tryz.underlying49, st74, zt74, it74, ct74, mt74, se74, Tryz.underlying74, st75, zt75, it75, ct75, se75, Tryz.underlying75, st77, Tryz.underlying77, Tryz.results18, Int.natCast_nonneg, neL3, neL3', U.out] <;> rfl) : a = b := h
/-- The groups' rows are of the call's own, each another, older than N. -/
structure GOK (gs : List GT) (N : Nat) : Prop where
  nd : (gs.map (·.1)).Nodup
  old : ∀ g ∈ gs, ∃ m, g.1 = ([m], 0) ∧ 5 ≤ m ∧ m < N
theorem GOK.mono {gs : List GT} {N N' : Nat} (h : GOK gs N) (hN : N ≤ N') : GOK gs N' := ⟨h.nd, fun g hg => by obtain ⟨m, h1, h2, h3⟩ := h.old g hg; exact ⟨m, h1, h2, by omega⟩⟩
theorem GOK.nil {N : Nat} : GOK [] N := ⟨List.nodup_nil, fun g h => (by cases h)⟩
theorem GOK.snoc {gs : List GT} {N m N' : Nat} {r : List Row} (h : GOK gs N) (h1 : 5 ≤ m) (h2 : N ≤ m) (h3 : m < N') : GOK (gs ++ [(([m], 0), r)]) N' := by
  refine ⟨?_, fun g hg => ?_⟩
  · rw [List.map_append, List.nodup_append]
    refine ⟨h.nd, by simp, fun a ha b hb => ?_⟩
    obtain ⟨g, hg, rfl⟩ := List.mem_map.1 ha
    obtain ⟨m', e, _, hm⟩ := h.old g hg
    simp at hb
    rw [hb, e]
    simp; omega
  · rcases List.mem_append.1 hg with hg | hg
    · obtain ⟨m', e, h4, h5⟩ := h.old g hg
      exact ⟨m', e, h4, by omega⟩
    · rw [List.mem_singleton.1 hg]; exact ⟨m, rfl, h1, h3⟩
theorem GOK.set {gs : List GT} {N i : Nat} {r : List Row} (h : GOK gs N) (hi : i < gs.length) : GOK (gs.set i (gs[i].1, r)) N := by
  have hm : (gs.set i (gs[i].1, r)).map (·.1) = gs.map (·.1) := by
    rw [List.map_set]
    apply List.ext_getElem (by simp)
    intro k h1 h2
    rw [List.getElem_set]
    split
    · rename_i e; subst e; simp
    · simp
  refine ⟨by rw [hm]; exact h.nd, fun g hg => ?_⟩
  rcases List.mem_or_eq_of_mem_set hg with hg | hg
  · exact h.old g hg
  · rw [hg]; exact h.old gs[i] (List.getElem_mem hi)
theorem ap3 {bs : Row} {g : List Row} {aggs : List Ag} {x3 : Nat} (h1 : bs.length ≤ 100000) (h2 : aggs.length ≤ 100000) : ((bs ++ (aggs.take x3).map (aggV g)).length + 1) * 32 ≤ 140737488355328 := by
  rw [List.length_append, List.length_map, List.length_take]; omega
structure GNM (i1 j1 j2 i2 M : Nat) : Prop where
  a : ∀ c, 19 ≤ c → (M = i2 + (j2 + (j1 + (i1 + c)))) = False
  b : ∀ b c, 19 ≤ c → (M = b + (i2 + (j2 + (j1 + (i1 + c))))) = False
  o : (j1 + (i1 + 10) = M) = False
  z : (0 = M) = False
  w : (1 = M) = False
structure GPX where
  m : Nat
  v : Nat
structure GX where
  i : Nat
  f : MF
  gs : List GT
abbrev gL (a : Bag) (f : MF) (gs : List GT) : RL := [(([2], 0), .map 9 3 false f), (([4], 0), .arr (gs.length + 1) 23 1 (gs.map gCell)), (([0], 0), .var 42 (encB a)), (([1], 0), .var 42 [.sl [] (some (([1], 1), 0)), .sl [] (some (([1], 2), 0))])] ++ gs.map gTok
theorem less_gL {a : Bag} {f : MF} {gs : List GT} {L : RL} (h1 : lk L ([2], 0) = .map 9 3 false f) (h2 : lk L ([4], 0) = .arr (gs.length + 1) 23 1 (gs.map gCell)) (h3 : lk L ([0], 0) = .var 42 (encB a)) (h4 : lk L ([1], 0) = .var 42 [.sl [] (some (([1], 1), 0)), .sl [] (some (([1], 2), 0))])
    (h5 : ∀ g ∈ gs, lk L g.1 = .tok g.2.length 49 1) : lessR (gL a f gs) L := by
  intro q hq
  rcases List.mem_append.1 hq with hq | hq
  · simp only [List.mem_cons, List.not_mem_nil, or_false] at hq
    rcases hq with rfl | rfl | rfl | rfl
    · exact ⟨h1, by simp⟩
    · exact ⟨h2, by simp⟩
    · exact ⟨h3, by simp⟩
    · exact ⟨h4, by simp⟩
  · obtain ⟨g, hg, rfl⟩ := List.mem_map.1 hq
    exact ⟨h5 g hg, by simp [gTok]⟩
theorem gL_tok {a : Bag} {f : MF} {gs : List GT} {N : Nat} (h : GOK gs N) : ∀ g ∈ gs, lk (gL a f gs) g.1 = .tok g.2.length 49 1 := by
  intro g hg
  obtain ⟨m, e, h5, _⟩ := h.old g hg
  have h0 := lk_gs (R := []) h.nd g hg
  rw [List.append_nil] at h0
  simp only [List.cons_append, List.nil_append, lk]
  rw [if_neg (by rw [e]; simp; omega), if_neg (by rw [e]; simp; omega), if_neg (by rw [e]; simp; omega), if_neg (by rw [e]; simp; omega)]
  exact h0
theorem less_gL0 {a : Bag} {f : MF} {gs : List GT} {N : Nat} (h : GOK gs N) : lessR (gL a f gs) (gL a f gs) :=
  less_gL (by simp [lk]) (by simp [lk]) (by simp [lk]) (by simp [lk]) (gL_tok h)
theorem rg18v27 {T : List Rid} {p : Path} {Q : Exit → SL → Prop} {tm : List AV} {L : RL} {n : Nat} {c : Code} {l : List Oper} (n' : Nat) (Qs : List Nat) (h : ∀ all, (ro c).toList = all → GoI Tryz.prog T p all false Qs n 0 l tm L fun tm' L' => Q .normal ⟨tm', L', n'⟩) (hk : kd c = 0 := by kernel_rfl) (hr : rd c = false := by kernel_rfl) (hl : (ro c).toList = l := by dsimp only [ro, s1, s2, c1, c2, bc, bod, Tryz.f18, Option.getD_some] <;> exact rfl) (hn : n + (ro c).size = n' := by kernel_rfl) : PI Tryz.prog T p c Q ⟨tm, L, n⟩ := PI.rg n' Qs hk hr hl (fun h => by cases h) hn (h _ rfl)
set_option maxHeartbeats 40000000 in
set_option maxRecDepth 100000 in
theorem okGroup (a : Bag) (keys : List Int) (aggs : List Ag) (ha : OkBag a) (hla : a.rows.length ≤ 100000) (hlk : keys.length ≤ 100000) (hlg : aggs.length ≤ 100000) (hkk : ∀ r ∈ a.rows, KeyOK (pickR r keys)) (hir : ∀ r ∈ a.rows, r.length ≤ 100000) (hiv : ∀ r ∈ a.rows, ∀ v ∈ r, inV v) : CallsOK Tryz.prog 18 [aBag a, ints keys, aAggs aggs] (aBag ⟨(grpK keys aggs a.kinds).1, srt (grpOut keys aggs a.rows)⟩) := by
  have hl' : a.rows.length ≤ maxLen := by unfold maxLen; omega
  have U : Hid True := ⟨trivial⟩
  refine CallsOK.of_pi mixed Tryz.func18 (by kernel_rfl) (by kernel_rfl) (?_ : PI _ _ _ _ _ ⟨[aBag a, ints keys, aAggs aggs, .und, .und, .und, .und, .und, .und, .und, .und, .und, .und, .und, .und, .und, .und, .und, .und, .und, .und, .und, .und, .und, .und, .und, .und, .und, .und, .und, .und, .und, .und, .und, .und, .und, .und, .und, .und, .und, .und, .und, .und, .und, .und, .und, .und, .und, .und, .und, .und, .und, .und, .und, .und, .und, .und, .und, .und, .und, .und, .und, .und, .und, .und, .und, .und, .und, .und, .und, .und, .und, .und, .und, .und, .und, .und, .und, .und, .und, .und, .und, .und, .und, .und, .und, .und, .und, .und, .und, .und, .und, .und, .und, .und, .und, .und, .und, .und, .und, .und, .und, .und, .und, .und, .und, .und, .und, .und, .und, .und], [], 0⟩)
  refine PI.q ?_
  refine rg18v27 (2) [] fun all1 _ => ?_
  refine GoI.z nf27 ?_
  refine PI.q ?_
  refine rg18v27 (4) [] fun all2 _ => ?_
  refine GoI.z nf27 ?_
  refine PI.q ?_
  refine rg18v27 (5) [] fun all3 _ => ?_
  refine GoI.z nf27 ?_
  refine PI.sjj (by kernel_rfl) (by kernel_rfl) (X := GX) (fun x => (8, .ar ([4], 0) (x.gs.length + 1) 1 0 x.gs.length) :: uk [23, 24, 25, 26, 27, 28, 29]) (fun x => gL a x.f x.gs) (fun x j => (⟨x.f, x.gs.map (·.2)⟩ : GrS) = grp0 keys ∧ GOK x.gs (j + 5)) ?_ ?_
  ·
   refine PI.q ?_
   refine PI.pg (by kernel_rfl) (GhI.thw ([4], 0) 0 23 1 8 (by simp [lk]) rfl (by simp only [List.map_cons, List.map_nil, thwA_none, thwA_hit, thwA_v, thwA_und, thwA_unk, thwA_agg, thwA_vp, thwA_mp]; rfl)) ?_
   refine rg18v27 (8) [] fun all4 _ => ?_
   refine GoI.runN 2 nf27 ?_
   refine GoI.z nf27 ?_
   refine PI.d 25 nf27 (fun hb1 => ?_) (fun hb1 => ?_)
   ·
    try simp only [hb1]
    have hk0 : keys = [] := by cases keys with | nil => rfl | cons k l => simp at hb1; omega
    subst hk0
    refine PI.q ?_
    refine rg18v27 (12) [] fun all5 _ => ?_
    refine GoI.runN 2 nf27 ?_
    refine GoI.z nf27 ?_
    refine rg18v27 (14) [] fun all6 _ => ?_
    refine GoI.z nf27 ?_
    refine ⟨⟨0, upd (fun _ => none) (keyB []) 0, [(([10], 0), [])]⟩, 9, ⟨by simp [grp0], GOK.snoc (gs := []) (N := 5) (m := 10) .nil (by omega) (by omega) (by omega)⟩, GhI.of_wk ⟨by simp [ovr, uk, lessT], less_gL (by simp [lk]; rfl) (by simp [lk, gCell]) (by simp [lk]) (by simp [lk]) (by simp [lk]), by (try dsimp only); omega, keep0⟩⟩
   try simp only [hb1]
   have hk0 : keys ≠ [] := by rintro rfl; simp at hb1
   refine PI.s ?_
   refine ⟨⟨0, fun _ => none, []⟩, 3, ⟨by simp [grp0, hk0], .nil⟩, GhI.of_wk ⟨by simp [ovr, uk, lessT], less_gL (by simp [lk]) (by simp [lk]) (by simp [lk]) (by simp [lk]) (by simp), by (try dsimp only); omega, keep0⟩⟩
  intro y1 i1 hr1
  obtain ⟨hg1, hg2⟩ := hr1
  simp only [ovr, uk, List.set_cons_zero, List.set_cons_succ]
  refine PI.q ?_
  refine PI.q ?_
  refine rg18v27 (i1 + 9) [] fun all7 _ => ?_
  refine GoI.runN 2 nf27 ?_
  refine GoI.z nf27 ?_
  refine PI.b 0 ?_
  refine PI.lj (by kernel_rfl) (X := GX) (fun x => (33, aI x.i) :: (8, .ar ([4], 0) (x.gs.length + 1) 1 0 x.gs.length) :: uk [10, 11, 12, 13, 34, 35, 36, 37, 38, 39, 40, 41, 42, 43, 44, 45, 46, 47, 48, 49, 50, 51, 52, 53, 54, 55, 56, 57, 58, 59, 60, 61, 62, 63, 64, 65, 66, 67]) (fun x => gL a x.f x.gs) (fun k x j => k = a.rows.length - x.i ∧ x.i ≤ a.rows.length ∧ (⟨x.f, x.gs.map (·.2)⟩ : GrS) = grpR keys (a.rows.take x.i) ∧ GOK x.gs (j + (i1 + 9))) (a.rows.length) (⟨0, y1.f, y1.gs⟩) (GhI.of_wk ⟨by simp [ovr, uk, lessT], less_gL0 hg2, by (try dsimp only); omega, keep0⟩) (⟨rfl, Nat.zero_le _, hg1, hg2.mono (by omega)⟩) ?_
  intro k1 x1 j1 hr1
  obtain ⟨rfl, hi1, hst, hok⟩ := hr1
  have hI := grpI keys (a.rows.take x1.i)
  rw [← hst] at hI
  have hlen : (a.rows.take x1.i).length = x1.i := by simp; omega
  rw [hlen] at hI
  have hgl := hI.ln
  rw [List.length_map] at hgl
  simp only [ovr, uk, List.set_cons_zero, List.set_cons_succ]
  refine PI.q ?_
  refine rg18v27 (j1 + (i1 + 10)) [] fun all8 _ => ?_
  refine GoI.z nf27 ?_
  refine PI.q ?_
  refine PI.d 34 nf27 (fun hb2 => ?_) (fun hb2 => ?_)
  ·
   try simp only [hb2]
   obtain ⟨hlt, hw⟩ := up hb2 hl'
   have hx := rows_at hlt
   have hts := grpR_succ keys hlt
   rw [← hst] at hts
   generalize hr : a.rows[x1.i] = r
   rw [hr] at hts
   have hrk : KeyOK (pickR r keys) := by rw [← hr]; exact hkk _ (List.getElem_mem hlt)
   generalize hk : keyB (pickR r keys) = ky
   unfold grpStep at hts
   rw [hk] at hts
   dsimp only at hts
   have hgl2 : (x1.gs.length + 1) * 24 ≤ 140737488355328 := by omega
   replace U := U.cons (And.intro (hw) (And.intro (hx) (And.intro (hr) (And.intro (hk) (hgl2)))))
   refine PI.s ?_
   refine PI.q ?_
   refine PI.b 1 ?_
   refine PI.q ?_
   refine rg18v27 (j1 + (i1 + 13)) [] fun all9 _ => ?_
   refine GoI.runN 2 nf27 ?_
   refine GoI.z nf27 ?_
   refine PI.q ?_
   refine rg18v27 (j1 + (i1 + 18)) [] fun all10 _ => ?_
   refine GoI.runN 2 nf27 ?_
   refine GoI.call nf27 nf27 (by exact okPick _ _ (by omega)) ?_
   refine GoI.call nf27 nf27 (by exact okKey _ hrk.ok hrk.ln) ?_
   refine GoI.z nf27 ?_
   refine PI.q ?_
   refine rg18v27 (j1 + (i1 + 26)) [] fun all11 _ => ?_
   refine GoI.runN 2 nf27 ?_
   refine GoI.runN 2 nf27 ?_
   refine GoI.runN 2 nf27 ?_
   refine GoI.z nf27 ?_
   refine PI.q ?_
   refine PI.q ?_
   refine rg18v27 (j1 + (i1 + 28)) [] fun all12 _ => ?_
   refine GoI.z nf27 ?_
   refine PI.d 48 nf27 (fun hb3 => ?_) (fun hb3 => ?_)
   ·
    try simp only [hb3]
    have hf : x1.f ky = none := by
      cases h : x1.f ky with
      | none => rfl
      | some i => rw [h] at hb3; simp at hb3
    rw [hf] at hts
    dsimp only at hts
    have hlt3 : (x1.gs.length : Int) < ((x1.gs.length + 1 : Nat) : Int) := by omega
    have hat3 : ∀ c : List AV, (x1.gs.map gCell ++ [c])[x1.gs.length]? = some c := fun c => by rw [List.getElem?_append_right (by simp)]; simp
    have hset3 : ∀ c d : List AV, (x1.gs.map gCell ++ [c]).set x1.gs.length d = x1.gs.map gCell ++ [d] := fun c d => by rw [List.set_append_right _ _ (by simp)]; simp
    replace U := U.cons (And.intro (hf) (And.intro (hlt3) (hat3)))
    refine PI.q ?_
    refine rg18v27 (j1 + (i1 + 31)) [] fun all13 _ => ?_
    refine GoI.runN 2 nf27 ?_
    refine GoI.z nf27 ?_
    refine PI.q ?_
    refine rg18v27 (j1 + (i1 + 35)) [] fun all14 _ => ?_
    refine GoI.runN 2 nf27 ?_
    refine GoI.z nf27 ?_
    refine rg18v27 (j1 + (i1 + 39)) [] fun all15 _ => ?_
    refine GoI.runN 2 nf27 ?_
    refine GoI.z nf27 ?_
    refine rg18v27 (j1 + (i1 + 50)) [] fun all16 _ => ?_
    refine GoI.runN 2 nf27 ?_
    refine GoI.runN 2 nf27 ?_
    refine GoI.runN 2 nf27 ?_
    refine GoI.runN 2 nf27 ?_
    refine GoI.runN 2 nf27 ?_
    refine GoI.z nf27 ?_
    refine rg18v27 (j1 + (i1 + 52)) [] fun all17 _ => ?_
    refine GoI.z nf27 ?_
    refine ⟨a.rows.length - (x1.i + 1), ⟨x1.i + 1, upd x1.f ky x1.gs.length, x1.gs ++ [(([j1 + (i1 + 37)], 0), [r])]⟩, j1 + 43, by omega, ⟨rfl, by dsimp only; omega, by dsimp only; rw [hts]; simp, GOK.snoc hok (by omega) (by omega) (by omega)⟩, GhI.of_wk ⟨by simp [ovr, uk, lessT, neJ2, neJ2'], less_gL (by simp [lk]; rfl) (by simp [lk, gCell, hset3]) (by simp [lk, neJ2, neJ2']) (by simp [lk, neJ2, neJ2']) (fun g hg => by
    rcases List.mem_append.1 hg with hg | hg
    · have h0 := lk_gs (R := []) hok.nd _ hg
      obtain ⟨m, e, q1, q2⟩ := hok.old g hg
      rw [List.append_nil, e] at h0
      have hnJ : ∀ c, 9 ≤ c → (m = j1 + (i1 + c)) = False := fun c hc => eq_false (by omega)
      simp only [e, List.append_assoc, List.nil_append, List.cons_append]
      simp [lk, hnJ, show m ≠ 2 by omega, show m ≠ 4 by omega, show m ≠ 0 by omega, show m ≠ 1 by omega, h0]
    · rw [List.mem_singleton.1 hg]; simp [lk, neJ2, neJ2']), by (try dsimp only); omega, keep0⟩⟩
   try simp only [hb3]
   have hf : ∃ i, x1.f ky = some i := by
     cases h : x1.f ky with
     | none => rw [h] at hb3; simp at hb3
     | some i => exact ⟨i, rfl⟩
   obtain ⟨gi, hf⟩ := hf
   obtain ⟨hgi0, hgi1⟩ := hI.ix _ _ hf
   rw [hf] at hts
   dsimp only at hgi1
   rw [List.length_map] at hgi1
   obtain ⟨m, hm1, hm2, hm3⟩ := hok.old _ (List.getElem_mem hgi1)
   have hcell : (x1.gs.map gCell)[gi.toNat]? = some [.sl (x1.gs[gi.toNat].2.map fun r => [aRow r]) (some (([m], 0), x1.gs[gi.toNat].2.length))] := by rw [gCell_at hgi1, gCell, hm1]
   have htok := gL_tok (a := a) (f := x1.f) hok _ (List.getElem_mem hgi1)
   dsimp only at hts
   rw [hm1] at htok
   have hlt2 : gi < (x1.gs.length : Int) := by omega
   have hnJ : ∀ c, 9 ≤ c → (m = j1 + (i1 + c)) = False := fun c hc => eq_false (by omega)
   have hn2 : (m = 2) = False := eq_false (by omega)
   have hn4 : (m = 4) = False := eq_false (by omega)
   have hn0 : (m = 0) = False := eq_false (by omega)
   have hn1 : (m = 1) = False := eq_false (by omega)
   have hk2 : (2 = m) = False := eq_false (by omega)
   have hk4 : (4 = m) = False := eq_false (by omega)
   have hk0' : (0 = m) = False := eq_false (by omega)
   have hk1 : (1 = m) = False := eq_false (by omega)
   have hel := hI.el x1.gs[gi.toNat].2 (List.mem_map_of_mem (f := (·.2)) (List.getElem_mem hgi1))
   have hap : (x1.gs[gi.toNat].2.length + 1) * 24 ≤ 140737488355328 := by omega
   have htok2 : lk (x1.gs.map gTok) ([m], 0) = .tok x1.gs[gi.toNat].2.length 49 1 := by
     have h0 := lk_gs (R := []) hok.nd _ (List.getElem_mem hgi1)
     rw [List.append_nil, hm1] at h0
     exact h0
   replace U := U.cons (And.intro (hf) (And.intro (hgi0) (And.intro (hcell) (And.intro (hlt2) (And.intro (hnJ) (And.intro (hn2) (And.intro (hn4) (And.intro (hn0) (And.intro (hn1) (And.intro (hk2) (And.intro (hk4) (And.intro (hk0') (And.intro (hk1) (And.intro (hap) (htok2)))))))))))))))
   refine PI.s ?_
   refine rg18v27 (j1 + (i1 + 39)) [] fun all16 _ => ?_
   refine GoI.runN 2 nf27 ?_
   refine GoI.runN 2 nf27 ?_
   refine GoI.runN 2 nf27 ?_
   refine GoI.runN 2 nf27 ?_
   refine GoI.runN 2 nf27 ?_
   refine GoI.z nf27 ?_
   refine rg18v27 (j1 + (i1 + 41)) [] fun all17 _ => ?_
   refine GoI.z nf27 ?_
   refine ⟨a.rows.length - (x1.i + 1), ⟨x1.i + 1, x1.f, x1.gs.set gi.toNat (x1.gs[gi.toNat].1, x1.gs[gi.toNat].2 ++ [r])⟩, j1 + 32, by omega, ⟨rfl, by dsimp only; omega, by dsimp only; rw [hts]; simp [List.map_set, hgi1], (GOK.set hok hgi1).mono (by omega)⟩, GhI.of_wk ⟨by simp [ovr, uk, lessT, neJ2, neJ2'], less_gL (by simp [lk, hk2, neJ2, neJ2']) (by simp [lk, List.map_set, gCell, hm1, neJ2, neJ2', hn4, hk4]) (by simp [lk, neJ2, neJ2', hk0']) (by simp [lk, neJ2, neJ2', hk1]) (fun g hg => by
   rcases mem_set_nd hok.nd hgi1 g hg with rfl | ⟨hg, hne⟩
   · simp only [hm1]; simp [lk, hnJ, hn2, hn4, hn0, hn1, hk2, hk4, hk0', hk1]
   · have h0 := lk_gs (R := []) hok.nd _ hg
     obtain ⟨m', e, q1, q2⟩ := hok.old g hg
     rw [List.append_nil, e] at h0
     have hnm : m' ≠ m := fun e' => hne (by rw [hm1, e, e'])
     have hnJ' : ∀ c, 9 ≤ c → (m' = j1 + (i1 + c)) = False := fun c hc => eq_false (by omega)
     simp only [e]
     simp [lk, hnJ', hnm, show m' ≠ 2 by omega, show m' ≠ 4 by omega, show m' ≠ 0 by omega, show m' ≠ 1 by omega, h0]), by (try dsimp only); omega, keep0⟩⟩
  try simp only [hb2]
  have hge := dn hb2
  have hxe : x1.i = a.rows.length := by omega
  rw [hxe, List.take_length] at hst
  have hlenG : (x1.gs.map (·.2)).length = x1.gs.length := List.length_map ..
  have hGe : (grpR keys a.rows).g = x1.gs.map (·.2) := by rw [← hst]
  have hne := grp_ne (keys := keys) (a := a.rows)
  have hmem := grp_mem keys a.rows
  have hel := (grpI keys a.rows).el
  rw [hGe] at hne hmem hel
  have hgo : grpOut keys aggs a.rows = (x1.gs.map (·.2)).map (outRow keys aggs) := by unfold grpOut; rw [hGe]
  rw [hgo]
  have hGl := hgl
  clear hI hlen hst hGe
  refine PI.e 0 ?_
  refine PI.q ?_
  refine PI.pg (by kernel_rfl) (GhI.frz ([4], 0) (x1.gs.length + 1) 23 1 x1.gs.length (x1.gs.map gCell) (by simp [lk]) (by simp) (by simp only [List.map_cons, List.map_nil, frzA_hit, frzA_v, frzA_und, frzA_unk, frzA_agg, frzA_vp, frzA_mp, frzA_sl, frzA_tup, gs_cont x1.gs.length rfl]; rfl)) ?_
  refine rg18v27 (j1 + (i1 + 11)) [] fun all18 _ => ?_
  refine GoI.z nf27 ?_
  refine PI.q ?_
  refine PI.q ?_
  refine rg18v27 (j1 + (i1 + 14)) [] fun all19 _ => ?_
  refine GoI.runN 2 nf27 ?_
  refine GoI.z nf27 ?_
  refine PI.b 2 ?_
  refine PI.lo (by kernel_rfl) (X := Nat) (fun i => (70, aI i) :: (14, .sl ((((x1.gs.map (·.2)).take i).map (outRow keys aggs)).map fun r => [aRow r]) (some (([j1 + (i1 + 10)], 0), i))) :: uk [16, 17, 19, 71, 72, 73, 74, 75, 76, 77, 78, 79, 80, 81, 82, 83, 84, 85, 86, 87, 88, 89, 90, 91, 92, 93, 94, 95, 96, 97, 98, 99]) (fun i => [(([j1 + (i1 + 10)], 0), .tok i 49 1), (([0], 0), .var 42 (encB a)), (([1], 0), .var 42 [.sl [] (some (([1], 1), 0)), .sl [] (some (([1], 2), 0))])]) (fun k i => k = x1.gs.length - i ∧ i ≤ x1.gs.length) (x1.gs.length) (0) (GhI.of_wk ⟨by simp [ovr, uk, lessT, neJ2, neJ2', neJ3, neJ3', neJ4, neJ4', neJ5, neJ5', neK, neK', neK2, neK2', neL, neL', neL2, neL2'], by simp [lessR, lk, neJ2, neJ2', neJ3, neJ3', neJ4, neJ4', neJ5, neJ5', neK, neK', neK2, neK2', neL, neL', neL2, neL2'], by (try dsimp only); omega, keep0⟩) (by simp) ?_
  intro k2 x2 j2 hr2
  obtain ⟨rfl, hi2⟩ := hr2
  simp only [ovr, uk, List.set_cons_zero, List.set_cons_succ]
  refine PI.q ?_
  refine rg18v27 (j2 + (j1 + (i1 + 15))) [] fun all20 _ => ?_
  refine GoI.z nf27 ?_
  refine PI.q ?_
  refine PI.d 71 nf27 (fun hb4 => ?_) (fun hb4 => ?_)
  ·
   try simp only [hb4]
   obtain ⟨hlt2, hw2⟩ := up hb4 (by unfold maxLen; omega)
   have hGi : x2 < (x1.gs.map (·.2)).length := by omega
   have hx2 := rows2_at hGi
   have hgle := hel _ (List.getElem_mem hGi)
   have hgne := fun h => hne h _ (List.getElem_mem hGi)
   have hgm := hmem _ (List.getElem_mem hGi)
   have hts2 : ((x1.gs.map (·.2)).take (x2 + 1)).map (outRow keys aggs) = ((x1.gs.map (·.2)).take x2).map (outRow keys aggs) ++ [outRow keys aggs (x1.gs.map (·.2))[x2]] := map_take_succ' hGi
   generalize hg : (x1.gs.map (·.2))[x2] = g
   rw [hg] at hts2 hgle hgne hgm
   have hap2 : (x2 + 1) * 24 ≤ 140737488355328 := by omega
   have hap2' : (((x1.gs.map (·.2)).take x2).length + 1) * 24 ≤ 140737488355328 := by rw [List.length_take]; omega
   replace U := U.cons (And.intro (hw2) (And.intro (hx2) (And.intro (hg) (And.intro (hap2) (hap2')))))
   refine PI.s ?_
   refine PI.q ?_
   refine PI.b 3 ?_
   refine PI.q ?_
   refine rg18v27 (j2 + (j1 + (i1 + 18))) [] fun all21 _ => ?_
   refine GoI.runN 2 nf27 ?_
   refine GoI.z nf27 ?_
   refine PI.q ?_
   refine rg18v27 (j2 + (j1 + (i1 + 19))) [] fun all22 _ => ?_
   refine GoI.z nf27 ?_
   refine PI.sjj (by kernel_rfl) (by kernel_rfl) (X := GPX) (fun x => (17, .sl ((baseRow keys g).map encV) (some (([x.m], 0), x.v))) :: uk [74, 75, 76, 77, 78, 79, 80, 81]) (fun x => [(([x.m], 0), .tok x.v 25 3), (([j1 + (i1 + 10)], 0), .tok x2 49 1), (([0], 0), .var 42 (encB a)), (([1], 0), .var 42 [.sl [] (some (([1], 1), 0)), .sl [] (some (([1], 2), 0))])]) (fun x j => j2 + (j1 + (i1 + 18)) ≤ x.m ∧ x.m < j + (j2 + (j1 + (i1 + 19)))) ?_ ?_
   ·
    refine PI.q ?_
    refine rg18v27 (j2 + (j1 + (i1 + 22))) [] fun all23 _ => ?_
    refine GoI.runN 2 nf27 ?_
    refine GoI.z nf27 ?_
    refine PI.d 76 nf27 (fun hb5 => ?_) (fun hb5 => ?_)
    ·
     try simp only [hb5]
     have hk0 : keys ≠ [] := by rintro rfl; simp at hb5
     have hy2 := row0_at (hgne hk0)
     have hbase := baseRow_ne hk0 g
     replace U := U.cons (hy2)
     refine rg18v27 (j2 + (j1 + (i1 + 28))) [] fun all24 _ => ?_
     refine GoI.runN 2 nf27 ?_
     refine GoI.runN 2 nf27 ?_
     refine GoI.call2 nf27 nf27 (by exact okPick2 (g.getD 0 []) keys (by omega)) (by repeat (first | exact trivial | exact Or.inl rfl | exact Or.inr (Or.inl rfl) | exact Or.inr (Or.inr rfl) | apply And.intro)) (by first | exact .inr rfl | exact .inl rfl) (by exact fun h => by cases h) ?_
     try simp only [List.reverse_cons, List.reverse_nil, List.nil_append, List.cons_append, List.append_assoc]
     refine GoI.z nf27 ?_
     refine ⟨⟨j2 + (j1 + (i1 + 26)), keys.length⟩, 9, ⟨by dsimp only; omega, by dsimp only; omega⟩, GhI.of_wk ⟨by simp [ovr, uk, lessT, hbase], by simp [lessR, lk, neK, neK', neL, neL', neJ2, neJ2', neJ3, neJ3'], by (try dsimp only); omega, keep0⟩⟩
    try simp only [hb5]
    have hk0 : keys = [] := by cases keys with | nil => rfl | cons k l => (simp at hb5; try omega)
    subst hk0
    refine PI.s ?_
    refine ⟨⟨j2 + (j1 + (i1 + 18)), 0⟩, 3, ⟨by dsimp only; omega, by dsimp only; omega⟩, GhI.of_wk ⟨by simp [ovr, uk, lessT, baseRow_nil], by simp [lessR, lk, neK, neK', neL, neL', neJ2, neJ2', neJ3, neJ3'], by (try dsimp only); omega, keep0⟩⟩
   intro y5 i2 hr5
   obtain ⟨hm1, hm2⟩ := hr5
   have hbl := baseRow_len keys g
   have ho : outRow keys aggs g = baseRow keys g ++ aggs.map (aggV g) := rfl
   generalize hbs : baseRow keys g = bs
   rw [hbs] at hbl ho
   have hN : GNM i1 j1 j2 i2 y5.m := ⟨fun c hc => eq_false (by omega), fun b c hc => eq_false (by omega), eq_false (by omega), eq_false (by omega), eq_false (by omega)⟩
   replace U := U.cons (And.intro hN.a (And.intro hN.b (And.intro hN.o (And.intro hN.z hN.w))))
   clear hm1 hm2
   simp only [ovr, uk, List.set_cons_zero, List.set_cons_succ]
   refine PI.q ?_
   refine PI.q ?_
   refine rg18v27 (i2 + (j2 + (j1 + (i1 + 22)))) [] fun all25 _ => ?_
   refine GoI.runN 2 nf27 ?_
   refine GoI.z nf27 ?_
   refine PI.b 4 ?_
   refine PI.lo (by kernel_rfl) (X := Nat) (fun i => (84, aI i) :: (17, .sl ((bs ++ (aggs.take i).map (aggV g)).map encV) (some (([y5.m], 0), y5.v + i))) :: uk [19, 85, 86, 87, 88, 89, 90, 91, 92, 93, 94]) (fun i => [(([y5.m], 0), .tok (y5.v + i) 25 3), (([j1 + (i1 + 10)], 0), .tok x2 49 1), (([0], 0), .var 42 (encB a)), (([1], 0), .var 42 [.sl [] (some (([1], 1), 0)), .sl [] (some (([1], 2), 0))])]) (fun k i => k = aggs.length - i ∧ i ≤ aggs.length) (aggs.length) (0) (GhI.of_wk ⟨by simp [ovr, uk, lessT], by simp [lessR, lk, hN.a, hN.b, hN.o, hN.z, hN.w, neJ2, neJ2'], by (try dsimp only); omega, keep0⟩) (by simp) ?_
   intro k3 x3 j3 hr3
   obtain ⟨rfl, hi3⟩ := hr3
   simp only [ovr, uk, List.set_cons_zero, List.set_cons_succ]
   refine PI.q ?_
   refine rg18v27 (j3 + (i2 + (j2 + (j1 + (i1 + 23))))) [] fun all26 _ => ?_
   refine GoI.z nf27 ?_
   refine PI.q ?_
   refine PI.d 85 nf27 (fun hb6 => ?_) (fun hb6 => ?_)
   ·
    try simp only [hb6]
    obtain ⟨hlt3, hw3⟩ := up hb6 (by unfold maxLen; omega)
    have hx3 := aggs_at hlt3
    have hts3 : (aggs.take (x3 + 1)).map (aggV g) = (aggs.take x3).map (aggV g) ++ [aggV g aggs[x3]] := map_take_succ' hlt3
    have hap3 := ap3 (g := g) (x3 := x3) (Nat.le_trans hbl hlk) hlg
    replace U := U.cons (And.intro (hw3) (And.intro (hx3) (hap3)))
    refine PI.s ?_
    refine PI.q ?_
    refine PI.b 5 ?_
    refine PI.q ?_
    refine rg18v27 (j3 + (i2 + (j2 + (j1 + (i1 + 27))))) [] fun all27 _ => ?_
    refine GoI.runN 2 nf27 ?_
    refine GoI.z nf27 ?_
    refine rg18v27 (j3 + (i2 + (j2 + (j1 + (i1 + 34))))) [] fun all28 _ => ?_
    refine GoI.runN 2 nf27 ?_
    refine GoI.run nf27 ?_
    refine GoI.call nf27 nf27 (by exact okAggregate _ _ (by omega) (fun r hr => hir r (hgm r hr)) (fun r hr => hiv r (hgm r hr))) ?_
    refine GoI.runN 2 nf27 ?_
    refine GoI.z nf27 ?_
    refine rg18v27 (j3 + (i2 + (j2 + (j1 + (i1 + 36))))) [] fun all29 _ => ?_
    refine GoI.z nf27 ?_
    refine ⟨aggs.length - (x3 + 1), x3 + 1, j3 + 14, by omega, ⟨rfl, by omega⟩, GhI.of_wk ⟨by simp [ovr, uk, lessT, hts3, Nat.add_assoc], by simp [lessR, lk, hN.a, hN.b, hN.o, hN.z, hN.w, Nat.add_assoc, neJ2, neJ2', neJ3, neJ3', neJ4, neJ4', neJ5, neJ5', neK, neK', neK2, neK2'], by (try dsimp only); omega, keep0⟩⟩
   try simp only [hb6]
   have hge3 := dn hb6
   rw [List.take_of_length_le hge3]
   refine PI.e 4 ?_
   refine rg18v27 (j3 + (i2 + (j2 + (j1 + (i1 + 28))))) [] fun all30 _ => ?_
   refine GoI.runN 2 nf27 ?_
   refine GoI.runN 2 nf27 ?_
   refine GoI.z nf27 ?_
   refine rg18v27 (j3 + (i2 + (j2 + (j1 + (i1 + 30))))) [] fun all31 _ => ?_
   refine GoI.z nf27 ?_
   refine ⟨x1.gs.length - (x2 + 1), x2 + 1, j3 + (i2 + (j2 + 16)), by omega, ⟨rfl, by omega⟩, GhI.of_wk ⟨by simp [ovr, uk, lessT, hts2, ho], by simp [lessR, lk, hN.a, hN.b, hN.o, hN.z, hN.w, neJ2, neJ2', neJ3, neJ3', neJ4, neJ4', neJ5, neJ5', neK, neK', neK2, neK2', neL, neL', neL2, neL2', neL3, neL3'], by (try dsimp only); omega, keep0⟩⟩
  try simp only [hb4]
  have hge2 := dn hb4
  rw [List.take_of_length_le (by omega)]
  refine PI.e 2 ?_
  refine PI.q ?_
  refine rg18v27 (j2 + (j1 + (i1 + 25))) [] fun all32 _ => ?_
  refine GoI.runN 2 nf27 ?_
  refine GoI.runN 2 nf27 ?_
  refine GoI.call nf27 nf27 (by exact okGroupedS _ _ _ (by omega) (by omega)) ?_
  refine GoI.runN 2 nf27 ?_
  refine GoI.runN 2 nf27 ?_
  refine GoI.z nf27 ?_
  refine PI.q ?_
  refine rg18v27 (j2 + (j1 + (i1 + 29))) [] fun all33 _ => ?_
  refine GoI.runN 2 nf27 ?_
  refine GoI.call nf27 nf27 (by exact okBag _ _ (by have := grpK_len keys aggs a.kinds; omega) ⟨by simp; omega, fun r hr => by obtain ⟨g, _, rfl⟩ := List.mem_map.1 hr; have := outRow_len keys aggs g; omega⟩) ?_
  refine GoI.z nf27 ?_
  refine PI.r ?_
  exact FinI.mk _ nf27 (by clear U; first | (simp [finR, nrmA, nrm, AV.content]; done) | rfl)
end Go.FE
namespace Go.FE
open Go.Proofs
def decV (l : List UInt8) : Nat := l.foldl (fun a c => a * 10 + (c.toNat - 48)) 0
theorem u8_toNat {n : Nat} (h : n < 10) : (UInt8.ofNat (48 + n)).toNat = 48 + n := by
  rw [UInt8.toNat_ofNat', Nat.mod_eq_of_lt (by omega)]
theorem decV_dec (u : Nat) : decV (Lib.decDigits u) = u := by
  induction u using Nat.strongRecOn with
  | _ u ih =>
    rw [Lib.decDigits]
    split
    · rename_i h
      simp only [decV, List.foldl_cons, List.foldl_nil]
      rw [u8_toNat h]; omega
    · rename_i h
      have hi := ih (u / 10) (by omega)
      unfold decV at hi ⊢
      rw [List.foldl_append, hi]
      simp only [List.foldl_cons, List.foldl_nil]
      rw [u8_toNat (Nat.mod_lt _ (by decide))]; omega
theorem dec_dig (u : Nat) : ∀ c ∈ Lib.decDigits u, 48 ≤ c.toNat ∧ c.toNat < 58 := by
  induction u using Nat.strongRecOn with
  | _ u ih =>
    intro c hc
    rw [Lib.decDigits] at hc
    split at hc
    · rename_i h
      rw [List.mem_singleton.1 hc, u8_toNat h]; omega
    · rename_i h
      rcases List.mem_append.1 hc with h1 | h1
      · exact ih _ (by omega) c h1
      · have := Nat.mod_lt u (show 0 < 10 by decide)
        rw [List.mem_singleton.1 h1, u8_toNat this]; omega
theorem itoa_inj {a b : Int} (h : Lib.itoa a = Lib.itoa b) : a = b := by
  have hne : ∀ u v : Nat, 45 :: Lib.decDigits u ≠ Lib.decDigits v := fun u v e => by
    have := (dec_dig v 45 (by rw [← e]; exact List.mem_cons_self)).1
    revert this; decide
  unfold Lib.itoa at h
  split at h <;> split at h
  · injection h with _ h
    have h1 := decV_dec a.natAbs
    rw [h, decV_dec] at h1
    omega
  · exact absurd h (hne _ _)
  · exact absurd h.symm (hne _ _)
  · have h1 := decV_dec a.toNat
    rw [h, decV_dec] at h1
    omega
theorem itoa_58 (a : Int) : (58 : UInt8) ∉ Lib.itoa a := by
  intro hc
  unfold Lib.itoa at hc
  split at hc
  · rcases List.mem_cons.1 hc with h | h
    · revert h; decide
    · have := (dec_dig _ _ h).2; revert this; decide
  · have := (dec_dig _ _ hc).2; revert this; decide
/-- What stands ahead of the first colon. -/
theorem colon_inj : ∀ {a b c d : List UInt8}, 58 ∉ a → 58 ∉ b → a ++ 58 :: c = b ++ 58 :: d → a = b ∧ c = d
  | [], [], c, d, _, _, h => ⟨rfl, by simpa using h⟩
  | [], y :: b, c, d, _, hb, h => by simp at h; exact absurd (by rw [h.1]; exact List.mem_cons_self) hb
  | x :: a, [], c, d, ha, _, h => by simp at h; exact absurd (by rw [h.1]; exact List.mem_cons_self) ha
  | x :: a, y :: b, c, d, ha, hb, h => by
    simp at h
    obtain ⟨h1, h2⟩ := colon_inj (fun q => ha (List.mem_cons_of_mem _ q)) (fun q => hb (List.mem_cons_of_mem _ q)) h.2
    exact ⟨by rw [h.1, h1], h2⟩
theorem keyV_inj {v v' : Vl} {c d : List UInt8} (h : keyV v ++ c = keyV v' ++ d) : v = v' ∧ c = d := by
  unfold keyV at h
  simp only [List.append_assoc, List.singleton_append, itoa] at h
  obtain ⟨h1, h⟩ := colon_inj (itoa_58 _) (itoa_58 _) h
  obtain ⟨h2, h⟩ := colon_inj (itoa_58 _) (itoa_58 _) h
  obtain ⟨h3, h⟩ := colon_inj (itoa_58 _) (itoa_58 _) h
  have h3 := itoa_inj h3
  have h4 := List.append_inj h (by
    have e1 : v.s.data.toList.length = v.s.size := Array.length_toList
    have e2 : v'.s.data.toList.length = v'.s.size := Array.length_toList
    omega)
  refine ⟨?_, h4.2⟩
  have hs : v.s = v'.s := by
    have := h4.1
    cases hv : v.s; cases hv' : v'.s
    rw [hv, hv'] at this
    congr 1
    exact Array.ext' this
  cases v; cases v'
  simp only at h1 h2 hs
  rw [itoa_inj h1, itoa_inj h2, hs]
theorem keyV_ne (v : Vl) (c : List UInt8) : keyV v ++ c ≠ [] := by unfold keyV; simp
theorem keyR_inj : ∀ {a b : Row}, keyR a = keyR b → a = b
  | [], [], _ => rfl
  | [], v :: b, h => absurd h.symm (keyV_ne v _)
  | v :: a, [], h => absurd h (keyV_ne v _)
  | v :: a, v' :: b, h => by
    obtain ⟨h1, h2⟩ := keyV_inj (v := v) (v' := v') (c := keyR a) (d := keyR b) (by simpa [keyR] using h)
    rw [h1, keyR_inj h2]
theorem keyB_inj {a b : Row} (h : keyB a = keyB b) : a = b := by
  apply keyR_inj
  have := congrArg (fun x : ByteArray => x.data.toList) h
  simpa [keyB] using this
end Go.FE
namespace Go.FE
open Go.Proofs
def selR (keys : List Int) (k : Row) (rows : List Row) : List Row := rows.filter fun r => eqR (pickR r keys) k
theorem selR_snoc (keys : List Int) (k : Row) (rows : List Row) (r : Row) : selR keys k (rows ++ [r]) = selR keys k rows ++ if pickR r keys = k then [r] else [] := by
  unfold selR
  rw [List.filter_append]
  congr 1
  by_cases h : pickR r keys = k
  · rw [if_pos h, List.filter_cons, if_pos (eqR_iff.2 h)]; rfl
  · rw [if_neg h, List.filter_cons, if_neg (fun h' => h (eqR_iff.1 h'))]; rfl
structure GrK (keys : List Int) (rows : List Row) (st : GrS) (ks : List Row) : Prop where
  g : st.g = ks.map fun k => selR keys k rows
  f : ∀ k i, st.f (keyB k) = some i ↔ 0 ≤ i ∧ ks[i.toNat]? = some k
  nd : ks.Nodup
  me : ∀ k, k ∈ ks ↔ k ∈ rows.map (fun r => pickR r keys) ∨ (keys = [] ∧ k = [])
theorem grK (keys : List Int) (rows : List Row) : ∃ ks, GrK keys rows (grpR keys rows) ks := by
  induction rows using snoc_ind with
  | h0 =>
    unfold grpR grp0
    rw [List.foldl_nil]
    by_cases hk : keys = []
    · rw [if_pos hk]
      refine ⟨[[]], by simp [selR], fun k i => ?_, by simp, fun k => by simp [hk]⟩
      dsimp only [upd]
      by_cases h : k = []
      · subst h
        simp only [if_true, Option.some.injEq]
        constructor
        · rintro rfl; exact ⟨Int.le_refl _, rfl⟩
        · rintro ⟨h0, h1⟩
          have := (List.getElem?_eq_some_iff.1 h1).1
          simp at this; omega
      · rw [if_neg (fun e => h (keyB_inj e))]
        constructor
        · intro h; cases h
        · rintro ⟨h0, h1⟩
          have h2 := List.mem_of_getElem? h1
          exact absurd (List.mem_singleton.1 h2) h
    · rw [if_neg hk]
      exact ⟨[], rfl, fun k i => by simp, by simp, fun k => by simp [hk]⟩
  | h1 rows r ih =>
    obtain ⟨ks, hg, hf, hn, hm⟩ := ih
    rw [grpR_snoc]
    generalize grpR keys rows = st at hg hf
    unfold grpStep
    generalize hkr : pickR r keys = kr
    split
    · rename_i i hfi
      obtain ⟨hi0, hi⟩ := (hf kr i).1 hfi
      have hil := (List.getElem?_eq_some_iff.1 hi).1
      have hie := (List.getElem?_eq_some_iff.1 hi).2
      refine ⟨ks, ?_, hf, hn, fun k => ?_⟩
      · dsimp only
        rw [hg]
        apply List.ext_getElem (by simp)
        intro j h1 h2
        simp only [List.length_set, List.length_map] at h1 h2
        rw [List.getElem_set, List.getElem_map, List.getElem_map, selR_snoc, hkr]
        split
        · rename_i e; subst e
          rw [hie, if_pos rfl, List.getD_eq_getElem?_getD, List.getElem?_map, hi]; rfl
        · rename_i e
          rw [if_neg (fun h => e ((List.getElem_inj (h₀ := hil) (h₁ := h2) hn).1 (by rw [hie, h])))]
          simp
      · rw [hm k, List.map_append]
        simp only [List.mem_append, List.map_cons, List.map_nil, List.mem_singleton, hkr]
        constructor
        · rintro (h | h)
          · exact .inl (.inl h)
          · exact .inr h
        · rintro ((h | h) | h)
          · exact .inl h
          · subst h; exact (hm _).1 (List.mem_of_getElem? hi)
          · exact .inr h
    · rename_i hfn
      have hnk : kr ∉ ks := fun h => by
        obtain ⟨j, hj, e⟩ := List.mem_iff_getElem.1 h
        have := (hf kr j).2 ⟨by omega, by simp [hj, e]⟩
        rw [hfn] at this; cases this
      have hgl : st.g.length = ks.length := by rw [hg]; simp
      have hsel : selR keys kr rows = [] := by
        unfold selR
        rw [List.filter_eq_nil_iff]
        intro q hq h
        exact hnk ((hm kr).2 (.inl (List.mem_map.2 ⟨q, hq, eqR_iff.1 h⟩)))
      refine ⟨ks ++ [kr], ?_, fun k i => ?_, ?_, fun k => ?_⟩
      · dsimp only
        rw [List.map_append, hg]
        congr 1
        · apply List.map_congr_left
          intro k hk
          rw [selR_snoc, hkr, if_neg (fun h : kr = k => hnk (by rw [h]; exact hk)), List.append_nil]
        · simp [selR_snoc, hkr, hsel]
      · dsimp only [upd]
        rw [hgl]
        by_cases h : k = kr
        · subst h
          simp only [if_true, Option.some.injEq]
          constructor
          · rintro rfl
            exact ⟨by omega, by simp⟩
          · rintro ⟨h0, h1⟩
            rcases Nat.lt_or_ge i.toNat ks.length with h2 | h2
            · rw [List.getElem?_append_left h2] at h1
              exact absurd (List.mem_of_getElem? h1) hnk
            · have := (List.getElem?_eq_some_iff.1 h1).1
              simp at this; omega
        · rw [if_neg (fun e => h (keyB_inj e)), hf k i]
          constructor
          · rintro ⟨h0, h1⟩
            exact ⟨h0, by rw [List.getElem?_append_left (List.getElem?_eq_some_iff.1 h1).1]; exact h1⟩
          · rintro ⟨h0, h1⟩
            refine ⟨h0, ?_⟩
            rcases Nat.lt_or_ge i.toNat ks.length with h2 | h2
            · rw [List.getElem?_append_left h2] at h1; exact h1
            · have h3 := List.mem_of_getElem? h1
              rw [List.getElem?_append_right h2] at h1
              exact absurd (List.mem_singleton.1 (List.mem_of_getElem? h1)) h
      · rw [List.nodup_append]
        exact ⟨hn, by simp, fun a ha b hb e => by simp at hb; subst hb; exact hnk (e ▸ ha)⟩
      · rw [List.map_append]
        simp only [List.mem_append, List.map_cons, List.map_nil, List.mem_singleton, hkr, hm k]
        constructor
        · rintro ((h | h) | h)
          · exact .inl (.inl h)
          · exact .inr h
          · exact .inl (.inr h)
        · rintro ((h | h) | h)
          · exact .inl (.inl h)
          · exact .inr h
          · exact .inl (.inr h)
/-- The different keys, in ascending order. -/
def keysD (keys : List Int) (rows : List Row) : List Row := if rows = [] ∧ keys = [] then [[]] else dd (rows.map fun r => pickR r keys)
def grpD (keys : List Int) (aggs : List Ag) (rows : List Row) : List Row := (keysD keys rows).map fun k => k ++ aggs.map (aggV (selR keys k rows))
theorem keysD_mem (keys : List Int) (rows : List Row) (k : Row) : k ∈ keysD keys rows ↔ k ∈ rows.map (fun r => pickR r keys) ∨ (keys = [] ∧ k = []) := by
  unfold keysD
  split
  · rename_i h; rw [h.1, h.2]; simp
  · rename_i h
    rw [dd_mem]
    constructor
    · exact .inl
    · rintro (h1 | ⟨h1, h2⟩)
      · exact h1
      · subst h1 h2
        cases rows with
        | nil => exact absurd ⟨rfl, rfl⟩ h
        | cons r l => exact List.mem_map.2 ⟨r, List.mem_cons_self, rfl⟩
theorem keysD_ss (keys : List Int) (rows : List Row) : Ss (keysD keys rows) := by
  unfold keysD
  split
  · exact List.pairwise_singleton _ _
  · exact dd_ss _
theorem nd_cnt : ∀ {l : List Row}, l.Nodup → ∀ r, cntR l r = if r ∈ l then 1 else 0
  | [], _, r => by simp [cntR]
  | x :: l, h, r => by
    rw [List.nodup_cons] at h
    rw [cntR_cons, nd_cnt h.2 r]
    by_cases h1 : x = r
    · subst h1; simp [h.1]
    · by_cases h2 : r ∈ l
      · simp [h1, h2]
      · simp [h1, h2, Ne.symm h1]
theorem nd_perm {a b : List Row} (ha : a.Nodup) (hb : b.Nodup) (h : ∀ r, r ∈ a ↔ r ∈ b) : a.Perm b :=
  perm_of_cnt fun r => by rw [nd_cnt ha, nd_cnt hb]; simp [h r]
theorem ss_nd {l : List Row} (h : Ss l) : l.Nodup := h.imp fun {a b} h e => by subst e; have := preR.refl a; omega
/-- The code's groups are the keys' groups. -/
theorem grp_law (keys : List Int) (aggs : List Ag) (rows : List Row) : (grpOut keys aggs rows).Perm (grpD keys aggs rows) := by
  obtain ⟨ks, hg, hf, hn, hm⟩ := grK keys rows
  have hp : ks.Perm (keysD keys rows) := nd_perm hn (ss_nd (keysD_ss keys rows)) fun r => by rw [hm r, keysD_mem]
  have he : grpOut keys aggs rows = ks.map fun k => k ++ aggs.map (aggV (selR keys k rows)) := by
    unfold grpOut
    rw [hg, List.map_map]
    apply List.map_congr_left
    intro k hk
    show outRow keys aggs (selR keys k rows) = _
    unfold outRow
    congr 1
    by_cases hk0 : keys = []
    · subst hk0
      rw [baseRow_nil]
      rcases (hm k).1 hk with h | h
      · obtain ⟨r, _, e⟩ := List.mem_map.1 h; rw [← e]; rfl
      · exact h.2.symm
    · rw [baseRow_ne hk0]
      rcases (hm k).1 hk with h | h
      · obtain ⟨r, hr, e⟩ := List.mem_map.1 h
        have hne : selR keys k rows ≠ [] := fun h0 => by
          have : r ∈ selR keys k rows := List.mem_filter.2 ⟨hr, eqR_iff.2 e⟩
          rw [h0] at this; cases this
        cases hs : selR keys k rows with
        | nil => exact absurd hs hne
        | cons q l =>
          have : q ∈ selR keys k rows := by rw [hs]; exact List.mem_cons_self
          exact eqR_iff.1 (List.mem_filter.1 this).2
      · exact absurd h.1 hk0
  rw [he]
  exact hp.map _
end Go.FE
