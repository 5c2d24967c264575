/- Kinds, valid bags, equal bags. -/
import Derived.Test.YtmblejfjbnoodaaGreatDoorS09
import Derived.Test.YtmblejfjbnoodaaGreatDoorS13
set_option linter.unusedVariables false
set_option linter.unusedSimpArgs false
namespace Go.FE
open Go.Proofs
theorem nf5 {α : Type} {a b : α} (h : a = b := by simp only [goP, goN, mrk, Nat.reduceMul, Nat.one_mul, Nat.mul_one, eq_self, false_implies, implies_true, Nat.reduceLT, List.getElem?_toArray, isCall, List.contains_nil, List.contains_cons, Nat.reduceBEq, Bool.or_false, Bool.or_self, List.length_map, gOf, step, stepM, stepP, ev, okV, if_true, if_false, allocA, storeA, boxA, one1, tokN, tok1, buildA, rowA, nrmP, partV, partA, fieldA, fieldV, elemA, lenA, bltA, asSl, appA, makeA, makeR, cutA, bndA, binV, intOp, strOp, unV, eqB, nilB, sameT, List.all_cons, List.all_nil, Bool.and_self, Bool.and_true, Bool.true_and, List.map_cons, List.map_nil, List.nil_append, List.cons_append, List.append_nil, AV.bare, AV.content, AV.clean, AV.one, putD, List.set_cons_zero, List.set_cons_succ, List.reverse_cons, List.reverse_nil, List.getD_cons_zero, List.getD_cons_succ, List.getElem?_cons_zero, List.getElem?_cons_succ, Option.getD_some, Option.map_some, Option.map_none, Option.bind_some, List.length_cons, List.length_nil, lk, cellsA, fillA, fillS, isAggD, spl, nrm, nrmA, List.take_succ_cons, List.take_zero, List.drop_succ_cons, List.drop_zero, List.drop_nil, List.take_nil, Nat.reduceAdd, Nat.zero_add, Nat.add_zero, Nat.add_assoc, Nat.add_left_cancel_iff, reduceCtorEq, Prod.mk.injEq, List.cons.injEq, and_self, and_true, true_and, Nat.le_refl, Nat.reduceLeDiff, Nat.reduceEqDiff, List.getElem?_nil, Int.reduceToNat, Int.reduceLE, Int.reduceLT, ite_self, List.forall_mem_cons, List.not_mem_nil, false_and, and_false, Bool.false_eq_true, List.replicate_zero, List.replicate_succ, Int.toNat_natCast, neJ2, neJ2', neJ3, neJ3', callOf, callOf2, fnOf, argsA, args2, Array.isEmpty_empty, resLL, resVL, beq_self_eq_true, st3, zt3, it3, ct3, se3, Tryz.underlying3, st4, zt4, it4, ct4, se4, Tryz.underlying4, Tryz.results126, st22, zt22, it22, ct22, se22, Tryz.underlying22, Tryz.results87, Tryz.results14, st9, zt9, it9, ct9, se9, Tryz.underlying9, st25, zt25, it25, ct25, pt25, eqs25, se25, Tryz.underlying25, st49, zt49, it49, ct49, se49, Tryz.underlying49, Tryz.results122, Int.natCast_nonneg, Tryz.results86, st23, zt23, it23, ct23, se23, Tryz.underlying23, st42, zt42, it42, ct42, pt42, se42, Tryz.underlying42, Tryz.results52, Tryz.results15, Tryz.results21, Tryz.results17, U.out] <;> rfl) : a = b := h
abbrev aBag (b : Bag) : AV := .agg 2 (encB b)
def kindS (k : Int) : Bool := k == 1 || k == 2 || k == 3
theorem rg126v5 {T : List Rid} {p : Path} {Q : Exit → SL → Prop} {tm : List AV} {L : RL} {n : Nat} {c : Code} {l : List Oper} (n' : Nat) (Qs : List Nat) (h : ∀ all, (ro c).toList = all → GoI Tryz.prog T p all false Qs n 0 l tm L fun tm' L' => Q .normal ⟨tm', L', n'⟩) (hk : kd c = 0 := by kernel_rfl) (hr : rd c = false := by kernel_rfl) (hl : (ro c).toList = l := by dsimp only [ro, s1, s2, c1, c2, bc, bod, Tryz.f126, Option.getD_some] <;> exact rfl) (hn : n + (ro c).size = n' := by kernel_rfl) : PI Tryz.prog T p c Q ⟨tm, L, n⟩ := PI.rg n' Qs hk hr hl (fun h => by cases h) hn (h _ rfl)
theorem okKind (k : Int) : CallsOK Tryz.prog 126 [.v (.int .i64 k)] (.v (.bool (kindS k))) := by
  have U : Hid True := ⟨trivial⟩
  refine CallsOK.of_pi mixed Tryz.func126 (by kernel_rfl) (by kernel_rfl) (?_ : PI _ _ _ _ _ ⟨[.v (.int .i64 k), .und, .und, .und, .und, .und, .und, .und, .und, .und, .und, .und, .und], [], 0⟩)
  refine PI.q ?_
  refine rg126v5 (1) [] fun all1 _ => ?_
  refine GoI.z nf5 ?_
  refine PI.q ?_
  refine rg126v5 (12) [] fun all2 hall2 => ?_
  have hgd2_2 : (all2[2]?).bind (fun o => o.dst) = some 5 := by rw [← hall2]; kernel_rfl
  have hgd2_6 : (all2[6]?).bind (fun o => o.dst) = some 9 := by rw [← hall2]; kernel_rfl
  replace U := U.cons (And.intro (hgd2_2) (hgd2_6))
  refine GoI.runN 2 nf5 ?_
  refine GoI.runN 1 nf5 ?_
  refine GoI.grd 5 nf5 (fun hg1 => ?_) (fun hg1 => ?_)
  ·
   try simp only [hg1]
   refine GoI.runN 2 nf5 ?_
   refine GoI.runN 2 nf5 ?_
   refine GoI.runN 2 nf5 ?_
   refine GoI.z nf5 ?_
   refine PI.r ?_
   exact FinI.mk _ nf5 (by clear U; simp_all [finR, nrmA, nrm, AV.content, kindS])
  try simp only [hg1]
  refine GoI.runN 2 nf5 ?_
  refine GoI.runN 2 nf5 ?_
  refine GoI.grd 9 nf5 (fun hg2 => ?_) (fun hg2 => ?_)
  ·
   try simp only [hg2]
   refine GoI.runN 2 nf5 ?_
   refine GoI.z nf5 ?_
   refine PI.r ?_
   exact FinI.mk _ nf5 (by clear U; simp_all [finR, nrmA, nrm, AV.content, kindS])
  try simp only [hg2]
  refine GoI.runN 2 nf5 ?_
  refine GoI.z nf5 ?_
  refine PI.r ?_
  exact FinI.mk _ nf5 (by clear U; simp_all [finR, nrmA, nrm, AV.content, kindS])
theorem rg87v5 {T : List Rid} {p : Path} {Q : Exit → SL → Prop} {tm : List AV} {L : RL} {n : Nat} {c : Code} {l : List Oper} (n' : Nat) (Qs : List Nat) (h : ∀ all, (ro c).toList = all → GoI Tryz.prog T p all false Qs n 0 l tm L fun tm' L' => Q .normal ⟨tm', L', n'⟩) (hk : kd c = 0 := by kernel_rfl) (hr : rd c = false := by kernel_rfl) (hl : (ro c).toList = l := by dsimp only [ro, s1, s2, c1, c2, bc, bod, Tryz.f87, Option.getD_some] <;> exact rfl) (hn : n + (ro c).size = n' := by kernel_rfl) : PI Tryz.prog T p c Q ⟨tm, L, n⟩ := PI.rg n' Qs hk hr hl (fun h => by cases h) hn (h _ rfl)
theorem okKinds (l : List Int) : CallsOK Tryz.prog 87 [ints l] (.v (.bool (l.all kindS))) := by
  refine CallsOK.bd (by kernel_rfl) 1 fun hbd => ?_
  have hl : l.length ≤ maxLen := ints_bd hbd (by simp)
  have U : Hid True := ⟨trivial⟩
  refine CallsOK.of_pi mixed Tryz.func87 (by kernel_rfl) (by kernel_rfl) (?_ : PI _ _ _ _ _ ⟨[ints l, .und, .und, .und, .und, .und, .und, .und, .und, .und, .und, .und, .und, .und, .und, .und], [], 0⟩)
  refine PI.q ?_
  refine rg87v5 (1) [] fun all1 _ => ?_
  refine GoI.z nf5 ?_
  refine PI.q ?_
  refine PI.q ?_
  refine rg87v5 (2) [] fun all2 _ => ?_
  refine GoI.z nf5 ?_
  refine PI.b 0 ?_
  refine PI.lo (by kernel_rfl) (X := Nat) (fun i => (3, aI i) :: uk [2, 4, 5, 6, 7, 8, 9, 10, 11, 12, 13, 14, 15]) (fun _ => []) (fun k i => k = l.length - i ∧ i ≤ l.length ∧ (l.take i).all kindS = true) (l.length) (0) (GhI.of_wk ⟨by simp [ovr, uk, lessT, neJ2, neJ2', neJ3, neJ3'], by simp [lessR, lk, neJ2, neJ2', neJ3, neJ3'], by (try dsimp only); omega, keep0⟩) (by simp) ?_
  intro k1 x1 j1 hr1
  obtain ⟨rfl, hi1, ha⟩ := hr1
  simp only [ovr, uk, List.set_cons_zero, List.set_cons_succ]
  refine PI.q ?_
  refine PI.q ?_
  refine rg87v5 (j1 + 6) [] fun all3 _ => ?_
  refine GoI.runN 2 nf5 ?_
  refine GoI.z nf5 ?_
  refine PI.d 7 nf5 (fun hb1 => ?_) (fun hb1 => ?_)
  ·
   try simp only [hb1]
   obtain ⟨hlt, hw⟩ := up hb1 hl
   have hg := ints_at hlt
   replace U := U.cons (And.intro (hw) (hg))
   refine PI.s ?_
   refine PI.q ?_
   refine PI.b 1 ?_
   refine PI.q ?_
   refine rg87v5 (j1 + 12) [] fun all4 _ => ?_
   refine GoI.runN 2 nf5 ?_
   refine GoI.runN 2 nf5 ?_
   refine GoI.call nf5 nf5 (by exact okKind _) ?_
   refine GoI.z nf5 ?_
   refine PI.d 15 nf5 (fun hb2 => ?_) (fun hb2 => ?_)
   ·
    try simp only [hb2]
    refine PI.q ?_
    refine rg87v5 (j1 + 13) [] fun all5 _ => ?_
    refine GoI.z nf5 ?_
    refine PI.r ?_
    exact FinI.mk _ nf5 (by clear U; first | (rw [all_full hx ha]; rfl) | (rw [all_not hlt (by simpa using hb2)]; rfl))
   try simp only [hb2]
   refine PI.s ?_
   refine rg87v5 (j1 + 15) [] fun all6 _ => ?_
   refine GoI.runN 2 nf5 ?_
   refine GoI.z nf5 ?_
   refine ⟨l.length - (x1 + 1), x1 + 1, j1 + 13, by omega, ⟨rfl, by omega, all_take hlt ha (by simpa using hb2)⟩, GhI.of_wk ⟨by simp [ovr, uk, lessT, neJ2, neJ2', neJ3, neJ3'], by simp [lessR, lk, neJ2, neJ2', neJ3, neJ3'], by (try dsimp only); omega, keep0⟩⟩
  try simp only [hb1]
  have hx := dn hb1
  refine PI.e 0 ?_
  refine PI.q ?_
  refine rg87v5 (j1 + 7) [] fun all7 _ => ?_
  refine GoI.z nf5 ?_
  refine PI.r ?_
  exact FinI.mk _ nf5 (by clear U; first | (rw [all_full hx ha]; rfl) | (rw [all_not hlt (by simpa using hb2)]; rfl))
theorem rg14v5 {T : List Rid} {p : Path} {Q : Exit → SL → Prop} {tm : List AV} {L : RL} {n : Nat} {c : Code} {l : List Oper} (n' : Nat) (Qs : List Nat) (h : ∀ all, (ro c).toList = all → GoI Tryz.prog T p all false Qs n 0 l tm L fun tm' L' => Q .normal ⟨tm', L', n'⟩) (hk : kd c = 0 := by kernel_rfl) (hr : rd c = false := by kernel_rfl) (hl : (ro c).toList = l := by dsimp only [ro, s1, s2, c1, c2, bc, bod, Tryz.f14, Option.getD_some] <;> exact rfl) (hn : n + (ro c).size = n' := by kernel_rfl) : PI Tryz.prog T p c Q ⟨tm, L, n⟩ := PI.rg n' Qs hk hr hl (fun h => by cases h) hn (h _ rfl)
theorem rd14v5 {T : List Rid} {p : Path} {Q : Exit → SL → Prop} {tm : List AV} {L : RL} {n : Nat} {c : Code} {l : List Oper} (n' : Nat) (Qs : List Nat) (h : ∀ all, (ro c).toList = all → GoI Tryz.prog T p all true Qs n 0 l tm L fun tm' L' => Q .normal ⟨tm', L', n'⟩) (hk : kd c = 0 := by kernel_rfl) (hr : rd c = true := by kernel_rfl) (hl : (ro c).toList = l := by dsimp only [ro, s1, s2, c1, c2, bc, bod, Tryz.f14, Option.getD_some] <;> exact rfl) (hn : n + (ro c).size = n' := by kernel_rfl) (hd : drawOK (ro c) Qs = true := by kernel_rfl) : PI Tryz.prog T p c Q ⟨tm, L, n⟩ := PI.rg n' Qs hk hr hl (fun _ => hd) hn (h _ rfl)
theorem okSameKinds (a b : List Int) : CallsOK Tryz.prog 14 [ints a, ints b] (.v (.bool (a == b))) := by
  refine CallsOK.bd (by kernel_rfl) 1 fun hbd => ?_
  have hl : a.length ≤ maxLen := ints_bd hbd (by simp)
  have U : Hid True := ⟨trivial⟩
  refine CallsOK.of_pi mixed Tryz.func14 (by kernel_rfl) (by kernel_rfl) (?_ : PI _ _ _ _ _ ⟨[ints a, ints b, .und, .und, .und, .und, .und, .und, .und, .und, .und, .und, .und, .und, .und, .und, .und, .und, .und, .und, .und, .und, .und, .und, .und, .und], [], 0⟩)
  refine PI.q ?_
  refine rg14v5 (1) [] fun all1 _ => ?_
  refine GoI.z nf5 ?_
  refine PI.q ?_
  refine PI.q ?_
  refine rg14v5 (6) [] fun all2 _ => ?_
  refine GoI.runN 2 nf5 ?_
  refine GoI.runN 2 nf5 ?_
  refine GoI.z nf5 ?_
  refine PI.d 10 nf5 (fun hb1 => ?_) (fun hb1 => ?_)
  ·
   try simp only [hb1]
   refine PI.q ?_
   refine rg14v5 (7) [] fun all3 _ => ?_
   refine GoI.z nf5 ?_
   refine PI.r ?_
   exact FinI.mk _ nf5 (by clear U; first | (have : a = b := by { rw [List.take_of_length_le (by omega), List.take_of_length_le (by omega)] at ha; exact ha }; subst this; simp [finR, nrmA, nrm, AV.content]; done) | (simp [finR, nrmA, nrm, AV.content]; intro h; subst h; simp at *; done) | (simp [finR, nrmA, nrm, AV.content]; intro h; subst h; simp at hb1))
  try simp only [hb1]
  have hlen : a.length = b.length := by simp at hb1; omega
  refine PI.s ?_
  refine PI.q ?_
  refine PI.q ?_
  refine rg14v5 (7) [] fun all4 _ => ?_
  refine GoI.z nf5 ?_
  refine PI.b 0 ?_
  refine PI.lo (by kernel_rfl) (X := Nat) (fun i => (5, aI i) :: uk [4, 11, 12, 13, 14, 15, 16, 17, 18, 19, 20, 21, 22, 23, 24, 25]) (fun _ => []) (fun k i => k = a.length - i ∧ i ≤ a.length ∧ a.take i = b.take i) (a.length) (0) (GhI.of_wk ⟨by simp [ovr, uk, lessT, neJ2, neJ2', neJ3, neJ3'], by simp [lessR, lk, neJ2, neJ2', neJ3, neJ3'], by (try dsimp only); omega, keep0⟩) (by simp) ?_
  intro k1 x1 j1 hr1
  obtain ⟨rfl, hi1, ha⟩ := hr1
  simp only [ovr, uk, List.set_cons_zero, List.set_cons_succ]
  refine PI.q ?_
  refine PI.q ?_
  refine rg14v5 (j1 + 11) [] fun all5 _ => ?_
  refine GoI.runN 2 nf5 ?_
  refine GoI.z nf5 ?_
  refine PI.d 14 nf5 (fun hb2 => ?_) (fun hb2 => ?_)
  ·
   try simp only [hb2]
   obtain ⟨hlt, hw⟩ := up hb2 hl
   have hg := ints_at hlt
   have hlt' : x1 < b.length := by omega
   have hg' := ints_at hlt'
   replace U := U.cons (And.intro (hw) (And.intro (hg) (hg')))
   refine PI.s ?_
   refine PI.q ?_
   refine PI.b 1 ?_
   refine PI.q ?_
   refine rd14v5 (j1 + 20) [] fun all6 _ => ?_
   refine GoI.runN 2 nf5 ?_
   refine GoI.runN 2 nf5 ?_
   refine GoI.runN 2 nf5 ?_
   refine GoI.runN 2 nf5 ?_
   refine GoI.z nf5 ?_
   refine PI.d 25 nf5 (fun hb3 => ?_) (fun hb3 => ?_)
   ·
    try simp only [hb3]
    refine PI.q ?_
    refine rg14v5 (j1 + 21) [] fun all7 _ => ?_
    refine GoI.z nf5 ?_
    refine PI.r ?_
    exact FinI.mk _ nf5 (by clear U; first | (have : a = b := by { rw [List.take_of_length_le (by omega), List.take_of_length_le (by omega)] at ha; exact ha }; subst this; simp [finR, nrmA, nrm, AV.content]; done) | (simp [finR, nrmA, nrm, AV.content]; intro h; subst h; simp at *; done) | (simp [finR, nrmA, nrm, AV.content]; intro h; subst h; simp at hb1))
   try simp only [hb3]
   refine PI.s ?_
   refine rg14v5 (j1 + 23) [] fun all8 _ => ?_
   refine GoI.runN 2 nf5 ?_
   refine GoI.z nf5 ?_
   refine ⟨a.length - (x1 + 1), x1 + 1, j1 + 16, by omega, ⟨rfl, by omega, by rw [List.take_succ_eq_append_getElem hlt, List.take_succ_eq_append_getElem hlt', ha]; simp at hb3; rw [hb3]⟩, GhI.of_wk ⟨by simp [ovr, uk, lessT, neJ2, neJ2', neJ3, neJ3'], by simp [lessR, lk, neJ2, neJ2', neJ3, neJ3'], by (try dsimp only); omega, keep0⟩⟩
  try simp only [hb2]
  have hx := dn hb2
  refine PI.e 0 ?_
  refine PI.q ?_
  refine rg14v5 (j1 + 12) [] fun all9 _ => ?_
  refine GoI.z nf5 ?_
  refine PI.r ?_
  exact FinI.mk _ nf5 (by clear U; first | (have : a = b := by { rw [List.take_of_length_le (by omega), List.take_of_length_le (by omega)] at ha; exact ha }; subst this; simp [finR, nrmA, nrm, AV.content]; done) | (simp [finR, nrmA, nrm, AV.content]; intro h; subst h; simp at *; done) | (simp [finR, nrmA, nrm, AV.content]; intro h; subst h; simp at hb1))
def fitV (v : Vl) (k : Int) : Bool := validV v && (v.k == k || v.k == 0)
def fits : Row → List Int → Bool
  | [], [] => true
  | v :: r, k :: l => fitV v k && fits r l
  | _, _ => false
theorem fits_len : ∀ {r : Row} {l : List Int}, fits r l = true → r.length = l.length
  | [], [], _ => rfl
  | v :: r, k :: l, h => by simp only [fits, Bool.and_eq_true] at h; simp [fits_len h.2]
  | [], _ :: _, h => by cases h
  | _ :: _, [], h => by cases h
theorem fits_at {r : Row} {l : List Int} {i : Nat} (h : i < r.length) (h' : i < l.length) : fits (r.drop i) (l.drop i) = (fitV r[i] l[i] && fits (r.drop (i + 1)) (l.drop (i + 1))) := by
  rw [List.drop_eq_getElem_cons h, List.drop_eq_getElem_cons h', fits]
theorem rg122v5 {T : List Rid} {p : Path} {Q : Exit → SL → Prop} {tm : List AV} {L : RL} {n : Nat} {c : Code} {l : List Oper} (n' : Nat) (Qs : List Nat) (h : ∀ all, (ro c).toList = all → GoI Tryz.prog T p all false Qs n 0 l tm L fun tm' L' => Q .normal ⟨tm', L', n'⟩) (hk : kd c = 0 := by kernel_rfl) (hr : rd c = false := by kernel_rfl) (hl : (ro c).toList = l := by dsimp only [ro, s1, s2, c1, c2, bc, bod, Tryz.f122, Option.getD_some] <;> exact rfl) (hn : n + (ro c).size = n' := by kernel_rfl) : PI Tryz.prog T p c Q ⟨tm, L, n⟩ := PI.rg n' Qs hk hr hl (fun h => by cases h) hn (h _ rfl)
theorem rd122v5 {T : List Rid} {p : Path} {Q : Exit → SL → Prop} {tm : List AV} {L : RL} {n : Nat} {c : Code} {l : List Oper} (n' : Nat) (Qs : List Nat) (h : ∀ all, (ro c).toList = all → GoI Tryz.prog T p all true Qs n 0 l tm L fun tm' L' => Q .normal ⟨tm', L', n'⟩) (hk : kd c = 0 := by kernel_rfl) (hr : rd c = true := by kernel_rfl) (hl : (ro c).toList = l := by dsimp only [ro, s1, s2, c1, c2, bc, bod, Tryz.f122, Option.getD_some] <;> exact rfl) (hn : n + (ro c).size = n' := by kernel_rfl) (hd : drawOK (ro c) Qs = true := by kernel_rfl) : PI Tryz.prog T p c Q ⟨tm, L, n⟩ := PI.rg n' Qs hk hr hl (fun _ => hd) hn (h _ rfl)
set_option maxHeartbeats 1000000 in
set_option maxRecDepth 100000 in
theorem okFits (r : Row) (l : List Int) : CallsOK Tryz.prog 122 [aRow r, ints l] (aB (fits r l)) := by
  refine CallsOK.bd (by kernel_rfl) 1 fun hbd => ?_
  have hl : r.length ≤ maxLen := row_len hbd (by simp)
  have h0 : fits r l = fits (r.drop 0) (l.drop 0) := by simp
  have U : Hid True := ⟨trivial⟩
  refine CallsOK.of_pi mixed Tryz.func122 (by kernel_rfl) (by kernel_rfl) (?_ : PI _ _ _ _ _ ⟨[aRow r, ints l, .und, .und, .und, .und, .und, .und, .und, .und, .und, .und, .und, .und, .und, .und, .und, .und, .und, .und, .und, .und, .und, .und, .und, .und, .und, .und, .und, .und, .und, .und, .und, .und, .und, .und, .und], [], 0⟩)
  refine PI.q ?_
  refine rg122v5 (1) [] fun all1 _ => ?_
  refine GoI.z nf5 ?_
  refine PI.q ?_
  refine PI.q ?_
  refine rg122v5 (6) [] fun all2 _ => ?_
  refine GoI.runN 2 nf5 ?_
  refine GoI.runN 2 nf5 ?_
  refine GoI.z nf5 ?_
  refine PI.d 11 nf5 (fun hb1 => ?_) (fun hb1 => ?_)
  ·
   try simp only [hb1]
   refine PI.q ?_
   refine rg122v5 (7) [] fun all3 _ => ?_
   refine GoI.z nf5 ?_
   refine PI.r ?_
   exact FinI.mk _ nf5 (by clear U; first | (rw [ha, List.drop_of_length_le hge, List.drop_of_length_le (by omega)]; rfl) | (rw [ha, hs]; simp_all [fitV, finR, nrmA, nrm, AV.content]; done) | (have : fits r l = false := by { rw [← Bool.not_eq_true]; intro h; have := fits_len h; simp at hb1; omega }; rw [this]; rfl))
  try simp only [hb1]
  have hlen : r.length = l.length := by simp at hb1; omega
  refine PI.s ?_
  refine PI.q ?_
  refine PI.q ?_
  refine rg122v5 (9) [] fun all4 _ => ?_
  refine GoI.runN 2 nf5 ?_
  refine GoI.z nf5 ?_
  refine PI.b 0 ?_
  refine PI.lo (by kernel_rfl) (X := Nat) (fun i => (14, aI i) :: uk [4, 5, 6, 15, 16, 17, 18, 19, 20, 21, 22, 23, 24, 25, 26, 27, 28, 29, 30, 31, 32, 33, 34, 35, 36]) (fun _ => []) (fun k i => k = r.length - i ∧ i ≤ r.length ∧ fits r l = fits (r.drop i) (l.drop i)) (r.length) (0) (GhI.of_wk ⟨by simp [ovr, uk, lessT, neJ2, neJ2', neJ3, neJ3'], by simp [lessR, lk, neJ2, neJ2', neJ3, neJ3'], by (try dsimp only); omega, keep0⟩) (by simp) ?_
  intro k1 x1 j1 hr1
  obtain ⟨rfl, hi1, ha⟩ := hr1
  simp only [ovr, uk, List.set_cons_zero, List.set_cons_succ]
  refine PI.q ?_
  refine rg122v5 (j1 + 10) [] fun all5 _ => ?_
  refine GoI.z nf5 ?_
  refine PI.q ?_
  refine PI.d 15 nf5 (fun hb2 => ?_) (fun hb2 => ?_)
  ·
   try simp only [hb2]
   obtain ⟨hlt, hw⟩ := up hb2 hl
   have hlt' : x1 < l.length := by omega
   have hx := row_at hlt
   have hy := ints_at hlt'
   have hs := fits_at hlt hlt'
   replace U := U.cons (And.intro (hw) (And.intro (hx) (hy)))
   refine PI.s ?_
   refine PI.q ?_
   refine PI.b 1 ?_
   refine PI.q ?_
   refine rg122v5 (j1 + 16) [] fun all6 _ => ?_
   refine GoI.runN 2 nf5 ?_
   refine GoI.runN 2 nf5 ?_
   refine GoI.z nf5 ?_
   refine PI.q ?_
   refine rd122v5 (j1 + 33) [] fun all7 hall7 => ?_
   have hgd7_3 : (all7[3]?).bind (fun o => o.dst) = some 22 := by rw [← hall7]; kernel_rfl
   have hgd7_11 : (all7[11]?).bind (fun o => o.dst) = some 30 := by rw [← hall7]; kernel_rfl
   replace U := U.cons (And.intro (hgd7_3) (hgd7_11))
   refine GoI.run nf5 ?_
   refine GoI.call nf5 nf5 (by exact okValid _) ?_
   refine GoI.runN 2 nf5 ?_
   refine GoI.grd 22 nf5 (fun hg1 => ?_) (fun hg1 => ?_)
   ·
    try simp only [hg1]
    refine GoI.runN 2 nf5 ?_
    refine GoI.runN 2 nf5 ?_
    refine GoI.runN 2 nf5 ?_
    refine GoI.runN 2 nf5 ?_
    refine GoI.runN 2 nf5 ?_
    refine GoI.runN 2 nf5 ?_
    refine GoI.z nf5 ?_
    refine PI.t 35 nf5 ?_
    refine PI.q ?_
    refine rg122v5 (j1 + 34) [] fun all8 _ => ?_
    refine GoI.z nf5 ?_
    refine PI.r ?_
    exact FinI.mk _ nf5 (by clear U; first | (rw [ha, List.drop_of_length_le hge, List.drop_of_length_le (by omega)]; rfl) | (rw [ha, hs]; simp_all [fitV, finR, nrmA, nrm, AV.content]; done) | (have : fits r l = false := by { rw [← Bool.not_eq_true]; intro h; have := fits_len h; simp at hb1; omega }; rw [this]; rfl))
   try simp only [hg1]
   refine GoI.runN 2 nf5 ?_
   refine GoI.runN 2 nf5 ?_
   refine GoI.runN 2 nf5 ?_
   refine GoI.runN 2 nf5 ?_
   refine GoI.grd 30 nf5 (fun hg2 => ?_) (fun hg2 => ?_)
   ·
    try simp only [hg2]
    refine GoI.runN 2 nf5 ?_
    refine GoI.runN 2 nf5 ?_
    refine GoI.z nf5 ?_
    refine PI.d 35 nf5 (fun hb3 => ?_) (fun hb3 => ?_)
    ·
     try simp only [hb3]
     refine PI.q ?_
     refine rg122v5 (j1 + 34) [] fun all8 _ => ?_
     refine GoI.z nf5 ?_
     refine PI.r ?_
     exact FinI.mk _ nf5 (by clear U; first | (rw [ha, List.drop_of_length_le hge, List.drop_of_length_le (by omega)]; rfl) | (rw [ha, hs]; simp_all [fitV, finR, nrmA, nrm, AV.content]; done) | (have : fits r l = false := by { rw [← Bool.not_eq_true]; intro h; have := fits_len h; simp at hb1; omega }; rw [this]; rfl))
    try simp only [hb3]
    refine PI.s ?_
    refine rg122v5 (j1 + 35) [] fun all9 _ => ?_
    refine GoI.z nf5 ?_
    refine ⟨r.length - (x1 + 1), x1 + 1, j1 + 26, by omega, ⟨rfl, by omega, by rw [ha, hs]; simp_all [fitV]⟩, GhI.of_wk ⟨by simp [ovr, uk, lessT, neJ2, neJ2', neJ3, neJ3'], by simp [lessR, lk, neJ2, neJ2', neJ3, neJ3'], by (try dsimp only); omega, keep0⟩⟩
   try simp only [hg2]
   refine GoI.runN 2 nf5 ?_
   refine GoI.runN 2 nf5 ?_
   refine GoI.z nf5 ?_
   refine PI.f 35 nf5 ?_
   refine PI.s ?_
   refine rg122v5 (j1 + 35) [] fun all9 _ => ?_
   refine GoI.z nf5 ?_
   refine ⟨r.length - (x1 + 1), x1 + 1, j1 + 26, by omega, ⟨rfl, by omega, by rw [ha, hs]; simp_all [fitV]⟩, GhI.of_wk ⟨by simp [ovr, uk, lessT, neJ2, neJ2', neJ3, neJ3'], by simp [lessR, lk, neJ2, neJ2', neJ3, neJ3'], by (try dsimp only); omega, keep0⟩⟩
  try simp only [hb2]
  have hge := dn hb2
  refine PI.e 0 ?_
  refine PI.q ?_
  refine rg122v5 (j1 + 11) [] fun all10 _ => ?_
  refine GoI.z nf5 ?_
  refine PI.r ?_
  exact FinI.mk _ nf5 (by clear U; first | (rw [ha, List.drop_of_length_le hge, List.drop_of_length_le (by omega)]; rfl) | (rw [ha, hs]; simp_all [fitV, finR, nrmA, nrm, AV.content]; done) | (have : fits r l = false := by { rw [← Bool.not_eq_true]; intro h; have := fits_len h; simp at hb1; omega }; rw [this]; rfl))
theorem rg86v5 {T : List Rid} {p : Path} {Q : Exit → SL → Prop} {tm : List AV} {L : RL} {n : Nat} {c : Code} {l : List Oper} (n' : Nat) (Qs : List Nat) (h : ∀ all, (ro c).toList = all → GoI Tryz.prog T p all false Qs n 0 l tm L fun tm' L' => Q .normal ⟨tm', L', n'⟩) (hk : kd c = 0 := by kernel_rfl) (hr : rd c = false := by kernel_rfl) (hl : (ro c).toList = l := by dsimp only [ro, s1, s2, c1, c2, bc, bod, Tryz.f86, Option.getD_some] <;> exact rfl) (hn : n + (ro c).size = n' := by kernel_rfl) : PI Tryz.prog T p c Q ⟨tm, L, n⟩ := PI.rg n' Qs hk hr hl (fun h => by cases h) hn (h _ rfl)
theorem rd86v5 {T : List Rid} {p : Path} {Q : Exit → SL → Prop} {tm : List AV} {L : RL} {n : Nat} {c : Code} {l : List Oper} (n' : Nat) (Qs : List Nat) (h : ∀ all, (ro c).toList = all → GoI Tryz.prog T p all true Qs n 0 l tm L fun tm' L' => Q .normal ⟨tm', L', n'⟩) (hk : kd c = 0 := by kernel_rfl) (hr : rd c = true := by kernel_rfl) (hl : (ro c).toList = l := by dsimp only [ro, s1, s2, c1, c2, bc, bod, Tryz.f86, Option.getD_some] <;> exact rfl) (hn : n + (ro c).size = n' := by kernel_rfl) (hd : drawOK (ro c) Qs = true := by kernel_rfl) : PI Tryz.prog T p c Q ⟨tm, L, n⟩ := PI.rg n' Qs hk hr hl (fun _ => hd) hn (h _ rfl)
set_option maxHeartbeats 1000000 in
set_option maxRecDepth 100000 in
theorem okFits' (r : Row) (l : List Int) : CallsOK Tryz.prog 86 [aRow r, ints l] (aB (fits r l)) := by
  refine CallsOK.bd (by kernel_rfl) 1 fun hbd => ?_
  have hl : r.length ≤ maxLen := row_len hbd (by simp)
  have h0 : fits r l = fits (r.drop 0) (l.drop 0) := by simp
  have U : Hid True := ⟨trivial⟩
  refine CallsOK.of_pi mixed Tryz.func86 (by kernel_rfl) (by kernel_rfl) (?_ : PI _ _ _ _ _ ⟨[aRow r, ints l, .und, .und, .und, .und, .und, .und, .und, .und, .und, .und, .und, .und, .und, .und, .und, .und, .und, .und, .und, .und, .und, .und, .und, .und, .und, .und, .und, .und, .und, .und, .und, .und, .und, .und, .und, .und, .und, .und, .und, .und, .und], [], 0⟩)
  refine PI.q ?_
  refine rg86v5 (1) [] fun all1 _ => ?_
  refine GoI.z nf5 ?_
  refine PI.q ?_
  refine PI.q ?_
  refine rg86v5 (6) [] fun all2 _ => ?_
  refine GoI.runN 2 nf5 ?_
  refine GoI.runN 2 nf5 ?_
  refine GoI.z nf5 ?_
  refine PI.d 10 nf5 (fun hb1 => ?_) (fun hb1 => ?_)
  ·
   try simp only [hb1]
   refine PI.q ?_
   refine rg86v5 (7) [] fun all3 _ => ?_
   refine GoI.z nf5 ?_
   refine PI.r ?_
   exact FinI.mk _ nf5 (by clear U; first | (rw [ha, List.drop_of_length_le hge, List.drop_of_length_le (by omega)]; rfl) | (rw [ha, hs]; simp_all [fitV, finR, nrmA, nrm, AV.content]; done) | (have : fits r l = false := by { rw [← Bool.not_eq_true]; intro h; have := fits_len h; simp at hb1; omega }; rw [this]; rfl))
  try simp only [hb1]
  have hlen : r.length = l.length := by simp at hb1; omega
  refine PI.s ?_
  refine PI.q ?_
  refine PI.q ?_
  refine rg86v5 (7) [] fun all4 _ => ?_
  refine GoI.z nf5 ?_
  refine PI.b 0 ?_
  refine PI.lo (by kernel_rfl) (X := Nat) (fun i => (5, aI i) :: uk [4, 11, 12, 13, 14, 15, 16, 17, 18, 19, 20, 21, 22, 23, 24, 25, 26, 27, 28, 29, 30, 31, 32, 33, 34, 35, 36, 37, 38, 39, 40, 41, 42]) (fun _ => []) (fun k i => k = r.length - i ∧ i ≤ r.length ∧ fits r l = fits (r.drop i) (l.drop i)) (r.length) (0) (GhI.of_wk ⟨by simp [ovr, uk, lessT, neJ2, neJ2', neJ3, neJ3'], by simp [lessR, lk, neJ2, neJ2', neJ3, neJ3'], by (try dsimp only); omega, keep0⟩) (by simp) ?_
  intro k1 x1 j1 hr1
  obtain ⟨rfl, hi1, ha⟩ := hr1
  simp only [ovr, uk, List.set_cons_zero, List.set_cons_succ]
  refine PI.q ?_
  refine PI.q ?_
  refine rg86v5 (j1 + 11) [] fun all5 _ => ?_
  refine GoI.runN 2 nf5 ?_
  refine GoI.z nf5 ?_
  refine PI.d 14 nf5 (fun hb2 => ?_) (fun hb2 => ?_)
  ·
   try simp only [hb2]
   obtain ⟨hlt, hw⟩ := up hb2 hl
   have hlt' : x1 < l.length := by omega
   have hx := row_at hlt
   have hy := ints_at hlt'
   have hs := fits_at hlt hlt'
   replace U := U.cons (And.intro (hw) (And.intro (hx) (hy)))
   refine PI.s ?_
   refine PI.q ?_
   refine PI.b 1 ?_
   refine PI.q ?_
   refine rd86v5 (j1 + 37) [] fun all6 hall6 => ?_
   have hgd6_6 : (all6[6]?).bind (fun o => o.dst) = some 23 := by rw [← hall6]; kernel_rfl
   have hgd6_13 : (all6[13]?).bind (fun o => o.dst) = some 30 := by rw [← hall6]; kernel_rfl
   replace U := U.cons (And.intro (hgd6_6) (hgd6_13))
   refine GoI.runN 2 nf5 ?_
   refine GoI.runN 2 nf5 ?_
   refine GoI.call nf5 nf5 (by exact okValid' _) ?_
   refine GoI.runN 2 nf5 ?_
   refine GoI.grd 23 nf5 (fun hg1 => ?_) (fun hg1 => ?_)
   ·
    try simp only [hg1]
    refine GoI.runN 2 nf5 ?_
    refine GoI.runN 2 nf5 ?_
    refine GoI.runN 2 nf5 ?_
    refine GoI.runN 2 nf5 ?_
    refine GoI.runN 2 nf5 ?_
    refine GoI.runN 2 nf5 ?_
    refine GoI.runN 2 nf5 ?_
    refine GoI.runN 2 nf5 ?_
    refine GoI.runN 2 nf5 ?_
    refine GoI.z nf5 ?_
    refine PI.t 42 nf5 ?_
    refine PI.q ?_
    refine rg86v5 (j1 + 38) [] fun all7 _ => ?_
    refine GoI.z nf5 ?_
    refine PI.r ?_
    exact FinI.mk _ nf5 (by clear U; first | (rw [ha, List.drop_of_length_le hge, List.drop_of_length_le (by omega)]; rfl) | (rw [ha, hs]; simp_all [fitV, finR, nrmA, nrm, AV.content]; done) | (have : fits r l = false := by { rw [← Bool.not_eq_true]; intro h; have := fits_len h; simp at hb1; omega }; rw [this]; rfl))
   try simp only [hg1]
   refine GoI.runN 2 nf5 ?_
   refine GoI.runN 2 nf5 ?_
   refine GoI.runN 2 nf5 ?_
   refine GoI.runN 1 nf5 ?_
   refine GoI.grd 30 nf5 (fun hg2 => ?_) (fun hg2 => ?_)
   ·
    try simp only [hg2]
    refine GoI.runN 2 nf5 ?_
    refine GoI.runN 2 nf5 ?_
    refine GoI.runN 2 nf5 ?_
    refine GoI.runN 2 nf5 ?_
    refine GoI.runN 2 nf5 ?_
    refine GoI.z nf5 ?_
    refine PI.d 42 nf5 (fun hb3 => ?_) (fun hb3 => ?_)
    ·
     try simp only [hb3]
     refine PI.q ?_
     refine rg86v5 (j1 + 38) [] fun all7 _ => ?_
     refine GoI.z nf5 ?_
     refine PI.r ?_
     exact FinI.mk _ nf5 (by clear U; first | (rw [ha, List.drop_of_length_le hge, List.drop_of_length_le (by omega)]; rfl) | (rw [ha, hs]; simp_all [fitV, finR, nrmA, nrm, AV.content]; done) | (have : fits r l = false := by { rw [← Bool.not_eq_true]; intro h; have := fits_len h; simp at hb1; omega }; rw [this]; rfl))
    try simp only [hb3]
    refine PI.s ?_
    refine rg86v5 (j1 + 40) [] fun all8 _ => ?_
    refine GoI.runN 2 nf5 ?_
    refine GoI.z nf5 ?_
    refine ⟨r.length - (x1 + 1), x1 + 1, j1 + 33, by omega, ⟨rfl, by omega, by rw [ha, hs]; simp_all [fitV]⟩, GhI.of_wk ⟨by simp [ovr, uk, lessT, neJ2, neJ2', neJ3, neJ3'], by simp [lessR, lk, neJ2, neJ2', neJ3, neJ3'], by (try dsimp only); omega, keep0⟩⟩
   try simp only [hg2]
   refine GoI.runN 2 nf5 ?_
   refine GoI.runN 2 nf5 ?_
   refine GoI.runN 2 nf5 ?_
   refine GoI.runN 2 nf5 ?_
   refine GoI.runN 2 nf5 ?_
   refine GoI.z nf5 ?_
   refine PI.f 42 nf5 ?_
   refine PI.s ?_
   refine rg86v5 (j1 + 40) [] fun all8 _ => ?_
   refine GoI.runN 2 nf5 ?_
   refine GoI.z nf5 ?_
   refine ⟨r.length - (x1 + 1), x1 + 1, j1 + 33, by omega, ⟨rfl, by omega, by rw [ha, hs]; simp_all [fitV]⟩, GhI.of_wk ⟨by simp [ovr, uk, lessT, neJ2, neJ2', neJ3, neJ3'], by simp [lessR, lk, neJ2, neJ2', neJ3, neJ3'], by (try dsimp only); omega, keep0⟩⟩
  try simp only [hb2]
  have hge := dn hb2
  refine PI.e 0 ?_
  refine PI.q ?_
  refine rg86v5 (j1 + 12) [] fun all9 _ => ?_
  refine GoI.z nf5 ?_
  refine PI.r ?_
  exact FinI.mk _ nf5 (by clear U; first | (rw [ha, List.drop_of_length_le hge, List.drop_of_length_le (by omega)]; rfl) | (rw [ha, hs]; simp_all [fitV, finR, nrmA, nrm, AV.content]; done) | (have : fits r l = false := by { rw [← Bool.not_eq_true]; intro h; have := fits_len h; simp at hb1; omega }; rw [this]; rfl))
theorem rows_at {l : List Row} {i : Nat} (h : i < l.length) : (l.map fun r => [aRow r])[i]? = some [aRow l[i]] := by simp [h]
def sound (b : Bag) : Bool := b.rows.all (fun r => fits r b.kinds) && (decide ((b.kinds.length : Int) > 0) && (decide ((b.kinds.length : Int) ≤ 48) && b.kinds.all kindS))
theorem rg52v5 {T : List Rid} {p : Path} {Q : Exit → SL → Prop} {tm : List AV} {L : RL} {n : Nat} {c : Code} {l : List Oper} (n' : Nat) (Qs : List Nat) (h : ∀ all, (ro c).toList = all → GoI Tryz.prog T p all false Qs n 0 l tm L fun tm' L' => Q .normal ⟨tm', L', n'⟩) (hk : kd c = 0 := by kernel_rfl) (hr : rd c = false := by kernel_rfl) (hl : (ro c).toList = l := by dsimp only [ro, s1, s2, c1, c2, bc, bod, Tryz.f52, Option.getD_some] <;> exact rfl) (hn : n + (ro c).size = n' := by kernel_rfl) : PI Tryz.prog T p c Q ⟨tm, L, n⟩ := PI.rg n' Qs hk hr hl (fun h => by cases h) hn (h _ rfl)
theorem rd52v5 {T : List Rid} {p : Path} {Q : Exit → SL → Prop} {tm : List AV} {L : RL} {n : Nat} {c : Code} {l : List Oper} (n' : Nat) (Qs : List Nat) (h : ∀ all, (ro c).toList = all → GoI Tryz.prog T p all true Qs n 0 l tm L fun tm' L' => Q .normal ⟨tm', L', n'⟩) (hk : kd c = 0 := by kernel_rfl) (hr : rd c = true := by kernel_rfl) (hl : (ro c).toList = l := by dsimp only [ro, s1, s2, c1, c2, bc, bod, Tryz.f52, Option.getD_some] <;> exact rfl) (hn : n + (ro c).size = n' := by kernel_rfl) (hd : drawOK (ro c) Qs = true := by kernel_rfl) : PI Tryz.prog T p c Q ⟨tm, L, n⟩ := PI.rg n' Qs hk hr hl (fun _ => hd) hn (h _ rfl)
set_option maxHeartbeats 1000000 in
set_option maxRecDepth 100000 in
theorem okSound (b : Bag) (hb : b.rows.length ≤ maxLen) : CallsOK Tryz.prog 52 [aBag b] (aB (sound b)) := by
  have U : Hid True := ⟨trivial⟩
  refine CallsOK.of_pi mixed Tryz.func52 (by kernel_rfl) (by kernel_rfl) (?_ : PI _ _ _ _ _ ⟨[aBag b, .und, .und, .und, .und, .und, .und, .und, .und, .und, .und, .und, .und, .und, .und, .und, .und, .und, .und, .und, .und, .und, .und, .und, .und, .und, .und, .und, .und, .und, .und, .und, .und, .und, .und], [], 0⟩)
  refine PI.q ?_
  refine rg52v5 (2) [] fun all1 _ => ?_
  refine GoI.z nf5 ?_
  refine PI.q ?_
  refine PI.q ?_
  refine rg52v5 (3) [] fun all2 _ => ?_
  refine GoI.z nf5 ?_
  refine PI.b 0 ?_
  refine PI.lo (by kernel_rfl) (X := Nat) (fun i => (3, aI i) :: uk [2, 4, 5, 6, 7, 8, 9, 10, 11, 12, 13, 14, 15, 16, 17, 18, 19]) (fun _ => [(([0], 0), .var 42 (encB b))]) (fun k i => k = b.rows.length - i ∧ i ≤ b.rows.length ∧ (b.rows.take i).all (fun r => fits r b.kinds) = true) (b.rows.length) (0) (GhI.of_wk ⟨by simp [ovr, uk, lessT, neJ2, neJ2', neJ3, neJ3'], by simp [lessR, lk, neJ2, neJ2', neJ3, neJ3'], by (try dsimp only); omega, keep0⟩) (by simp) ?_
  intro k1 x1 j1 hr1
  obtain ⟨rfl, hi1, ha⟩ := hr1
  simp only [ovr, uk, List.set_cons_zero, List.set_cons_succ]
  refine PI.q ?_
  refine PI.q ?_
  refine rg52v5 (j1 + 8) [] fun all3 _ => ?_
  refine GoI.runN 2 nf5 ?_
  refine GoI.runN 2 nf5 ?_
  refine GoI.z nf5 ?_
  refine PI.d 8 nf5 (fun hb1 => ?_) (fun hb1 => ?_)
  ·
   try simp only [hb1]
   obtain ⟨hlt, hw⟩ := up hb1 hb
   have hg := rows_at hlt
   replace U := U.cons (And.intro (hw) (hg))
   refine PI.s ?_
   refine PI.q ?_
   refine PI.b 1 ?_
   refine PI.q ?_
   refine rd52v5 (j1 + 17) [] fun all4 _ => ?_
   refine GoI.runN 2 nf5 ?_
   refine GoI.runN 2 nf5 ?_
   refine GoI.runN 2 nf5 ?_
   refine GoI.run nf5 ?_
   refine GoI.call nf5 nf5 (by exact okFits' _ _) ?_
   refine GoI.z nf5 ?_
   refine PI.d 19 nf5 (fun hb2 => ?_) (fun hb2 => ?_)
   ·
    try simp only [hb2]
    refine PI.q ?_
    refine rg52v5 (j1 + 18) [] fun all5 _ => ?_
    refine GoI.z nf5 ?_
    refine PI.r ?_
    exact FinI.mk _ nf5 (by clear U; first | (rw [sound, all_not hlt (by simpa using hb2)]; rfl) | ((simp_all [sound, finR, nrmA, nrm, AV.content]) <;> (intros; omega)))
   try simp only [hb2]
   refine PI.s ?_
   refine rg52v5 (j1 + 20) [] fun all6 _ => ?_
   refine GoI.runN 2 nf5 ?_
   refine GoI.z nf5 ?_
   refine ⟨b.rows.length - (x1 + 1), x1 + 1, j1 + 17, by omega, ⟨rfl, by omega, all_take hlt ha (by simpa using hb2)⟩, GhI.of_wk ⟨by simp [ovr, uk, lessT, neJ2, neJ2', neJ3, neJ3'], by simp [lessR, lk, neJ2, neJ2', neJ3, neJ3'], by (try dsimp only); omega, keep0⟩⟩
  try simp only [hb1]
  have hx := dn hb1
  have haf := all_full hx ha
  refine PI.e 0 ?_
  refine PI.q ?_
  refine rg52v5 (j1 + 24) [] fun all7 hall7 => ?_
  have hgd7_4 : (all7[4]?).bind (fun o => o.dst) = some 24 := by rw [← hall7]; kernel_rfl
  have hgd7_10 : (all7[10]?).bind (fun o => o.dst) = some 30 := by rw [← hall7]; kernel_rfl
  replace U := U.cons (And.intro (hgd7_4) (hgd7_10))
  refine GoI.runN 2 nf5 ?_
  refine GoI.runN 2 nf5 ?_
  refine GoI.runN 1 nf5 ?_
  refine GoI.grd 24 nf5 (fun hg1 => ?_) (fun hg1 => ?_)
  ·
   try simp only [hg1]
   refine GoI.runN 2 nf5 ?_
   refine GoI.runN 2 nf5 ?_
   refine GoI.runN 2 nf5 ?_
   refine GoI.grd 30 nf5 (fun hg2 => ?_) (fun hg2 => ?_)
   ·
    try simp only [hg2]
    refine GoI.runN 2 nf5 ?_
    refine GoI.call nf5 nf5 (by exact okKinds _) ?_
    refine GoI.z nf5 ?_
    refine PI.r ?_
    exact FinI.mk _ nf5 (by clear U; first | (rw [sound, all_not hlt (by simpa using hb2)]; rfl) | ((simp_all [sound, finR, nrmA, nrm, AV.content]) <;> (intros; omega)))
   try simp only [hg2]
   refine GoI.runN 2 nf5 ?_
   refine GoI.runN 2 nf5 ?_
   refine GoI.z nf5 ?_
   refine PI.r ?_
   exact FinI.mk _ nf5 (by clear U; first | (rw [sound, all_not hlt (by simpa using hb2)]; rfl) | ((simp_all [sound, finR, nrmA, nrm, AV.content]) <;> (intros; omega)))
  try simp only [hg1]
  refine GoI.runN 2 nf5 ?_
  refine GoI.runN 2 nf5 ?_
  refine GoI.runN 2 nf5 ?_
  refine GoI.runN 2 nf5 ?_
  refine GoI.runN 2 nf5 ?_
  refine GoI.z nf5 ?_
  refine PI.r ?_
  exact FinI.mk _ nf5 (by clear U; first | (rw [sound, all_not hlt (by simpa using hb2)]; rfl) | ((simp_all [sound, finR, nrmA, nrm, AV.content]) <;> (intros; omega)))
def few (b : Bag) (most : Int) : Bool := decide ((b.rows.length : Int) ≤ most) && (decide ((b.kinds.length : Int) ≤ 48) && sound b)
theorem rg15v5 {T : List Rid} {p : Path} {Q : Exit → SL → Prop} {tm : List AV} {L : RL} {n : Nat} {c : Code} {l : List Oper} (n' : Nat) (Qs : List Nat) (h : ∀ all, (ro c).toList = all → GoI Tryz.prog T p all false Qs n 0 l tm L fun tm' L' => Q .normal ⟨tm', L', n'⟩) (hk : kd c = 0 := by kernel_rfl) (hr : rd c = false := by kernel_rfl) (hl : (ro c).toList = l := by dsimp only [ro, s1, s2, c1, c2, bc, bod, Tryz.f15, Option.getD_some] <;> exact rfl) (hn : n + (ro c).size = n' := by kernel_rfl) : PI Tryz.prog T p c Q ⟨tm, L, n⟩ := PI.rg n' Qs hk hr hl (fun h => by cases h) hn (h _ rfl)
theorem okFew (b : Bag) (most : Int) (hm : most ≤ 1000) : CallsOK Tryz.prog 15 [aBag b, aI most] (aB (few b most)) := by
  have U : Hid True := ⟨trivial⟩
  refine CallsOK.of_pi mixed Tryz.func15 (by kernel_rfl) (by kernel_rfl) (?_ : PI _ _ _ _ _ ⟨[aBag b, aI most, .und, .und, .und, .und, .und, .und, .und, .und, .und, .und, .und, .und, .und, .und, .und, .und, .und, .und], [], 0⟩)
  refine PI.q ?_
  refine rg15v5 (2) [] fun all1 _ => ?_
  refine GoI.z nf5 ?_
  refine PI.q ?_
  refine rg15v5 (18) [] fun all2 hall2 => ?_
  have hgd2_5 : (all2[5]?).bind (fun o => o.dst) = some 10 := by rw [← hall2]; kernel_rfl
  have hgd2_11 : (all2[11]?).bind (fun o => o.dst) = some 16 := by rw [← hall2]; kernel_rfl
  replace U := U.cons (And.intro (hgd2_5) (hgd2_11))
  refine GoI.runN 2 nf5 ?_
  refine GoI.runN 2 nf5 ?_
  refine GoI.runN 2 nf5 ?_
  refine GoI.grd 10 nf5 (fun hg1 => ?_) (fun hg1 => ?_)
  ·
   try simp only [hg1]
   refine GoI.runN 2 nf5 ?_
   refine GoI.runN 2 nf5 ?_
   refine GoI.runN 2 nf5 ?_
   refine GoI.grd 16 nf5 (fun hg2 => ?_) (fun hg2 => ?_)
   ·
    try simp only [hg2]
    refine GoI.run nf5 ?_
    refine GoI.call nf5 nf5 (by exact okSound _ (by unfold maxLen; simp_all; omega)) ?_
    refine GoI.z nf5 ?_
    refine PI.r ?_
    exact FinI.mk _ nf5 (by clear U; (simp_all [few, finR, nrmA, nrm, AV.content]) <;> (intros; omega))
   try simp only [hg2]
   refine GoI.runN 2 nf5 ?_
   refine GoI.z nf5 ?_
   refine PI.r ?_
   exact FinI.mk _ nf5 (by clear U; (simp_all [few, finR, nrmA, nrm, AV.content]) <;> (intros; omega))
  try simp only [hg1]
  refine GoI.runN 2 nf5 ?_
  refine GoI.runN 2 nf5 ?_
  refine GoI.runN 2 nf5 ?_
  refine GoI.runN 2 nf5 ?_
  refine GoI.z nf5 ?_
  refine PI.r ?_
  exact FinI.mk _ nf5 (by clear U; (simp_all [few, finR, nrmA, nrm, AV.content]) <;> (intros; omega))
def eqRs : List Row → List Row → Bool
  | [], [] => true
  | x :: a, y :: b => eqR x y && eqRs a b
  | _, _ => false
theorem eqRs_len : ∀ {a b : List Row}, eqRs a b = true → a.length = b.length
  | [], [], _ => rfl
  | x :: a, y :: b, h => by
    simp only [eqRs, Bool.and_eq_true] at h
    simp [eqRs_len h.2]
  | [], _ :: _, h => by cases h
  | _ :: _, [], h => by cases h
theorem eqRs_at {a b : List Row} {i : Nat} (h : i < a.length) (h' : i < b.length) : eqRs (a.drop i) (b.drop i) = (eqR a[i] b[i] && eqRs (a.drop (i + 1)) (b.drop (i + 1))) := by
  rw [List.drop_eq_getElem_cons h, List.drop_eq_getElem_cons h', eqRs]
theorem rg21v5 {T : List Rid} {p : Path} {Q : Exit → SL → Prop} {tm : List AV} {L : RL} {n : Nat} {c : Code} {l : List Oper} (n' : Nat) (Qs : List Nat) (h : ∀ all, (ro c).toList = all → GoI Tryz.prog T p all false Qs n 0 l tm L fun tm' L' => Q .normal ⟨tm', L', n'⟩) (hk : kd c = 0 := by kernel_rfl) (hr : rd c = false := by kernel_rfl) (hl : (ro c).toList = l := by dsimp only [ro, s1, s2, c1, c2, bc, bod, Tryz.f21, Option.getD_some] <;> exact rfl) (hn : n + (ro c).size = n' := by kernel_rfl) : PI Tryz.prog T p c Q ⟨tm, L, n⟩ := PI.rg n' Qs hk hr hl (fun h => by cases h) hn (h _ rfl)
theorem rd21v5 {T : List Rid} {p : Path} {Q : Exit → SL → Prop} {tm : List AV} {L : RL} {n : Nat} {c : Code} {l : List Oper} (n' : Nat) (Qs : List Nat) (h : ∀ all, (ro c).toList = all → GoI Tryz.prog T p all true Qs n 0 l tm L fun tm' L' => Q .normal ⟨tm', L', n'⟩) (hk : kd c = 0 := by kernel_rfl) (hr : rd c = true := by kernel_rfl) (hl : (ro c).toList = l := by dsimp only [ro, s1, s2, c1, c2, bc, bod, Tryz.f21, Option.getD_some] <;> exact rfl) (hn : n + (ro c).size = n' := by kernel_rfl) (hd : drawOK (ro c) Qs = true := by kernel_rfl) : PI Tryz.prog T p c Q ⟨tm, L, n⟩ := PI.rg n' Qs hk hr hl (fun _ => hd) hn (h _ rfl)
set_option maxHeartbeats 1000000 in
set_option maxRecDepth 100000 in
theorem okSameRows (a b : List Row) : CallsOK Tryz.prog 21 [aRows a, aRows b] (aB (eqRs a b)) := by
  refine CallsOK.bd (by kernel_rfl) 1 fun hbd => ?_
  have hl : a.length ≤ maxLen := by have := (hbd (aRows a) (by simp)).1; simpa using this
  have h0 : eqRs a b = eqRs (a.drop 0) (b.drop 0) := by simp
  have U : Hid True := ⟨trivial⟩
  refine CallsOK.of_pi mixed Tryz.func21 (by kernel_rfl) (by kernel_rfl) (?_ : PI _ _ _ _ _ ⟨[aRows a, aRows b, .und, .und, .und, .und, .und, .und, .und, .und, .und, .und, .und, .und, .und, .und, .und, .und, .und, .und, .und, .und, .und, .und, .und, .und, .und], [], 0⟩)
  refine PI.q ?_
  refine rg21v5 (1) [] fun all1 _ => ?_
  refine GoI.z nf5 ?_
  refine PI.q ?_
  refine PI.q ?_
  refine rg21v5 (6) [] fun all2 _ => ?_
  refine GoI.runN 2 nf5 ?_
  refine GoI.runN 2 nf5 ?_
  refine GoI.z nf5 ?_
  refine PI.d 10 nf5 (fun hb1 => ?_) (fun hb1 => ?_)
  ·
   try simp only [hb1]
   refine PI.q ?_
   refine rg21v5 (7) [] fun all3 _ => ?_
   refine GoI.z nf5 ?_
   refine PI.r ?_
   exact FinI.mk _ nf5 (by clear U; first | (rw [ha, List.drop_of_length_le hge, List.drop_of_length_le (by omega)]; rfl) | (rw [ha, hstep]; simp at hb3; rw [hb3]; rfl) | (have hne : eqRs a b = false := by { rw [← Bool.not_eq_true]; intro h; have := eqRs_len h; simp at hb1; omega }; rw [hne]; rfl))
  try simp only [hb1]
  have hlen : a.length = b.length := by simp at hb1; omega
  refine PI.s ?_
  refine PI.q ?_
  refine PI.q ?_
  refine rg21v5 (7) [] fun all4 _ => ?_
  refine GoI.z nf5 ?_
  refine PI.b 0 ?_
  refine PI.lo (by kernel_rfl) (X := Nat) (fun i => (5, aI i) :: uk [4, 11, 12, 13, 14, 15, 16, 17, 18, 19, 20, 21, 22, 23, 24, 25, 26]) (fun _ => []) (fun k i => k = a.length - i ∧ i ≤ a.length ∧ eqRs a b = eqRs (a.drop i) (b.drop i)) (a.length) (0) (GhI.of_wk ⟨by simp [ovr, uk, lessT, neJ2, neJ2', neJ3, neJ3'], by simp [lessR, lk, neJ2, neJ2', neJ3, neJ3'], by (try dsimp only); omega, keep0⟩) (by simp) ?_
  intro k1 x1 j1 hr1
  obtain ⟨rfl, hi1, ha⟩ := hr1
  simp only [ovr, uk, List.set_cons_zero, List.set_cons_succ]
  refine PI.q ?_
  refine PI.q ?_
  refine rg21v5 (j1 + 11) [] fun all5 _ => ?_
  refine GoI.runN 2 nf5 ?_
  refine GoI.z nf5 ?_
  refine PI.d 14 nf5 (fun hb2 => ?_) (fun hb2 => ?_)
  ·
   try simp only [hb2]
   obtain ⟨hlt, hw⟩ := up hb2 hl
   have hlt' : x1 < b.length := by omega
   have hx := rows_at hlt
   have hy := rows_at hlt'
   have hstep := eqRs_at hlt hlt'
   replace U := U.cons (And.intro (hw) (And.intro (hx) (hy)))
   refine PI.s ?_
   refine PI.q ?_
   refine PI.b 1 ?_
   refine PI.q ?_
   refine rd21v5 (j1 + 21) [] fun all6 _ => ?_
   refine GoI.runN 2 nf5 ?_
   refine GoI.runN 2 nf5 ?_
   refine GoI.runN 2 nf5 ?_
   refine GoI.runN 2 nf5 ?_
   refine GoI.call nf5 nf5 (by exact okEqR' _ _) ?_
   refine GoI.z nf5 ?_
   refine PI.d 26 nf5 (fun hb3 => ?_) (fun hb3 => ?_)
   ·
    try simp only [hb3]
    refine PI.q ?_
    refine rg21v5 (j1 + 22) [] fun all7 _ => ?_
    refine GoI.z nf5 ?_
    refine PI.r ?_
    exact FinI.mk _ nf5 (by clear U; first | (rw [ha, List.drop_of_length_le hge, List.drop_of_length_le (by omega)]; rfl) | (rw [ha, hstep]; simp at hb3; rw [hb3]; rfl) | (have hne : eqRs a b = false := by { rw [← Bool.not_eq_true]; intro h; have := eqRs_len h; simp at hb1; omega }; rw [hne]; rfl))
   try simp only [hb3]
   refine PI.s ?_
   refine rg21v5 (j1 + 24) [] fun all8 _ => ?_
   refine GoI.runN 2 nf5 ?_
   refine GoI.z nf5 ?_
   refine ⟨a.length - (x1 + 1), x1 + 1, j1 + 17, by omega, ⟨rfl, by omega, by rw [ha, hstep]; simp at hb3; rw [hb3]; rfl⟩, GhI.of_wk ⟨by simp [ovr, uk, lessT, neJ2, neJ2', neJ3, neJ3'], by simp [lessR, lk, neJ2, neJ2', neJ3, neJ3'], by (try dsimp only); omega, keep0⟩⟩
  try simp only [hb2]
  have hge := dn hb2
  refine PI.e 0 ?_
  refine PI.q ?_
  refine rg21v5 (j1 + 12) [] fun all9 _ => ?_
  refine GoI.z nf5 ?_
  refine PI.r ?_
  exact FinI.mk _ nf5 (by clear U; first | (rw [ha, List.drop_of_length_le hge, List.drop_of_length_le (by omega)]; rfl) | (rw [ha, hstep]; simp at hb3; rw [hb3]; rfl) | (have hne : eqRs a b = false := by { rw [← Bool.not_eq_true]; intro h; have := eqRs_len h; simp at hb1; omega }; rw [hne]; rfl))
def exactly (a b : Bag) : Bool := a.kinds == b.kinds && eqRs a.rows b.rows
theorem rg17v5 {T : List Rid} {p : Path} {Q : Exit → SL → Prop} {tm : List AV} {L : RL} {n : Nat} {c : Code} {l : List Oper} (n' : Nat) (Qs : List Nat) (h : ∀ all, (ro c).toList = all → GoI Tryz.prog T p all false Qs n 0 l tm L fun tm' L' => Q .normal ⟨tm', L', n'⟩) (hk : kd c = 0 := by kernel_rfl) (hr : rd c = false := by kernel_rfl) (hl : (ro c).toList = l := by dsimp only [ro, s1, s2, c1, c2, bc, bod, Tryz.f17, Option.getD_some] <;> exact rfl) (hn : n + (ro c).size = n' := by kernel_rfl) : PI Tryz.prog T p c Q ⟨tm, L, n⟩ := PI.rg n' Qs hk hr hl (fun h => by cases h) hn (h _ rfl)
set_option maxHeartbeats 1000000 in
set_option maxRecDepth 100000 in
theorem okExactly (a b : Bag) : CallsOK Tryz.prog 17 [aBag a, aBag b] (aB (exactly a b)) := by
  have U : Hid True := ⟨trivial⟩
  refine CallsOK.of_pi mixed Tryz.func17 (by kernel_rfl) (by kernel_rfl) (?_ : PI _ _ _ _ _ ⟨[aBag a, aBag b, .und, .und, .und, .und, .und, .und, .und, .und, .und, .und, .und, .und, .und, .und, .und], [], 0⟩)
  refine PI.q ?_
  refine rg17v5 (3) [] fun all1 _ => ?_
  refine GoI.runN 2 nf5 ?_
  refine GoI.z nf5 ?_
  refine PI.q ?_
  refine rg17v5 (16) [] fun all2 hall2 => ?_
  have hgd2_5 : (all2[5]?).bind (fun o => o.dst) = some 10 := by rw [← hall2]; kernel_rfl
  replace U := U.cons (hgd2_5)
  refine GoI.runN 2 nf5 ?_
  refine GoI.runN 2 nf5 ?_
  refine GoI.call nf5 nf5 (by exact okSameKinds _ _) ?_
  refine GoI.runN 1 nf5 ?_
  refine GoI.grd 10 nf5 (fun hg1 => ?_) (fun hg1 => ?_)
  ·
   try simp only [hg1]
   refine GoI.runN 2 nf5 ?_
   refine GoI.runN 2 nf5 ?_
   refine GoI.call nf5 nf5 (by exact okSameRows _ _) ?_
   refine GoI.z nf5 ?_
   refine PI.r ?_
   exact FinI.mk _ nf5 (by clear U; (simp_all [exactly, finR, nrmA, nrm, AV.content]))
  try simp only [hg1]
  refine GoI.runN 2 nf5 ?_
  refine GoI.runN 2 nf5 ?_
  refine GoI.runN 2 nf5 ?_
  refine GoI.z nf5 ?_
  refine PI.r ?_
  exact FinI.mk _ nf5 (by clear U; (simp_all [exactly, finR, nrmA, nrm, AV.content]))
end Go.FE
