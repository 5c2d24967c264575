/- A merge by rotation: two runs. A stable sort. -/
import Derived.Test.YtmblejfjbnoodaaGreatDoorN09
import Derived.Test.YtmblejfjbnoodaaGreatDoorN16
set_option linter.unusedVariables false
set_option linter.unusedSimpArgs false
namespace Go.FE
open Go.Proofs
theorem nf9 {α : Type} {a b : α} (h : a = b := by simp only [goP, goN, mrk, Nat.reduceMul, Nat.one_mul, Nat.mul_one, eq_self, false_implies, implies_true, Nat.reduceLT, List.getElem?_toArray, isCall, List.contains_nil, List.contains_cons, Nat.reduceBEq, Bool.or_false, Bool.or_self, List.length_map, gOf, step, stepM, stepP, ev, okV, if_true, if_false, allocA, storeA, boxA, one1, tokN, tok1, buildA, rowA, nrmP, partV, partA, fieldA, fieldV, elemA, lenA, bltA, asSl, appA, makeA, makeR, cutA, bndA, binV, intOp, strOp, unV, eqB, nilB, sameT, List.all_cons, List.all_nil, Bool.and_self, Bool.and_true, Bool.true_and, List.map_cons, List.map_nil, List.nil_append, List.cons_append, List.append_nil, AV.bare, AV.content, AV.clean, AV.one, putD, List.set_cons_zero, List.set_cons_succ, List.reverse_cons, List.reverse_nil, List.getD_cons_zero, List.getD_cons_succ, List.getElem?_cons_zero, List.getElem?_cons_succ, Option.getD_some, Option.map_some, Option.map_none, Option.bind_some, List.length_cons, List.length_nil, lk, cellsA, fillA, fillS, isAggD, spl, nrm, nrmA, List.take_succ_cons, List.take_zero, List.drop_succ_cons, List.drop_zero, List.drop_nil, List.take_nil, Nat.reduceAdd, Nat.zero_add, Nat.add_zero, Nat.add_assoc, Nat.add_left_cancel_iff, reduceCtorEq, Prod.mk.injEq, List.cons.injEq, and_self, and_true, true_and, Nat.le_refl, Nat.reduceLeDiff, Nat.reduceEqDiff, List.getElem?_nil, Int.reduceToNat, Int.reduceLE, Int.reduceLT, ite_self, List.forall_mem_cons, List.not_mem_nil, false_and, and_false, Bool.false_eq_true, List.replicate_zero, List.replicate_succ, Int.toNat_natCast, neJ2, neJ2', neJ3, neJ3', callOf, callOf2, fnOf, argsA, args2, Array.isEmpty_empty, resLL, resVL, beq_self_eq_true, appR, newR, storeP, st3, zt3, it3, ct3, se3, Tryz.underlying3, st4, zt4, it4, ct4, se4, Tryz.underlying4, st9, zt9, it9, ct9, se9, Tryz.underlying9, st23, zt23, it23, ct23, se23, Tryz.underlying23, st25, zt25, it25, ct25, pt25, eqs25, se25, Tryz.underlying25, st49, zt49, it49, ct49, se49, Tryz.underlying49, st122, Tryz.underlying122, st139, zt139, it139, ct139, se139, Tryz.underlying139, Tryz.results209, Int.toNat_one, U.out] <;> rfl) : a = b := h
structure SymS (l : List Row) (a m b st en mid : Nat) : Prop where
  hb : b ≤ l.length
  hA : SdSeg l a m
  hB : SdSeg l m b
  h1 : a ≤ st
  h2 : st ≤ m
  h3 : m ≤ en
  h4 : en ≤ b
  hmid : mid + m = st + en
  hlo : st = a ∨ en = b ∨ cmpR (gt' l (st - 1)) (gt' l en) ≤ 0
  hhi : st = m ∨ en = m ∨ cmpR (gt' l (en - 1)) (gt' l st) ≤ 0
def PX (l : List Row) (st m en : Nat) (x : List Row) : Prop := x = rot l st m en ∨ (x = l ∧ ¬ (st < m ∧ m < en))
def PY (x : List Row) (a st mid : Nat) (y : List Row) : Prop := y = srtSeg x a mid ∨ (y = x ∧ ¬ (a < st ∧ st < mid))
section
variable {l x y z : List Row} {a m b st en mid : Nat}
theorem SymS.ex (S : SymS l a m b st en mid) (hx : PX l st m en x) : x = rot l st m en := by
  have := S.h2; have := S.h3; have := S.h4; have := S.hb
  rcases hx with h | ⟨rfl, h⟩
  · exact h
  · rcases Nat.lt_or_ge st m with h5 | h5
    · have : en = m := by omega
      subst this; exact (rot_nil2 (by omega) (by omega)).symm
    · have : st = m := by omega
      subst this; exact (rot_nil1 (by omega) (by omega)).symm
theorem SymS.lo (S : SymS l a m b st en mid) (hx : PX l st m en x) : x.length = l.length ∧ SdSeg x a st ∧ SdSeg x st mid ∧ SdSeg x mid en ∧ SdSeg x en b := by
  have e := S.ex hx
  subst e
  have h1 := S.h1; have h2 := S.h2; have h3 := S.h3; have h4 := S.h4; have hb := S.hb; have hmid := S.hmid
  have gx := gt_rot h2 h3 (show en ≤ l.length by omega)
  refine ⟨rot_len h2 h3 (by omega), sd_congr (fun p hp hq => ?_) (fun p q hp hpq hq => S.hA p q hp hpq (by omega)), fun p q hp hpq hq => ?_, fun p q hp hpq hq => ?_, sd_congr (fun p hp hq => ?_) (fun p q hp hpq hq => S.hB p q (by omega) hpq hq)⟩
  · rw [gx, rotI, if_pos (by omega)]
  · rw [gx, gx, rotI, rotI, if_neg (by omega), if_pos (by omega), if_neg (by omega), if_pos (by omega)]; exact S.hB _ _ (by omega) (by omega) (by omega)
  · rw [gx, gx, rotI, rotI, if_neg (by omega), if_neg (by omega), if_neg (by omega), if_neg (by omega)]; exact S.hA _ _ (by omega) (by omega) (by omega)
  · rw [gx, rotI, if_pos (by omega)]
theorem SymS.mm (S : SymS l a m b st en mid) (hx : PX l st m en x) (hy : PY x a st mid y) : y.length = l.length ∧ SdSeg y mid en ∧ SdSeg y en b := by
  have h := S.lo hx
  have h1 := S.h1; have h2 := S.h2; have h3 := S.h3; have h4 := S.h4; have hb := S.hb; have hmid := S.hmid
  rcases hy with rfl | ⟨rfl, _⟩
  · have hi := (srtSeg_is (l := x) (show a ≤ mid by omega) (by omega)).1
    exact ⟨hi.len.trans h.1, sd_congr (fun p hp hq => hi.hi hp) h.2.2.2.1, sd_congr (fun p hp hq => hi.hi (by omega)) h.2.2.2.2⟩
  · exact ⟨h.1, h.2.2.2.1, h.2.2.2.2⟩
theorem SymS.fin (S : SymS l a m b st en mid) (hx : PX l st m en x) (hy : PY x a st mid y) (hz : z = srtSeg y mid b ∨ (z = y ∧ ¬ (mid < en ∧ en < b))) : z = srtSeg l a b :=
  sym_fin S.hb S.hA S.hB S.h1 S.h2 S.h3 S.h4 S.hmid S.hlo S.hhi hx hy hz
theorem SymS.y1 (S : SymS l a m b st en mid) (hx : PX l st m en x) : PY x a st mid (srtSeg x a mid) := .inl rfl
theorem SymS.y2 (S : SymS l a m b st en mid) (hx : PX l st m en x) (h : ¬ (a < st ∧ st < mid)) : PY x a st mid x := .inr ⟨rfl, h⟩
end
def SymAt (f : Nat) : Prop := ∀ {id : Rid} {rs : Rid → Res} {p : Path} {s : Nat} (l : List Row) (N a m b : Nat), ¬ Under p id → rs id = arrR s l → N = l.length → N ≤ 1000000 → a < m → m < b → b ≤ N → b - a ≤ f → SdSeg l a m → SdSeg l m b →
    Calls2 Tryz.prog 209 [aArr id s N, aI a, aI m, aI b, aCmp] [id] rs p (.tup []) [(id, arrR s (srtSeg l a b))]
theorem okRot' {id : Rid} {rs : Rid → Res} {p : Path} {s : Nat} {l : List Row} {N a m b : Nat} (hid : ¬ Under p id) (hrs : rs id = arrR s l) (hN : N = l.length) (hl : N ≤ maxLen) (h1 : a < m) (h2 : m < b) (h3 : b ≤ N) :
    Calls2 Tryz.prog 215 [aArr id s N, aI a, aI m, aI b, aCmp] [id] rs p (.tup []) [(id, arrR s (rot l a m b))] := okRot l N a m b hid hrs hN hl h1 h2 h3
theorem SymAt.call {f : Nat} (h : SymAt f) {id : Rid} {rs : Rid → Res} {p : Path} {s : Nat} {l : List Row} {N a m b : Nat} (hid : ¬ Under p id) (hrs : rs id = arrR s l) (hN : N = l.length) (hl : N ≤ 1000000) (h1 : a < m) (h2 : m < b) (h3 : b ≤ N) (hf : b - a ≤ f) (hs : SdSeg l a m ∧ SdSeg l m b) :
    Calls2 Tryz.prog 209 [aArr id s N, aI a, aI m, aI b, aCmp] [id] rs p (.tup []) [(id, arrR s (srtSeg l a b))] := h l N a m b hid hrs hN hl h1 h2 h3 hf hs.1 hs.2
theorem rg209v9 {T : List Rid} {p : Path} {Q : Exit → SL → Prop} {tm : List AV} {L : RL} {n : Nat} {c : Code} {l : List Oper} (n' : Nat) (Qs : List Nat) (h : ∀ all, (ro c).toList = all → GoI Tryz.prog T p all false Qs n 0 l tm L fun tm' L' => Q .normal ⟨tm', L', n'⟩) (hk : kd c = 0 := by kernel_rfl) (hr : rd c = false := by kernel_rfl) (hl : (ro c).toList = l := by dsimp only [ro, s1, s2, c1, c2, bc, bod, Tryz.f209, Option.getD_some] <;> exact rfl) (hn : n + (ro c).size = n' := by kernel_rfl) : PI Tryz.prog T p c Q ⟨tm, L, n⟩ := PI.rg n' Qs hk hr hl (fun h => by cases h) hn (h _ rfl)
theorem rd209v9 {T : List Rid} {p : Path} {Q : Exit → SL → Prop} {tm : List AV} {L : RL} {n : Nat} {c : Code} {l : List Oper} (n' : Nat) (Qs : List Nat) (h : ∀ all, (ro c).toList = all → GoI Tryz.prog T p all true Qs n 0 l tm L fun tm' L' => Q .normal ⟨tm', L', n'⟩) (hk : kd c = 0 := by kernel_rfl) (hr : rd c = true := by kernel_rfl) (hl : (ro c).toList = l := by dsimp only [ro, s1, s2, c1, c2, bc, bod, Tryz.f209, Option.getD_some] <;> exact rfl) (hn : n + (ro c).size = n' := by kernel_rfl) (hd : drawOK (ro c) Qs = true := by kernel_rfl) : PI Tryz.prog T p c Q ⟨tm, L, n⟩ := PI.rg n' Qs hk hr hl (fun _ => hd) hn (h _ rfl)
set_option maxHeartbeats 4000000 in
set_option maxRecDepth 100000 in
theorem okSym3 (f : Nat) (ih : SymAt f) {id : Rid} {rs : Rid → Res} {p : Path} {s : Nat} (l : List Row) (N a m b : Nat) (hid : ¬ Under p id) (hrs : rs id = arrR s l) (hN : N = l.length) (hl : N ≤ 1000000) (hm : m ≠ a + 1) (h1 : a < m) (hb' : b ≠ m + 1) (h2 : m < b) (h3 : b ≤ N) (hf : b - a ≤ f + 1) (hA : SdSeg l a m) (hB : SdSeg l m b) :
    Calls2 Tryz.prog 209 [aArr id s N, aI a, aI m, aI b, aCmp] [id] rs p (.tup []) [(id, arrR s (srtSeg l a b))] := by
  have hl' : 2 * N ≤ maxLen := by unfold maxLen; omega
  have w1 : IntKind.i64.wrap ((m : Int) - a) = ((m - a : Nat) : Int) := wN (y := 0) (by omega) (by omega)
  have w1' : IntKind.i64.wrap ((b : Int) - m) = ((b - m : Nat) : Int) := wN (y := 0) (by omega) (by omega)
  have v1 : IntKind.i64.wrap ((a : Int) + b) = ((a + b : Nat) : Int) := wN (y := 0) (by omega) (by omega)
  have v2 : IntKind.u64.wrap ((a + b : Nat) : Int) = ((a + b : Nat) : Int) := wU (by omega)
  have v3 := halfN (a + b)
  have hd0 : a < (a + b) / 2 ∧ (a + b) / 2 < b ∧ (a + b) / 2 - a ≤ b - (a + b) / 2 ∧ b - (a + b) / 2 ≤ (a + b) / 2 - a + 1 := by omega
  generalize hmid : (a + b) / 2 = mid
  rw [hmid] at v3 hd0
  have v4 : IntKind.i64.wrap (mid : Int) = mid := wN (y := 0) rfl (by omega)
  have v5 : IntKind.i64.wrap ((mid : Int) + m) = ((mid + m : Nat) : Int) := wN (y := 0) rfl (by omega)
  have v7 : IntKind.i64.wrap (((mid + m : Nat) : Int) - 1) = ((mid + m - 1 : Nat) : Int) := wN (y := 0) (by omega) (by omega)
  have U : Hid True := ⟨trivial⟩
  replace U := U.cons (And.intro (nu1 hid) (And.intro (nu2 hid) (And.intro (w1) (And.intro (w1') (And.intro (v1) (And.intro (v2) (And.intro (v3) (And.intro (v4) (And.intro (v5) (And.intro (v7) (halfN)))))))))))
  refine Calls2.of_pi ([(id, arrR s l)]) mixed Tryz.func209 (by kernel_rfl) (by kernel_rfl) (by simp [lk, hrs, hid]) (by simp [lk, hrs, hid]) (by simp [lk, hrs, hid]) (by simp [lk, hrs, hid]) (by simp [lk, hrs, hid]) (?_ : PI _ _ _ _ _ ⟨[aArr id s N, aI a, aI m, aI b, aCmp, .und, .und, .und, .und, .und, .und, .und, .und, .und, .und, .und, .und, .und, .und, .und, .und, .und, .und, .und, .und, .und, .und, .und, .und, .und, .und, .und, .und, .und, .und, .und, .und, .und, .und, .und, .und, .und, .und, .und, .und, .und, .und, .und, .und, .und, .und, .und, .und, .und, .und, .und, .und, .und, .und, .und, .und, .und, .und, .und, .und, .und, .und, .und, .und, .und, .und, .und, .und, .und, .und, .und, .und, .und, .und, .und, .und, .und, .und, .und, .und, .und, .und, .und, .und, .und, .und, .und, .und, .und, .und, .und, .und, .und, .und, .und, .und, .und, .und, .und, .und, .und, .und, .und, .und, .und, .und, .und, .und, .und, .und, .und, .und, .und, .und, .und, .und, .und, .und, .und, .und, .und, .und, .und, .und, .und, .und, .und, .und, .und, .und, .und, .und, .und, .und, .und, .und, .und, .und, .und, .und, .und, .und, .und, .und, .und, .und, .und, .und, .und, .und, .und, .und, .und, .und, .und, .und, .und, .und, .und, .und, .und, .und, .und, .und, .und, .und, .und, .und, .und, .und, .und, .und, .und, .und, .und, .und, .und, .und, .und, .und, .und, .und, .und, .und, .und, .und, .und, .und, .und, .und, .und, .und, .und, .und, .und, .und, .und, .und, .und, .und, .und, .und, .und, .und, .und, .und, .und, .und, .und, .und, .und, .und, .und, .und, .und], [(id, arrR s l)], 0⟩)
  refine PI.q ?_
  refine PI.q ?_
  refine rg209v9 (4) [] fun all1 _ => ?_
  refine GoI.runN 2 nf9 ?_
  refine GoI.z nf9 ?_
  refine PI.d 28 nf9 (fun hb1 => ?_) (fun hb1 => ?_)
  ·
   try simp only [hb1]
   exact absurd hb1 (by simp; omega)
  try simp only [hb1]
  refine PI.s ?_
  refine PI.q ?_
  refine PI.q ?_
  refine rg209v9 (8) [] fun all13 _ => ?_
  refine GoI.runN 2 nf9 ?_
  refine GoI.z nf9 ?_
  refine PI.d 80 nf9 (fun hb5 => ?_) (fun hb5 => ?_)
  ·
   try simp only [hb5]
   exact absurd hb5 (by simp; omega)
  try simp only [hb5]
  refine PI.s ?_
  refine PI.q ?_
  refine rg209v9 (15) [] fun all25 _ => ?_
  refine GoI.runN 2 nf9 ?_
  refine GoI.runN 2 nf9 ?_
  refine GoI.runN 2 nf9 ?_
  refine GoI.z nf9 ?_
  refine PI.q ?_
  refine rg209v9 (19) [] fun all26 _ => ?_
  refine GoI.runN 2 nf9 ?_
  refine GoI.z nf9 ?_
  refine PI.q ?_
  refine rg209v9 (21) [] fun all27 _ => ?_
  refine GoI.z nf9 ?_
  refine PI.sj (by kernel_rfl) (by kernel_rfl) (X := IJ) (fun x => (20, aI x.i) :: (21, aI x.j) :: uk [138, 139, 140, 141, 142, 143, 144, 145, 146]) (fun _ => [(id, arrR s l)]) (fun x => (x.i = mid + m - b ∧ x.j = mid ∧ mid < m) ∨ (x.i = a ∧ x.j = m ∧ m ≤ mid)) ?_ ?_
  ·
   refine PI.q ?_
   refine rg209v9 (24) [] fun all28 _ => ?_
   refine GoI.runN 2 nf9 ?_
   refine GoI.z nf9 ?_
   refine PI.d 140 nf9 (fun hb9 => ?_) (fun hb9 => ?_)
   ·
    try simp only [hb9]
    have hmm : mid < m := by simpa using hb9
    have v6 : IntKind.i64.wrap (((mid + m : Nat) : Int) - b) = ((mid + m - b : Nat) : Int) := wN (y := 0) (by omega) (by omega)
    replace U := U.cons (v6)
    refine PI.q ?_
    refine rg209v9 (28) [] fun all29 _ => ?_
    refine GoI.runN 2 nf9 ?_
    refine GoI.z nf9 ?_
    refine rg209v9 (30) [] fun all30 _ => ?_
    refine GoI.z nf9 ?_
    refine ⟨⟨mid + m - b, mid⟩, 9, .inl ⟨rfl, rfl, hmm⟩, GhI.of_wk ⟨by simp [ovr, uk, lessT], by simp [lessR, lk, nu1 hid, nu2 hid, w1, w1', v1, v2, v3, v4, v5, v7, halfN, Nat.reduceLeDiff, Int.toNat_one, neJ2, neJ2', neJ3, neJ3'], by (try dsimp only); omega, by simp [keepR, lk, under_self, nu1 hid, nu2 hid, w1, w1', v1, v2, v3, v4, v5, v7, halfN, Nat.reduceLeDiff, Int.toNat_one, neJ2, neJ2', neJ3, neJ3']⟩⟩
   try simp only [hb9]
   have hmm : ¬ mid < m := by simpa using hb9
   refine PI.q ?_
   refine rg209v9 (26) [] fun all31 _ => ?_
   refine GoI.z nf9 ?_
   refine rg209v9 (28) [] fun all32 _ => ?_
   refine GoI.z nf9 ?_
   refine ⟨⟨a, m⟩, 7, .inr ⟨rfl, rfl, by omega⟩, GhI.of_wk ⟨by simp [ovr, uk, lessT], by simp [lessR, lk, nu1 hid, nu2 hid, w1, w1', v1, v2, v3, v4, v5, v7, halfN, Nat.reduceLeDiff, Int.toNat_one, neJ2, neJ2', neJ3, neJ3'], by (try dsimp only); omega, by simp [keepR, lk, under_self, nu1 hid, nu2 hid, w1, w1', v1, v2, v3, v4, v5, v7, halfN, Nat.reduceLeDiff, Int.toNat_one, neJ2, neJ2', neJ3, neJ3']⟩⟩
  intro y9 i1 hr9
  generalize hlo : y9.i = lo
  generalize hhi : y9.j = hi
  rw [hlo, hhi] at hr9
  have v6 : lo + hi = mid + m ∨ True := .inr trivial
  simp only [ovr, uk, List.set_cons_zero, List.set_cons_succ]
  refine PI.q ?_
  refine rg209v9 (i1 + 24) [] fun all33 _ => ?_
  refine GoI.runN 2 nf9 ?_
  refine GoI.z nf9 ?_
  refine PI.q ?_
  refine PI.b 8 ?_
  refine PI.lo (by kernel_rfl) (X := IJ) (fun x => (20, aI x.i) :: (21, aI x.j) :: uk [23, 149, 150, 151, 152, 153, 154, 155, 156, 157, 158, 159, 160, 161, 162, 163, 164, 165, 166, 167, 168, 169, 170, 171, 172, 173, 174]) (fun _ => [(id, arrR s l)]) (fun k x => k = x.j - x.i ∧ lo ≤ x.i ∧ x.i ≤ x.j ∧ x.j ≤ hi ∧ (x.i = lo ∨ cmpR (gt' l (x.i - 1)) (gt' l (mid + m - x.i)) ≤ 0) ∧ (x.j = hi ∨ cmpR (gt' l (mid + m - x.j - 1)) (gt' l x.j) ≤ 0)) (hi - lo) (⟨lo, hi⟩) (GhI.of_wk ⟨by simp [ovr, uk, lessT], by simp [lessR, lk, nu1 hid, nu2 hid, w1, w1', v1, v2, v3, v4, v5, v7, halfN, Nat.reduceLeDiff, Int.toNat_one, neJ2, neJ2', neJ3, neJ3'], by (try dsimp only); omega, by simp [keepR, lk, under_self, nu1 hid, nu2 hid, w1, w1', v1, v2, v3, v4, v5, v7, halfN, Nat.reduceLeDiff, Int.toNat_one, neJ2, neJ2', neJ3, neJ3']⟩) (⟨rfl, Nat.le_refl _, by dsimp only; omega, Nat.le_refl _, .inl rfl, .inl rfl⟩) ?_
  intro k5 x5 j5 hr5
  obtain ⟨rfl, hi1, hi2, hi3, hlo, hhi⟩ := hr5
  simp only [ovr, uk, List.set_cons_zero, List.set_cons_succ]
  refine PI.q ?_
  refine PI.q ?_
  refine rg209v9 (j5 + (i1 + 27)) [] fun all34 _ => ?_
  refine GoI.runN 2 nf9 ?_
  refine GoI.z nf9 ?_
  refine PI.d 151 nf9 (fun hb10 => ?_) (fun hb10 => ?_)
  ·
   try simp only [hb10]
   have hlt : x5.i < x5.j := by simpa using hb10
   have w2 : IntKind.i64.wrap ((x5.i : Int) + x5.j) = ((x5.i + x5.j : Nat) : Int) := wN (y := 0) (by omega) (by omega)
   have w3 : IntKind.u64.wrap ((x5.i + x5.j : Nat) : Int) = ((x5.i + x5.j : Nat) : Int) := wU (by omega)
   have hc0 : x5.i ≤ (x5.i + x5.j) / 2 ∧ (x5.i + x5.j) / 2 < x5.j := by omega
   have hfd := halfN (x5.i + x5.j)
   generalize hc : (x5.i + x5.j) / 2 = c
   rw [hc] at hc0 hfd
   have w4 : IntKind.i64.wrap (c : Int) = c := wN (y := 0) rfl (by omega)
   have w5 : IntKind.i64.wrap ((c : Int) + 1) = ((c + 1 : Nat) : Int) := wN (y := 0) rfl (by omega)
   have w6 : IntKind.i64.wrap (((mid + m - 1 : Nat) : Int) - c) = ((mid + m - c - 1 : Nat) : Int) := wN (y := 0) (by omega) (by omega)
   have hcc := show c < N by omega
   have hxc := rws_at (l := l) (i := c) (by omega)
   have hcd := show mid + m - c - 1 < N by omega
   have hxd := rws_at (l := l) (i := mid + m - c - 1) (by omega)
   replace U := U.cons (And.intro (w2) (And.intro (w3) (And.intro (w4) (And.intro (w5) (And.intro (w6) (And.intro (hfd) (And.intro (hcc) (And.intro (hcd) (And.intro (hxc) (And.intro (hxd) (And.intro (@Int.natCast_nonneg) (@Int.ofNat_lt))))))))))))
   refine PI.s ?_
   refine PI.b 9 ?_
   refine PI.q ?_
   refine rg209v9 (j5 + (i1 + 34)) [] fun all35 _ => ?_
   refine GoI.runN 2 nf9 ?_
   refine GoI.runN 2 nf9 ?_
   refine GoI.runN 2 nf9 ?_
   refine GoI.z nf9 ?_
   refine PI.q ?_
   refine rd209v9 (j5 + (i1 + 48)) [] fun all36 _ => ?_
   refine GoI.runN 2 nf9 ?_
   refine GoI.runN 2 nf9 ?_
   refine GoI.runN 2 nf9 ?_
   refine GoI.runN 2 nf9 ?_
   refine GoI.runN 2 nf9 ?_
   refine GoI.run nf9 ?_
   refine GoI.call nf9 nf9 (by exact okCmpR _ _) ?_
   refine GoI.z nf9 ?_
   refine PI.d 171 nf9 (fun hb11 => ?_) (fun hb11 => ?_)
   ·
    try simp only [hb11]
    have hcl : cmpR (gt' l c) (gt' l (mid + m - (c + 1))) ≤ 0 := by have := preR.anti (gt' l (mid + m - c - 1)) (gt' l c); have : ¬ cmpR (gt' l (mid + m - c - 1)) (gt' l c) < 0 := (by simpa using hb11); rw [show mid + m - (c + 1) = mid + m - c - 1 by omega]; omega
    refine rg209v9 (j5 + (i1 + 51)) [] fun all37 _ => ?_
    refine GoI.runN 2 nf9 ?_
    refine GoI.z nf9 ?_
    refine ⟨x5.j - (c + 1), ⟨c + 1, x5.j⟩, j5 + 27, by omega, ⟨rfl, by dsimp only; omega, by dsimp only; omega, hi3, .inr hcl, hhi⟩, GhI.of_wk ⟨by simp [ovr, uk, lessT], by simp [lessR, lk, nu1 hid, nu2 hid, w1, w1', v1, v2, v3, v4, v5, v7, halfN, Nat.reduceLeDiff, Int.toNat_one, neJ2, neJ2', neJ3, neJ3'], by (try dsimp only); omega, by simp [keepR, lk, under_self, nu1 hid, nu2 hid, w1, w1', v1, v2, v3, v4, v5, v7, halfN, Nat.reduceLeDiff, Int.toNat_one, neJ2, neJ2', neJ3, neJ3']⟩⟩
   try simp only [hb11]
   have hcl : cmpR (gt' l (mid + m - c - 1)) (gt' l c) < 0 := by simpa using hb11
   refine rg209v9 (j5 + (i1 + 50)) [] fun all38 _ => ?_
   refine GoI.z nf9 ?_
   refine ⟨c - x5.i, ⟨x5.i, c⟩, j5 + 26, by omega, ⟨rfl, hi1, by dsimp only; omega, by dsimp only; omega, hlo, .inr (Int.le_of_lt hcl)⟩, GhI.of_wk ⟨by simp [ovr, uk, lessT], by simp [lessR, lk, nu1 hid, nu2 hid, w1, w1', v1, v2, v3, v4, v5, v7, halfN, Nat.reduceLeDiff, Int.toNat_one, neJ2, neJ2', neJ3, neJ3'], by (try dsimp only); omega, by simp [keepR, lk, under_self, nu1 hid, nu2 hid, w1, w1', v1, v2, v3, v4, v5, v7, halfN, Nat.reduceLeDiff, Int.toNat_one, neJ2, neJ2', neJ3, neJ3']⟩⟩
  try simp only [hb10]
  have hij : x5.j = x5.i := by have : ¬ x5.i < x5.j := (by simpa using hb10); omega
  rw [hij] at hhi hi3
  generalize hst : x5.i = st
  rw [hst] at hhi hi3 hlo hi1
  have v8 : IntKind.i64.wrap (((mid + m : Nat) : Int) - st) = ((mid + m - st : Nat) : Int) := wN (y := 0) (by omega) (by omega)
  have S : SymS l a m b st (mid + m - st) mid := ⟨by omega, hA, hB, by omega, by omega, by omega, by omega, by omega, by omega, by omega⟩
  replace U := U.cons (v8)
  refine PI.e 8 ?_
  refine PI.q ?_
  refine rg209v9 (j5 + (i1 + 31)) [] fun all39 _ => ?_
  refine GoI.runN 2 nf9 ?_
  refine GoI.z nf9 ?_
  refine PI.sj (by kernel_rfl) (by kernel_rfl) (X := List Row) (fun _ => uk [178, 179, 180, 181, 182, 183, 184, 185, 186, 187, 188, 189, 190, 191]) (fun x => [(id, arrR s x)]) (fun x => PX l st m (mid + m - st) x) ?_ ?_
  ·
   refine PI.q ?_
   refine rg209v9 (j5 + (i1 + 39)) [] fun all40 hall40 => ?_
   have hgd40_3 : (all40[3]?).bind (fun o => o.dst) = some 181 := by rw [← hall40]; kernel_rfl
   replace U := U.cons (hgd40_3)
   refine GoI.runN 2 nf9 ?_
   refine GoI.runN 2 nf9 ?_
   refine GoI.grd 181 nf9 (fun hg1 => ?_) (fun hg1 => ?_)
   ·
    try simp only [hg1]
    simp only [decide_eq_true_eq, decide_eq_false_iff_not, Int.not_lt, Int.ofNat_lt, Int.ofNat_le] at hg1
    refine GoI.runN 2 nf9 ?_
    refine GoI.z nf9 ?_
    refine PI.d 185 nf9 (fun hb12 => ?_) (fun hb12 => ?_)
    ·
     try simp only [hb12]
     have hb12' : m < mid + m - st := by simpa using hb12
     refine rg209v9 (j5 + (i1 + 45)) [5] fun all41 _ => ?_
     refine GoI.runN 2 nf9 ?_
     refine GoI.runN 2 nf9 ?_
     refine GoI.run nf9 ?_
     refine GoI.call2e nf9 nf9 (by exact okRot' (fun h => hid h.tail) (by repeat (first | exact lk_hd | refine lk_tl (by simp <;> omega) ?_)) hN (by omega) (by omega) (by omega) (by omega)) (by first | exact .inr rfl | exact .inl rfl) (by exact fun h => by cases h) ?_
     try simp only [List.reverse_cons, List.reverse_nil, List.nil_append, List.cons_append, List.append_assoc]
     refine GoI.z nf9 ?_
     refine ⟨rot l st m (mid + m - st), 14, .inl rfl, GhI.of_wk ⟨by simp [ovr, uk, lessT], by simp [lessR, lk, nu1 hid, nu2 hid, w1, w1', v1, v2, v3, v4, v5, v7, halfN, Nat.reduceLeDiff, Int.toNat_one, neJ2, neJ2', neJ3, neJ3'], by (try dsimp only); omega, by simp [keepR, lk, under_self, nu1 hid, nu2 hid, w1, w1', v1, v2, v3, v4, v5, v7, halfN, Nat.reduceLeDiff, Int.toNat_one, neJ2, neJ2', neJ3, neJ3']⟩⟩
    try simp only [hb12]
    have hb12' : ¬ m < mid + m - st := by simpa using hb12
    refine PI.s ?_
    refine ⟨l, 8, .inr ⟨rfl, by omega⟩, GhI.of_wk ⟨by simp [ovr, uk, lessT], by simp [lessR, lk, nu1 hid, nu2 hid, w1, w1', v1, v2, v3, v4, v5, v7, halfN, Nat.reduceLeDiff, Int.toNat_one, neJ2, neJ2', neJ3, neJ3'], by (try dsimp only); omega, by simp [keepR, lk, under_self, nu1 hid, nu2 hid, w1, w1', v1, v2, v3, v4, v5, v7, halfN, Nat.reduceLeDiff, Int.toNat_one, neJ2, neJ2', neJ3, neJ3']⟩⟩
   try simp only [hg1]
   simp only [decide_eq_true_eq, decide_eq_false_iff_not, Int.not_lt, Int.ofNat_lt, Int.ofNat_le] at hg1
   refine GoI.runN 2 nf9 ?_
   refine GoI.z nf9 ?_
   refine PI.f 185 nf9 ?_
   refine PI.s ?_
   refine ⟨l, 8, .inr ⟨rfl, by omega⟩, GhI.of_wk ⟨by simp [ovr, uk, lessT], by simp [lessR, lk, nu1 hid, nu2 hid, w1, w1', v1, v2, v3, v4, v5, v7, halfN, Nat.reduceLeDiff, Int.toNat_one, neJ2, neJ2', neJ3, neJ3'], by (try dsimp only); omega, by simp [keepR, lk, under_self, nu1 hid, nu2 hid, w1, w1', v1, v2, v3, v4, v5, v7, halfN, Nat.reduceLeDiff, Int.toNat_one, neJ2, neJ2', neJ3, neJ3']⟩⟩
  intro y12 i2 hr12
  have hS := (S.lo hr12).2
  have hS1 := And.intro hS.1 hS.2.1
  have hXl := (S.lo hr12).1
  simp only [ovr, uk, List.set_cons_zero, List.set_cons_succ]
  refine PI.sj (by kernel_rfl) (by kernel_rfl) (X := List Row) (fun _ => uk [192, 193, 194, 195, 196, 197, 198, 199, 200, 201, 202, 203, 204, 205]) (fun x => [(id, arrR s x)]) (fun y => PY y12 a st mid y) ?_ ?_
  ·
   refine PI.q ?_
   refine rg209v9 (i2 + (j5 + (i1 + 39))) [] fun all42 hall42 => ?_
   have hgd42_3 : (all42[3]?).bind (fun o => o.dst) = some 195 := by rw [← hall42]; kernel_rfl
   replace U := U.cons (hgd42_3)
   refine GoI.runN 2 nf9 ?_
   refine GoI.runN 2 nf9 ?_
   refine GoI.grd 195 nf9 (fun hg2 => ?_) (fun hg2 => ?_)
   ·
    try simp only [hg2]
    simp only [decide_eq_true_eq, decide_eq_false_iff_not, Int.not_lt, Int.ofNat_lt, Int.ofNat_le] at hg2
    refine GoI.runN 2 nf9 ?_
    refine GoI.z nf9 ?_
    refine PI.d 199 nf9 (fun hb13 => ?_) (fun hb13 => ?_)
    ·
     try simp only [hb13]
     have hb13' : st < mid := by simpa using hb13
     refine rg209v9 (i2 + (j5 + (i1 + 45))) [5] fun all43 _ => ?_
     refine GoI.runN 2 nf9 ?_
     refine GoI.runN 2 nf9 ?_
     refine GoI.run nf9 ?_
     refine GoI.call2e nf9 nf9 (by exact ih.call (fun h => hid h.tail) (by repeat (first | exact lk_hd | refine lk_tl (by simp <;> omega) ?_)) (by omega) hl (by omega) (by omega) (by omega) (by omega) (by assumption)) (by first | exact .inr rfl | exact .inl rfl) (by exact fun h => by cases h) ?_
     try simp only [List.reverse_cons, List.reverse_nil, List.nil_append, List.cons_append, List.append_assoc]
     refine GoI.z nf9 ?_
     refine ⟨srtSeg y12 a mid, 14, .inl rfl, GhI.of_wk ⟨by simp [ovr, uk, lessT], by simp [lessR, lk, nu1 hid, nu2 hid, w1, w1', v1, v2, v3, v4, v5, v7, halfN, Nat.reduceLeDiff, Int.toNat_one, neJ2, neJ2', neJ3, neJ3'], by (try dsimp only); omega, by simp [keepR, lk, under_self, nu1 hid, nu2 hid, w1, w1', v1, v2, v3, v4, v5, v7, halfN, Nat.reduceLeDiff, Int.toNat_one, neJ2, neJ2', neJ3, neJ3']⟩⟩
    try simp only [hb13]
    have hb13' : ¬ st < mid := by simpa using hb13
    refine PI.s ?_
    refine ⟨y12, 8, .inr ⟨rfl, by omega⟩, GhI.of_wk ⟨by simp [ovr, uk, lessT], by simp [lessR, lk, nu1 hid, nu2 hid, w1, w1', v1, v2, v3, v4, v5, v7, halfN, Nat.reduceLeDiff, Int.toNat_one, neJ2, neJ2', neJ3, neJ3'], by (try dsimp only); omega, by simp [keepR, lk, under_self, nu1 hid, nu2 hid, w1, w1', v1, v2, v3, v4, v5, v7, halfN, Nat.reduceLeDiff, Int.toNat_one, neJ2, neJ2', neJ3, neJ3']⟩⟩
   try simp only [hg2]
   simp only [decide_eq_true_eq, decide_eq_false_iff_not, Int.not_lt, Int.ofNat_lt, Int.ofNat_le] at hg2
   refine GoI.runN 2 nf9 ?_
   refine GoI.z nf9 ?_
   refine PI.f 199 nf9 ?_
   refine PI.s ?_
   refine ⟨y12, 8, .inr ⟨rfl, by omega⟩, GhI.of_wk ⟨by simp [ovr, uk, lessT], by simp [lessR, lk, nu1 hid, nu2 hid, w1, w1', v1, v2, v3, v4, v5, v7, halfN, Nat.reduceLeDiff, Int.toNat_one, neJ2, neJ2', neJ3, neJ3'], by (try dsimp only); omega, by simp [keepR, lk, under_self, nu1 hid, nu2 hid, w1, w1', v1, v2, v3, v4, v5, v7, halfN, Nat.reduceLeDiff, Int.toNat_one, neJ2, neJ2', neJ3, neJ3']⟩⟩
  intro y13 i3 hr13
  have hS2 := (S.mm hr12 hr13).2
  have hYl := (S.mm hr12 hr13).1
  simp only [ovr, uk, List.set_cons_zero, List.set_cons_succ]
  refine PI.q ?_
  refine rg209v9 (i3 + (i2 + (j5 + (i1 + 39)))) [] fun all44 hall44 => ?_
  have hgd44_3 : (all44[3]?).bind (fun o => o.dst) = some 209 := by rw [← hall44]; kernel_rfl
  replace U := U.cons (hgd44_3)
  refine GoI.runN 2 nf9 ?_
  refine GoI.runN 2 nf9 ?_
  refine GoI.grd 209 nf9 (fun hg3 => ?_) (fun hg3 => ?_)
  ·
   try simp only [hg3]
   simp only [decide_eq_true_eq, decide_eq_false_iff_not, Int.not_lt, Int.ofNat_lt, Int.ofNat_le] at hg3
   refine GoI.runN 2 nf9 ?_
   refine GoI.z nf9 ?_
   refine PI.d 213 nf9 (fun hb14 => ?_) (fun hb14 => ?_)
   ·
    try simp only [hb14]
    have hb14' : mid + m - st < b := by simpa using hb14
    have hZ := S.fin hr12 hr13 (.inl rfl)
    rw [← hZ]
    refine rg209v9 (i3 + (i2 + (j5 + (i1 + 45)))) [5] fun all45 _ => ?_
    refine GoI.runN 2 nf9 ?_
    refine GoI.runN 2 nf9 ?_
    refine GoI.run nf9 ?_
    refine GoI.call2e nf9 nf9 (by exact ih.call (fun h => hid h.tail) (by repeat (first | exact lk_hd | refine lk_tl (by simp <;> omega) ?_)) (by omega) hl (by omega) (by omega) (by omega) (by omega) (by assumption)) (by first | exact .inr rfl | exact .inl rfl) (by exact fun h => by cases h) ?_
    try simp only [List.reverse_cons, List.reverse_nil, List.nil_append, List.cons_append, List.append_assoc]
    refine GoI.z nf9 ?_
    exact FinI.mk _ nf9 ⟨by clear U; rfl, fin_keys (by simp [lk, under_self, nu1 hid, nu2 hid, w1, w1', v1, v2, v3, v4, v5, v7, halfN, Nat.reduceLeDiff, Int.toNat_one]) (by simp [lk, under_self, nu1 hid, nu2 hid, w1, w1', v1, v2, v3, v4, v5, v7, halfN, Nat.reduceLeDiff, Int.toNat_one])⟩
   try simp only [hb14]
   have hb14' : ¬ mid + m - st < b := by simpa using hb14
   have hZ := S.fin hr12 hr13 (.inr ⟨rfl, by omega⟩)
   rw [← hZ]
   refine PI.s ?_
   exact FinI.mk _ nf9 ⟨by clear U; rfl, fin_keys (by simp [lk, under_self, nu1 hid, nu2 hid, w1, w1', v1, v2, v3, v4, v5, v7, halfN, Nat.reduceLeDiff, Int.toNat_one]) (by simp [lk, under_self, nu1 hid, nu2 hid, w1, w1', v1, v2, v3, v4, v5, v7, halfN, Nat.reduceLeDiff, Int.toNat_one])⟩
  try simp only [hg3]
  simp only [decide_eq_true_eq, decide_eq_false_iff_not, Int.not_lt, Int.ofNat_lt, Int.ofNat_le] at hg3
  refine GoI.runN 2 nf9 ?_
  refine GoI.z nf9 ?_
  refine PI.f 213 nf9 ?_
  have hZ := S.fin hr12 hr13 (.inr ⟨rfl, by omega⟩)
  rw [← hZ]
  refine PI.s ?_
  exact FinI.mk _ nf9 ⟨by clear U; rfl, fin_keys (by simp [lk, under_self, nu1 hid, nu2 hid, w1, w1', v1, v2, v3, v4, v5, v7, halfN, Nat.reduceLeDiff, Int.toNat_one]) (by simp [lk, under_self, nu1 hid, nu2 hid, w1, w1', v1, v2, v3, v4, v5, v7, halfN, Nat.reduceLeDiff, Int.toNat_one])⟩
end Go.FE
namespace Go.FE
open Go.Proofs
theorem nf10 {α : Type} {a b : α} (h : a = b := by simp only [goP, goN, mrk, Nat.reduceMul, Nat.one_mul, Nat.mul_one, eq_self, false_implies, implies_true, Nat.reduceLT, List.getElem?_toArray, isCall, List.contains_nil, List.contains_cons, Nat.reduceBEq, Bool.or_false, Bool.or_self, List.length_map, gOf, step, stepM, stepP, ev, okV, if_true, if_false, allocA, storeA, boxA, one1, tokN, tok1, buildA, rowA, nrmP, partV, partA, fieldA, fieldV, elemA, lenA, bltA, asSl, appA, makeA, makeR, cutA, bndA, binV, intOp, strOp, unV, eqB, nilB, sameT, List.all_cons, List.all_nil, Bool.and_self, Bool.and_true, Bool.true_and, List.map_cons, List.map_nil, List.nil_append, List.cons_append, List.append_nil, AV.bare, AV.content, AV.clean, AV.one, putD, List.set_cons_zero, List.set_cons_succ, List.reverse_cons, List.reverse_nil, List.getD_cons_zero, List.getD_cons_succ, List.getElem?_cons_zero, List.getElem?_cons_succ, Option.getD_some, Option.map_some, Option.map_none, Option.bind_some, List.length_cons, List.length_nil, lk, cellsA, fillA, fillS, isAggD, spl, nrm, nrmA, List.take_succ_cons, List.take_zero, List.drop_succ_cons, List.drop_zero, List.drop_nil, List.take_nil, Nat.reduceAdd, Nat.zero_add, Nat.add_zero, Nat.add_assoc, Nat.add_left_cancel_iff, reduceCtorEq, Prod.mk.injEq, List.cons.injEq, and_self, and_true, true_and, Nat.le_refl, Nat.reduceLeDiff, Nat.reduceEqDiff, List.getElem?_nil, Int.reduceToNat, Int.reduceLE, Int.reduceLT, ite_self, List.forall_mem_cons, List.not_mem_nil, false_and, and_false, Bool.false_eq_true, List.replicate_zero, List.replicate_succ, Int.toNat_natCast, neJ2, neJ2', neJ3, neJ3', callOf, callOf2, fnOf, argsA, args2, Array.isEmpty_empty, resLL, resVL, beq_self_eq_true, st3, zt3, it3, ct3, se3, Tryz.underlying3, st4, zt4, it4, ct4, se4, Tryz.underlying4, st9, zt9, it9, ct9, se9, Tryz.underlying9, st23, zt23, it23, ct23, se23, Tryz.underlying23, st25, zt25, it25, ct25, pt25, eqs25, se25, Tryz.underlying25, st49, zt49, it49, ct49, se49, Tryz.underlying49, st122, Tryz.underlying122, Tryz.results198, U.out] <;> rfl) : a = b := h
theorem okSymAll : ∀ f : Nat, SymAt f := by
  intro f
  induction f with
  | zero => intro id rs p s l N a m b hid hrs hN hl h1 h2 h3 hf; omega
  | succ f ih =>
    intro id rs p s l N a m b hid hrs hN hl h1 h2 h3 hf hA hB
    by_cases c1 : m = a + 1
    · exact okSym1 l N a m b hid hrs hN hl c1 h2 h3 hB
    · by_cases c2 : b = m + 1
      · exact okSym2 l N a m b hid hrs hN hl c1 h1 c2 h3 hA
      · exact okSym3 f ih l N a m b hid hrs hN hl c1 h1 c2 h2 h3 hf hA hB
theorem okIns' {id : Rid} {rs : Rid → Res} {p : Path} {s : Nat} {l : List Row} {N a b : Nat} (hid : ¬ Under p id) (hrs : rs id = arrR s l) (hN : N = l.length) (hl : N ≤ 1000000) (h1 : a ≤ b) (h2 : b ≤ N) :
    Calls2 Tryz.prog 208 [aArr id s N, aI a, aI b, aCmp] [id] rs p (.tup []) [(id, arrR s (srtSeg l a b))] := okIns l N a b hid hrs hN hl h1 h2
structure SX where
  a : Nat
  x : List Row
structure StI (l x : List Row) (N s a : Nat) : Prop where
  le : a ≤ N
  pm : x.Perm l
  dn : Done x s a
theorem StI.ln {l x : List Row} {N s a : Nat} (h : StI l x N s a) (hN : N = l.length) : x.length = N := by rw [hN, h.pm.length_eq]
theorem StI.nxt {l x : List Row} {N s a : Nat} (h : StI l x N s a) (hN : N = l.length) (h2 : a + s ≤ N) : StI l (srtSeg x a (a + s)) N s (a + s) := by
  have hl := h.ln hN
  have hi := srtSeg_is (l := x) (a := a) (b := a + s) (by omega) (by omega)
  exact ⟨h2, hi.1.pm.trans h.pm, .step (h.dn.seg hi.1 (Nat.le_refl _)) hi.2 (by rw [hi.1.len]; omega)⟩
theorem StI.lst {l x y : List Row} {N s a : Nat} (h : StI l x N s a) (hN : N = l.length) (h2 : N ≤ a + s) (hy : IsSeg x y a N) (hs : SdSeg y a N) : y.Perm l ∧ Blocks y s 0 := by
  have hl := h.ln hN
  have hle := h.le
  have hyl := hy.len
  refine ⟨hy.pm.trans h.pm, (h.dn.seg hy (Nat.le_refl _)).blocks (.last (by omega) (by omega) ?_)⟩
  rw [hyl, hl]; exact hs
theorem rg198v10 {T : List Rid} {p : Path} {Q : Exit → SL → Prop} {tm : List AV} {L : RL} {n : Nat} {c : Code} {l : List Oper} (n' : Nat) (Qs : List Nat) (h : ∀ all, (ro c).toList = all → GoI Tryz.prog T p all false Qs n 0 l tm L fun tm' L' => Q .normal ⟨tm', L', n'⟩) (hk : kd c = 0 := by kernel_rfl) (hr : rd c = false := by kernel_rfl) (hl : (ro c).toList = l := by dsimp only [ro, s1, s2, c1, c2, bc, bod, Tryz.f198, Option.getD_some] <;> exact rfl) (hn : n + (ro c).size = n' := by kernel_rfl) : PI Tryz.prog T p c Q ⟨tm, L, n⟩ := PI.rg n' Qs hk hr hl (fun h => by cases h) hn (h _ rfl)
set_option maxHeartbeats 4000000 in
set_option maxRecDepth 100000 in
theorem okStable {id : Rid} {rs : Rid → Res} {p : Path} {s : Nat} (l : List Row) (N : Nat) (hid : ¬ Under p id) (hrs : rs id = arrR s l) (hN : N = l.length) (hl : N ≤ 1000000) :
    Calls2 Tryz.prog 198 [aArr id s N, aI N, aCmp] [id] rs p (.tup []) [(id, arrR s (srt l))] := by
  have hl' : 8 * N + 100 ≤ maxLen := by unfold maxLen; omega
  have U : Hid True := ⟨trivial⟩
  replace U := U.cons (And.intro (nu1 hid) (nu2 hid))
  refine Calls2.of_pi ([(id, arrR s l)]) mixed Tryz.func198 (by kernel_rfl) (by kernel_rfl) (by simp [lk, hrs, hid]) (by simp [lk, hrs, hid]) (by simp [lk, hrs, hid]) (by simp [lk, hrs, hid]) (by simp [lk, hrs, hid]) (?_ : PI _ _ _ _ _ ⟨[aArr id s N, aI N, aCmp, .und, .und, .und, .und, .und, .und, .und, .und, .und, .und, .und, .und, .und, .und, .und, .und, .und, .und, .und, .und, .und, .und, .und, .und, .und, .und, .und, .und, .und, .und, .und, .und, .und, .und, .und, .und, .und, .und, .und, .und, .und, .und, .und, .und, .und, .und, .und, .und, .und, .und, .und, .und, .und, .und, .und, .und, .und, .und, .und, .und], [(id, arrR s l)], 0⟩)
  refine PI.q ?_
  refine rg198v10 (1) [] fun all1 _ => ?_
  refine GoI.z nf10 ?_
  refine PI.q ?_
  refine rg198v10 (4) [] fun all2 _ => ?_
  refine GoI.runN 2 nf10 ?_
  refine GoI.z nf10 ?_
  refine PI.q ?_
  refine PI.b 0 ?_
  refine PI.lo (by kernel_rfl) (X := SX) (fun x => (7, aI x.a) :: (8, aI ((x.a + 20 : Nat) : Int)) :: uk [11, 12, 13, 14, 15, 16, 17, 18, 19, 20, 21, 22]) (fun x => [(id, arrR s x.x)]) (fun k x => k = N - x.a ∧ StI l x.x N 20 x.a) (N) (⟨0, l⟩) (GhI.of_wk ⟨by simp [ovr, uk, lessT], by simp [lessR, lk, nu1 hid, nu2 hid, neJ2, neJ2', neJ3, neJ3'], by (try dsimp only); omega, by simp [keepR, lk, under_self, nu1 hid, nu2 hid, neJ2, neJ2', neJ3, neJ3']⟩) (⟨rfl, Nat.zero_le _, .refl _, .zero⟩) ?_
  intro k1 x1 j1 hr1
  obtain ⟨rfl, hst⟩ := hr1
  have hxl := hst.ln hN
  have hle := hst.le
  simp only [ovr, uk, List.set_cons_zero, List.set_cons_succ]
  refine PI.q ?_
  refine PI.q ?_
  refine rg198v10 (j1 + 7) [] fun all3 _ => ?_
  refine GoI.runN 2 nf10 ?_
  refine GoI.z nf10 ?_
  refine PI.d 13 nf10 (fun hb1 => ?_) (fun hb1 => ?_)
  ·
   try simp only [hb1]
   have hlt : x1.a + 20 ≤ N := by simp at hb1; omega
   have w1 : IntKind.i64.wrap (((x1.a + 20 : Nat) : Int) + 20) = ((x1.a + 20 + 20 : Nat) : Int) := wN (y := 0) (by omega) (by omega)
   replace U := U.cons (w1)
   refine PI.s ?_
   refine PI.b 1 ?_
   refine PI.q ?_
   refine rg198v10 (j1 + 12) [4] fun all4 _ => ?_
   refine GoI.runN 2 nf10 ?_
   refine GoI.runN 2 nf10 ?_
   refine GoI.call2e nf10 nf10 (by exact okIns' (fun h => hid h.tail) (by repeat (first | exact lk_hd | refine lk_tl (by simp <;> omega) ?_)) (by omega) hl (by omega) (by omega)) (by first | exact .inr rfl | exact .inl rfl) (by exact fun h => by cases h) ?_
   try simp only [List.reverse_cons, List.reverse_nil, List.nil_append, List.cons_append, List.append_assoc]
   refine GoI.z nf10 ?_
   refine PI.q ?_
   refine rg198v10 (j1 + 14) [] fun all5 _ => ?_
   refine GoI.z nf10 ?_
   refine rg198v10 (j1 + 18) [] fun all6 _ => ?_
   refine GoI.runN 2 nf10 ?_
   refine GoI.z nf10 ?_
   refine ⟨N - (x1.a + 20), ⟨x1.a + 20, srtSeg x1.x x1.a (x1.a + 20)⟩, j1 + 14, by omega, ⟨rfl, hst.nxt hN hlt⟩, GhI.of_wk ⟨by simp [ovr, uk, lessT] <;> omega, by simp [lessR, lk], by (try dsimp only); omega, by simp [keepR, lk, under_self, nu1 hid, nu2 hid]⟩⟩
  try simp only [hb1]
  have hge : N < x1.a + 20 := by simp at hb1; omega
  have hin := srtSeg_is (l := x1.x) (a := x1.a) (b := N) (by omega) (by omega)
  have hbl := hst.lst hN (by omega) hin.1 hin.2
  refine PI.e 0 ?_
  refine PI.q ?_
  refine rg198v10 (j1 + 12) [4] fun all7 _ => ?_
  refine GoI.runN 2 nf10 ?_
  refine GoI.runN 2 nf10 ?_
  refine GoI.call2e nf10 nf10 (by exact okIns' (fun h => hid h.tail) (by repeat (first | exact lk_hd | refine lk_tl (by simp <;> omega) ?_)) (by omega) hl (by omega) (by omega)) (by first | exact .inr rfl | exact .inl rfl) (by exact fun h => by cases h) ?_
  try simp only [List.reverse_cons, List.reverse_nil, List.nil_append, List.cons_append, List.append_assoc]
  refine GoI.z nf10 ?_
  refine PI.b 2 ?_
  refine PI.lo (by kernel_rfl) (X := SX) (fun x => (6, aI x.a) :: uk [7, 8, 9, 28, 29, 30, 31, 32, 33, 34, 35, 36, 37, 38, 39, 40, 41, 42, 43, 44, 45, 46, 47, 48, 49, 50, 51, 52, 53, 54, 55, 56, 57, 58, 59, 60, 61, 62]) (fun x => [(id, arrR s x.x)]) (fun k x => k = N - x.a ∧ 0 < x.a ∧ x.x.Perm l ∧ Blocks x.x x.a 0) (N - 20) (⟨20, srtSeg x1.x x1.a N⟩) (GhI.of_wk ⟨by simp [ovr, uk, lessT], by simp [lessR, lk, nu1 hid, nu2 hid, neJ2, neJ2', neJ3, neJ3'], by (try dsimp only); omega, by simp [keepR, lk, under_self, nu1 hid, nu2 hid, neJ2, neJ2', neJ3, neJ3']⟩) (⟨rfl, by dsimp only; omega, hbl.1, hbl.2⟩) ?_
  intro k2 x2 j2 hr2
  obtain ⟨rfl, hs0, hp, hbs⟩ := hr2
  have hxl2 : x2.x.length = N := by rw [hN, hp.length_eq]
  simp only [ovr, uk, List.set_cons_zero, List.set_cons_succ]
  refine PI.q ?_
  refine PI.q ?_
  refine rg198v10 (j2 + (j1 + 15)) [] fun all8 _ => ?_
  refine GoI.runN 2 nf10 ?_
  refine GoI.z nf10 ?_
  refine PI.d 30 nf10 (fun hb2 => ?_) (fun hb2 => ?_)
  ·
   try simp only [hb2]
   have hlt : x2.a < N := by simpa using hb2
   have w2 : IntKind.i64.wrap (2 * (x2.a : Int)) = ((2 * x2.a : Nat) : Int) := wN (y := 0) (by omega) (by omega)
   have w2' : IntKind.i64.wrap ((x2.a : Int) * 2) = ((2 * x2.a : Nat) : Int) := wN (y := 0) (by omega) (by omega)
   replace U := U.cons (And.intro (w2) (w2'))
   refine PI.s ?_
   refine PI.b 3 ?_
   refine PI.q ?_
   refine rg198v10 (j2 + (j1 + 19)) [] fun all9 _ => ?_
   refine GoI.runN 2 nf10 ?_
   refine GoI.z nf10 ?_
   refine PI.q ?_
   refine PI.b 4 ?_
   refine PI.lo (by kernel_rfl) (X := SX) (fun x => (7, aI x.a) :: (8, aI ((x.a + 2 * x2.a : Nat) : Int)) :: uk [33, 34, 35, 36, 37, 38, 39, 40, 41, 42, 43, 44, 45, 46, 47, 48]) (fun x => [(id, arrR s x.x)]) (fun k x => k = N - x.a ∧ StI l x.x N (2 * x2.a) x.a ∧ Blocks x.x x2.a x.a) (N) (⟨0, x2.x⟩) (GhI.of_wk ⟨by simp [ovr, uk, lessT], by simp [lessR, lk], by (try dsimp only); omega, by simp [keepR, lk, under_self, nu1 hid, nu2 hid]⟩) (⟨rfl, ⟨Nat.zero_le _, hp, .zero⟩, hbs⟩) ?_
   intro k3 x3 j3 hr3
   obtain ⟨rfl, hst3, hb3'⟩ := hr3
   have hxl3 := hst3.ln hN
   have hle3 := hst3.le
   have w3 : IntKind.i64.wrap ((x3.a : Int) + x2.a) = ((x3.a + x2.a : Nat) : Int) := wN (y := 0) (by omega) (by omega)
   replace U := U.cons w3
   simp only [ovr, uk, List.set_cons_zero, List.set_cons_succ]
   refine PI.q ?_
   refine PI.q ?_
   refine rg198v10 (j3 + (j2 + (j1 + 22))) [] fun all10 _ => ?_
   refine GoI.runN 2 nf10 ?_
   refine GoI.z nf10 ?_
   refine PI.d 35 nf10 (fun hb3 => ?_) (fun hb3 => ?_)
   ·
    try simp only [hb3]
    have hlt3 : x3.a + 2 * x2.a ≤ N := by simp at hb3; omega
    have w4 : IntKind.i64.wrap (((x3.a + 2 * x2.a : Nat) : Int) + ((2 * x2.a : Nat) : Int)) = ((x3.a + 2 * x2.a + 2 * x2.a : Nat) : Int) := wN (y := 0) (by omega) (by omega)
    have hS1 : SdSeg x3.x x3.a (x3.a + x2.a) ∧ SdSeg x3.x (x3.a + x2.a) (x3.a + 2 * x2.a) := ⟨hb3'.hd (by omega), by have := (hb3'.tl (by omega)).hd (by omega); rwa [show x3.a + x2.a + x2.a = x3.a + 2 * x2.a by omega] at this⟩
    have hin3 := srtSeg_is (l := x3.x) (a := x3.a) (b := x3.a + 2 * x2.a) (by omega) (by omega)
    have hb3'' : Blocks x3.x x2.a (x3.a + 2 * x2.a) := by have := (hb3'.tl (by omega)).tl (by omega); rwa [show x3.a + x2.a + x2.a = x3.a + 2 * x2.a by omega] at this
    replace U := U.cons (w4)
    refine PI.s ?_
    refine PI.b 5 ?_
    refine PI.q ?_
    refine rg198v10 (j3 + (j2 + (j1 + 30))) [7] fun all11 _ => ?_
    refine GoI.runN 2 nf10 ?_
    refine GoI.runN 2 nf10 ?_
    refine GoI.runN 2 nf10 ?_
    refine GoI.run nf10 ?_
    refine GoI.call2e nf10 nf10 (by exact SymAt.call (okSymAll N) (fun h => hid h.tail) (by repeat (first | exact lk_hd | refine lk_tl (by simp <;> omega) ?_)) (by omega) hl (by omega) (by omega) (by omega) (by omega) (by assumption)) (by first | exact .inr rfl | exact .inl rfl) (by exact fun h => by cases h) ?_
    try simp only [List.reverse_cons, List.reverse_nil, List.nil_append, List.cons_append, List.append_assoc]
    refine GoI.z nf10 ?_
    refine PI.q ?_
    refine rg198v10 (j3 + (j2 + (j1 + 32))) [] fun all12 _ => ?_
    refine GoI.z nf10 ?_
    refine rg198v10 (j3 + (j2 + (j1 + 37))) [] fun all13 _ => ?_
    refine GoI.runN 2 nf10 ?_
    refine GoI.runN 2 nf10 ?_
    refine GoI.z nf10 ?_
    refine ⟨N - (x3.a + 2 * x2.a), ⟨x3.a + 2 * x2.a, srtSeg x3.x x3.a (x3.a + 2 * x2.a)⟩, j3 + 18, by omega, ⟨rfl, hst3.nxt hN hlt3, hb3''.seg hin3.1 (Nat.le_refl _)⟩, GhI.of_wk ⟨by simp [ovr, uk, lessT] <;> omega, by simp [lessR, lk], by (try dsimp only); omega, by simp [keepR, lk, under_self, nu1 hid, nu2 hid]⟩⟩
   try simp only [hb3]
   have hge3 : N < x3.a + 2 * x2.a := by simp at hb3; omega
   refine PI.e 4 ?_
   refine PI.q ?_
   refine PI.q ?_
   refine rg198v10 (j3 + (j2 + (j1 + 26))) [] fun all14 _ => ?_
   refine GoI.runN 2 nf10 ?_
   refine GoI.z nf10 ?_
   refine PI.q ?_
   refine rg198v10 (j3 + (j2 + (j1 + 29))) [] fun all15 _ => ?_
   refine GoI.runN 2 nf10 ?_
   refine GoI.z nf10 ?_
   refine PI.d 54 nf10 (fun hb4 => ?_) (fun hb4 => ?_)
   ·
    try simp only [hb4]
    have hlt4 : x3.a + x2.a < N := by simp at hb4; omega
    have hS1 : SdSeg x3.x x3.a (x3.a + x2.a) ∧ SdSeg x3.x (x3.a + x2.a) N := ⟨hb3'.hd (by omega), by have := (hb3'.tl (by omega)).all (by omega); rwa [hxl3] at this⟩
    have hin4 := srtSeg_is (l := x3.x) (a := x3.a) (b := N) (by omega) (by omega)
    have hbl4 := hst3.lst hN (by omega) hin4.1 hin4.2
    refine rg198v10 (j3 + (j2 + (j1 + 35))) [5] fun all16 _ => ?_
    refine GoI.runN 2 nf10 ?_
    refine GoI.runN 2 nf10 ?_
    refine GoI.run nf10 ?_
    refine GoI.call2e nf10 nf10 (by exact SymAt.call (okSymAll N) (fun h => hid h.tail) (by repeat (first | exact lk_hd | refine lk_tl (by simp <;> omega) ?_)) (by omega) hl (by omega) (by omega) (by omega) (by omega) (by assumption)) (by first | exact .inr rfl | exact .inl rfl) (by exact fun h => by cases h) ?_
    try simp only [List.reverse_cons, List.reverse_nil, List.nil_append, List.cons_append, List.append_assoc]
    refine GoI.z nf10 ?_
    refine rg198v10 (j3 + (j2 + (j1 + 38))) [] fun all17 _ => ?_
    refine GoI.runN 2 nf10 ?_
    refine GoI.z nf10 ?_
    refine ⟨N - 2 * x2.a, ⟨2 * x2.a, srtSeg x3.x x3.a N⟩, j3 + (j2 + 26), by omega, ⟨rfl, by dsimp only; omega, hbl4.1, hbl4.2⟩, GhI.of_wk ⟨by simp [ovr, uk, lessT], by simp [lessR, lk, nu1 hid, nu2 hid, neJ2, neJ2', neJ3, neJ3'], by (try dsimp only); omega, by simp [keepR, lk, under_self, nu1 hid, nu2 hid, neJ2, neJ2', neJ3, neJ3']⟩⟩
   try simp only [hb4]
   have hge4 : N ≤ x3.a + x2.a := by simp at hb4; omega
   have hbl4 := hst3.lst hN (by omega) (IsSeg.refl _ _ _) (by have := hb3'.all (by omega); rwa [hxl3] at this)
   refine PI.s ?_
   refine rg198v10 (j3 + (j2 + (j1 + 32))) [] fun all17 _ => ?_
   refine GoI.runN 2 nf10 ?_
   refine GoI.z nf10 ?_
   refine ⟨N - 2 * x2.a, ⟨2 * x2.a, x3.x⟩, j3 + (j2 + 20), by omega, ⟨rfl, by dsimp only; omega, hbl4.1, hbl4.2⟩, GhI.of_wk ⟨by simp [ovr, uk, lessT], by simp [lessR, lk, nu1 hid, nu2 hid, neJ2, neJ2', neJ3, neJ3'], by (try dsimp only); omega, by simp [keepR, lk, under_self, nu1 hid, nu2 hid, neJ2, neJ2', neJ3, neJ3']⟩⟩
  try simp only [hb2]
  have hge2 : N ≤ x2.a := by simpa using hb2
  have hfin : x2.x = srt l := by
    have h5 := IsSeg.eq (l := l) (x := x2.x) (a := 0) (b := N) (by omega) (by omega) ⟨by simp, by rw [List.drop_of_length_le (by omega), List.drop_of_length_le (by omega)], hp⟩ (by have := hbs.all (by omega); rwa [hxl2] at this)
    rw [h5, hN, srtSeg_all]
  rw [← hfin]
  refine PI.e 2 ?_
  exact FinI.mk _ nf10 ⟨by clear U; rfl, fin_keys (by simp [lk, under_self, nu1 hid, nu2 hid]) (by simp [lk, under_self, nu1 hid, nu2 hid])⟩
end Go.FE
