/- The chapter's examples hold. The chapter's examples hold: awake. Union, difference and intersection of multisets are as defined. What is light is small everywhere. Check returns the kinds or the error of any plan. -/
import Derived.Lib.ItoaLen
import Derived.Test.YtmblejfjbnoodaaGreatDoorC09
import Derived.Test.YtmblejfjbnoodaaGreatDoorC22
import Derived.Test.YtmblejfjbnoodaaGreatDoorC30
set_option linter.unusedVariables false
set_option linter.unusedSimpArgs false
namespace Go.FE
open Go.Proofs
theorem nfw15 {α : Type} {a b : α} (h : a = b := by simp only [goP, goN, mrk, Nat.reduceMul, Nat.one_mul, Nat.mul_one, eq_self, false_implies, implies_true, Nat.reduceLT, List.getElem?_toArray, isCall, List.contains_nil, List.contains_cons, Nat.reduceBEq, Bool.or_false, Bool.or_self, List.length_map, gOf, step, stepM, stepP, ev, okV, if_true, if_false, allocA, storeA, boxA, one1, tokN, tok1, buildA, rowA, nrmP, partV, partA, fieldA, fieldV, elemA, lenA, bltA, asSl, appA, makeA, makeR, cutA, bndA, binV, intOp, strOp, unV, eqB, nilB, sameT, List.all_cons, List.all_nil, Bool.and_self, Bool.and_true, Bool.true_and, List.map_cons, List.map_nil, List.nil_append, List.cons_append, List.append_nil, AV.bare, AV.content, AV.clean, AV.one, putD, List.set_cons_zero, List.set_cons_succ, List.reverse_cons, List.reverse_nil, List.getD_cons_zero, List.getD_cons_succ, List.getElem?_cons_zero, List.getElem?_cons_succ, Option.getD_some, Option.map_some, Option.map_none, Option.bind_some, List.length_cons, List.length_nil, lk, cellsA, fillA, fillS, isAggD, spl, nrm, nrmA, List.take_succ_cons, List.take_zero, List.drop_succ_cons, List.drop_zero, List.drop_nil, List.take_nil, Nat.reduceAdd, Nat.zero_add, Nat.add_zero, Nat.add_assoc, Nat.add_left_cancel_iff, reduceCtorEq, Prod.mk.injEq, List.cons.injEq, and_self, and_true, true_and, Nat.le_refl, Nat.reduceLeDiff, Nat.reduceEqDiff, List.getElem?_nil, Int.reduceToNat, Int.reduceLE, Int.reduceLT, ite_self, List.forall_mem_cons, List.not_mem_nil, false_and, and_false, Bool.false_eq_true, List.replicate_zero, List.replicate_succ, Int.toNat_natCast, neJ2, neJ2', neJ3, neJ3', callOf, callOf2, fnOf, argsA, args2, Array.isEmpty_empty, resLL, resVL, beq_self_eq_true, st3, zt3, it3, ct3, se3, Tryz.underlying3, st9, zt9, it9, ct9, se9, Tryz.underlying9, st25, zt25, it25, ct25, pt25, eqs25, se25, Tryz.underlying25, Tryz.results44, Tryz.results45, st22, zt22, it22, ct22, se22, Tryz.underlying22, st23, zt23, it23, ct23, se23, Tryz.underlying23, st42, zt42, it42, ct42, pt42, se42, Tryz.underlying42, st49, zt49, it49, ct49, se49, Tryz.underlying49, Tryz.results43, U.out] <;> rfl) : a = b := h
theorem noS_size {s : ByteArray} (h : noS s = true) : s.size = 0 := by
  unfold noS at h
  rw [Lib.toList_data, Lib.toList_data] at h
  have h := eq_of_beq h
  have e : s.size = s.data.toList.length := Array.length_toList.symm
  rw [e, h]; rfl
structure VF (v : Vl) : Prop where
  ok : OkV v
  sz : v.s.size ≤ 200
  i : inV v
theorem valid_VF {v : Vl} (h : validV v = true) : VF v := by
  have hm : (200 : Nat) ≤ maxLen := by decide +kernel
  have main : i64ok v.k ∧ inV v ∧ v.s.size ≤ 200 := by
    unfold validV at h
    unfold i64ok inV
    split at h
    · rename_i hk; simp at hk h
      have := noS_size h.2
      omega
    · split at h
      · rename_i hk; simp at hk h
        have := noS_size h.1
        omega
      · split at h
        · rename_i hk; simp at hk h; omega
        · split at h
          · rename_i hk; simp at hk h
            have := noS_size h.1
            omega
          · cases h
  obtain ⟨h1, h2, h3⟩ := main
  exact ⟨⟨h1, by unfold inV at h2; unfold i64ok; omega, by omega⟩, h3, h2⟩
theorem keyV_len {v : Vl} (h : VF v) : (keyV v).length ≤ 300 := by
  have h1 := Lib.itoa_length_le v.k h.ok.k.1 h.ok.k.2
  have h2 := Lib.itoa_length_le v.i h.ok.i.1 h.ok.i.2
  have h3 := Lib.itoa_length_le (v.s.size : Int) (by omega) (by have := h.sz; omega)
  have h4 : v.s.data.toList.length = v.s.size := Array.length_toList
  have := h.sz
  unfold keyV itoa
  simp only [List.length_append, List.length_cons, List.length_nil]
  omega
theorem keyR_len : ∀ {r : Row}, (∀ v ∈ r, VF v) → (keyR r).length ≤ 300 * r.length
  | [], _ => by simp [keyR]
  | v :: r, h => by
    have h1 := keyV_len (h v List.mem_cons_self)
    have h2 := keyR_len (r := r) fun v hv => h v (List.mem_cons_of_mem _ hv)
    have e : keyR (v :: r) = keyV v ++ keyR r := by simp [keyR]
    rw [e, List.length_append, List.length_cons]
    omega
theorem keyOK_of {r : Row} (hl : r.length ≤ 100000) (h : ∀ v ∈ r, validV v = true) : KeyOK r := by
  have hm : (100000 : Nat) ≤ maxLen := by decide +kernel
  have h1 := keyR_len fun v hv => valid_VF (h v hv)
  exact ⟨⟨by omega, fun v hv => (valid_VF (h v hv)).ok⟩, by omega⟩
/-- A bag whose rows are valid and short. -/
structure GoodB (b : Bag) : Prop where
  k : b.kinds.length ≤ 48
  l : b.rows.length ≤ 1000
  r : ∀ r ∈ b.rows, r.length ≤ 48
  v : ∀ r ∈ b.rows, ∀ v ∈ r, validV v = true
theorem GoodB.key {b : Bag} (h : GoodB b) : ∀ r ∈ b.rows, KeyOK r := fun r hr => keyOK_of (by have := h.r r hr; omega) (h.v r hr)
theorem GoodB.ok {b : Bag} (h : GoodB b) : OkBag b := ⟨by have := h.k; omega, by have := h.l; omega, fun r hr => ⟨h.key r hr, by have := h.r r hr; omega⟩⟩
theorem atR_valid {r : Row} (h : ∀ v ∈ r, validV v = true) (k : Int) : validV (atR r k) = true := by
  have hn : validV nullV = true := by decide +kernel
  unfold atR
  split
  · exact hn
  · rw [List.getD_eq_getElem?_getD]
    by_cases hc : k.toNat < r.length
    · rw [List.getElem?_eq_getElem hc]; exact h _ (List.getElem_mem hc)
    · rw [List.getElem?_eq_none (by omega)]; exact hn
theorem pickR_valid {r : Row} (h : ∀ v ∈ r, validV v = true) (keys : List Int) : ∀ v ∈ pickR r keys, validV v = true := fun v hv => by
  obtain ⟨k, _, e⟩ := List.mem_map.1 hv
  rw [← e]; exact atR_valid h k
theorem okGroupG (a : Bag) (keys : List Int) (aggs : List Ag) (ha : GoodB a) (hk : keys.length ≤ 100000) (hg : aggs.length ≤ 100000) : CallsOK Tryz.prog 18 [aBag a, ints keys, aAggs aggs] (aBag ⟨(grpK keys aggs a.kinds).1, srt (grpOut keys aggs a.rows)⟩) :=
  okGroup a keys aggs ha.ok (by have := ha.l; omega) hk hg (fun r hr => keyOK_of (by simpa [pickR] using hk) (pickR_valid (ha.v r hr) keys)) (fun r hr => by have := ha.r r hr; omega) (fun r hr v hv => (valid_VF (ha.v r hr v hv)).i)
theorem rg44w15 {T : List Rid} {p : Path} {Q : Exit → SL → Prop} {tm : List AV} {L : RL} {n : Nat} {c : Code} {l : List Oper} (n' : Nat) (Qs : List Nat) (h : ∀ all, (ro c).toList = all → GoI Tryz.prog T p all false Qs n 0 l tm L fun tm' L' => Q .normal ⟨tm', L', n'⟩) (hk : kd c = 0 := by kernel_rfl) (hr : rd c = false := by kernel_rfl) (hl : (ro c).toList = l := by dsimp only [ro, s1, s2, c1, c2, bc, bod, Tryz.f44, Option.getD_some] <;> exact rfl) (hn : n + (ro c).size = n' := by kernel_rfl) : PI Tryz.prog T p c Q ⟨tm, L, n⟩ := PI.rg n' Qs hk hr hl (fun h => by cases h) hn (h _ rfl)
theorem okNumber (n : Int) : CallsOK Tryz.prog 44 [aI n] (aVal ⟨1, n, .empty⟩) := by
  have U : Hid True := ⟨trivial⟩
  refine CallsOK.of_pi mixed Tryz.func44 (by kernel_rfl) (by kernel_rfl) (?_ : PI _ _ _ _ _ ⟨[aI n, .und, .und, .und, .und], [], 0⟩)
  refine PI.q ?_
  refine rg44w15 (1) [] fun all1 _ => ?_
  refine GoI.z nfw15 ?_
  refine PI.q ?_
  refine rg44w15 (4) [] fun all2 _ => ?_
  refine GoI.runN 2 nfw15 ?_
  refine GoI.z nfw15 ?_
  refine PI.r ?_
  exact FinI.mk _ nfw15 (by clear U; first | (simp [finR, nrmA, nrm, AV.content]; done) | rfl)
theorem rg45w15 {T : List Rid} {p : Path} {Q : Exit → SL → Prop} {tm : List AV} {L : RL} {n : Nat} {c : Code} {l : List Oper} (n' : Nat) (Qs : List Nat) (h : ∀ all, (ro c).toList = all → GoI Tryz.prog T p all false Qs n 0 l tm L fun tm' L' => Q .normal ⟨tm', L', n'⟩) (hk : kd c = 0 := by kernel_rfl) (hr : rd c = false := by kernel_rfl) (hl : (ro c).toList = l := by dsimp only [ro, s1, s2, c1, c2, bc, bod, Tryz.f45, Option.getD_some] <;> exact rfl) (hn : n + (ro c).size = n' := by kernel_rfl) : PI Tryz.prog T p c Q ⟨tm, L, n⟩ := PI.rg n' Qs hk hr hl (fun h => by cases h) hn (h _ rfl)
theorem okTextL (s : ByteArray) : CallsOK Tryz.prog 45 [aS s] (aVal ⟨2, 0, s⟩) := by
  have U : Hid True := ⟨trivial⟩
  refine CallsOK.of_pi mixed Tryz.func45 (by kernel_rfl) (by kernel_rfl) (?_ : PI _ _ _ _ _ ⟨[aS s, .und, .und, .und, .und], [], 0⟩)
  refine PI.q ?_
  refine rg45w15 (1) [] fun all1 _ => ?_
  refine GoI.z nfw15 ?_
  refine PI.q ?_
  refine rg45w15 (4) [] fun all2 _ => ?_
  refine GoI.runN 2 nfw15 ?_
  refine GoI.z nfw15 ?_
  refine PI.r ?_
  exact FinI.mk _ nfw15 (by clear U; first | (simp [finR, nrmA, nrm, AV.content]; done) | rfl)
theorem rg43w15 {T : List Rid} {p : Path} {Q : Exit → SL → Prop} {tm : List AV} {L : RL} {n : Nat} {c : Code} {l : List Oper} (n' : Nat) (Qs : List Nat) (h : ∀ all, (ro c).toList = all → GoI Tryz.prog T p all false Qs n 0 l tm L fun tm' L' => Q .normal ⟨tm', L', n'⟩) (hk : kd c = 0 := by kernel_rfl) (hr : rd c = false := by kernel_rfl) (hl : (ro c).toList = l := by dsimp only [ro, s1, s2, c1, c2, bc, bod, Tryz.f43, Option.getD_some] <;> exact rfl) (hn : n + (ro c).size = n' := by kernel_rfl) : PI Tryz.prog T p c Q ⟨tm, L, n⟩ := PI.rg n' Qs hk hr hl (fun h => by cases h) hn (h _ rfl)
set_option maxRecDepth 100000 in
theorem okSample : CallsOK Tryz.prog 43 [] (aBag smpB) := by
  have U : Hid True := ⟨trivial⟩
  refine CallsOK.of_pi mixed Tryz.func43 (by kernel_rfl) (by kernel_rfl) (?_ : PI _ _ _ _ _ ⟨[.und, .und, .und, .und, .und, .und, .und, .und, .und, .und, .und, .und, .und, .und, .und, .und], [], 0⟩)
  refine PI.q ?_
  refine rg43w15 (1) [] fun all1 _ => ?_
  refine GoI.z nfw15 ?_
  refine PI.q ?_
  refine rg43w15 (17) [] fun all2 _ => ?_
  refine GoI.run nfw15 ?_
  refine GoI.call nfw15 nfw15 (by exact okNumber _) ?_
  refine GoI.call nfw15 nfw15 (by exact okTextL _) ?_
  refine GoI.run nfw15 ?_
  refine GoI.call nfw15 nfw15 (by exact okNumber _) ?_
  refine GoI.call nfw15 nfw15 (by exact okTextL _) ?_
  refine GoI.run nfw15 ?_
  refine GoI.call nfw15 nfw15 (by exact okNumber _) ?_
  refine GoI.call nfw15 nfw15 (by exact okTextL _) ?_
  refine GoI.runN 2 nfw15 ?_
  refine GoI.call nfw15 nfw15 (by exact okTextL _) ?_
  refine GoI.runN 2 nfw15 ?_
  refine GoI.z nfw15 ?_
  refine PI.r ?_
  exact FinI.mk _ nfw15 (by clear U; rfl)
theorem smp_good : GoodB smpB := by
  refine ⟨by decide, by decide, fun r hr => ?_, fun r hr => ?_⟩
  · have : ∀ r ∈ smpR, r.length ≤ 48 := by decide
    exact this r hr
  · have h : (smpR.all fun r => r.all validV) = true := by decide +kernel
    simp only [List.all_eq_true] at h
    exact h r hr
theorem smp2_good : GoodB ⟨[1, 2], [[nB 2, tY]]⟩ := by
  refine ⟨by decide, by decide, fun r hr => ?_, fun r hr => ?_⟩
  · have : ∀ r ∈ ([[nB 2, tY]] : List Row), r.length ≤ 48 := by decide
    exact this r hr
  · have h : (([[nB 2, tY]] : List Row).all fun r => r.all validV) = true := by decide +kernel
    simp only [List.all_eq_true] at h
    exact h r hr
theorem smp0_good : GoodB ⟨[1, 2], []⟩ := ⟨by decide, by decide, fun r hr => (by cases hr), fun r hr => (by cases hr)⟩
theorem smE_leaf {N : Nat} {op int : Int} {v : Vl} {name : ByteArray} : SmE N (.mk op int v name []) := .mk (Nat.zero_le _) fun a h => (by cases h)
theorem okEx_leaf {op int : Int} {v : Vl} {name : ByteArray} : OkEx (.mk op int v name []) := ⟨smE_leaf, by rw [dpE_mk, dpEs_nil]; decide⟩
theorem smP_leaf {op int : Int} : SmP (.mk op int [] [] (.mk 0 0 nullV .empty []) [] [] [] []) := .mk (Nat.zero_le _) (Nat.zero_le _) okEx_leaf (Nat.zero_le _) (fun e h => (by cases h)) (Nat.zero_le _) (Nat.zero_le _) (Nat.zero_le _) (fun q h => (by cases h))
theorem exP_sm : SmP exP := .mk (Nat.zero_le _) (Nat.zero_le _) okEx_leaf (Nat.zero_le _) (fun e h => (by cases h)) (Nat.zero_le _) (Nat.zero_le _) (by decide) (fun q h => by
  have h : q ∈ [Pl.mk 1 0 [] [] (.mk 0 0 nullV .empty []) [] [] [] [], Pl.mk 1 1 [] [] (.mk 0 0 nullV .empty []) [] [] [] []] := h
  simp at h
  rcases h with rfl | rfl <;> exact smP_leaf)
theorem ex4C : CallsOK Tryz.prog 12 [aP exP.f, aKs [[1, 2], [1]]] (.tup [ints [], aI 13]) := by
  have h := okCheckP [[1, 2], [1]] exP exP_sm (fun k hk => by
    have hm : (48 : Nat) ≤ maxLen := by decide +kernel
    have : ∀ k ∈ ([[1, 2], [1]] : List (List Int)), k.length ≤ 48 := by decide
    have := this k hk; omega)
  rw [ex4] at h
  exact h
end Go.FE
namespace Go.FE
open Go.Proofs
theorem nfw16 {α : Type} {a b : α} (h : a = b := by simp only [goP, goN, mrk, Nat.reduceMul, Nat.one_mul, Nat.mul_one, eq_self, false_implies, implies_true, Nat.reduceLT, List.getElem?_toArray, isCall, List.contains_nil, List.contains_cons, Nat.reduceBEq, Bool.or_false, Bool.or_self, List.length_map, gOf, step, stepM, stepP, ev, okV, if_true, if_false, allocA, storeA, boxA, one1, tokN, tok1, buildA, rowA, nrmP, partV, partA, fieldA, fieldV, elemA, lenA, bltA, asSl, appA, makeA, makeR, cutA, bndA, binV, intOp, strOp, unV, eqB, nilB, sameT, List.all_cons, List.all_nil, Bool.and_self, Bool.and_true, Bool.true_and, List.map_cons, List.map_nil, List.nil_append, List.cons_append, List.append_nil, AV.bare, AV.content, AV.clean, AV.one, putD, List.set_cons_zero, List.set_cons_succ, List.reverse_cons, List.reverse_nil, List.getD_cons_zero, List.getD_cons_succ, List.getElem?_cons_zero, List.getElem?_cons_succ, Option.getD_some, Option.map_some, Option.map_none, Option.bind_some, List.length_cons, List.length_nil, lk, cellsA, fillA, fillS, isAggD, spl, nrm, nrmA, List.take_succ_cons, List.take_zero, List.drop_succ_cons, List.drop_zero, List.drop_nil, List.take_nil, Nat.reduceAdd, Nat.zero_add, Nat.add_zero, Nat.add_assoc, Nat.add_left_cancel_iff, reduceCtorEq, Prod.mk.injEq, List.cons.injEq, and_self, and_true, true_and, Nat.le_refl, Nat.reduceLeDiff, Nat.reduceEqDiff, List.getElem?_nil, Int.reduceToNat, Int.reduceLE, Int.reduceLT, ite_self, List.forall_mem_cons, List.not_mem_nil, false_and, and_false, Bool.false_eq_true, List.replicate_zero, List.replicate_succ, Int.toNat_natCast, neJ2, neJ2', neJ3, neJ3', callOf, callOf2, fnOf, argsA, args2, Array.isEmpty_empty, resLL, resVL, beq_self_eq_true, st3, zt3, it3, ct3, se3, Tryz.underlying3, st4, zt4, it4, ct4, se4, Tryz.underlying4, st9, zt9, it9, ct9, se9, Tryz.underlying9, st22, zt22, it22, ct22, se22, Tryz.underlying22, st23, zt23, it23, ct23, se23, Tryz.underlying23, st25, zt25, it25, ct25, pt25, eqs25, se25, Tryz.underlying25, st26, zt26, it26, ct26, se26, Tryz.underlying26, st28, zt28, it28, ct28, pt28, se28, Tryz.underlying28, st29, zt29, it29, ct29, se29, Tryz.underlying29, st30, zt30, it30, ct30, se30, Tryz.underlying30, st32, zt32, it32, ct32, pt32, se32, Tryz.underlying32, st33, zt33, it33, ct33, se33, Tryz.underlying33, st36, zt36, it36, ct36, se36, Tryz.underlying36, st37, Tryz.underlying37, st42, zt42, it42, ct42, pt42, se42, Tryz.underlying42, st48, zt48, it48, ct48, pt48, eqs48, se48, Tryz.underlying48, st49, zt49, it49, ct49, se49, Tryz.underlying49, Tryz.results11, U.out] <;> rfl) : a = b := h
theorem rg11w16 {T : List Rid} {p : Path} {Q : Exit → SL → Prop} {tm : List AV} {L : RL} {n : Nat} {c : Code} {l : List Oper} (n' : Nat) (Qs : List Nat) (h : ∀ all, (ro c).toList = all → GoI Tryz.prog T p all false Qs n 0 l tm L fun tm' L' => Q .normal ⟨tm', L', n'⟩) (hk : kd c = 0 := by kernel_rfl) (hr : rd c = false := by kernel_rfl) (hl : (ro c).toList = l := by dsimp only [ro, s1, s2, c1, c2, bc, bod, Tryz.f11, Option.getD_some] <;> exact rfl) (hn : n + (ro c).size = n' := by kernel_rfl) : PI Tryz.prog T p c Q ⟨tm, L, n⟩ := PI.rg n' Qs hk hr hl (fun h => by cases h) hn (h _ rfl)
theorem rd11w16 {T : List Rid} {p : Path} {Q : Exit → SL → Prop} {tm : List AV} {L : RL} {n : Nat} {c : Code} {l : List Oper} (n' : Nat) (Qs : List Nat) (h : ∀ all, (ro c).toList = all → GoI Tryz.prog T p all true Qs n 0 l tm L fun tm' L' => Q .normal ⟨tm', L', n'⟩) (hk : kd c = 0 := by kernel_rfl) (hr : rd c = true := by kernel_rfl) (hl : (ro c).toList = l := by dsimp only [ro, s1, s2, c1, c2, bc, bod, Tryz.f11, Option.getD_some] <;> exact rfl) (hn : n + (ro c).size = n' := by kernel_rfl) (hd : drawOK (ro c) Qs = true := by kernel_rfl) : PI Tryz.prog T p c Q ⟨tm, L, n⟩ := PI.rg n' Qs hk hr hl (fun _ => hd) hn (h _ rfl)
set_option maxHeartbeats 4000000 in
set_option maxRecDepth 100000 in
theorem okAwake : CallsOK Tryz.prog 11 [] (.v (.bool true)) := by
  have g1 := okGroupG smpB [1] [⟨1, -1⟩, ⟨1, 0⟩, ⟨2, 0⟩] smp_good (by decide) (by decide)
  have g2 := okGroupG ⟨[1, 2], []⟩ [] [⟨1, -1⟩, ⟨2, 0⟩] smp0_good (by decide) (by decide)
  have d1 := okExcept smpB ⟨[1, 2], [[nB 2, tY]]⟩ smp_good.ok smp2_good.ok
  have e1 := ex1
  have e2 := ex2
  have e3 := ex3
  dsimp only at g1 g2 d1
  generalize hR1 : srt (grpOut [1] [⟨1, -1⟩, ⟨1, 0⟩, ⟨2, 0⟩] smpR) = R1 at g1 e1
  generalize hR3 : srt (grpOut [] [⟨1, -1⟩, ⟨2, 0⟩] []) = R3 at g2 e3
  generalize hR2 : srt (splR smpR [[nB 2, tY]]).y = R2 at d1 e2
  generalize (grpK [1] [⟨1, -1⟩, ⟨1, 0⟩, ⟨2, 0⟩] [1, 2]).1 = K1 at g1
  generalize (grpK [] [⟨1, -1⟩, ⟨2, 0⟩] [1, 2]).1 = K3 at g2
  have z1 := okSameRows R1 [[tX, nB 2, nB 1, nB 1], [tY, nB 2, nB 2, nB 4]]
  have z2 := okSameRows R2 [[nullV, tX], [nB 1, tX], [nB 2, tY]]
  have z3 := okSameRows R3 [[nB 0, nullV]]
  rw [e1] at z1
  rw [e2] at z2
  rw [e3] at z3
  have U : Hid True := ⟨trivial⟩
  refine CallsOK.of_pi mixed Tryz.func11 (by kernel_rfl) (by kernel_rfl) (?_ : PI _ _ _ _ _ ⟨[.und, .und, .und, .und, .und, .und, .und, .und, .und, .und, .und, .und, .und, .und, .und, .und, .und, .und, .und, .und, .und, .und, .und, .und, .und, .und, .und, .und, .und, .und, .und, .und, .und, .und, .und, .und, .und, .und, .und, .und, .und, .und, .und, .und, .und, .und, .und, .und, .und, .und, .und, .und, .und, .und, .und, .und, .und, .und, .und, .und, .und, .und, .und, .und, .und, .und, .und, .und, .und, .und, .und, .und, .und, .und, .und, .und, .und, .und, .und, .und, .und, .und, .und, .und, .und], [], 0⟩)
  refine PI.q ?_
  refine rg11w16 (1) [] fun all1 _ => ?_
  refine GoI.z nfw16 ?_
  refine PI.q ?_
  refine rg11w16 (4) [] fun all2 _ => ?_
  refine GoI.call nfw16 nfw16 (by exact okSample) ?_
  refine GoI.z nfw16 ?_
  refine PI.q ?_
  refine rg11w16 (13) [] fun all3 _ => ?_
  refine GoI.runN 2 nfw16 ?_
  refine GoI.runN 2 nfw16 ?_
  refine GoI.runN 2 nfw16 ?_
  refine GoI.call nfw16 nfw16 (by exact g1) ?_
  refine GoI.z nfw16 ?_
  refine PI.q ?_
  refine rd11w16 (24) [] fun all4 _ => ?_
  refine GoI.runN 2 nfw16 ?_
  refine GoI.run nfw16 ?_
  refine GoI.call nfw16 nfw16 (by exact okNumber _) ?_
  refine GoI.call nfw16 nfw16 (by exact okTextL _) ?_
  refine GoI.runN 2 nfw16 ?_
  refine GoI.run nfw16 ?_
  refine GoI.call nfw16 nfw16 (by exact d1) ?_
  refine GoI.z nfw16 ?_
  refine PI.q ?_
  refine rg11w16 (33) [] fun all5 _ => ?_
  refine GoI.runN 2 nfw16 ?_
  refine GoI.runN 2 nfw16 ?_
  refine GoI.runN 2 nfw16 ?_
  refine GoI.call nfw16 nfw16 (by exact g2) ?_
  refine GoI.z nfw16 ?_
  refine PI.q ?_
  refine rg11w16 (47) [] fun all6 _ => ?_
  refine GoI.runN 2 nfw16 ?_
  refine GoI.runN 2 nfw16 ?_
  refine GoI.runN 2 nfw16 ?_
  refine GoI.runN 2 nfw16 ?_
  refine GoI.call nfw16 nfw16 (by exact ex4C) ?_
  refine GoI.runN 2 nfw16 ?_
  refine GoI.runN 2 nfw16 ?_
  refine GoI.z nfw16 ?_
  refine PI.q ?_
  refine rd11w16 (90) [] fun all7 hall7 => ?_
  have hgd7_14 : (all7[14]?).bind (fun o => o.dst) = some 57 := by rw [← hall7]; kernel_rfl
  have hgd7_29 : (all7[29]?).bind (fun o => o.dst) = some 72 := by rw [← hall7]; kernel_rfl
  have hgd7_38 : (all7[38]?).bind (fun o => o.dst) = some 81 := by rw [← hall7]; kernel_rfl
  replace U := U.cons (And.intro (hgd7_14) (And.intro (hgd7_29) (hgd7_38)))
  refine GoI.runN 2 nfw16 ?_
  refine GoI.call nfw16 nfw16 (by exact okTextL _) ?_
  refine GoI.call nfw16 nfw16 (by exact okNumber _) ?_
  refine GoI.call nfw16 nfw16 (by exact okNumber _) ?_
  refine GoI.call nfw16 nfw16 (by exact okNumber _) ?_
  refine GoI.run nfw16 ?_
  refine GoI.call nfw16 nfw16 (by exact okTextL _) ?_
  refine GoI.call nfw16 nfw16 (by exact okNumber _) ?_
  refine GoI.call nfw16 nfw16 (by exact okNumber _) ?_
  refine GoI.call nfw16 nfw16 (by exact okNumber _) ?_
  refine GoI.runN 2 nfw16 ?_
  refine GoI.call nfw16 nfw16 (by first | exact z1 | exact z2 | exact z3) ?_
  refine GoI.runN 1 nfw16 ?_
  refine GoI.grd 57 nfw16 (fun hg1 => ?_) (fun hg1 => ?_)
  ·
   try simp only [hg1]
   refine GoI.runN 2 nfw16 ?_
   refine GoI.run nfw16 ?_
   refine GoI.call nfw16 nfw16 (by exact okTextL _) ?_
   refine GoI.run nfw16 ?_
   refine GoI.call nfw16 nfw16 (by exact okNumber _) ?_
   refine GoI.call nfw16 nfw16 (by exact okTextL _) ?_
   refine GoI.run nfw16 ?_
   refine GoI.call nfw16 nfw16 (by exact okNumber _) ?_
   refine GoI.call nfw16 nfw16 (by exact okTextL _) ?_
   refine GoI.runN 2 nfw16 ?_
   refine GoI.call nfw16 nfw16 (by first | exact z1 | exact z2 | exact z3) ?_
   refine GoI.runN 2 nfw16 ?_
   refine GoI.grd 72 nfw16 (fun hg2 => ?_) (fun hg2 => ?_)
   ·
    try simp only [hg2]
    refine GoI.runN 2 nfw16 ?_
    refine GoI.call nfw16 nfw16 (by exact okNumber _) ?_
    refine GoI.runN 2 nfw16 ?_
    refine GoI.run nfw16 ?_
    refine GoI.call nfw16 nfw16 (by first | exact z1 | exact z2 | exact z3) ?_
    refine GoI.runN 2 nfw16 ?_
    refine GoI.grd 81 nfw16 (fun hg3 => ?_) (fun hg3 => ?_)
    ·
     try simp only [hg3]
     refine GoI.runN 2 nfw16 ?_
     refine GoI.z nfw16 ?_
     refine PI.r ?_
     exact FinI.mk _ nfw16 (by clear U; first | (simp [finR, nrmA, nrm, AV.content]; done) | rfl)
    try simp only [hg3]
    cases hg3
   try simp only [hg2]
   cases hg2
  try simp only [hg1]
  cases hg1
end Go.FE
namespace Go.FE
open Go.Proofs
end Go.FE
namespace Go.FE
open Go.Proofs
mutual
theorem wt_small : ∀ (e : Ex) (m : Nat), m ≤ 100000 → wtE e m < m → SmE 100000 e ∧ dpE e ≤ wtE e m
  | .mk op int v name args, m, hm, h => by
    rw [wtE_mk] at h ⊢
    obtain ⟨h1, h2, h3⟩ := wts_small args m 1 hm h
    rw [dpE_mk]
    exact ⟨.mk (by omega) h1, by omega⟩
theorem wts_small : ∀ (l : List Ex) (m n : Nat), m ≤ 100000 → wtEs l m n < m → (∀ e ∈ l, SmE 100000 e) ∧ l.length + n ≤ wtEs l m n ∧ dpEs l + n ≤ wtEs l m n
  | [], m, n, hm, h => ⟨fun e he => (by cases he), by rw [wtEs]; simp, by rw [wtEs, dpEs]; simp⟩
  | e :: l, m, n, hm, h => by
    rw [wtEs] at h ⊢
    by_cases hn : n < m
    · rw [if_pos hn] at h ⊢
      obtain ⟨h1, h2, h3⟩ := wts_small l m _ hm h
      obtain ⟨h4, h5⟩ := wt_small e (m - n) (by omega) (by omega)
      have hp := wtE_pos e (m - n)
      refine ⟨fun x hx => ?_, by rw [List.length_cons]; omega, by rw [dpEs]; omega⟩
      rcases List.mem_cons.1 hx with rfl | hx
      · exact h4
      · exact h1 x hx
    · rw [if_neg hn] at h; omega
end
theorem wt_ok {e : Ex} {m : Nat} (hm : m ≤ 100000) (h : wtE e m < m) : SmE 100000 e ∧ dpE e ≤ 100000 := by
  obtain ⟨h1, h2⟩ := wt_small e m hm h
  exact ⟨h1, by omega⟩
def ld0 (f : PlF) (m : Nat) : Nat := 1 + wtE f.pred m + wtEs f.exprs m 1 + min f.rows.length m + min f.keys.length m + min f.aggs.length m + min f.kinds.length m
mutual
def ldP : Pl → Nat → Nat
  | .mk op int kinds rows pred exprs keys aggs inputs, m => ldPs inputs m (ld0 (Pl.mk op int kinds rows pred exprs keys aggs inputs).f m)
def ldPs : List Pl → Nat → Nat → Nat
  | [], _, n => n
  | p :: l, m, n => if n < m then ldPs l m (n + ldP p (m - n)) else n
end
theorem ldP_f (p : Pl) (m : Nat) : ldP p m = ldPs p.f.inputs m (ld0 p.f m) := by
  obtain ⟨op, int, kinds, rows, pred, exprs, keys, aggs, inputs⟩ := p
  obtain ⟨po, pi, pv, pn, pa⟩ := pred
  rw [ldP]; rfl
theorem ld0_le (f : PlF) (m : Nat) (h : 1 ≤ m) : ld0 f m ≤ 6 * m + 1 := by
  have h1 := wtE_le f.pred m h
  have h2 := wtEs_le f.exprs m 1 h
  unfold ld0; omega
mutual
theorem ldP_le : ∀ (p : Pl) (m : Nat), 1 ≤ m → ldP p m ≤ 6 * m + 1
  | .mk op int kinds rows pred exprs keys aggs inputs, m, h => by rw [ldP]; exact ldPs_le inputs m _ (ld0_le _ m h)
theorem ldPs_le : ∀ (l : List Pl) (m n : Nat), n ≤ 6 * m + 1 → ldPs l m n ≤ 6 * m + 1
  | [], m, n, h => by rw [ldPs]; exact h
  | p :: l, m, n, h => by
    rw [ldPs]
    split
    · have := ldP_le p (m - n) (by omega)
      exact ldPs_le l m _ (by omega)
    · exact h
end
theorem ld0_pos (f : PlF) (m : Nat) : 1 ≤ ld0 f m := by unfold ld0; omega
theorem ldPs_at {l : List Pl} {i : Nat} (m n : Nat) (h : i < l.length) : ldPs (l.drop i) m n = if n < m then ldPs (l.drop (i + 1)) m (n + ldP l[i] (m - n)) else n := by
  rw [List.drop_eq_getElem_cons h, ldPs]
theorem ld0_small {f : PlF} {m : Nat} (hm : m ≤ 100000) (h : ld0 f m < m) : f.kinds.length ≤ 100000 ∧ f.rows.length ≤ 100000 ∧ OkEx f.pred ∧ f.exprs.length ≤ 100000 ∧ (∀ e ∈ f.exprs, OkEx e) ∧ f.keys.length ≤ 100000 ∧ f.aggs.length ≤ 100000 := by
  unfold ld0 at h
  obtain ⟨h1, h2⟩ := wt_ok (e := f.pred) hm (by omega)
  obtain ⟨h3, h4, h5⟩ := wts_small f.exprs m 1 hm (by omega)
  exact ⟨by omega, by omega, ⟨h1, h2⟩, by omega, fun e he => ⟨h3 e he, by have := dpEs_mem he; omega⟩, by omega, by omega⟩
mutual
theorem ld_small : ∀ (p : Pl) (m : Nat), m ≤ 100000 → ldP p m < m → SmP p ∧ dpP p ≤ ldP p m
  | .mk op int kinds rows pred exprs keys aggs inputs, m, hm, h => by
    rw [ldP] at h ⊢
    obtain ⟨h1, h2, h3⟩ := lds_small inputs m _ hm h
    have hp := ld0_pos (Pl.mk op int kinds rows pred exprs keys aggs inputs).f m
    have h0 := ld0_small (f := (Pl.mk op int kinds rows pred exprs keys aggs inputs).f) hm (by omega)
    have hin : (Pl.mk op int kinds rows pred exprs keys aggs inputs).f.inputs = inputs := by cases pred; rfl
    have hmx : (100000 : Nat) ≤ maxLen := by decide +kernel
    obtain ⟨a1, a2, a3, a4, a5, a6, a7⟩ := h0
    refine ⟨.mk a1 (by omega) a3 a4 a5 a6 a7 (by rw [hin]; omega) (by rw [hin]; exact h1), ?_⟩
    rw [dpP]; omega
theorem lds_small : ∀ (l : List Pl) (m n : Nat), m ≤ 100000 → ldPs l m n < m → (∀ p ∈ l, SmP p) ∧ l.length + n ≤ ldPs l m n ∧ dpPs l + n ≤ ldPs l m n
  | [], m, n, hm, h => ⟨fun e he => (by cases he), by rw [ldPs]; simp, by rw [ldPs, dpPs]; simp⟩
  | p :: l, m, n, hm, h => by
    rw [ldPs] at h ⊢
    by_cases hn : n < m
    · rw [if_pos hn] at h ⊢
      obtain ⟨h1, h2, h3⟩ := lds_small l m _ hm h
      obtain ⟨h4, h5⟩ := ld_small p (m - n) (by omega) (by omega)
      have hp : 1 ≤ dpP p := by rw [dpP_f]; omega
      refine ⟨fun x hx => ?_, by rw [List.length_cons]; omega, by rw [dpPs]; omega⟩
      rcases List.mem_cons.1 hx with rfl | hx
      · exact h4
      · exact h1 x hx
    · rw [if_neg hn] at h; omega
end
/-- Every list within is no longer than memory. -/
inductive LenP : Pl → Prop
  | mk {p : Pl} (hp : SmE maxLen p.f.pred) (hx : SmE maxLen (.mk 0 0 nullV .empty p.f.exprs)) (hi : p.f.inputs.length ≤ maxLen) (h : ∀ q ∈ p.f.inputs, LenP q) : LenP p
theorem SmE.of_ok {e : Ex} (h : OkE e) : SmE maxLen e := by
  induction h with
  | mk h1 h2 h3 h4 h5 h6 ih => exact .mk h5 ih
theorem LenP.of_ok {p : Pl} (h : OkP p) : LenP p := by
  induction h with
  | mk h1 h2 h3 h4 h5 h6 h7 h8 h9 h10 ih =>
    rename_i op int kinds rows pred exprs keys aggs inputs
    obtain ⟨po, pi, pv, pn, pa⟩ := pred
    exact .mk (SmE.of_ok h5) (.mk h6.1 fun a ha => SmE.of_ok (h6.2 a ha)) h9 ih
theorem LenP.inp {p : Pl} (h : LenP p) : ∀ q ∈ p.f.inputs, LenP q := by cases h with | mk hp hx hi h => exact h
theorem LenP.a {p : Pl} (h : LenP p) : SmE maxLen p.f.pred ∧ SmE maxLen (.mk 0 0 nullV .empty p.f.exprs) ∧ p.f.inputs.length ≤ maxLen := by cases h with | mk hp hx hi h => exact ⟨hp, hx, hi⟩
/-- How many kinds the inputs have, up to a limit. -/
def inN : List (List Int) → Nat → Nat
  | [], n => n
  | k :: l, n => if n < 400 then inN l (n + min k.length 400) else n
theorem inN_at {l : List (List Int)} {i : Nat} (n : Nat) (h : i < l.length) : inN (l.drop i) n = if n < 400 then inN (l.drop (i + 1)) (n + min l[i].length 400) else n := by
  rw [List.drop_eq_getElem_cons h, inN]
theorem inN_mono : ∀ (l : List (List Int)) (n : Nat), n ≤ inN l n
  | [], n => Nat.le_refl _
  | k :: l, n => by
    rw [inN]
    split
    · exact Nat.le_trans (Nat.le_add_right _ _) (inN_mono l _)
    · exact Nat.le_refl _
theorem inN_small : ∀ (l : List (List Int)) (n : Nat), inN l n < 400 → ∀ k ∈ l, k.length ≤ 400
  | [], n, _, k, hk => by cases hk
  | x :: l, n, h, k, hk => by
    rw [inN] at h
    split at h
    · have hm := inN_mono l (n + min x.length 400)
      rcases List.mem_cons.1 hk with rfl | hk
      · omega
      · exact inN_small l _ h k hk
    · omega
end Go.FE
namespace Go.FE
open Go.Proofs
theorem nfw20 {α : Type} {a b : α} (h : a = b := by simp only [goP, goN, mrk, Nat.reduceMul, Nat.one_mul, Nat.mul_one, eq_self, false_implies, implies_true, Nat.reduceLT, List.getElem?_toArray, isCall, List.contains_nil, List.contains_cons, Nat.reduceBEq, Bool.or_false, Bool.or_self, List.length_map, gOf, step, stepM, stepP, ev, okV, if_true, if_false, allocA, storeA, boxA, one1, tokN, tok1, buildA, rowA, nrmP, partV, partA, fieldA, fieldV, elemA, lenA, bltA, asSl, appA, makeA, makeR, cutA, bndA, binV, intOp, strOp, unV, eqB, nilB, sameT, List.all_cons, List.all_nil, Bool.and_self, Bool.and_true, Bool.true_and, List.map_cons, List.map_nil, List.nil_append, List.cons_append, List.append_nil, AV.bare, AV.content, AV.clean, AV.one, putD, List.set_cons_zero, List.set_cons_succ, List.reverse_cons, List.reverse_nil, List.getD_cons_zero, List.getD_cons_succ, List.getElem?_cons_zero, List.getElem?_cons_succ, Option.getD_some, Option.map_some, Option.map_none, Option.bind_some, List.length_cons, List.length_nil, lk, cellsA, fillA, fillS, isAggD, spl, nrm, nrmA, List.take_succ_cons, List.take_zero, List.drop_succ_cons, List.drop_zero, List.drop_nil, List.take_nil, Nat.reduceAdd, Nat.zero_add, Nat.add_zero, Nat.add_assoc, Nat.add_left_cancel_iff, reduceCtorEq, Prod.mk.injEq, List.cons.injEq, and_self, and_true, true_and, Nat.le_refl, Nat.reduceLeDiff, Nat.reduceEqDiff, List.getElem?_nil, Int.reduceToNat, Int.reduceLE, Int.reduceLT, ite_self, List.forall_mem_cons, List.not_mem_nil, false_and, and_false, Bool.false_eq_true, List.replicate_zero, List.replicate_succ, Int.toNat_natCast, neJ2, neJ2', neJ3, neJ3', callOf, callOf2, fnOf, argsA, args2, Array.isEmpty_empty, resLL, resVL, beq_self_eq_true, st3, zt3, it3, ct3, se3, Tryz.underlying3, st4, zt4, it4, ct4, se4, Tryz.underlying4, st9, zt9, it9, ct9, se9, Tryz.underlying9, st22, zt22, it22, ct22, se22, Tryz.underlying22, st23, zt23, it23, ct23, se23, Tryz.underlying23, st25, zt25, it25, ct25, pt25, eqs25, se25, Tryz.underlying25, st26, zt26, it26, ct26, se26, Tryz.underlying26, st28, zt28, it28, ct28, pt28, se28, Tryz.underlying28, st29, zt29, it29, ct29, se29, Tryz.underlying29, st30, zt30, it30, ct30, se30, Tryz.underlying30, st32, zt32, it32, ct32, pt32, se32, Tryz.underlying32, st48, zt48, it48, ct48, pt48, eqs48, se48, Tryz.underlying48, st49, zt49, it49, ct49, se49, Tryz.underlying49, Tryz.results10, st33, zt33, it33, ct33, se33, Tryz.underlying33, st36, zt36, it36, ct36, se36, Tryz.underlying36, st37, Tryz.underlying37, Tryz.results3, U.out] <;> rfl) : a = b := h
theorem minI (a b : Nat) : (if (b : Int) < (a : Int) then (b : Int) else (a : Int)) = ((min a b : Nat) : Int) := by
  split <;> omega
theorem rg10w20 {T : List Rid} {p : Path} {Q : Exit → SL → Prop} {tm : List AV} {L : RL} {n : Nat} {c : Code} {l : List Oper} (n' : Nat) (Qs : List Nat) (h : ∀ all, (ro c).toList = all → GoI Tryz.prog T p all false Qs n 0 l tm L fun tm' L' => Q .normal ⟨tm', L', n'⟩) (hk : kd c = 0 := by kernel_rfl) (hr : rd c = false := by kernel_rfl) (hl : (ro c).toList = l := by dsimp only [ro, s1, s2, c1, c2, bc, bod, Tryz.f10, Option.getD_some] <;> exact rfl) (hn : n + (ro c).size = n' := by kernel_rfl) : PI Tryz.prog T p c Q ⟨tm, L, n⟩ := PI.rg n' Qs hk hr hl (fun h => by cases h) hn (h _ rfl)
theorem rd10w20 {T : List Rid} {p : Path} {Q : Exit → SL → Prop} {tm : List AV} {L : RL} {n : Nat} {c : Code} {l : List Oper} (n' : Nat) (Qs : List Nat) (h : ∀ all, (ro c).toList = all → GoI Tryz.prog T p all true Qs n 0 l tm L fun tm' L' => Q .normal ⟨tm', L', n'⟩) (hk : kd c = 0 := by kernel_rfl) (hr : rd c = true := by kernel_rfl) (hl : (ro c).toList = l := by dsimp only [ro, s1, s2, c1, c2, bc, bod, Tryz.f10, Option.getD_some] <;> exact rfl) (hn : n + (ro c).size = n' := by kernel_rfl) (hd : drawOK (ro c) Qs = true := by kernel_rfl) : PI Tryz.prog T p c Q ⟨tm, L, n⟩ := PI.rg n' Qs hk hr hl (fun _ => hd) hn (h _ rfl)
set_option maxHeartbeats 4000000 in
set_option maxRecDepth 100000 in
theorem okLoad : ∀ (n : Nat) (p : Pl) (m : Nat), dpPs p.f.inputs < n → LenP p → m ≤ 100000 → 1 ≤ m → CallsOK Tryz.prog 10 [aP p.f, aI m] (aI (ldP p m : Nat)) := by
  intro n
  induction n with
  | zero => intro p m h; omega
  | succ n ih =>
  intro p m hd hs hm hm1
  have hsi := hs.inp
  obtain ⟨hsp, hsx, hl'⟩ := hs.a
  rw [ldP_f]
  have hld := ld0_le p.f m hm1
  generalize hRS : ldPs p.f.inputs m (ld0 p.f m) = RS
  generalize p.f = f at hd hsi hsp hsx hl' hld hRS
  clear hs
  have hW1 := okWeight _ f.po f.pi f.pv f.pn f.pa m (Nat.lt_succ_self _) hsp hm hm1
  have hW2 := okWeight _ 0 0 nullV .empty f.exprs m (Nat.lt_succ_self _) hsx hm hm1
  have l1 := wtE_le f.pred m hm1
  have l2 := wtEs_le f.exprs m 1 hm1
  have hl0 : ld0 f m = 1 + wtE f.pred m + wtEs f.exprs m 1 + min f.rows.length m + min f.keys.length m + min f.aggs.length m + min f.kinds.length m := rfl
  have hpw : wtE f.pred m = wtEs f.pa m 1 := wtE_mk ..
  rw [hpw] at l1 hl0
  generalize wtEs f.pa m 1 = A1 at hW1 l1 hl0
  generalize wtEs f.exprs m 1 = A2 at hW2 l2 hl0
  have m1 := minI f.rows.length m
  have m2 := minI f.keys.length m
  have m3 := minI f.aggs.length m
  have m4 := minI f.kinds.length m
  have b1 : min f.rows.length m ≤ m := Nat.min_le_right _ _
  have b2 : min f.keys.length m ≤ m := Nat.min_le_right _ _
  have b3 : min f.aggs.length m ≤ m := Nat.min_le_right _ _
  have b4 : min f.kinds.length m ≤ m := Nat.min_le_right _ _
  generalize min f.rows.length m = B1 at m1 b1 hl0
  generalize min f.keys.length m = B2 at m2 b2 hl0
  generalize min f.aggs.length m = B3 at m3 b3 hl0
  generalize min f.kinds.length m = B4 at m4 b4 hl0
  have s1' : IntKind.i64.wrap (1 + (A1 : Int)) = ((1 + A1 : Nat) : Int) := by rw [w64 (by omega) (by omega)]; omega
  have s2' : IntKind.i64.wrap (((1 + A1 : Nat) : Int) + (A2 : Int)) = ((1 + A1 + A2 : Nat) : Int) := by rw [w64 (by omega) (by omega)]; omega
  have s3' : IntKind.i64.wrap (((1 + A1 + A2 : Nat) : Int) + (B1 : Int)) = ((1 + A1 + A2 + B1 : Nat) : Int) := by rw [w64 (by omega) (by omega)]; omega
  have s4' : IntKind.i64.wrap (((1 + A1 + A2 + B1 : Nat) : Int) + (B2 : Int)) = ((1 + A1 + A2 + B1 + B2 : Nat) : Int) := by rw [w64 (by omega) (by omega)]; omega
  have s5' : IntKind.i64.wrap (((1 + A1 + A2 + B1 + B2 : Nat) : Int) + (B3 : Int)) = ((1 + A1 + A2 + B1 + B2 + B3 : Nat) : Int) := by rw [w64 (by omega) (by omega)]; omega
  have s6' : IntKind.i64.wrap (((1 + A1 + A2 + B1 + B2 + B3 : Nat) : Int) + (B4 : Int)) = ((ld0 f m : Nat) : Int) := by rw [hl0, w64 (by omega) (by omega)]; omega
  simp only [Nat.add_assoc] at s1' s2' s3' s4' s5' s6'
  generalize ld0 f m = N0 at hld hRS s6'
  clear hl0
  have U : Hid True := ⟨trivial⟩
  replace U := U.cons (And.intro (m1) (And.intro (m2) (And.intro (m3) (And.intro (m4) (And.intro (s1') (And.intro (s2') (And.intro (s3') (And.intro (s4') (And.intro (s5') (s6'))))))))))
  refine CallsOK.of_pi mixed Tryz.func10 (by kernel_rfl) (by kernel_rfl) (?_ : PI _ _ _ _ _ ⟨[aP f, aI m, .und, .und, .und, .und, .und, .und, .und, .und, .und, .und, .und, .und, .und, .und, .und, .und, .und, .und, .und, .und, .und, .und, .und, .und, .und, .und, .und, .und, .und, .und, .und, .und, .und, .und, .und, .und, .und, .und, .und, .und, .und, .und, .und, .und, .und, .und, .und, .und, .und, .und, .und, .und, .und, .und, .und, .und, .und, .und, .und, .und, .und, .und, .und, .und], [], 0⟩)
  refine PI.q ?_
  refine rg10w20 (2) [] fun all1 _ => ?_
  refine GoI.z nfw20 ?_
  refine PI.q ?_
  refine rd10w20 (38) [] fun all2 _ => ?_
  refine GoI.runN 2 nfw20 ?_
  refine GoI.run nfw20 ?_
  refine GoI.call nfw20 nfw20 (by first | exact hW1 | exact hW2) ?_
  refine GoI.runN 2 nfw20 ?_
  refine GoI.runN 2 nfw20 ?_
  refine GoI.run nfw20 ?_
  refine GoI.call nfw20 nfw20 (by first | exact hW1 | exact hW2) ?_
  refine GoI.runN 2 nfw20 ?_
  refine GoI.runN 2 nfw20 ?_
  refine GoI.runN 2 nfw20 ?_
  refine GoI.runN 2 nfw20 ?_
  refine GoI.runN 2 nfw20 ?_
  refine GoI.runN 2 nfw20 ?_
  refine GoI.runN 2 nfw20 ?_
  refine GoI.runN 2 nfw20 ?_
  refine GoI.runN 2 nfw20 ?_
  refine GoI.runN 2 nfw20 ?_
  refine GoI.runN 2 nfw20 ?_
  refine GoI.runN 2 nfw20 ?_
  refine GoI.z nfw20 ?_
  refine PI.q ?_
  refine PI.q ?_
  refine rg10w20 (39) [] fun all3 _ => ?_
  refine GoI.z nfw20 ?_
  refine PI.b 0 ?_
  refine PI.lo (by kernel_rfl) (X := WX) (fun x => (6, aI x.i) :: (5, aI x.n) :: uk [42, 43, 44, 45, 46, 47, 48, 49, 50, 51, 52, 53, 54, 55, 56, 57, 58, 59, 60, 61, 62, 63, 64]) (fun x => [(([0], 0), .var 32 (pC f))]) (fun k x => k = f.inputs.length - x.i ∧ x.i ≤ f.inputs.length ∧ x.n ≤ 6 * m + 1 ∧ ldPs (f.inputs.drop x.i) m x.n = RS) (f.inputs.length) (⟨0, N0⟩) (GhI.of_wk ⟨by simp [ovr, uk, lessT, neJ2, neJ2', neJ3, neJ3'], by simp [lessR, lk, neJ2, neJ2', neJ3, neJ3'], by (try dsimp only); omega, keep0⟩) (⟨rfl, Nat.zero_le _, hld, hRS⟩) ?_
  intro k1 x1 j1 hr1
  obtain ⟨rfl, hi1, hn1, hu⟩ := hr1
  simp only [ovr, uk, List.set_cons_zero, List.set_cons_succ]
  refine PI.q ?_
  refine PI.q ?_
  refine rg10w20 (j1 + 49) [] fun all4 hall4 => ?_
  have hgd4_5 : (all4[5]?).bind (fun o => o.dst) = some 47 := by rw [← hall4]; kernel_rfl
  replace U := U.cons (hgd4_5)
  refine GoI.runN 2 nfw20 ?_
  refine GoI.runN 2 nfw20 ?_
  refine GoI.runN 2 nfw20 ?_
  refine GoI.grd 47 nfw20 (fun hg1 => ?_) (fun hg1 => ?_)
  ·
   try simp only [hg1]
   obtain ⟨hlt, hw⟩ := up hg1 hl'
   have hx := pls_at hlt
   have ha := ldPs_at m x1.n hlt
   rw [hu] at ha
   have hs1 := hsi _ (List.getElem_mem hlt)
   have hdm := dpPs_mem (List.getElem_mem hlt)
   rw [dpP_f] at hdm
   generalize he : f.inputs[x1.i] = q at hx hs1 hdm ha
   replace U := U.cons (And.intro (hw) (hx))
   refine GoI.runN 2 nfw20 ?_
   refine GoI.z nfw20 ?_
   refine PI.d 51 nfw20 (fun hb1 => ?_) (fun hb1 => ?_)
   ·
    try simp only [hb1]
    have hnl : x1.n < m := by simp at hb1; omega
    rw [if_pos hnl] at ha
    have hle := ldP_le q (m - x1.n) (by omega)
    have hw2 : IntKind.i64.wrap ((m : Int) - (x1.n : Int)) = ((m - x1.n : Nat) : Int) := by rw [w64 (by omega) (by omega)]; omega
    generalize hW : ldP q (m - x1.n) = W at ha hle
    have hw3 : IntKind.i64.wrap ((x1.n : Int) + (W : Int)) = ((x1.n + W : Nat) : Int) := by rw [w64 (by omega) (by omega)]; omega
    replace U := U.cons (And.intro (hw2) (And.intro (hw3) (hW)))
    refine PI.s ?_
    refine PI.q ?_
    refine PI.b 1 ?_
    refine rg10w20 (j1 + 61) [] fun all5 _ => ?_
    refine GoI.runN 2 nfw20 ?_
    refine GoI.runN 2 nfw20 ?_
    refine GoI.runN 2 nfw20 ?_
    refine GoI.runN 2 nfw20 ?_
    refine GoI.run nfw20 ?_
    refine GoI.call nfw20 nfw20 (by exact ih _ (m - x1.n) (by omega) hs1 (by omega) (by omega)) ?_
    refine GoI.z nfw20 ?_
    refine rg10w20 (j1 + 64) [] fun all6 _ => ?_
    refine GoI.runN 2 nfw20 ?_
    refine GoI.z nfw20 ?_
    refine ⟨f.inputs.length - (x1.i + 1), ⟨x1.i + 1, x1.n + W⟩, j1 + 25, by omega, ⟨rfl, by dsimp only; omega, by dsimp only; omega, ha.symm⟩, GhI.of_wk ⟨by simp [ovr, uk, lessT, neJ2, neJ2', neJ3, neJ3'], by simp [lessR, lk, neJ2, neJ2', neJ3, neJ3'], by (try dsimp only); omega, keep0⟩⟩
   try simp only [hb1]
   have hnl : ¬ x1.n < m := by simp at hb1; omega
   rw [if_neg hnl] at ha
   refine PI.e 0 ?_
   refine PI.q ?_
   refine rg10w20 (j1 + 51) [] fun all7 _ => ?_
   refine GoI.z nfw20 ?_
   refine PI.r ?_
   exact FinI.mk _ nfw20 (by clear U; subst RS; simp_all [finR, nrmA, nrm, AV.content])
  try simp only [hg1]
  have hge := dn hg1
  rw [List.drop_of_length_le hge, ldPs] at hu
  refine GoI.runN 2 nfw20 ?_
  refine GoI.z nfw20 ?_
  refine PI.f 51 nfw20 ?_
  refine PI.e 0 ?_
  refine PI.q ?_
  refine rg10w20 (j1 + 51) [] fun all7 _ => ?_
  refine GoI.z nfw20 ?_
  refine PI.r ?_
  exact FinI.mk _ nfw20 (by clear U; subst RS; simp_all [finR, nrmA, nrm, AV.content])
theorem rg3w20 {T : List Rid} {p : Path} {Q : Exit → SL → Prop} {tm : List AV} {L : RL} {n : Nat} {c : Code} {l : List Oper} (n' : Nat) (Qs : List Nat) (h : ∀ all, (ro c).toList = all → GoI Tryz.prog T p all false Qs n 0 l tm L fun tm' L' => Q .normal ⟨tm', L', n'⟩) (hk : kd c = 0 := by kernel_rfl) (hr : rd c = false := by kernel_rfl) (hl : (ro c).toList = l := by dsimp only [ro, s1, s2, c1, c2, bc, bod, Tryz.f3, Option.getD_some] <;> exact rfl) (hn : n + (ro c).size = n' := by kernel_rfl) : PI Tryz.prog T p c Q ⟨tm, L, n⟩ := PI.rg n' Qs hk hr hl (fun h => by cases h) hn (h _ rfl)
set_option maxHeartbeats 4000000 in
set_option maxRecDepth 100000 in
theorem okChecksLaw (p : Pl) (ins : List (List Int)) (hp : LenP p) (hin : ins.length ≤ maxLen) : CallsOK Tryz.prog 3 [aP p.f, aKs ins] (.v (.bool true)) := by
  have hL := okLoad _ p 400 (Nat.lt_succ_self _) hp (by decide) (by decide)
  have hmx : (400 : Nat) ≤ maxLen := by decide +kernel
  have hC := fun (h : ldP p 400 < 400) (hi : ∀ k ∈ ins, k.length ≤ 400) => okCheckP ins p (ld_small p 400 (by decide) h).1 (fun k hk => Nat.le_trans (hi k hk) hmx)
  have hC' := fun (h : ldP p 400 < 400) => okCheckP' ins p (ld_small p 400 (by decide) h).1 (by have := (ld_small p 400 (by decide) h).2; omega)
  have hll := ldP_le p 400 (by decide)
  generalize ldP p 400 = LD at hL hC hC' hll
  generalize p.f = f at hL hC hC'
  generalize checkS ins p = CS at hC hC'
  generalize hRS : inN ins ins.length = RS
  have U : Hid True := ⟨trivial⟩
  refine CallsOK.of_pi mixed Tryz.func3 (by kernel_rfl) (by kernel_rfl) (?_ : PI _ _ _ _ _ ⟨[aP f, aKs ins, .und, .und, .und, .und, .und, .und, .und, .und, .und, .und, .und, .und, .und, .und, .und, .und, .und, .und, .und, .und, .und, .und, .und, .und, .und, .und, .und, .und, .und, .und, .und, .und, .und, .und, .und, .und, .und, .und, .und, .und, .und, .und, .und, .und, .und, .und, .und, .und, .und, .und, .und, .und, .und, .und, .und, .und, .und, .und, .und, .und], [], 0⟩)
  refine PI.q ?_
  refine rg3w20 (2) [] fun all1 _ => ?_
  refine GoI.z nfw20 ?_
  refine PI.q ?_
  refine rg3w20 (5) [] fun all2 _ => ?_
  refine GoI.runN 2 nfw20 ?_
  refine GoI.z nfw20 ?_
  refine PI.q ?_
  refine PI.q ?_
  refine rg3w20 (6) [] fun all3 _ => ?_
  refine GoI.z nfw20 ?_
  refine PI.b 0 ?_
  refine PI.lo (by kernel_rfl) (X := WX) (fun x => (6, aI x.i) :: (5, aI x.n) :: uk [13, 14, 15, 16, 17, 18, 19, 20, 21, 22, 23, 24, 25, 26, 27, 28, 29, 30]) (fun x => [(([0], 0), .var 32 (pC f))]) (fun k x => k = ins.length - x.i ∧ x.i ≤ ins.length ∧ inN (ins.drop x.i) x.n = RS) (ins.length) (⟨0, ins.length⟩) (GhI.of_wk ⟨by simp [ovr, uk, lessT, neJ2, neJ2', neJ3, neJ3'], by simp [lessR, lk, neJ2, neJ2', neJ3, neJ3'], by (try dsimp only); omega, keep0⟩) (⟨rfl, Nat.zero_le _, hRS⟩) ?_
  intro k1 x1 j1 hr1
  obtain ⟨rfl, hi1, hu⟩ := hr1
  simp only [ovr, uk, List.set_cons_zero, List.set_cons_succ]
  refine PI.q ?_
  refine PI.q ?_
  refine rg3w20 (j1 + 14) [] fun all4 hall4 => ?_
  have hgd4_4 : (all4[4]?).bind (fun o => o.dst) = some 17 := by rw [← hall4]; kernel_rfl
  replace U := U.cons (hgd4_4)
  refine GoI.runN 2 nfw20 ?_
  refine GoI.runN 2 nfw20 ?_
  refine GoI.runN 1 nfw20 ?_
  refine GoI.grd 17 nfw20 (fun hg1 => ?_) (fun hg1 => ?_)
  ·
   try simp only [hg1]
   obtain ⟨hlt, hw⟩ := up hg1 hin
   have hx := kss_at hlt
   have ha := inN_at x1.n hlt
   rw [hu] at ha
   have hge : ins.getD x1.i [] = ins[x1.i] := by rw [List.getD_eq_getElem?_getD, List.getElem?_eq_getElem hlt]; rfl
   rw [hge] at hx
   generalize ins[x1.i] = K at hx ha
   replace U := U.cons (And.intro (hw) (hx))
   refine GoI.runN 2 nfw20 ?_
   refine GoI.z nfw20 ?_
   refine PI.d 20 nfw20 (fun hb1 => ?_) (fun hb1 => ?_)
   ·
    try simp only [hb1]
    have hnl : x1.n < 400 := by simp at hb1; omega
    rw [if_pos hnl] at ha
    have hmi : (if (400 : Int) < (K.length : Int) then (400 : Int) else (K.length : Int)) = ((min K.length 400 : Nat) : Int) := minI K.length 400
    have hmb : min K.length 400 ≤ 400 := Nat.min_le_right _ _
    generalize min K.length 400 = B at hmi hmb ha
    have hw3 : IntKind.i64.wrap ((x1.n : Int) + (B : Int)) = ((x1.n + B : Nat) : Int) := by rw [w64 (by omega) (by omega)]; omega
    replace U := U.cons (And.intro (hmi) (hw3))
    refine PI.s ?_
    refine PI.q ?_
    refine PI.b 1 ?_
    refine rg3w20 (j1 + 23) [] fun all5 _ => ?_
    refine GoI.runN 2 nfw20 ?_
    refine GoI.runN 2 nfw20 ?_
    refine GoI.runN 2 nfw20 ?_
    refine GoI.runN 2 nfw20 ?_
    refine GoI.z nfw20 ?_
    refine rg3w20 (j1 + 26) [] fun all6 _ => ?_
    refine GoI.runN 2 nfw20 ?_
    refine GoI.z nfw20 ?_
    refine ⟨ins.length - (x1.i + 1), ⟨x1.i + 1, x1.n + B⟩, j1 + 20, by omega, ⟨rfl, by dsimp only; omega, ha.symm⟩, GhI.of_wk ⟨by simp [ovr, uk, lessT, neJ2, neJ2', neJ3, neJ3'], by simp [lessR, lk, neJ2, neJ2', neJ3, neJ3'], by (try dsimp only); omega, keep0⟩⟩
   try simp only [hb1]
   have hnl : ¬ x1.n < 400 := by simp at hb1; omega
   rw [if_neg hnl] at ha
   have hfin : x1.n = RS := ha.symm
   refine PI.e 0 ?_
   refine PI.q ?_
   refine PI.q ?_
   refine rg3w20 (j1 + 21) [] fun all7 hall7 => ?_
   have hgd7_2 : (all7[2]?).bind (fun o => o.dst) = some 33 := by rw [← hall7]; kernel_rfl
   replace U := U.cons (hgd7_2)
   refine GoI.runN 2 nfw20 ?_
   refine GoI.runN 1 nfw20 ?_
   refine GoI.grd 33 nfw20 (fun hg2 => ?_) (fun hg2 => ?_)
   ·
    try simp only [hg2]
    refine GoI.runN 2 nfw20 ?_
    refine GoI.z nfw20 ?_
    refine PI.t 37 nfw20 ?_
    refine PI.q ?_
    refine rg3w20 (j1 + 23) [] fun all8 _ => ?_
    refine GoI.call nfw20 nfw20 (by exact okAwake) ?_
    refine GoI.z nfw20 ?_
    refine PI.r ?_
    exact FinI.mk _ nfw20 (by clear U; simp [finR, nrmA, nrm, AV.content])
   try simp only [hg2]
   refine GoI.run nfw20 ?_
   refine GoI.call nfw20 nfw20 (by exact hL) ?_
   refine GoI.z nfw20 ?_
   refine PI.d 37 nfw20 (fun hb2 => ?_) (fun hb2 => ?_)
   ·
    try simp only [hb2]
    refine PI.q ?_
    refine rg3w20 (j1 + 23) [] fun all8 _ => ?_
    refine GoI.call nfw20 nfw20 (by exact okAwake) ?_
    refine GoI.z nfw20 ?_
    refine PI.r ?_
    exact FinI.mk _ nfw20 (by clear U; simp [finR, nrmA, nrm, AV.content])
   try simp only [hb2]
   have h1 : RS < 400 := by first | (have := hg2; simp at this; omega) | (have := hg3; simp at this; omega) | (have := hg5; simp at this; omega)
   have h2 : LD < 400 := by have := hb2; simp at this; omega
   have hsm := inN_small ins ins.length (by omega)
   have c1 := hC h2 hsm
   have c2 := hC' h2
   refine PI.s ?_
   refine PI.q ?_
   refine rg3w20 (j1 + 29) [] fun all9 _ => ?_
   refine GoI.runN 2 nfw20 ?_
   refine GoI.call nfw20 nfw20 (by exact c1) ?_
   refine GoI.runN 2 nfw20 ?_
   refine GoI.runN 2 nfw20 ?_
   refine GoI.z nfw20 ?_
   refine PI.q ?_
   refine rg3w20 (j1 + 37) [] fun all10 _ => ?_
   refine GoI.runN 2 nfw20 ?_
   refine GoI.call nfw20 nfw20 (by exact c2) ?_
   refine GoI.runN 2 nfw20 ?_
   refine GoI.runN 2 nfw20 ?_
   refine GoI.z nfw20 ?_
   refine PI.q ?_
   refine rg3w20 (j1 + 49) [] fun all11 hall11 => ?_
   have hgd11_3 : (all11[3]?).bind (fun o => o.dst) = some 54 := by rw [← hall11]; kernel_rfl
   have hgd11_8 : (all11[8]?).bind (fun o => o.dst) = some 59 := by rw [← hall11]; kernel_rfl
   replace U := U.cons (And.intro (hgd11_3) (hgd11_8))
   refine GoI.runN 2 nfw20 ?_
   refine GoI.runN 2 nfw20 ?_
   refine GoI.grd 54 nfw20 (fun hg3 => ?_) (fun hg3 => ?_)
   ·
    try simp only [hg3]
    refine GoI.runN 2 nfw20 ?_
    refine GoI.call nfw20 nfw20 (by exact okSameKinds _ _) ?_
    refine GoI.runN 2 nfw20 ?_
    refine GoI.grd 59 nfw20 (fun hg4 => ?_) (fun hg4 => ?_)
    ·
     try simp only [hg4]
     refine GoI.call nfw20 nfw20 (by exact okAwake) ?_
     refine GoI.z nfw20 ?_
     refine PI.r ?_
     exact FinI.mk _ nfw20 (by clear U; simp [finR, nrmA, nrm, AV.content])
    try simp only [hg4]
    simp at hg4
   try simp only [hg3]
   simp at hg3
  try simp only [hg1]
  have hge := dn hg1
  rw [List.drop_of_length_le hge, inN] at hu
  have hfin : x1.n = RS := hu
  refine GoI.runN 2 nfw20 ?_
  refine GoI.z nfw20 ?_
  refine PI.f 20 nfw20 ?_
  refine PI.e 0 ?_
  refine PI.q ?_
  refine PI.q ?_
  refine rg3w20 (j1 + 21) [] fun all7 hall7 => ?_
  have hgd7_2 : (all7[2]?).bind (fun o => o.dst) = some 33 := by rw [← hall7]; kernel_rfl
  replace U := U.cons (hgd7_2)
  refine GoI.runN 2 nfw20 ?_
  refine GoI.runN 1 nfw20 ?_
  refine GoI.grd 33 nfw20 (fun hg5 => ?_) (fun hg5 => ?_)
  ·
   try simp only [hg5]
   refine GoI.runN 2 nfw20 ?_
   refine GoI.z nfw20 ?_
   refine PI.t 37 nfw20 ?_
   refine PI.q ?_
   refine rg3w20 (j1 + 23) [] fun all8 _ => ?_
   refine GoI.call nfw20 nfw20 (by exact okAwake) ?_
   refine GoI.z nfw20 ?_
   refine PI.r ?_
   exact FinI.mk _ nfw20 (by clear U; simp [finR, nrmA, nrm, AV.content])
  try simp only [hg5]
  refine GoI.run nfw20 ?_
  refine GoI.call nfw20 nfw20 (by exact hL) ?_
  refine GoI.z nfw20 ?_
  refine PI.d 37 nfw20 (fun hb2 => ?_) (fun hb2 => ?_)
  ·
   try simp only [hb2]
   refine PI.q ?_
   refine rg3w20 (j1 + 23) [] fun all8 _ => ?_
   refine GoI.call nfw20 nfw20 (by exact okAwake) ?_
   refine GoI.z nfw20 ?_
   refine PI.r ?_
   exact FinI.mk _ nfw20 (by clear U; simp [finR, nrmA, nrm, AV.content])
  try simp only [hb2]
  have h1 : RS < 400 := by first | (have := hg2; simp at this; omega) | (have := hg3; simp at this; omega) | (have := hg5; simp at this; omega)
  have h2 : LD < 400 := by have := hb2; simp at this; omega
  have hsm := inN_small ins ins.length (by omega)
  have c1 := hC h2 hsm
  have c2 := hC' h2
  refine PI.s ?_
  refine PI.q ?_
  refine rg3w20 (j1 + 29) [] fun all9 _ => ?_
  refine GoI.runN 2 nfw20 ?_
  refine GoI.call nfw20 nfw20 (by exact c1) ?_
  refine GoI.runN 2 nfw20 ?_
  refine GoI.runN 2 nfw20 ?_
  refine GoI.z nfw20 ?_
  refine PI.q ?_
  refine rg3w20 (j1 + 37) [] fun all10 _ => ?_
  refine GoI.runN 2 nfw20 ?_
  refine GoI.call nfw20 nfw20 (by exact c2) ?_
  refine GoI.runN 2 nfw20 ?_
  refine GoI.runN 2 nfw20 ?_
  refine GoI.z nfw20 ?_
  refine PI.q ?_
  refine rg3w20 (j1 + 49) [] fun all11 hall11 => ?_
  have hgd11_3 : (all11[3]?).bind (fun o => o.dst) = some 54 := by rw [← hall11]; kernel_rfl
  have hgd11_8 : (all11[8]?).bind (fun o => o.dst) = some 59 := by rw [← hall11]; kernel_rfl
  replace U := U.cons (And.intro (hgd11_3) (hgd11_8))
  refine GoI.runN 2 nfw20 ?_
  refine GoI.runN 2 nfw20 ?_
  refine GoI.grd 54 nfw20 (fun hg6 => ?_) (fun hg6 => ?_)
  ·
   try simp only [hg6]
   refine GoI.runN 2 nfw20 ?_
   refine GoI.call nfw20 nfw20 (by exact okSameKinds _ _) ?_
   refine GoI.runN 2 nfw20 ?_
   refine GoI.grd 59 nfw20 (fun hg7 => ?_) (fun hg7 => ?_)
   ·
    try simp only [hg7]
    refine GoI.call nfw20 nfw20 (by exact okAwake) ?_
    refine GoI.z nfw20 ?_
    refine PI.r ?_
    exact FinI.mk _ nfw20 (by clear U; simp [finR, nrmA, nrm, AV.content])
   try simp only [hg7]
   simp at hg7
  try simp only [hg6]
  simp at hg6
end Go.FE
