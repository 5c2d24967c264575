/- The chapter's examples hold. The chapter's examples hold: awake. Union, difference and intersection of multisets are as defined. The document's order of rows by their keys; the row of a group. The document's groups. The numbers of rows of the groups add up. Grouping and aggregates are as defined; the numbers of rows of the groups add up. -/
import Derived.Lib.ItoaLen
import Derived.Test.YtmblejfjbnoodaaGreatDoorN09
import Derived.Test.YtmblejfjbnoodaaGreatDoorN23
import Derived.Test.YtmblejfjbnoodaaGreatDoorN24
import Derived.Test.YtmblejfjbnoodaaGreatDoorN28
set_option linter.unusedVariables false
set_option linter.unusedSimpArgs false
namespace Go.FE
open Go.Proofs
theorem nfw15 {α : Type} {a b : α} (h : a = b := by simp only [goP, goN, mrk, Nat.reduceMul, Nat.one_mul, Nat.mul_one, eq_self, false_implies, implies_true, Nat.reduceLT, List.getElem?_toArray, isCall, List.contains_nil, List.contains_cons, Nat.reduceBEq, Bool.or_false, Bool.or_self, List.length_map, gOf, step, stepM, stepP, ev, okV, if_true, if_false, allocA, storeA, boxA, one1, tokN, tok1, buildA, rowA, nrmP, partV, partA, fieldA, fieldV, elemA, lenA, bltA, asSl, appA, makeA, makeR, cutA, bndA, binV, intOp, strOp, unV, eqB, nilB, sameT, List.all_cons, List.all_nil, Bool.and_self, Bool.and_true, Bool.true_and, List.map_cons, List.map_nil, List.nil_append, List.cons_append, List.append_nil, AV.bare, AV.content, AV.clean, AV.one, putD, List.set_cons_zero, List.set_cons_succ, List.reverse_cons, List.reverse_nil, List.getD_cons_zero, List.getD_cons_succ, List.getElem?_cons_zero, List.getElem?_cons_succ, Option.getD_some, Option.map_some, Option.map_none, Option.bind_some, List.length_cons, List.length_nil, lk, cellsA, fillA, fillS, isAggD, spl, nrm, nrmA, List.take_succ_cons, List.take_zero, List.drop_succ_cons, List.drop_zero, List.drop_nil, List.take_nil, Nat.reduceAdd, Nat.zero_add, Nat.add_zero, Nat.add_assoc, Nat.add_left_cancel_iff, reduceCtorEq, Prod.mk.injEq, List.cons.injEq, and_self, and_true, true_and, Nat.le_refl, Nat.reduceLeDiff, Nat.reduceEqDiff, List.getElem?_nil, Int.reduceToNat, Int.reduceLE, Int.reduceLT, ite_self, List.forall_mem_cons, List.not_mem_nil, false_and, and_false, Bool.false_eq_true, List.replicate_zero, List.replicate_succ, Int.toNat_natCast, neJ2, neJ2', neJ3, neJ3', callOf, callOf2, fnOf, argsA, args2, Array.isEmpty_empty, resLL, resVL, beq_self_eq_true, st3, zt3, it3, ct3, se3, Tryz.underlying3, st9, zt9, it9, ct9, se9, Tryz.underlying9, st25, zt25, it25, ct25, pt25, eqs25, se25, Tryz.underlying25, Tryz.results44, Tryz.results45, st22, zt22, it22, ct22, se22, Tryz.underlying22, st23, zt23, it23, ct23, se23, Tryz.underlying23, st42, zt42, it42, ct42, pt42, se42, Tryz.underlying42, st49, zt49, it49, ct49, se49, Tryz.underlying49, Tryz.results43, U.out] <;> rfl) : a = b := h
theorem noS_size {s : ByteArray} (h : noS s = true) : s.size = 0 := by
  unfold noS at h
  rw [Lib.toList_data, Lib.toList_data] at h
  have h := eq_of_beq h
  have e : s.size = s.data.toList.length := Array.length_toList.symm
  rw [e, h]; rfl
structure VF (v : Vl) : Prop where
  ok : OkV v
  sz : v.s.size ≤ 200
  i : inV v
theorem valid_VF {v : Vl} (h : validV v = true) : VF v := by
  have hm : (200 : Nat) ≤ maxLen := by decide +kernel
  have main : i64ok v.k ∧ inV v ∧ v.s.size ≤ 200 := by
    unfold validV at h
    unfold i64ok inV
    split at h
    · rename_i hk; simp at hk h
      have := noS_size h.2
      omega
    · split at h
      · rename_i hk; simp at hk h
        have := noS_size h.1
        omega
      · split at h
        · rename_i hk; simp at hk h; omega
        · split at h
          · rename_i hk; simp at hk h
            have := noS_size h.1
            omega
          · cases h
  obtain ⟨h1, h2, h3⟩ := main
  exact ⟨⟨h1, by unfold inV at h2; unfold i64ok; omega, by omega⟩, h3, h2⟩
theorem keyV_len {v : Vl} (h : VF v) : (keyV v).length ≤ 300 := by
  have h1 := Lib.itoa_length_le v.k h.ok.k.1 h.ok.k.2
  have h2 := Lib.itoa_length_le v.i h.ok.i.1 h.ok.i.2
  have h3 := Lib.itoa_length_le (v.s.size : Int) (by omega) (by have := h.sz; omega)
  have h4 : v.s.data.toList.length = v.s.size := Array.length_toList
  have := h.sz
  unfold keyV itoa
  simp only [List.length_append, List.length_cons, List.length_nil]
  omega
theorem keyR_len : ∀ {r : Row}, (∀ v ∈ r, VF v) → (keyR r).length ≤ 300 * r.length
  | [], _ => by simp [keyR]
  | v :: r, h => by
    have h1 := keyV_len (h v List.mem_cons_self)
    have h2 := keyR_len (r := r) fun v hv => h v (List.mem_cons_of_mem _ hv)
    have e : keyR (v :: r) = keyV v ++ keyR r := by simp [keyR]
    rw [e, List.length_append, List.length_cons]
    omega
theorem keyOK_of {r : Row} (hl : r.length ≤ 100000) (h : ∀ v ∈ r, validV v = true) : KeyOK r := by
  have hm : (100000 : Nat) ≤ maxLen := by decide +kernel
  have h1 := keyR_len fun v hv => valid_VF (h v hv)
  exact ⟨⟨by omega, fun v hv => (valid_VF (h v hv)).ok⟩, by omega⟩
/-- A bag whose rows are valid and short. -/
structure GoodB (b : Bag) : Prop where
  k : b.kinds.length ≤ 48
  l : b.rows.length ≤ 1000
  r : ∀ r ∈ b.rows, r.length ≤ 48
  v : ∀ r ∈ b.rows, ∀ v ∈ r, validV v = true
theorem fits_valid : ∀ {r : Row} {l : List Int}, fits r l = true → ∀ v ∈ r, validV v = true
  | [], _, _ => fun v h => (by cases h)
  | x :: r, [], h => by simp [fits] at h
  | x :: r, k :: l, h => fun v hv => by
    have h0 := fits_at (r := x :: r) (l := k :: l) (i := 0) (by simp) (by simp)
    simp only [List.drop_zero, List.getElem_cons_zero, Nat.zero_add, List.drop_succ_cons] at h0
    rw [h0] at h
    simp only [Bool.and_eq_true] at h
    rcases List.mem_cons.1 hv with rfl | hv
    · have := h.1; unfold fitV at this; simp only [Bool.and_eq_true] at this; exact this.1
    · exact fits_valid h.2 v hv
theorem few_good {b : Bag} {most : Int} (h : few b most = true) (hm : most ≤ 1000) : GoodB b := by
  unfold few sound at h
  simp only [Bool.and_eq_true, decide_eq_true_eq, List.all_eq_true] at h
  obtain ⟨h1, h2, h3, _⟩ := h
  exact ⟨by omega, by omega, fun r hr => by rw [fits_len (h3 r hr)]; omega, fun r hr => fits_valid (h3 r hr)⟩
theorem GoodB.key {b : Bag} (h : GoodB b) : ∀ r ∈ b.rows, KeyOK r := fun r hr => keyOK_of (by have := h.r r hr; omega) (h.v r hr)
theorem GoodB.ok {b : Bag} (h : GoodB b) : OkBag b := ⟨by have := h.k; omega, by have := h.l; omega, fun r hr => ⟨h.key r hr, by have := h.r r hr; omega⟩⟩
theorem atR_valid {r : Row} (h : ∀ v ∈ r, validV v = true) (k : Int) : validV (atR r k) = true := by
  have hn : validV nullV = true := by decide +kernel
  unfold atR
  split
  · exact hn
  · rw [List.getD_eq_getElem?_getD]
    by_cases hc : k.toNat < r.length
    · rw [List.getElem?_eq_getElem hc]; exact h _ (List.getElem_mem hc)
    · rw [List.getElem?_eq_none (by omega)]; exact hn
theorem pickR_valid {r : Row} (h : ∀ v ∈ r, validV v = true) (keys : List Int) : ∀ v ∈ pickR r keys, validV v = true := fun v hv => by
  obtain ⟨k, _, e⟩ := List.mem_map.1 hv
  rw [← e]; exact atR_valid h k
theorem okGroupG (a : Bag) (keys : List Int) (aggs : List Ag) (ha : GoodB a) (hk : keys.length ≤ 100000) (hg : aggs.length ≤ 100000) : CallsOK Tryz.prog 18 [aBag a, ints keys, aAggs aggs] (aBag ⟨(grpK keys aggs a.kinds).1, srt (grpOut keys aggs a.rows)⟩) :=
  okGroup a keys aggs ha.ok (by have := ha.l; omega) hk hg (fun r hr => keyOK_of (by simpa [pickR] using hk) (pickR_valid (ha.v r hr) keys)) (fun r hr => by have := ha.r r hr; omega) (fun r hr v hv => (valid_VF (ha.v r hr v hv)).i)
theorem rg44w15 {T : List Rid} {p : Path} {Q : Exit → SL → Prop} {tm : List AV} {L : RL} {n : Nat} {c : Code} {l : List Oper} (n' : Nat) (Qs : List Nat) (h : ∀ all, (ro c).toList = all → GoI Tryz.prog T p all false Qs n 0 l tm L fun tm' L' => Q .normal ⟨tm', L', n'⟩) (hk : kd c = 0 := by kernel_rfl) (hr : rd c = false := by kernel_rfl) (hl : (ro c).toList = l := by dsimp only [ro, s1, s2, c1, c2, bc, bod, Tryz.f44, Option.getD_some] <;> exact rfl) (hn : n + (ro c).size = n' := by kernel_rfl) : PI Tryz.prog T p c Q ⟨tm, L, n⟩ := PI.rg n' Qs hk hr hl (fun h => by cases h) hn (h _ rfl)
theorem okNumber (n : Int) : CallsOK Tryz.prog 44 [aI n] (aVal ⟨1, n, .empty⟩) := by
  have U : Hid True := ⟨trivial⟩
  refine CallsOK.of_pi mixed Tryz.func44 (by kernel_rfl) (by kernel_rfl) (?_ : PI _ _ _ _ _ ⟨[aI n, .und, .und, .und, .und], [], 0⟩)
  refine PI.q ?_
  refine rg44w15 (1) [] fun all1 _ => ?_
  refine GoI.z nfw15 ?_
  refine PI.q ?_
  refine rg44w15 (4) [] fun all2 _ => ?_
  refine GoI.runN 2 nfw15 ?_
  refine GoI.z nfw15 ?_
  refine PI.r ?_
  exact FinI.mk _ nfw15 (by clear U; first | (simp [finR, nrmA, nrm, AV.content]; done) | rfl)
theorem rg45w15 {T : List Rid} {p : Path} {Q : Exit → SL → Prop} {tm : List AV} {L : RL} {n : Nat} {c : Code} {l : List Oper} (n' : Nat) (Qs : List Nat) (h : ∀ all, (ro c).toList = all → GoI Tryz.prog T p all false Qs n 0 l tm L fun tm' L' => Q .normal ⟨tm', L', n'⟩) (hk : kd c = 0 := by kernel_rfl) (hr : rd c = false := by kernel_rfl) (hl : (ro c).toList = l := by dsimp only [ro, s1, s2, c1, c2, bc, bod, Tryz.f45, Option.getD_some] <;> exact rfl) (hn : n + (ro c).size = n' := by kernel_rfl) : PI Tryz.prog T p c Q ⟨tm, L, n⟩ := PI.rg n' Qs hk hr hl (fun h => by cases h) hn (h _ rfl)
theorem okTextL (s : ByteArray) : CallsOK Tryz.prog 45 [aS s] (aVal ⟨2, 0, s⟩) := by
  have U : Hid True := ⟨trivial⟩
  refine CallsOK.of_pi mixed Tryz.func45 (by kernel_rfl) (by kernel_rfl) (?_ : PI _ _ _ _ _ ⟨[aS s, .und, .und, .und, .und], [], 0⟩)
  refine PI.q ?_
  refine rg45w15 (1) [] fun all1 _ => ?_
  refine GoI.z nfw15 ?_
  refine PI.q ?_
  refine rg45w15 (4) [] fun all2 _ => ?_
  refine GoI.runN 2 nfw15 ?_
  refine GoI.z nfw15 ?_
  refine PI.r ?_
  exact FinI.mk _ nfw15 (by clear U; first | (simp [finR, nrmA, nrm, AV.content]; done) | rfl)
theorem rg43w15 {T : List Rid} {p : Path} {Q : Exit → SL → Prop} {tm : List AV} {L : RL} {n : Nat} {c : Code} {l : List Oper} (n' : Nat) (Qs : List Nat) (h : ∀ all, (ro c).toList = all → GoI Tryz.prog T p all false Qs n 0 l tm L fun tm' L' => Q .normal ⟨tm', L', n'⟩) (hk : kd c = 0 := by kernel_rfl) (hr : rd c = false := by kernel_rfl) (hl : (ro c).toList = l := by dsimp only [ro, s1, s2, c1, c2, bc, bod, Tryz.f43, Option.getD_some] <;> exact rfl) (hn : n + (ro c).size = n' := by kernel_rfl) : PI Tryz.prog T p c Q ⟨tm, L, n⟩ := PI.rg n' Qs hk hr hl (fun h => by cases h) hn (h _ rfl)
set_option maxRecDepth 100000 in
theorem okSample : CallsOK Tryz.prog 43 [] (aBag smpB) := by
  have U : Hid True := ⟨trivial⟩
  refine CallsOK.of_pi mixed Tryz.func43 (by kernel_rfl) (by kernel_rfl) (?_ : PI _ _ _ _ _ ⟨[.und, .und, .und, .und, .und, .und, .und, .und, .und, .und, .und, .und, .und, .und, .und, .und], [], 0⟩)
  refine PI.q ?_
  refine rg43w15 (1) [] fun all1 _ => ?_
  refine GoI.z nfw15 ?_
  refine PI.q ?_
  refine rg43w15 (17) [] fun all2 _ => ?_
  refine GoI.run nfw15 ?_
  refine GoI.call nfw15 nfw15 (by exact okNumber _) ?_
  refine GoI.call nfw15 nfw15 (by exact okTextL _) ?_
  refine GoI.run nfw15 ?_
  refine GoI.call nfw15 nfw15 (by exact okNumber _) ?_
  refine GoI.call nfw15 nfw15 (by exact okTextL _) ?_
  refine GoI.run nfw15 ?_
  refine GoI.call nfw15 nfw15 (by exact okNumber _) ?_
  refine GoI.call nfw15 nfw15 (by exact okTextL _) ?_
  refine GoI.runN 2 nfw15 ?_
  refine GoI.call nfw15 nfw15 (by exact okTextL _) ?_
  refine GoI.runN 2 nfw15 ?_
  refine GoI.z nfw15 ?_
  refine PI.r ?_
  exact FinI.mk _ nfw15 (by clear U; rfl)
theorem smp_good : GoodB smpB := by
  refine ⟨by decide, by decide, fun r hr => ?_, fun r hr => ?_⟩
  · have : ∀ r ∈ smpR, r.length ≤ 48 := by decide
    exact this r hr
  · have h : (smpR.all fun r => r.all validV) = true := by decide +kernel
    simp only [List.all_eq_true] at h
    exact h r hr
theorem smp2_good : GoodB ⟨[1, 2], [[nB 2, tY]]⟩ := by
  refine ⟨by decide, by decide, fun r hr => ?_, fun r hr => ?_⟩
  · have : ∀ r ∈ ([[nB 2, tY]] : List Row), r.length ≤ 48 := by decide
    exact this r hr
  · have h : (([[nB 2, tY]] : List Row).all fun r => r.all validV) = true := by decide +kernel
    simp only [List.all_eq_true] at h
    exact h r hr
theorem smp0_good : GoodB ⟨[1, 2], []⟩ := ⟨by decide, by decide, fun r hr => (by cases hr), fun r hr => (by cases hr)⟩
theorem smE_leaf {N : Nat} {op int : Int} {v : Vl} {name : ByteArray} : SmE N (.mk op int v name []) := .mk (Nat.zero_le _) fun a h => (by cases h)
theorem okEx_leaf {op int : Int} {v : Vl} {name : ByteArray} : OkEx (.mk op int v name []) := ⟨smE_leaf, by rw [dpE_mk, dpEs_nil]; decide⟩
theorem smP_leaf {op int : Int} : SmP (.mk op int [] [] (.mk 0 0 nullV .empty []) [] [] [] []) := .mk (Nat.zero_le _) (Nat.zero_le _) okEx_leaf (Nat.zero_le _) (fun e h => (by cases h)) (Nat.zero_le _) (Nat.zero_le _) (Nat.zero_le _) (fun q h => (by cases h))
theorem exP_sm : SmP exP := .mk (Nat.zero_le _) (Nat.zero_le _) okEx_leaf (Nat.zero_le _) (fun e h => (by cases h)) (Nat.zero_le _) (Nat.zero_le _) (by decide) (fun q h => by
  have h : q ∈ [Pl.mk 1 0 [] [] (.mk 0 0 nullV .empty []) [] [] [] [], Pl.mk 1 1 [] [] (.mk 0 0 nullV .empty []) [] [] [] []] := h
  simp at h
  rcases h with rfl | rfl <;> exact smP_leaf)
theorem ex4C : CallsOK Tryz.prog 12 [aP exP.f, aKs [[1, 2], [1]]] (.tup [ints [], aI 13]) := by
  have h := okCheckP [[1, 2], [1]] exP exP_sm (fun k hk => by
    have hm : (48 : Nat) ≤ maxLen := by decide +kernel
    have : ∀ k ∈ ([[1, 2], [1]] : List (List Int)), k.length ≤ 48 := by decide
    have := this k hk; omega)
  rw [ex4] at h
  exact h
end Go.FE
namespace Go.FE
open Go.Proofs
theorem nfw16 {α : Type} {a b : α} (h : a = b := by simp only [goP, goN, mrk, Nat.reduceMul, Nat.one_mul, Nat.mul_one, eq_self, false_implies, implies_true, Nat.reduceLT, List.getElem?_toArray, isCall, List.contains_nil, List.contains_cons, Nat.reduceBEq, Bool.or_false, Bool.or_self, List.length_map, gOf, step, stepM, stepP, ev, okV, if_true, if_false, allocA, storeA, boxA, one1, tokN, tok1, buildA, rowA, nrmP, partV, partA, fieldA, fieldV, elemA, lenA, bltA, asSl, appA, makeA, makeR, cutA, bndA, binV, intOp, strOp, unV, eqB, nilB, sameT, List.all_cons, List.all_nil, Bool.and_self, Bool.and_true, Bool.true_and, List.map_cons, List.map_nil, List.nil_append, List.cons_append, List.append_nil, AV.bare, AV.content, AV.clean, AV.one, putD, List.set_cons_zero, List.set_cons_succ, List.reverse_cons, List.reverse_nil, List.getD_cons_zero, List.getD_cons_succ, List.getElem?_cons_zero, List.getElem?_cons_succ, Option.getD_some, Option.map_some, Option.map_none, Option.bind_some, List.length_cons, List.length_nil, lk, cellsA, fillA, fillS, isAggD, spl, nrm, nrmA, List.take_succ_cons, List.take_zero, List.drop_succ_cons, List.drop_zero, List.drop_nil, List.take_nil, Nat.reduceAdd, Nat.zero_add, Nat.add_zero, Nat.add_assoc, Nat.add_left_cancel_iff, reduceCtorEq, Prod.mk.injEq, List.cons.injEq, and_self, and_true, true_and, Nat.le_refl, Nat.reduceLeDiff, Nat.reduceEqDiff, List.getElem?_nil, Int.reduceToNat, Int.reduceLE, Int.reduceLT, ite_self, List.forall_mem_cons, List.not_mem_nil, false_and, and_false, Bool.false_eq_true, List.replicate_zero, List.replicate_succ, Int.toNat_natCast, neJ2, neJ2', neJ3, neJ3', callOf, callOf2, fnOf, argsA, args2, Array.isEmpty_empty, resLL, resVL, beq_self_eq_true, st3, zt3, it3, ct3, se3, Tryz.underlying3, st4, zt4, it4, ct4, se4, Tryz.underlying4, st9, zt9, it9, ct9, se9, Tryz.underlying9, st22, zt22, it22, ct22, se22, Tryz.underlying22, st23, zt23, it23, ct23, se23, Tryz.underlying23, st25, zt25, it25, ct25, pt25, eqs25, se25, Tryz.underlying25, st26, zt26, it26, ct26, se26, Tryz.underlying26, st28, zt28, it28, ct28, pt28, se28, Tryz.underlying28, st29, zt29, it29, ct29, se29, Tryz.underlying29, st30, zt30, it30, ct30, se30, Tryz.underlying30, st32, zt32, it32, ct32, pt32, se32, Tryz.underlying32, st33, zt33, it33, ct33, se33, Tryz.underlying33, st36, zt36, it36, ct36, se36, Tryz.underlying36, st37, Tryz.underlying37, st42, zt42, it42, ct42, pt42, se42, Tryz.underlying42, st48, zt48, it48, ct48, pt48, eqs48, se48, Tryz.underlying48, st49, zt49, it49, ct49, se49, Tryz.underlying49, Tryz.results11, U.out] <;> rfl) : a = b := h
theorem rg11w16 {T : List Rid} {p : Path} {Q : Exit → SL → Prop} {tm : List AV} {L : RL} {n : Nat} {c : Code} {l : List Oper} (n' : Nat) (Qs : List Nat) (h : ∀ all, (ro c).toList = all → GoI Tryz.prog T p all false Qs n 0 l tm L fun tm' L' => Q .normal ⟨tm', L', n'⟩) (hk : kd c = 0 := by kernel_rfl) (hr : rd c = false := by kernel_rfl) (hl : (ro c).toList = l := by dsimp only [ro, s1, s2, c1, c2, bc, bod, Tryz.f11, Option.getD_some] <;> exact rfl) (hn : n + (ro c).size = n' := by kernel_rfl) : PI Tryz.prog T p c Q ⟨tm, L, n⟩ := PI.rg n' Qs hk hr hl (fun h => by cases h) hn (h _ rfl)
theorem rd11w16 {T : List Rid} {p : Path} {Q : Exit → SL → Prop} {tm : List AV} {L : RL} {n : Nat} {c : Code} {l : List Oper} (n' : Nat) (Qs : List Nat) (h : ∀ all, (ro c).toList = all → GoI Tryz.prog T p all true Qs n 0 l tm L fun tm' L' => Q .normal ⟨tm', L', n'⟩) (hk : kd c = 0 := by kernel_rfl) (hr : rd c = true := by kernel_rfl) (hl : (ro c).toList = l := by dsimp only [ro, s1, s2, c1, c2, bc, bod, Tryz.f11, Option.getD_some] <;> exact rfl) (hn : n + (ro c).size = n' := by kernel_rfl) (hd : drawOK (ro c) Qs = true := by kernel_rfl) : PI Tryz.prog T p c Q ⟨tm, L, n⟩ := PI.rg n' Qs hk hr hl (fun _ => hd) hn (h _ rfl)
set_option maxHeartbeats 4000000 in
set_option maxRecDepth 100000 in
theorem okAwake : CallsOK Tryz.prog 11 [] (.v (.bool true)) := by
  have g1 := okGroupG smpB [1] [⟨1, -1⟩, ⟨1, 0⟩, ⟨2, 0⟩] smp_good (by decide) (by decide)
  have g2 := okGroupG ⟨[1, 2], []⟩ [] [⟨1, -1⟩, ⟨2, 0⟩] smp0_good (by decide) (by decide)
  have d1 := okExcept smpB ⟨[1, 2], [[nB 2, tY]]⟩ smp_good.ok smp2_good.ok
  have e1 := ex1
  have e2 := ex2
  have e3 := ex3
  dsimp only at g1 g2 d1
  generalize hR1 : srt (grpOut [1] [⟨1, -1⟩, ⟨1, 0⟩, ⟨2, 0⟩] smpR) = R1 at g1 e1
  generalize hR3 : srt (grpOut [] [⟨1, -1⟩, ⟨2, 0⟩] []) = R3 at g2 e3
  generalize hR2 : srt (splR smpR [[nB 2, tY]]).y = R2 at d1 e2
  generalize (grpK [1] [⟨1, -1⟩, ⟨1, 0⟩, ⟨2, 0⟩] [1, 2]).1 = K1 at g1
  generalize (grpK [] [⟨1, -1⟩, ⟨2, 0⟩] [1, 2]).1 = K3 at g2
  have z1 := okSameRows R1 [[tX, nB 2, nB 1, nB 1], [tY, nB 2, nB 2, nB 4]]
  have z2 := okSameRows R2 [[nullV, tX], [nB 1, tX], [nB 2, tY]]
  have z3 := okSameRows R3 [[nB 0, nullV]]
  rw [e1] at z1
  rw [e2] at z2
  rw [e3] at z3
  have U : Hid True := ⟨trivial⟩
  refine CallsOK.of_pi mixed Tryz.func11 (by kernel_rfl) (by kernel_rfl) (?_ : PI _ _ _ _ _ ⟨[.und, .und, .und, .und, .und, .und, .und, .und, .und, .und, .und, .und, .und, .und, .und, .und, .und, .und, .und, .und, .und, .und, .und, .und, .und, .und, .und, .und, .und, .und, .und, .und, .und, .und, .und, .und, .und, .und, .und, .und, .und, .und, .und, .und, .und, .und, .und, .und, .und, .und, .und, .und, .und, .und, .und, .und, .und, .und, .und, .und, .und, .und, .und, .und, .und, .und, .und, .und, .und, .und, .und, .und, .und, .und, .und, .und, .und, .und, .und, .und, .und, .und, .und, .und, .und], [], 0⟩)
  refine PI.q ?_
  refine rg11w16 (1) [] fun all1 _ => ?_
  refine GoI.z nfw16 ?_
  refine PI.q ?_
  refine rg11w16 (4) [] fun all2 _ => ?_
  refine GoI.call nfw16 nfw16 (by exact okSample) ?_
  refine GoI.z nfw16 ?_
  refine PI.q ?_
  refine rg11w16 (13) [] fun all3 _ => ?_
  refine GoI.runN 2 nfw16 ?_
  refine GoI.runN 2 nfw16 ?_
  refine GoI.runN 2 nfw16 ?_
  refine GoI.call nfw16 nfw16 (by exact g1) ?_
  refine GoI.z nfw16 ?_
  refine PI.q ?_
  refine rd11w16 (24) [] fun all4 _ => ?_
  refine GoI.runN 2 nfw16 ?_
  refine GoI.run nfw16 ?_
  refine GoI.call nfw16 nfw16 (by exact okNumber _) ?_
  refine GoI.call nfw16 nfw16 (by exact okTextL _) ?_
  refine GoI.runN 2 nfw16 ?_
  refine GoI.run nfw16 ?_
  refine GoI.call nfw16 nfw16 (by exact d1) ?_
  refine GoI.z nfw16 ?_
  refine PI.q ?_
  refine rg11w16 (33) [] fun all5 _ => ?_
  refine GoI.runN 2 nfw16 ?_
  refine GoI.runN 2 nfw16 ?_
  refine GoI.runN 2 nfw16 ?_
  refine GoI.call nfw16 nfw16 (by exact g2) ?_
  refine GoI.z nfw16 ?_
  refine PI.q ?_
  refine rg11w16 (47) [] fun all6 _ => ?_
  refine GoI.runN 2 nfw16 ?_
  refine GoI.runN 2 nfw16 ?_
  refine GoI.runN 2 nfw16 ?_
  refine GoI.runN 2 nfw16 ?_
  refine GoI.call nfw16 nfw16 (by exact ex4C) ?_
  refine GoI.runN 2 nfw16 ?_
  refine GoI.runN 2 nfw16 ?_
  refine GoI.z nfw16 ?_
  refine PI.q ?_
  refine rd11w16 (90) [] fun all7 hall7 => ?_
  have hgd7_14 : (all7[14]?).bind (fun o => o.dst) = some 57 := by rw [← hall7]; kernel_rfl
  have hgd7_29 : (all7[29]?).bind (fun o => o.dst) = some 72 := by rw [← hall7]; kernel_rfl
  have hgd7_38 : (all7[38]?).bind (fun o => o.dst) = some 81 := by rw [← hall7]; kernel_rfl
  replace U := U.cons (And.intro (hgd7_14) (And.intro (hgd7_29) (hgd7_38)))
  refine GoI.runN 2 nfw16 ?_
  refine GoI.call nfw16 nfw16 (by exact okTextL _) ?_
  refine GoI.call nfw16 nfw16 (by exact okNumber _) ?_
  refine GoI.call nfw16 nfw16 (by exact okNumber _) ?_
  refine GoI.call nfw16 nfw16 (by exact okNumber _) ?_
  refine GoI.run nfw16 ?_
  refine GoI.call nfw16 nfw16 (by exact okTextL _) ?_
  refine GoI.call nfw16 nfw16 (by exact okNumber _) ?_
  refine GoI.call nfw16 nfw16 (by exact okNumber _) ?_
  refine GoI.call nfw16 nfw16 (by exact okNumber _) ?_
  refine GoI.runN 2 nfw16 ?_
  refine GoI.call nfw16 nfw16 (by first | exact z1 | exact z2 | exact z3) ?_
  refine GoI.runN 1 nfw16 ?_
  refine GoI.grd 57 nfw16 (fun hg1 => ?_) (fun hg1 => ?_)
  ·
   try simp only [hg1]
   refine GoI.runN 2 nfw16 ?_
   refine GoI.run nfw16 ?_
   refine GoI.call nfw16 nfw16 (by exact okTextL _) ?_
   refine GoI.run nfw16 ?_
   refine GoI.call nfw16 nfw16 (by exact okNumber _) ?_
   refine GoI.call nfw16 nfw16 (by exact okTextL _) ?_
   refine GoI.run nfw16 ?_
   refine GoI.call nfw16 nfw16 (by exact okNumber _) ?_
   refine GoI.call nfw16 nfw16 (by exact okTextL _) ?_
   refine GoI.runN 2 nfw16 ?_
   refine GoI.call nfw16 nfw16 (by first | exact z1 | exact z2 | exact z3) ?_
   refine GoI.runN 2 nfw16 ?_
   refine GoI.grd 72 nfw16 (fun hg2 => ?_) (fun hg2 => ?_)
   ·
    try simp only [hg2]
    refine GoI.runN 2 nfw16 ?_
    refine GoI.call nfw16 nfw16 (by exact okNumber _) ?_
    refine GoI.runN 2 nfw16 ?_
    refine GoI.run nfw16 ?_
    refine GoI.call nfw16 nfw16 (by first | exact z1 | exact z2 | exact z3) ?_
    refine GoI.runN 2 nfw16 ?_
    refine GoI.grd 81 nfw16 (fun hg3 => ?_) (fun hg3 => ?_)
    ·
     try simp only [hg3]
     refine GoI.runN 2 nfw16 ?_
     refine GoI.z nfw16 ?_
     refine PI.r ?_
     exact FinI.mk _ nfw16 (by clear U; first | (simp [finR, nrmA, nrm, AV.content]; done) | rfl)
    try simp only [hg3]
    cases hg3
   try simp only [hg2]
   cases hg2
  try simp only [hg1]
  cases hg1
end Go.FE
namespace Go.FE
open Go.Proofs
end Go.FE
namespace Go.FE
open Go.Proofs
end Go.FE
namespace Go.FE
open Go.Proofs
structure GSX where
  i : Nat
  o : List Row
  ks : List Row
end Go.FE
namespace Go.FE
theorem sum_perm {a b : List Int} (h : a.Perm b) : a.sum = b.sum := by
  induction h with
  | nil => rfl
  | cons x _ ih => simp [ih]
  | swap x y l => simp; omega
  | trans _ _ h1 h2 => rw [h1, h2]
theorem ind_sum (k : Row) : ∀ {ks : List Row}, ks.Nodup → (ks.map fun q => if k = q then (1 : Int) else 0).sum = if k ∈ ks then 1 else 0
  | [], _ => rfl
  | q :: ks, h => by
    rw [List.nodup_cons] at h
    rw [List.map_cons, List.sum_cons, ind_sum k h.2]
    by_cases h1 : k = q
    · subst h1; simp [h.1]
    · by_cases h2 : k ∈ ks <;> simp [h1, h2]
theorem sum_add (f g : Row → Int) : ∀ ks : List Row, (ks.map fun q => f q + g q).sum = (ks.map f).sum + (ks.map g).sum
  | [] => rfl
  | q :: ks => by simp only [List.map_cons, List.sum_cons, sum_add f g ks]; omega
theorem sel_sum {keys : List Int} {ks : List Row} (hn : ks.Nodup) : ∀ {rows : List Row}, (∀ r ∈ rows, pickR r keys ∈ ks) → (ks.map fun k => ((selR keys k rows).length : Int)).sum = rows.length
  | [], _ => by
    have h : ∀ l : List Row, (l.map fun k => ((selR keys k []).length : Int)).sum = 0 := fun l => by
      induction l with
      | nil => rfl
      | cons x l ih => rw [List.map_cons, List.sum_cons, ih]; rfl
    rw [h]; rfl
  | r :: rows, hm => by
    have e : (fun k => ((selR keys k (r :: rows)).length : Int)) = fun k => (if pickR r keys = k then (1 : Int) else 0) + ((selR keys k rows).length : Int) := by
      funext k
      unfold selR
      rw [List.filter_cons]
      by_cases h : pickR r keys = k
      · rw [if_pos (eqR_iff.2 h), if_pos h, List.length_cons]; omega
      · rw [if_neg (fun h' => h (eqR_iff.1 h')), if_neg h]; omega
    rw [e, sum_add, ind_sum _ hn, if_pos (hm r List.mem_cons_self), sel_sum hn fun q hq => hm q (List.mem_cons_of_mem _ hq), List.length_cons]; omega
theorem intV_of {n : Int} (h0 : 0 ≤ n) (h1 : n ≤ 1000) : intV n = ⟨1, n, .empty⟩ := by
  unfold intV orNull
  rw [if_pos]
  unfold validV
  rw [if_neg (by simp), if_pos (by simp)]
  simp only [noS_e, Bool.true_and, Bool.and_eq_true, decide_eq_true_eq]
  omega
def cntA : Ag := ⟨1, -1⟩
theorem agg_cnt (rows : List Row) (h : rows.length ≤ 1000) : aggV rows cntA = ⟨1, rows.length, .empty⟩ := by
  unfold aggV cntA
  rw [if_pos (by decide)]
  exact intV_of (by omega) (by omega)
theorem sel_len (keys : List Int) (k : Row) (rows : List Row) : (selR keys k rows).length ≤ rows.length := List.length_filter_le _ _
theorem keysD_len {keys : List Int} {rows : List Row} {k : Row} (h : k ∈ keysD keys rows) : k.length = keys.length := by
  rcases (keysD_mem keys rows k).1 h with h | ⟨h1, h2⟩
  · obtain ⟨r, _, e⟩ := List.mem_map.1 h
    rw [← e]; simp [pickR]
  · rw [h1, h2]; rfl
/-- What the numbers of the groups' rows are. -/
theorem cnt_law {keys : List Int} {rows : List Row} (h : rows.length ≤ 1000) : (∀ r ∈ srt (grpOut keys [cntA] rows), r.length = keys.length + 1 ∧ 0 ≤ (r.getD keys.length nullV).i ∧ (r.getD keys.length nullV).i ≤ 1000) ∧ ((srt (grpOut keys [cntA] rows)).map fun r => (r.getD keys.length nullV).i).sum = rows.length := by
  have hp : (srt (grpOut keys [cntA] rows)).Perm (grpD keys [cntA] rows) := (srt_perm _).trans (grp_law _ _ _)
  have hr : ∀ k ∈ keysD keys rows, ((k ++ [cntA].map (aggV (selR keys k rows))).getD keys.length nullV).i = (selR keys k rows).length := fun k hk => by
    have hl := keysD_len hk
    rw [List.map_cons, List.map_nil, agg_cnt _ (Nat.le_trans (sel_len _ _ _) h), List.getD_eq_getElem?_getD, List.getElem?_append_right (by omega), hl]
    simp
  refine ⟨fun r hm => ?_, ?_⟩
  · have hm := hp.mem_iff.1 hm
    obtain ⟨k, hk, rfl⟩ := List.mem_map.1 hm
    rw [hr k hk]
    have := sel_len keys k rows
    refine ⟨by simp [keysD_len hk], by omega, by omega⟩
  · rw [sum_perm (hp.map fun r => (r.getD keys.length nullV).i)]
    unfold grpD
    rw [List.map_map]
    rw [show (keysD keys rows).map ((fun r : Row => (r.getD keys.length nullV).i) ∘ fun k => k ++ [cntA].map (aggV (selR keys k rows))) = (keysD keys rows).map fun k => ((selR keys k rows).length : Int) from List.map_congr_left fun k hk => hr k hk]
    exact sel_sum (ss_nd (keysD_ss keys rows)) fun r hr => (keysD_mem _ _ _).2 (.inl (List.mem_map.2 ⟨r, hr, rfl⟩))
theorem key_law {keys : List Int} {rows : List Row} (hk : keys ≠ []) : srt (grpOut keys [] rows) = dd (rows.map fun r => pickR r keys) := by
  rw [srt_congr (grp_law _ _ _)]
  unfold grpD keysD
  rw [if_neg (fun h => hk h.2)]
  have e : (dd (rows.map fun r => pickR r keys)).map (fun k => k ++ ([] : List Ag).map (aggV (selR keys k rows))) = dd (rows.map fun r => pickR r keys) := by
    rw [show (fun k : Row => k ++ ([] : List Ag).map (aggV (selR keys k rows))) = id from funext fun k => by simp]
    exact List.map_id _
  rw [e]
  exact (srt_of (ss_sd (dd_ss _)) (.refl _)).symm
end Go.FE
namespace Go.FE
open Go.Proofs
theorem nfw21 {α : Type} {a b : α} (h : a = b := by simp only [goP, goN, mrk, Nat.reduceMul, Nat.one_mul, Nat.mul_one, eq_self, false_implies, implies_true, Nat.reduceLT, List.getElem?_toArray, isCall, List.contains_nil, List.contains_cons, Nat.reduceBEq, Bool.or_false, Bool.or_self, List.length_map, gOf, step, stepM, stepP, ev, okV, if_true, if_false, allocA, storeA, boxA, one1, tokN, tok1, buildA, rowA, nrmP, partV, partA, fieldA, fieldV, elemA, lenA, bltA, asSl, appA, makeA, makeR, cutA, bndA, binV, intOp, strOp, unV, eqB, nilB, sameT, List.all_cons, List.all_nil, Bool.and_self, Bool.and_true, Bool.true_and, List.map_cons, List.map_nil, List.nil_append, List.cons_append, List.append_nil, AV.bare, AV.content, AV.clean, AV.one, putD, List.set_cons_zero, List.set_cons_succ, List.reverse_cons, List.reverse_nil, List.getD_cons_zero, List.getD_cons_succ, List.getElem?_cons_zero, List.getElem?_cons_succ, Option.getD_some, Option.map_some, Option.map_none, Option.bind_some, List.length_cons, List.length_nil, lk, cellsA, fillA, fillS, isAggD, spl, nrm, nrmA, List.take_succ_cons, List.take_zero, List.drop_succ_cons, List.drop_zero, List.drop_nil, List.take_nil, Nat.reduceAdd, Nat.zero_add, Nat.add_zero, Nat.add_assoc, Nat.add_left_cancel_iff, reduceCtorEq, Prod.mk.injEq, List.cons.injEq, and_self, and_true, true_and, Nat.le_refl, Nat.reduceLeDiff, Nat.reduceEqDiff, List.getElem?_nil, Int.reduceToNat, Int.reduceLE, Int.reduceLT, ite_self, List.forall_mem_cons, List.not_mem_nil, false_and, and_false, Bool.false_eq_true, List.replicate_zero, List.replicate_succ, Int.toNat_natCast, neJ2, neJ2', neJ3, neJ3', callOf, callOf2, fnOf, argsA, args2, Array.isEmpty_empty, resLL, resVL, beq_self_eq_true, st3, zt3, it3, ct3, se3, Tryz.underlying3, st4, zt4, it4, ct4, se4, Tryz.underlying4, st9, zt9, it9, ct9, se9, Tryz.underlying9, st22, zt22, it22, ct22, se22, Tryz.underlying22, st23, zt23, it23, ct23, se23, Tryz.underlying23, st25, zt25, it25, ct25, pt25, eqs25, se25, Tryz.underlying25, st29, zt29, it29, ct29, se29, Tryz.underlying29, st36, zt36, it36, ct36, se36, Tryz.underlying36, st37, Tryz.underlying37, st42, zt42, it42, ct42, pt42, se42, Tryz.underlying42, st48, zt48, it48, ct48, pt48, eqs48, se48, Tryz.underlying48, st49, zt49, it49, ct49, se49, Tryz.underlying49, Tryz.results16, Tryz.results4, neJ4, neJ4', neJ5, neJ5', neK, neK', neK2, neK2', neL, neL', neL2, neL2', Tryz.results5, Int.natCast_nonneg, U.out] <;> rfl) : a = b := h
def grpB (keys : List Int) (aggs : List Ag) (kinds : List Int) : Bool := !((keys.length + aggs.length == 0) || decide (keys.length + aggs.length > 48)) && (grpK keys aggs kinds).2 == 0
theorem rg16w21 {T : List Rid} {p : Path} {Q : Exit → SL → Prop} {tm : List AV} {L : RL} {n : Nat} {c : Code} {l : List Oper} (n' : Nat) (Qs : List Nat) (h : ∀ all, (ro c).toList = all → GoI Tryz.prog T p all false Qs n 0 l tm L fun tm' L' => Q .normal ⟨tm', L', n'⟩) (hk : kd c = 0 := by kernel_rfl) (hr : rd c = false := by kernel_rfl) (hl : (ro c).toList = l := by dsimp only [ro, s1, s2, c1, c2, bc, bod, Tryz.f16, Option.getD_some] <;> exact rfl) (hn : n + (ro c).size = n' := by kernel_rfl) : PI Tryz.prog T p c Q ⟨tm, L, n⟩ := PI.rg n' Qs hk hr hl (fun h => by cases h) hn (h _ rfl)
set_option maxRecDepth 100000 in
theorem okGrpB (b : Bag) (keys : List Int) (aggs : List Ag) (hk : keys.length ≤ 140737488355328) (hg : aggs.length ≤ 140737488355328) : CallsOK Tryz.prog 16 [aBag b, ints keys, aAggs aggs] (aB (grpB keys aggs b.kinds)) := by
  have hw : IntKind.i64.wrap ((keys.length : Int) + (aggs.length : Int)) = ((keys.length + aggs.length : Nat) : Int) := by rw [w64 (by omega) (by omega)]; omega
  have hG := fun h : keys.length + aggs.length ≤ 48 => okGrouped' keys aggs b.kinds (by omega) (by omega)
  have hS : grpB keys aggs b.kinds = (!((keys.length + aggs.length == 0) || decide (keys.length + aggs.length > 48)) && (grpK keys aggs b.kinds).2 == 0) := rfl
  generalize grpB keys aggs b.kinds = S at hS ⊢
  generalize grpK keys aggs b.kinds = KK at hG hS
  have U : Hid True := ⟨trivial⟩
  replace U := U.cons (hw)
  refine CallsOK.of_pi mixed Tryz.func16 (by kernel_rfl) (by kernel_rfl) (?_ : PI _ _ _ _ _ ⟨[aBag b, ints keys, aAggs aggs, .und, .und, .und, .und, .und, .und, .und, .und, .und, .und, .und, .und, .und, .und, .und, .und, .und, .und, .und, .und, .und, .und, .und, .und, .und, .und, .und, .und, .und, .und], [], 0⟩)
  refine PI.q ?_
  refine rg16w21 (2) [] fun all1 _ => ?_
  refine GoI.z nfw21 ?_
  refine PI.q ?_
  refine PI.q ?_
  refine rg16w21 (16) [] fun all2 hall2 => ?_
  have hgd2_6 : (all2[6]?).bind (fun o => o.dst) = some 15 := by rw [← hall2]; kernel_rfl
  replace U := U.cons (hgd2_6)
  refine GoI.runN 2 nfw21 ?_
  refine GoI.runN 2 nfw21 ?_
  refine GoI.runN 2 nfw21 ?_
  refine GoI.runN 1 nfw21 ?_
  refine GoI.grd 15 nfw21 (fun hg1 => ?_) (fun hg1 => ?_)
  ·
   try simp only [hg1]
   refine GoI.runN 2 nfw21 ?_
   refine GoI.runN 2 nfw21 ?_
   refine GoI.runN 2 nfw21 ?_
   refine GoI.z nfw21 ?_
   refine PI.t 22 nfw21 ?_
   have hS' : S = false := by
     rw [hS]
     have hc : keys.length + aggs.length = 0 ∨ keys.length + aggs.length > 48 := by first | (left; have := hg1; simp [hw] at this; omega) | (right; have := hb1; simp [hw] at this; omega)
     rcases hc with h | h <;> simp [h]
   refine PI.q ?_
   refine rg16w21 (17) [] fun all3 _ => ?_
   refine GoI.z nfw21 ?_
   refine PI.r ?_
   exact FinI.mk _ nfw21 (by clear U; rw [hS']; simp [finR, nrmA, nrm, AV.content])
  try simp only [hg1]
  refine GoI.runN 2 nfw21 ?_
  refine GoI.runN 2 nfw21 ?_
  refine GoI.runN 2 nfw21 ?_
  refine GoI.z nfw21 ?_
  refine PI.d 22 nfw21 (fun hb1 => ?_) (fun hb1 => ?_)
  ·
   try simp only [hb1]
   have hS' : S = false := by
     rw [hS]
     have hc : keys.length + aggs.length = 0 ∨ keys.length + aggs.length > 48 := by first | (left; have := hg1; simp [hw] at this; omega) | (right; have := hb1; simp [hw] at this; omega)
     rcases hc with h | h <;> simp [h]
   refine PI.q ?_
   refine rg16w21 (17) [] fun all3 _ => ?_
   refine GoI.z nfw21 ?_
   refine PI.r ?_
   exact FinI.mk _ nfw21 (by clear U; rw [hS']; simp [finR, nrmA, nrm, AV.content])
  try simp only [hb1]
  have h1 : ¬ (keys.length + aggs.length = 0) := by have := hg1; simp [hw] at this; omega
  have h2 : ¬ (keys.length + aggs.length > 48) := by have := hb1; simp [hw] at this; omega
  have hS' : S = (KK.2 == 0) := by rw [hS, (beq_eq_false_iff_ne.2 h1 : (keys.length + aggs.length == 0) = false), (decide_eq_false h2 : decide (keys.length + aggs.length > 48) = false)]; rfl
  refine PI.s ?_
  refine PI.q ?_
  refine rg16w21 (26) [] fun all4 _ => ?_
  refine GoI.runN 2 nfw21 ?_
  refine GoI.runN 2 nfw21 ?_
  refine GoI.call nfw21 nfw21 (by exact hG (by clear hG; have := h2; omega)) ?_
  refine GoI.runN 2 nfw21 ?_
  refine GoI.runN 2 nfw21 ?_
  refine GoI.z nfw21 ?_
  refine PI.q ?_
  refine rg16w21 (29) [] fun all5 _ => ?_
  refine GoI.runN 2 nfw21 ?_
  refine GoI.z nfw21 ?_
  refine PI.r ?_
  exact FinI.mk _ nfw21 (by clear U; rw [hS']; simp [finR, nrmA, nrm, AV.content])
structure CtX where
  i : Nat
  n : Int
theorem sum_take (f : Row → Int) {l : List Row} {i : Nat} (h : i < l.length) : ((l.take (i + 1)).map f).sum = ((l.take i).map f).sum + f l[i] := by
  rw [List.take_succ_eq_append_getElem h, List.map_append, List.sum_append]; simp
theorem rg5w21 {T : List Rid} {p : Path} {Q : Exit → SL → Prop} {tm : List AV} {L : RL} {n : Nat} {c : Code} {l : List Oper} (n' : Nat) (Qs : List Nat) (h : ∀ all, (ro c).toList = all → GoI Tryz.prog T p all false Qs n 0 l tm L fun tm' L' => Q .normal ⟨tm', L', n'⟩) (hk : kd c = 0 := by kernel_rfl) (hr : rd c = false := by kernel_rfl) (hl : (ro c).toList = l := by dsimp only [ro, s1, s2, c1, c2, bc, bod, Tryz.f5, Option.getD_some] <;> exact rfl) (hn : n + (ro c).size = n' := by kernel_rfl) : PI Tryz.prog T p c Q ⟨tm, L, n⟩ := PI.rg n' Qs hk hr hl (fun h => by cases h) hn (h _ rfl)
set_option maxHeartbeats 4000000 in
set_option maxRecDepth 100000 in
theorem okCountsLaw (b : Bag) (keys : List Int) : CallsOK Tryz.prog 5 [aBag b, ints keys] (.v (.bool true)) := by
  have U : Hid True := ⟨trivial⟩
  refine CallsOK.of_pi mixed Tryz.func5 (by kernel_rfl) (by kernel_rfl) (?_ : PI _ _ _ _ _ ⟨[aBag b, ints keys, .und, .und, .und, .und, .und, .und, .und, .und, .und, .und, .und, .und, .und, .und, .und, .und, .und, .und, .und, .und, .und, .und, .und, .und, .und, .und, .und, .und, .und, .und, .und, .und, .und, .und, .und, .und, .und, .und, .und, .und, .und, .und, .und, .und, .und, .und, .und, .und, .und, .und, .und, .und, .und, .und, .und, .und, .und, .und, .und, .und, .und, .und, .und, .und, .und, .und, .und, .und, .und, .und, .und, .und, .und, .und, .und, .und, .und, .und, .und, .und, .und, .und, .und, .und, .und, .und, .und, .und, .und, .und, .und, .und, .und, .und, .und, .und], [], 0⟩)
  refine PI.q ?_
  refine rg5w21 (2) [] fun all1 _ => ?_
  refine GoI.z nfw21 ?_
  refine PI.q ?_
  refine PI.q ?_
  refine rg5w21 (21) [] fun all2 hall2 => ?_
  have hgd2_3 : (all2[3]?).bind (fun o => o.dst) = some 13 := by rw [← hall2]; kernel_rfl
  have hgd2_8 : (all2[8]?).bind (fun o => o.dst) = some 18 := by rw [← hall2]; kernel_rfl
  have hgd2_13 : (all2[13]?).bind (fun o => o.dst) = some 23 := by rw [← hall2]; kernel_rfl
  replace U := U.cons (And.intro (hgd2_3) (And.intro (hgd2_8) (hgd2_13)))
  refine GoI.run nfw21 ?_
  refine GoI.call nfw21 nfw21 (by exact okFew _ _ (by decide)) ?_
  refine GoI.runN 2 nfw21 ?_
  refine GoI.grd 13 nfw21 (fun hg1 => ?_) (fun hg1 => ?_)
  ·
   try simp only [hg1]
   refine GoI.runN 2 nfw21 ?_
   refine GoI.runN 2 nfw21 ?_
   refine GoI.runN 2 nfw21 ?_
   refine GoI.runN 2 nfw21 ?_
   refine GoI.runN 2 nfw21 ?_
   refine GoI.runN 2 nfw21 ?_
   refine GoI.runN 2 nfw21 ?_
   refine GoI.z nfw21 ?_
   refine PI.t 28 nfw21 ?_
   refine PI.q ?_
   refine rg5w21 (23) [] fun all3 _ => ?_
   refine GoI.call nfw21 nfw21 (by exact okAwake) ?_
   refine GoI.z nfw21 ?_
   refine PI.r ?_
   exact FinI.mk _ nfw21 (by clear U; first | (simp [finR, nrmA, nrm, AV.content]; done) | rfl)
  try simp only [hg1]
  refine GoI.runN 2 nfw21 ?_
  refine GoI.runN 2 nfw21 ?_
  refine GoI.runN 1 nfw21 ?_
  refine GoI.grd 18 nfw21 (fun hg2 => ?_) (fun hg2 => ?_)
  ·
   try simp only [hg2]
   refine GoI.runN 2 nfw21 ?_
   refine GoI.runN 2 nfw21 ?_
   refine GoI.runN 2 nfw21 ?_
   refine GoI.runN 2 nfw21 ?_
   refine GoI.z nfw21 ?_
   refine PI.t 28 nfw21 ?_
   refine PI.q ?_
   refine rg5w21 (23) [] fun all3 _ => ?_
   refine GoI.call nfw21 nfw21 (by exact okAwake) ?_
   refine GoI.z nfw21 ?_
   refine PI.r ?_
   exact FinI.mk _ nfw21 (by clear U; first | (simp [finR, nrmA, nrm, AV.content]; done) | rfl)
  try simp only [hg2]
  refine GoI.runN 2 nfw21 ?_
  refine GoI.runN 2 nfw21 ?_
  refine GoI.runN 1 nfw21 ?_
  refine GoI.grd 23 nfw21 (fun hg3 => ?_) (fun hg3 => ?_)
  ·
   try simp only [hg3]
   refine GoI.runN 2 nfw21 ?_
   refine GoI.runN 2 nfw21 ?_
   refine GoI.z nfw21 ?_
   refine PI.t 28 nfw21 ?_
   refine PI.q ?_
   refine rg5w21 (23) [] fun all3 _ => ?_
   refine GoI.call nfw21 nfw21 (by exact okAwake) ?_
   refine GoI.z nfw21 ?_
   refine PI.r ?_
   exact FinI.mk _ nfw21 (by clear U; first | (simp [finR, nrmA, nrm, AV.content]; done) | rfl)
  try simp only [hg3]
  have hlk : keys.length < 48 := by have := hg3; simp at this; omega
  refine GoI.runN 2 nfw21 ?_
  refine GoI.call nfw21 nfw21 (by exact okGrpB b keys [] (by omega) (Nat.zero_le _)) ?_
  refine GoI.z nfw21 ?_
  refine PI.d 28 nfw21 (fun hb1 => ?_) (fun hb1 => ?_)
  ·
   try simp only [hb1]
   refine PI.q ?_
   refine rg5w21 (23) [] fun all3 _ => ?_
   refine GoI.call nfw21 nfw21 (by exact okAwake) ?_
   refine GoI.z nfw21 ?_
   refine PI.r ?_
   exact FinI.mk _ nfw21 (by clear U; first | (simp [finR, nrmA, nrm, AV.content]; done) | rfl)
  try simp only [hb1]
  have hf : few b 40 = true := by simpa using hg1
  have hne : keys ≠ [] := by rintro rfl; simp at hg2
  have hG := few_good hf (by decide)
  have hrl := hG.l
  have c1 := okGroupG b keys [cntA] hG (by omega) (by decide)
  have c2 := okGroupG b keys [] hG (by omega) (by decide)
  obtain ⟨q1, q2⟩ := cnt_law (keys := keys) (rows := b.rows) hrl
  rw [key_law hne] at c2
  have hSl : (srt (grpOut keys [cntA] b.rows)).length ≤ 1001 := by
    rw [srt_len, grpOut, List.length_map]
    have := (grpI keys b.rows).ln; omega
  have e1 := okDistinct' (b.rows.map fun r => pickR r keys) (by rw [List.length_map]; omega) (fun r hr => by obtain ⟨q, _, rfl⟩ := List.mem_map.1 hr; simp [pickR]; omega)
  have f1 := okSameRows (dd (b.rows.map fun r => pickR r keys)) (dd (b.rows.map fun r => pickR r keys))
  rw [eqRs_iff.2 rfl] at f1
  generalize srt (grpOut keys [cntA] b.rows) = S at c1 q1 q2 hSl
  generalize hDD : dd (b.rows.map fun r => pickR r keys) = DD at c2 e1 f1
  generalize grpK keys [cntA] b.kinds = KK at c1
  generalize grpK keys [] b.kinds = K2 at c2
  have hSm : S.length ≤ maxLen := by have : (1001 : Nat) ≤ maxLen := (by decide +kernel); omega
  have hbm : b.rows.length ≤ maxLen := by have : (1001 : Nat) ≤ maxLen := (by decide +kernel); omega
  have hkw : IntKind.i64.wrap ((keys.length : Int) + 1) = ((keys.length + 1 : Nat) : Int) := by rw [w64 (by omega) (by omega)]; omega
  replace U := U.cons (hkw)
  refine PI.s ?_
  refine PI.q ?_
  refine rg5w21 (28) [] fun all4 _ => ?_
  refine GoI.runN 2 nfw21 ?_
  refine GoI.runN 2 nfw21 ?_
  refine GoI.call nfw21 nfw21 (by exact c1) ?_
  refine GoI.z nfw21 ?_
  refine PI.q ?_
  refine rg5w21 (29) [] fun all5 _ => ?_
  refine GoI.z nfw21 ?_
  refine PI.q ?_
  refine PI.q ?_
  refine rg5w21 (30) [] fun all6 _ => ?_
  refine GoI.z nfw21 ?_
  refine PI.b 0 ?_
  refine PI.lo (by kernel_rfl) (X := CtX) (fun x => (7, aI x.i) :: (6, aI x.n) :: uk [4, 35, 36, 37, 38, 39, 40, 41, 42, 43, 44, 45, 46, 47, 48, 49, 50, 51, 52, 53, 54, 55, 56, 57, 58, 59, 60, 61, 62, 63]) (fun x => [(([0], 0), .var 42 (encB b)), (([26], 0), .var 42 [ints KK.1, aRows S])]) (fun k x => k = S.length - x.i ∧ x.i ≤ S.length ∧ x.n = ((S.take x.i).map fun r => (r.getD keys.length nullV).i).sum ∧ 0 ≤ x.n ∧ x.n ≤ x.i * 1000) (S.length) (⟨0, 0⟩) (GhI.of_wk ⟨by simp [ovr, uk, lessT, neJ2, neJ2', neJ3, neJ3', neJ4, neJ4', neJ5, neJ5', neK, neK', neK2, neK2', neL, neL', neL2, neL2'], by simp [lessR, lk, neJ2, neJ2', neJ3, neJ3', neJ4, neJ4', neJ5, neJ5', neK, neK', neK2, neK2', neL, neL', neL2, neL2'], by (try dsimp only); omega, keep0⟩) (⟨rfl, Nat.zero_le _, rfl, by decide, by decide⟩) ?_
  intro k1 x1 j1 hr1
  obtain ⟨rfl, hi1, hn1, hn2, hn3⟩ := hr1
  simp only [ovr, uk, List.set_cons_zero, List.set_cons_succ]
  refine PI.q ?_
  refine PI.q ?_
  refine rg5w21 (j1 + 35) [] fun all7 _ => ?_
  refine GoI.runN 2 nfw21 ?_
  refine GoI.runN 2 nfw21 ?_
  refine GoI.z nfw21 ?_
  refine PI.d 39 nfw21 (fun hb2 => ?_) (fun hb2 => ?_)
  ·
   try simp only [hb2]
   obtain ⟨hlt, hw⟩ := up hb2 hSm
   have hx := rows_at hlt
   obtain ⟨r1, r2, r3⟩ := q1 _ (List.getElem_mem hlt)
   have hts := sum_take (fun r => (r.getD keys.length nullV).i) hlt
   rw [← hn1] at hts
   generalize hR : S[x1.i] = R at hx r1 r2 r3 hts
   have hy := row_at (l := R) (i := keys.length) (by omega)
   have hgd : R.getD keys.length nullV = R[keys.length]'(by omega) := by rw [List.getD_eq_getElem?_getD, List.getElem?_eq_getElem (by omega)]; rfl
   rw [hgd] at r2 r3 hts
   have hlt9 : (keys.length : Int) < (R.length : Int) := by omega
   generalize R[keys.length]'(by omega) = V at hy r2 r3 hts
   have hwn : IntKind.i64.wrap (x1.n + V.i) = x1.n + V.i := w64 (by omega) (by omega)
   replace U := U.cons (And.intro (hw) (And.intro (hx) (And.intro (hy) (And.intro (r1) (And.intro (hlt9) (hwn))))))
   refine PI.s ?_
   refine PI.q ?_
   refine PI.b 1 ?_
   refine PI.q ?_
   refine PI.q ?_
   refine rg5w21 (j1 + 45) [] fun all8 _ => ?_
   refine GoI.runN 2 nfw21 ?_
   refine GoI.runN 2 nfw21 ?_
   refine GoI.runN 2 nfw21 ?_
   refine GoI.runN 2 nfw21 ?_
   refine GoI.z nfw21 ?_
   refine PI.d 51 nfw21 (fun hb3 => ?_) (fun hb3 => ?_)
   ·
    try simp only [hb3]
    simp at hb3
   try simp only [hb3]
   refine PI.s ?_
   refine rg5w21 (j1 + 58) [] fun all10 _ => ?_
   refine GoI.runN 2 nfw21 ?_
   refine GoI.runN 2 nfw21 ?_
   refine GoI.runN 2 nfw21 ?_
   refine GoI.runN 2 nfw21 ?_
   refine GoI.runN 2 nfw21 ?_
   refine GoI.runN 2 nfw21 ?_
   refine GoI.z nfw21 ?_
   refine rg5w21 (j1 + 61) [] fun all11 _ => ?_
   refine GoI.runN 2 nfw21 ?_
   refine GoI.z nfw21 ?_
   refine ⟨S.length - (x1.i + 1), ⟨x1.i + 1, x1.n + V.i⟩, j1 + 31, by omega, ⟨rfl, by dsimp only; omega, hts.symm, by dsimp only; omega, by dsimp only; omega⟩, GhI.of_wk ⟨by simp [ovr, uk, lessT, neJ2, neJ2', neJ3, neJ3', neJ4, neJ4', neJ5, neJ5', neK, neK', neK2, neK2', neL, neL', neL2, neL2'], by simp [lessR, lk, neJ2, neJ2', neJ3, neJ3', neJ4, neJ4', neJ5, neJ5', neK, neK', neK2, neK2', neL, neL', neL2, neL2'], by (try dsimp only); omega, keep0⟩⟩
  try simp only [hb2]
  have hge := dn hb2
  rw [List.take_of_length_le hge, q2] at hn1
  replace U := U.cons (hn1)
  refine PI.e 0 ?_
  refine PI.q ?_
  refine rg5w21 (j1 + 36) [] fun all12 _ => ?_
  refine GoI.z nfw21 ?_
  refine PI.q ?_
  refine PI.q ?_
  refine rg5w21 (j1 + 37) [] fun all13 _ => ?_
  refine GoI.z nfw21 ?_
  refine PI.b 2 ?_
  refine PI.lo (by kernel_rfl) (X := Nat) (fun i => (9, aI i) :: (8, .sl (((b.rows.take i).map fun r => pickR r keys).map fun r => [aRow r]) (some (([j1 + 35], 0), i))) :: uk [64, 65, 66, 67, 68, 69, 70, 71, 72, 73, 74, 75, 76, 77, 78, 79, 80]) (fun i => [(([0], 0), .var 42 (encB b)), (([j1 + 35], 0), .tok i 49 1)]) (fun k i => k = b.rows.length - i ∧ i ≤ b.rows.length) (b.rows.length) (0) (GhI.of_wk ⟨by simp [ovr, uk, lessT, neJ2, neJ2', neJ3, neJ3', neJ4, neJ4', neJ5, neJ5', neK, neK', neK2, neK2', neL, neL', neL2, neL2'], by simp [lessR, lk, neJ2, neJ2', neJ3, neJ3', neJ4, neJ4', neJ5, neJ5', neK, neK', neK2, neK2', neL, neL', neL2, neL2'], by (try dsimp only); omega, keep0⟩) (by simp) ?_
  intro k2 x2 j2 hr2
  obtain ⟨rfl, hi2⟩ := hr2
  simp only [ovr, uk, List.set_cons_zero, List.set_cons_succ]
  refine PI.q ?_
  refine PI.q ?_
  refine rg5w21 (j2 + (j1 + 42)) [] fun all14 _ => ?_
  refine GoI.runN 2 nfw21 ?_
  refine GoI.runN 2 nfw21 ?_
  refine GoI.z nfw21 ?_
  refine PI.d 68 nfw21 (fun hb4 => ?_) (fun hb4 => ?_)
  ·
   try simp only [hb4]
   obtain ⟨hlt2, hw2⟩ := up hb4 hbm
   have hx2 := rows_at hlt2
   have hts2 : (b.rows.take (x2 + 1)).map (fun r => pickR r keys) = (b.rows.take x2).map (fun r => pickR r keys) ++ [pickR b.rows[x2] keys] := map_take_succ' hlt2
   have hap2 : ((b.rows.take x2).length + 1) * 24 ≤ 140737488355328 := by rw [List.length_take]; omega
   replace U := U.cons (And.intro (hw2) (And.intro (hx2) (hap2)))
   refine PI.s ?_
   refine PI.q ?_
   refine PI.b 3 ?_
   refine rg5w21 (j2 + (j1 + 53)) [] fun all15 _ => ?_
   refine GoI.runN 2 nfw21 ?_
   refine GoI.runN 2 nfw21 ?_
   refine GoI.runN 2 nfw21 ?_
   refine GoI.run nfw21 ?_
   refine GoI.call nfw21 nfw21 (by exact okPick' _ _ (by omega)) ?_
   refine GoI.runN 2 nfw21 ?_
   refine GoI.z nfw21 ?_
   refine rg5w21 (j2 + (j1 + 56)) [] fun all16 _ => ?_
   refine GoI.runN 2 nfw21 ?_
   refine GoI.z nfw21 ?_
   refine ⟨b.rows.length - (x2 + 1), x2 + 1, j2 + 19, by omega, ⟨rfl, by omega⟩, GhI.of_wk ⟨by simp [ovr, uk, lessT, hts2], by simp [lessR, lk, neJ2, neJ2', neJ3, neJ3', neK, neK'], by (try dsimp only); omega, keep0⟩⟩
  try simp only [hb4]
  have hge2 := dn hb4
  rw [List.take_of_length_le hge2]
  refine PI.e 2 ?_
  refine PI.q ?_
  refine rg5w21 (j2 + (j1 + 60)) [] fun all17 hall17 => ?_
  have hgd17_5 : (all17[5]?).bind (fun o => o.dst) = some 86 := by rw [← hall17]; kernel_rfl
  have hgd17_14 : (all17[14]?).bind (fun o => o.dst) = some 95 := by rw [← hall17]; kernel_rfl
  replace U := U.cons (And.intro (hgd17_5) (hgd17_14))
  refine GoI.runN 2 nfw21 ?_
  refine GoI.runN 2 nfw21 ?_
  refine GoI.runN 2 nfw21 ?_
  refine GoI.grd 86 nfw21 (fun hg4 => ?_) (fun hg4 => ?_)
  ·
   try simp only [hg4]
   refine GoI.runN 2 nfw21 ?_
   refine GoI.call nfw21 nfw21 (by exact c2) ?_
   refine GoI.runN 2 nfw21 ?_
   refine GoI.call nfw21 nfw21 (by exact e1) ?_
   refine GoI.call nfw21 nfw21 (by exact f1) ?_
   refine GoI.runN 2 nfw21 ?_
   refine GoI.grd 95 nfw21 (fun hg5 => ?_) (fun hg5 => ?_)
   ·
    try simp only [hg5]
    refine GoI.call nfw21 nfw21 (by exact okAwake) ?_
    refine GoI.z nfw21 ?_
    refine PI.r ?_
    exact FinI.mk _ nfw21 (by clear U; first | (simp [finR, nrmA, nrm, AV.content]; done) | rfl)
   try simp only [hg5]
   simp at hg5
  try simp only [hg4]
  simp at hg4
end Go.FE
