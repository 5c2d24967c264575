/- The chapter's examples hold. The chapter's examples hold: awake. Union, difference and intersection of multisets are as defined. -/
import Derived.Lib.ItoaLen
import Derived.Test.YtmblejfjbnoodaaGreatDoorS09
import Derived.Test.YtmblejfjbnoodaaGreatDoorS22
import Derived.Test.YtmblejfjbnoodaaGreatDoorS27
set_option linter.unusedVariables false
set_option linter.unusedSimpArgs false
namespace Go.FE
open Go.Proofs
theorem nfw15 {α : Type} {a b : α} (h : a = b := by simp only [goP, goN, mrk, Nat.reduceMul, Nat.one_mul, Nat.mul_one, eq_self, false_implies, implies_true, Nat.reduceLT, List.getElem?_toArray, isCall, List.contains_nil, List.contains_cons, Nat.reduceBEq, Bool.or_false, Bool.or_self, List.length_map, gOf, step, stepM, stepP, ev, okV, if_true, if_false, allocA, storeA, boxA, one1, tokN, tok1, buildA, rowA, nrmP, partV, partA, fieldA, fieldV, elemA, lenA, bltA, asSl, appA, makeA, makeR, cutA, bndA, binV, intOp, strOp, unV, eqB, nilB, sameT, List.all_cons, List.all_nil, Bool.and_self, Bool.and_true, Bool.true_and, List.map_cons, List.map_nil, List.nil_append, List.cons_append, List.append_nil, AV.bare, AV.content, AV.clean, AV.one, putD, List.set_cons_zero, List.set_cons_succ, List.reverse_cons, List.reverse_nil, List.getD_cons_zero, List.getD_cons_succ, List.getElem?_cons_zero, List.getElem?_cons_succ, Option.getD_some, Option.map_some, Option.map_none, Option.bind_some, List.length_cons, List.length_nil, lk, cellsA, fillA, fillS, isAggD, spl, nrm, nrmA, List.take_succ_cons, List.take_zero, List.drop_succ_cons, List.drop_zero, List.drop_nil, List.take_nil, Nat.reduceAdd, Nat.zero_add, Nat.add_zero, Nat.add_assoc, Nat.add_left_cancel_iff, reduceCtorEq, Prod.mk.injEq, List.cons.injEq, and_self, and_true, true_and, Nat.le_refl, Nat.reduceLeDiff, Nat.reduceEqDiff, List.getElem?_nil, Int.reduceToNat, Int.reduceLE, Int.reduceLT, ite_self, List.forall_mem_cons, List.not_mem_nil, false_and, and_false, Bool.false_eq_true, List.replicate_zero, List.replicate_succ, Int.toNat_natCast, neJ2, neJ2', neJ3, neJ3', callOf, callOf2, fnOf, argsA, args2, Array.isEmpty_empty, resLL, resVL, beq_self_eq_true, st3, zt3, it3, ct3, se3, Tryz.underlying3, st9, zt9, it9, ct9, se9, Tryz.underlying9, st25, zt25, it25, ct25, pt25, eqs25, se25, Tryz.underlying25, Tryz.results44, Tryz.results45, st22, zt22, it22, ct22, se22, Tryz.underlying22, st23, zt23, it23, ct23, se23, Tryz.underlying23, st42, zt42, it42, ct42, pt42, se42, Tryz.underlying42, st49, zt49, it49, ct49, se49, Tryz.underlying49, Tryz.results43, U.out] <;> rfl) : a = b := h
theorem noS_size {s : ByteArray} (h : noS s = true) : s.size = 0 := by
  unfold noS at h
  rw [Lib.toList_data, Lib.toList_data] at h
  have h := eq_of_beq h
  have e : s.size = s.data.toList.length := Array.length_toList.symm
  rw [e, h]; rfl
structure VF (v : Vl) : Prop where
  ok : OkV v
  sz : v.s.size ≤ 200
  i : inV v
theorem valid_VF {v : Vl} (h : validV v = true) : VF v := by
  have hm : (200 : Nat) ≤ maxLen := by decide +kernel
  have main : i64ok v.k ∧ inV v ∧ v.s.size ≤ 200 := by
    unfold validV at h
    unfold i64ok inV
    split at h
    · rename_i hk; simp at hk h
      have := noS_size h.2
      omega
    · split at h
      · rename_i hk; simp at hk h
        have := noS_size h.1
        omega
      · split at h
        · rename_i hk; simp at hk h; omega
        · split at h
          · rename_i hk; simp at hk h
            have := noS_size h.1
            omega
          · cases h
  obtain ⟨h1, h2, h3⟩ := main
  exact ⟨⟨h1, by unfold inV at h2; unfold i64ok; omega, by omega⟩, h3, h2⟩
theorem keyV_len {v : Vl} (h : VF v) : (keyV v).length ≤ 300 := by
  have h1 := Lib.itoa_length_le v.k h.ok.k.1 h.ok.k.2
  have h2 := Lib.itoa_length_le v.i h.ok.i.1 h.ok.i.2
  have h3 := Lib.itoa_length_le (v.s.size : Int) (by omega) (by have := h.sz; omega)
  have h4 : v.s.data.toList.length = v.s.size := Array.length_toList
  have := h.sz
  unfold keyV itoa
  simp only [List.length_append, List.length_cons, List.length_nil]
  omega
theorem keyR_len : ∀ {r : Row}, (∀ v ∈ r, VF v) → (keyR r).length ≤ 300 * r.length
  | [], _ => by simp [keyR]
  | v :: r, h => by
    have h1 := keyV_len (h v List.mem_cons_self)
    have h2 := keyR_len (r := r) fun v hv => h v (List.mem_cons_of_mem _ hv)
    have e : keyR (v :: r) = keyV v ++ keyR r := by simp [keyR]
    rw [e, List.length_append, List.length_cons]
    omega
theorem keyOK_of {r : Row} (hl : r.length ≤ 100000) (h : ∀ v ∈ r, validV v = true) : KeyOK r := by
  have hm : (100000 : Nat) ≤ maxLen := by decide +kernel
  have h1 := keyR_len fun v hv => valid_VF (h v hv)
  exact ⟨⟨by omega, fun v hv => (valid_VF (h v hv)).ok⟩, by omega⟩
/-- A bag whose rows are valid and short. -/
structure GoodB (b : Bag) : Prop where
  k : b.kinds.length ≤ 48
  l : b.rows.length ≤ 1000
  r : ∀ r ∈ b.rows, r.length ≤ 48
  v : ∀ r ∈ b.rows, ∀ v ∈ r, validV v = true
theorem fits_valid : ∀ {r : Row} {l : List Int}, fits r l = true → ∀ v ∈ r, validV v = true
  | [], _, _ => fun v h => (by cases h)
  | x :: r, [], h => by simp [fits] at h
  | x :: r, k :: l, h => fun v hv => by
    have h0 := fits_at (r := x :: r) (l := k :: l) (i := 0) (by simp) (by simp)
    simp only [List.drop_zero, List.getElem_cons_zero, Nat.zero_add, List.drop_succ_cons] at h0
    rw [h0] at h
    simp only [Bool.and_eq_true] at h
    rcases List.mem_cons.1 hv with rfl | hv
    · have := h.1; unfold fitV at this; simp only [Bool.and_eq_true] at this; exact this.1
    · exact fits_valid h.2 v hv
theorem few_good {b : Bag} {most : Int} (h : few b most = true) (hm : most ≤ 1000) : GoodB b := by
  unfold few sound at h
  simp only [Bool.and_eq_true, decide_eq_true_eq, List.all_eq_true] at h
  obtain ⟨h1, h2, h3, _⟩ := h
  exact ⟨by omega, by omega, fun r hr => by rw [fits_len (h3 r hr)]; omega, fun r hr => fits_valid (h3 r hr)⟩
theorem GoodB.key {b : Bag} (h : GoodB b) : ∀ r ∈ b.rows, KeyOK r := fun r hr => keyOK_of (by have := h.r r hr; omega) (h.v r hr)
theorem GoodB.ok {b : Bag} (h : GoodB b) : OkBag b := ⟨by have := h.k; omega, by have := h.l; omega, fun r hr => ⟨h.key r hr, by have := h.r r hr; omega⟩⟩
theorem atR_valid {r : Row} (h : ∀ v ∈ r, validV v = true) (k : Int) : validV (atR r k) = true := by
  have hn : validV nullV = true := by decide +kernel
  unfold atR
  split
  · exact hn
  · rw [List.getD_eq_getElem?_getD]
    by_cases hc : k.toNat < r.length
    · rw [List.getElem?_eq_getElem hc]; exact h _ (List.getElem_mem hc)
    · rw [List.getElem?_eq_none (by omega)]; exact hn
theorem pickR_valid {r : Row} (h : ∀ v ∈ r, validV v = true) (keys : List Int) : ∀ v ∈ pickR r keys, validV v = true := fun v hv => by
  obtain ⟨k, _, e⟩ := List.mem_map.1 hv
  rw [← e]; exact atR_valid h k
theorem okGroupG (a : Bag) (keys : List Int) (aggs : List Ag) (ha : GoodB a) (hk : keys.length ≤ 100000) (hg : aggs.length ≤ 100000) : CallsOK Tryz.prog 18 [aBag a, ints keys, aAggs aggs] (aBag ⟨(grpK keys aggs a.kinds).1, srt (grpOut keys aggs a.rows)⟩) :=
  okGroup a keys aggs ha.ok (by have := ha.l; omega) hk hg (fun r hr => keyOK_of (by simpa [pickR] using hk) (pickR_valid (ha.v r hr) keys)) (fun r hr => by have := ha.r r hr; omega) (fun r hr v hv => (valid_VF (ha.v r hr v hv)).i)
theorem rg44w15 {T : List Rid} {p : Path} {Q : Exit → SL → Prop} {tm : List AV} {L : RL} {n : Nat} {c : Code} {l : List Oper} (n' : Nat) (Qs : List Nat) (h : ∀ all, (ro c).toList = all → GoI Tryz.prog T p all false Qs n 0 l tm L fun tm' L' => Q .normal ⟨tm', L', n'⟩) (hk : kd c = 0 := by kernel_rfl) (hr : rd c = false := by kernel_rfl) (hl : (ro c).toList = l := by dsimp only [ro, s1, s2, c1, c2, bc, bod, Tryz.f44, Option.getD_some] <;> exact rfl) (hn : n + (ro c).size = n' := by kernel_rfl) : PI Tryz.prog T p c Q ⟨tm, L, n⟩ := PI.rg n' Qs hk hr hl (fun h => by cases h) hn (h _ rfl)
theorem okNumber (n : Int) : CallsOK Tryz.prog 44 [aI n] (aVal ⟨1, n, .empty⟩) := by
  have U : Hid True := ⟨trivial⟩
  refine CallsOK.of_pi mixed Tryz.func44 (by kernel_rfl) (by kernel_rfl) (?_ : PI _ _ _ _ _ ⟨[aI n, .und, .und, .und, .und], [], 0⟩)
  refine PI.q ?_
  refine rg44w15 (1) [] fun all1 _ => ?_
  refine GoI.z nfw15 ?_
  refine PI.q ?_
  refine rg44w15 (4) [] fun all2 _ => ?_
  refine GoI.runN 2 nfw15 ?_
  refine GoI.z nfw15 ?_
  refine PI.r ?_
  exact FinI.mk _ nfw15 (by clear U; first | (simp [finR, nrmA, nrm, AV.content]; done) | rfl)
theorem rg45w15 {T : List Rid} {p : Path} {Q : Exit → SL → Prop} {tm : List AV} {L : RL} {n : Nat} {c : Code} {l : List Oper} (n' : Nat) (Qs : List Nat) (h : ∀ all, (ro c).toList = all → GoI Tryz.prog T p all false Qs n 0 l tm L fun tm' L' => Q .normal ⟨tm', L', n'⟩) (hk : kd c = 0 := by kernel_rfl) (hr : rd c = false := by kernel_rfl) (hl : (ro c).toList = l := by dsimp only [ro, s1, s2, c1, c2, bc, bod, Tryz.f45, Option.getD_some] <;> exact rfl) (hn : n + (ro c).size = n' := by kernel_rfl) : PI Tryz.prog T p c Q ⟨tm, L, n⟩ := PI.rg n' Qs hk hr hl (fun h => by cases h) hn (h _ rfl)
theorem okTextL (s : ByteArray) : CallsOK Tryz.prog 45 [aS s] (aVal ⟨2, 0, s⟩) := by
  have U : Hid True := ⟨trivial⟩
  refine CallsOK.of_pi mixed Tryz.func45 (by kernel_rfl) (by kernel_rfl) (?_ : PI _ _ _ _ _ ⟨[aS s, .und, .und, .und, .und], [], 0⟩)
  refine PI.q ?_
  refine rg45w15 (1) [] fun all1 _ => ?_
  refine GoI.z nfw15 ?_
  refine PI.q ?_
  refine rg45w15 (4) [] fun all2 _ => ?_
  refine GoI.runN 2 nfw15 ?_
  refine GoI.z nfw15 ?_
  refine PI.r ?_
  exact FinI.mk _ nfw15 (by clear U; first | (simp [finR, nrmA, nrm, AV.content]; done) | rfl)
theorem rg43w15 {T : List Rid} {p : Path} {Q : Exit → SL → Prop} {tm : List AV} {L : RL} {n : Nat} {c : Code} {l : List Oper} (n' : Nat) (Qs : List Nat) (h : ∀ all, (ro c).toList = all → GoI Tryz.prog T p all false Qs n 0 l tm L fun tm' L' => Q .normal ⟨tm', L', n'⟩) (hk : kd c = 0 := by kernel_rfl) (hr : rd c = false := by kernel_rfl) (hl : (ro c).toList = l := by dsimp only [ro, s1, s2, c1, c2, bc, bod, Tryz.f43, Option.getD_some] <;> exact rfl) (hn : n + (ro c).size = n' := by kernel_rfl) : PI Tryz.prog T p c Q ⟨tm, L, n⟩ := PI.rg n' Qs hk hr hl (fun h => by cases h) hn (h _ rfl)
set_option maxRecDepth 100000 in
theorem okSample : CallsOK Tryz.prog 43 [] (aBag smpB) := by
  have U : Hid True := ⟨trivial⟩
  refine CallsOK.of_pi mixed Tryz.func43 (by kernel_rfl) (by kernel_rfl) (?_ : PI _ _ _ _ _ ⟨[.und, .und, .und, .und, .und, .und, .und, .und, .und, .und, .und, .und, .und, .und, .und, .und], [], 0⟩)
  refine PI.q ?_
  refine rg43w15 (1) [] fun all1 _ => ?_
  refine GoI.z nfw15 ?_
  refine PI.q ?_
  refine rg43w15 (17) [] fun all2 _ => ?_
  refine GoI.run nfw15 ?_
  refine GoI.call nfw15 nfw15 (by exact okNumber _) ?_
  refine GoI.call nfw15 nfw15 (by exact okTextL _) ?_
  refine GoI.run nfw15 ?_
  refine GoI.call nfw15 nfw15 (by exact okNumber _) ?_
  refine GoI.call nfw15 nfw15 (by exact okTextL _) ?_
  refine GoI.run nfw15 ?_
  refine GoI.call nfw15 nfw15 (by exact okNumber _) ?_
  refine GoI.call nfw15 nfw15 (by exact okTextL _) ?_
  refine GoI.runN 2 nfw15 ?_
  refine GoI.call nfw15 nfw15 (by exact okTextL _) ?_
  refine GoI.runN 2 nfw15 ?_
  refine GoI.z nfw15 ?_
  refine PI.r ?_
  exact FinI.mk _ nfw15 (by clear U; rfl)
theorem smp_good : GoodB smpB := by
  refine ⟨by decide, by decide, fun r hr => ?_, fun r hr => ?_⟩
  · have : ∀ r ∈ smpR, r.length ≤ 48 := by decide
    exact this r hr
  · have h : (smpR.all fun r => r.all validV) = true := by decide +kernel
    simp only [List.all_eq_true] at h
    exact h r hr
theorem smp2_good : GoodB ⟨[1, 2], [[nB 2, tY]]⟩ := by
  refine ⟨by decide, by decide, fun r hr => ?_, fun r hr => ?_⟩
  · have : ∀ r ∈ ([[nB 2, tY]] : List Row), r.length ≤ 48 := by decide
    exact this r hr
  · have h : (([[nB 2, tY]] : List Row).all fun r => r.all validV) = true := by decide +kernel
    simp only [List.all_eq_true] at h
    exact h r hr
theorem smp0_good : GoodB ⟨[1, 2], []⟩ := ⟨by decide, by decide, fun r hr => (by cases hr), fun r hr => (by cases hr)⟩
theorem smE_leaf {N : Nat} {op int : Int} {v : Vl} {name : ByteArray} : SmE N (.mk op int v name []) := .mk (Nat.zero_le _) fun a h => (by cases h)
theorem okEx_leaf {op int : Int} {v : Vl} {name : ByteArray} : OkEx (.mk op int v name []) := ⟨smE_leaf, by rw [dpE_mk, dpEs_nil]; decide⟩
theorem smP_leaf {op int : Int} : SmP (.mk op int [] [] (.mk 0 0 nullV .empty []) [] [] [] []) := .mk (Nat.zero_le _) (Nat.zero_le _) okEx_leaf (Nat.zero_le _) (fun e h => (by cases h)) (Nat.zero_le _) (Nat.zero_le _) (Nat.zero_le _) (fun q h => (by cases h))
theorem exP_sm : SmP exP := .mk (Nat.zero_le _) (Nat.zero_le _) okEx_leaf (Nat.zero_le _) (fun e h => (by cases h)) (Nat.zero_le _) (Nat.zero_le _) (by decide) (fun q h => by
  have h : q ∈ [Pl.mk 1 0 [] [] (.mk 0 0 nullV .empty []) [] [] [] [], Pl.mk 1 1 [] [] (.mk 0 0 nullV .empty []) [] [] [] []] := h
  simp at h
  rcases h with rfl | rfl <;> exact smP_leaf)
theorem ex4C : CallsOK Tryz.prog 12 [aP exP.f, aKs [[1, 2], [1]]] (.tup [ints [], aI 13]) := by
  have h := okCheckP [[1, 2], [1]] exP exP_sm (fun k hk => by
    have hm : (48 : Nat) ≤ maxLen := by decide +kernel
    have : ∀ k ∈ ([[1, 2], [1]] : List (List Int)), k.length ≤ 48 := by decide
    have := this k hk; omega)
  rw [ex4] at h
  exact h
end Go.FE
namespace Go.FE
open Go.Proofs
theorem nfw16 {α : Type} {a b : α} (h : a = b := by simp only [goP, goN, mrk, Nat.reduceMul, Nat.one_mul, Nat.mul_one, eq_self, false_implies, implies_true, Nat.reduceLT, List.getElem?_toArray, isCall, List.contains_nil, List.contains_cons, Nat.reduceBEq, Bool.or_false, Bool.or_self, List.length_map, gOf, step, stepM, stepP, ev, okV, if_true, if_false, allocA, storeA, boxA, one1, tokN, tok1, buildA, rowA, nrmP, partV, partA, fieldA, fieldV, elemA, lenA, bltA, asSl, appA, makeA, makeR, cutA, bndA, binV, intOp, strOp, unV, eqB, nilB, sameT, List.all_cons, List.all_nil, Bool.and_self, Bool.and_true, Bool.true_and, List.map_cons, List.map_nil, List.nil_append, List.cons_append, List.append_nil, AV.bare, AV.content, AV.clean, AV.one, putD, List.set_cons_zero, List.set_cons_succ, List.reverse_cons, List.reverse_nil, List.getD_cons_zero, List.getD_cons_succ, List.getElem?_cons_zero, List.getElem?_cons_succ, Option.getD_some, Option.map_some, Option.map_none, Option.bind_some, List.length_cons, List.length_nil, lk, cellsA, fillA, fillS, isAggD, spl, nrm, nrmA, List.take_succ_cons, List.take_zero, List.drop_succ_cons, List.drop_zero, List.drop_nil, List.take_nil, Nat.reduceAdd, Nat.zero_add, Nat.add_zero, Nat.add_assoc, Nat.add_left_cancel_iff, reduceCtorEq, Prod.mk.injEq, List.cons.injEq, and_self, and_true, true_and, Nat.le_refl, Nat.reduceLeDiff, Nat.reduceEqDiff, List.getElem?_nil, Int.reduceToNat, Int.reduceLE, Int.reduceLT, ite_self, List.forall_mem_cons, List.not_mem_nil, false_and, and_false, Bool.false_eq_true, List.replicate_zero, List.replicate_succ, Int.toNat_natCast, neJ2, neJ2', neJ3, neJ3', callOf, callOf2, fnOf, argsA, args2, Array.isEmpty_empty, resLL, resVL, beq_self_eq_true, st3, zt3, it3, ct3, se3, Tryz.underlying3, st4, zt4, it4, ct4, se4, Tryz.underlying4, st9, zt9, it9, ct9, se9, Tryz.underlying9, st22, zt22, it22, ct22, se22, Tryz.underlying22, st23, zt23, it23, ct23, se23, Tryz.underlying23, st25, zt25, it25, ct25, pt25, eqs25, se25, Tryz.underlying25, st26, zt26, it26, ct26, se26, Tryz.underlying26, st28, zt28, it28, ct28, pt28, se28, Tryz.underlying28, st29, zt29, it29, ct29, se29, Tryz.underlying29, st30, zt30, it30, ct30, se30, Tryz.underlying30, st32, zt32, it32, ct32, pt32, se32, Tryz.underlying32, st33, zt33, it33, ct33, se33, Tryz.underlying33, st36, zt36, it36, ct36, se36, Tryz.underlying36, st37, Tryz.underlying37, st42, zt42, it42, ct42, pt42, se42, Tryz.underlying42, st48, zt48, it48, ct48, pt48, eqs48, se48, Tryz.underlying48, st49, zt49, it49, ct49, se49, Tryz.underlying49, Tryz.results11, U.out] <;> rfl) : a = b := h
theorem rg11w16 {T : List Rid} {p : Path} {Q : Exit → SL → Prop} {tm : List AV} {L : RL} {n : Nat} {c : Code} {l : List Oper} (n' : Nat) (Qs : List Nat) (h : ∀ all, (ro c).toList = all → GoI Tryz.prog T p all false Qs n 0 l tm L fun tm' L' => Q .normal ⟨tm', L', n'⟩) (hk : kd c = 0 := by kernel_rfl) (hr : rd c = false := by kernel_rfl) (hl : (ro c).toList = l := by dsimp only [ro, s1, s2, c1, c2, bc, bod, Tryz.f11, Option.getD_some] <;> exact rfl) (hn : n + (ro c).size = n' := by kernel_rfl) : PI Tryz.prog T p c Q ⟨tm, L, n⟩ := PI.rg n' Qs hk hr hl (fun h => by cases h) hn (h _ rfl)
theorem rd11w16 {T : List Rid} {p : Path} {Q : Exit → SL → Prop} {tm : List AV} {L : RL} {n : Nat} {c : Code} {l : List Oper} (n' : Nat) (Qs : List Nat) (h : ∀ all, (ro c).toList = all → GoI Tryz.prog T p all true Qs n 0 l tm L fun tm' L' => Q .normal ⟨tm', L', n'⟩) (hk : kd c = 0 := by kernel_rfl) (hr : rd c = true := by kernel_rfl) (hl : (ro c).toList = l := by dsimp only [ro, s1, s2, c1, c2, bc, bod, Tryz.f11, Option.getD_some] <;> exact rfl) (hn : n + (ro c).size = n' := by kernel_rfl) (hd : drawOK (ro c) Qs = true := by kernel_rfl) : PI Tryz.prog T p c Q ⟨tm, L, n⟩ := PI.rg n' Qs hk hr hl (fun _ => hd) hn (h _ rfl)
set_option maxHeartbeats 4000000 in
set_option maxRecDepth 100000 in
theorem okAwake : CallsOK Tryz.prog 11 [] (.v (.bool true)) := by
  have g1 := okGroupG smpB [1] [⟨1, -1⟩, ⟨1, 0⟩, ⟨2, 0⟩] smp_good (by decide) (by decide)
  have g2 := okGroupG ⟨[1, 2], []⟩ [] [⟨1, -1⟩, ⟨2, 0⟩] smp0_good (by decide) (by decide)
  have d1 := okExcept smpB ⟨[1, 2], [[nB 2, tY]]⟩ smp_good.ok smp2_good.ok
  have e1 := ex1
  have e2 := ex2
  have e3 := ex3
  dsimp only at g1 g2 d1
  generalize hR1 : srt (grpOut [1] [⟨1, -1⟩, ⟨1, 0⟩, ⟨2, 0⟩] smpR) = R1 at g1 e1
  generalize hR3 : srt (grpOut [] [⟨1, -1⟩, ⟨2, 0⟩] []) = R3 at g2 e3
  generalize hR2 : srt (splR smpR [[nB 2, tY]]).y = R2 at d1 e2
  generalize (grpK [1] [⟨1, -1⟩, ⟨1, 0⟩, ⟨2, 0⟩] [1, 2]).1 = K1 at g1
  generalize (grpK [] [⟨1, -1⟩, ⟨2, 0⟩] [1, 2]).1 = K3 at g2
  have z1 := okSameRows R1 [[tX, nB 2, nB 1, nB 1], [tY, nB 2, nB 2, nB 4]]
  have z2 := okSameRows R2 [[nullV, tX], [nB 1, tX], [nB 2, tY]]
  have z3 := okSameRows R3 [[nB 0, nullV]]
  rw [e1] at z1
  rw [e2] at z2
  rw [e3] at z3
  have U : Hid True := ⟨trivial⟩
  refine CallsOK.of_pi mixed Tryz.func11 (by kernel_rfl) (by kernel_rfl) (?_ : PI _ _ _ _ _ ⟨[.und, .und, .und, .und, .und, .und, .und, .und, .und, .und, .und, .und, .und, .und, .und, .und, .und, .und, .und, .und, .und, .und, .und, .und, .und, .und, .und, .und, .und, .und, .und, .und, .und, .und, .und, .und, .und, .und, .und, .und, .und, .und, .und, .und, .und, .und, .und, .und, .und, .und, .und, .und, .und, .und, .und, .und, .und, .und, .und, .und, .und, .und, .und, .und, .und, .und, .und, .und, .und, .und, .und, .und, .und, .und, .und, .und, .und, .und, .und, .und, .und, .und, .und, .und, .und], [], 0⟩)
  refine PI.q ?_
  refine rg11w16 (1) [] fun all1 _ => ?_
  refine GoI.z nfw16 ?_
  refine PI.q ?_
  refine rg11w16 (4) [] fun all2 _ => ?_
  refine GoI.call nfw16 nfw16 (by exact okSample) ?_
  refine GoI.z nfw16 ?_
  refine PI.q ?_
  refine rg11w16 (13) [] fun all3 _ => ?_
  refine GoI.runN 2 nfw16 ?_
  refine GoI.runN 2 nfw16 ?_
  refine GoI.runN 2 nfw16 ?_
  refine GoI.call nfw16 nfw16 (by exact g1) ?_
  refine GoI.z nfw16 ?_
  refine PI.q ?_
  refine rd11w16 (24) [] fun all4 _ => ?_
  refine GoI.runN 2 nfw16 ?_
  refine GoI.run nfw16 ?_
  refine GoI.call nfw16 nfw16 (by exact okNumber _) ?_
  refine GoI.call nfw16 nfw16 (by exact okTextL _) ?_
  refine GoI.runN 2 nfw16 ?_
  refine GoI.run nfw16 ?_
  refine GoI.call nfw16 nfw16 (by exact d1) ?_
  refine GoI.z nfw16 ?_
  refine PI.q ?_
  refine rg11w16 (33) [] fun all5 _ => ?_
  refine GoI.runN 2 nfw16 ?_
  refine GoI.runN 2 nfw16 ?_
  refine GoI.runN 2 nfw16 ?_
  refine GoI.call nfw16 nfw16 (by exact g2) ?_
  refine GoI.z nfw16 ?_
  refine PI.q ?_
  refine rg11w16 (47) [] fun all6 _ => ?_
  refine GoI.runN 2 nfw16 ?_
  refine GoI.runN 2 nfw16 ?_
  refine GoI.runN 2 nfw16 ?_
  refine GoI.runN 2 nfw16 ?_
  refine GoI.call nfw16 nfw16 (by exact ex4C) ?_
  refine GoI.runN 2 nfw16 ?_
  refine GoI.runN 2 nfw16 ?_
  refine GoI.z nfw16 ?_
  refine PI.q ?_
  refine rd11w16 (90) [] fun all7 hall7 => ?_
  have hgd7_14 : (all7[14]?).bind (fun o => o.dst) = some 57 := by rw [← hall7]; kernel_rfl
  have hgd7_29 : (all7[29]?).bind (fun o => o.dst) = some 72 := by rw [← hall7]; kernel_rfl
  have hgd7_38 : (all7[38]?).bind (fun o => o.dst) = some 81 := by rw [← hall7]; kernel_rfl
  replace U := U.cons (And.intro (hgd7_14) (And.intro (hgd7_29) (hgd7_38)))
  refine GoI.runN 2 nfw16 ?_
  refine GoI.call nfw16 nfw16 (by exact okTextL _) ?_
  refine GoI.call nfw16 nfw16 (by exact okNumber _) ?_
  refine GoI.call nfw16 nfw16 (by exact okNumber _) ?_
  refine GoI.call nfw16 nfw16 (by exact okNumber _) ?_
  refine GoI.run nfw16 ?_
  refine GoI.call nfw16 nfw16 (by exact okTextL _) ?_
  refine GoI.call nfw16 nfw16 (by exact okNumber _) ?_
  refine GoI.call nfw16 nfw16 (by exact okNumber _) ?_
  refine GoI.call nfw16 nfw16 (by exact okNumber _) ?_
  refine GoI.runN 2 nfw16 ?_
  refine GoI.call nfw16 nfw16 (by first | exact z1 | exact z2 | exact z3) ?_
  refine GoI.runN 1 nfw16 ?_
  refine GoI.grd 57 nfw16 (fun hg1 => ?_) (fun hg1 => ?_)
  ·
   try simp only [hg1]
   refine GoI.runN 2 nfw16 ?_
   refine GoI.run nfw16 ?_
   refine GoI.call nfw16 nfw16 (by exact okTextL _) ?_
   refine GoI.run nfw16 ?_
   refine GoI.call nfw16 nfw16 (by exact okNumber _) ?_
   refine GoI.call nfw16 nfw16 (by exact okTextL _) ?_
   refine GoI.run nfw16 ?_
   refine GoI.call nfw16 nfw16 (by exact okNumber _) ?_
   refine GoI.call nfw16 nfw16 (by exact okTextL _) ?_
   refine GoI.runN 2 nfw16 ?_
   refine GoI.call nfw16 nfw16 (by first | exact z1 | exact z2 | exact z3) ?_
   refine GoI.runN 2 nfw16 ?_
   refine GoI.grd 72 nfw16 (fun hg2 => ?_) (fun hg2 => ?_)
   ·
    try simp only [hg2]
    refine GoI.runN 2 nfw16 ?_
    refine GoI.call nfw16 nfw16 (by exact okNumber _) ?_
    refine GoI.runN 2 nfw16 ?_
    refine GoI.run nfw16 ?_
    refine GoI.call nfw16 nfw16 (by first | exact z1 | exact z2 | exact z3) ?_
    refine GoI.runN 2 nfw16 ?_
    refine GoI.grd 81 nfw16 (fun hg3 => ?_) (fun hg3 => ?_)
    ·
     try simp only [hg3]
     refine GoI.runN 2 nfw16 ?_
     refine GoI.z nfw16 ?_
     refine PI.r ?_
     exact FinI.mk _ nfw16 (by clear U; first | (simp [finR, nrmA, nrm, AV.content]; done) | rfl)
    try simp only [hg3]
    cases hg3
   try simp only [hg2]
   cases hg2
  try simp only [hg1]
  cases hg1
end Go.FE
namespace Go.FE
open Go.Proofs
theorem nfw17 {α : Type} {a b : α} (h : a = b := by simp only [goP, goN, mrk, Nat.reduceMul, Nat.one_mul, Nat.mul_one, eq_self, false_implies, implies_true, Nat.reduceLT, List.getElem?_toArray, isCall, List.contains_nil, List.contains_cons, Nat.reduceBEq, Bool.or_false, Bool.or_self, List.length_map, gOf, step, stepM, stepP, ev, okV, if_true, if_false, allocA, storeA, boxA, one1, tokN, tok1, buildA, rowA, nrmP, partV, partA, fieldA, fieldV, elemA, lenA, bltA, asSl, appA, makeA, makeR, cutA, bndA, binV, intOp, strOp, unV, eqB, nilB, sameT, List.all_cons, List.all_nil, Bool.and_self, Bool.and_true, Bool.true_and, List.map_cons, List.map_nil, List.nil_append, List.cons_append, List.append_nil, AV.bare, AV.content, AV.clean, AV.one, putD, List.set_cons_zero, List.set_cons_succ, List.reverse_cons, List.reverse_nil, List.getD_cons_zero, List.getD_cons_succ, List.getElem?_cons_zero, List.getElem?_cons_succ, Option.getD_some, Option.map_some, Option.map_none, Option.bind_some, List.length_cons, List.length_nil, lk, cellsA, fillA, fillS, isAggD, spl, nrm, nrmA, List.take_succ_cons, List.take_zero, List.drop_succ_cons, List.drop_zero, List.drop_nil, List.take_nil, Nat.reduceAdd, Nat.zero_add, Nat.add_zero, Nat.add_assoc, Nat.add_left_cancel_iff, reduceCtorEq, Prod.mk.injEq, List.cons.injEq, and_self, and_true, true_and, Nat.le_refl, Nat.reduceLeDiff, Nat.reduceEqDiff, List.getElem?_nil, Int.reduceToNat, Int.reduceLE, Int.reduceLT, ite_self, List.forall_mem_cons, List.not_mem_nil, false_and, and_false, Bool.false_eq_true, List.replicate_zero, List.replicate_succ, Int.toNat_natCast, neJ2, neJ2', neJ3, neJ3', callOf, callOf2, fnOf, argsA, args2, Array.isEmpty_empty, resLL, resVL, beq_self_eq_true, st3, zt3, it3, ct3, se3, Tryz.underlying3, st4, zt4, it4, ct4, se4, Tryz.underlying4, st9, zt9, it9, ct9, se9, Tryz.underlying9, st22, zt22, it22, ct22, se22, Tryz.underlying22, st23, zt23, it23, ct23, se23, Tryz.underlying23, st25, zt25, it25, ct25, pt25, eqs25, se25, Tryz.underlying25, st42, zt42, it42, ct42, pt42, se42, Tryz.underlying42, st49, zt49, it49, ct49, se49, Tryz.underlying49, Tryz.results6, U.out] <;> rfl) : a = b := h
theorem exactly_self (a : Bag) : exactly a a = true := by
  unfold exactly
  rw [eqRs_iff.2 rfl]; simp
theorem rg6w17 {T : List Rid} {p : Path} {Q : Exit → SL → Prop} {tm : List AV} {L : RL} {n : Nat} {c : Code} {l : List Oper} (n' : Nat) (Qs : List Nat) (h : ∀ all, (ro c).toList = all → GoI Tryz.prog T p all false Qs n 0 l tm L fun tm' L' => Q .normal ⟨tm', L', n'⟩) (hk : kd c = 0 := by kernel_rfl) (hr : rd c = false := by kernel_rfl) (hl : (ro c).toList = l := by dsimp only [ro, s1, s2, c1, c2, bc, bod, Tryz.f6, Option.getD_some] <;> exact rfl) (hn : n + (ro c).size = n' := by kernel_rfl) : PI Tryz.prog T p c Q ⟨tm, L, n⟩ := PI.rg n' Qs hk hr hl (fun h => by cases h) hn (h _ rfl)
theorem rd6w17 {T : List Rid} {p : Path} {Q : Exit → SL → Prop} {tm : List AV} {L : RL} {n : Nat} {c : Code} {l : List Oper} (n' : Nat) (Qs : List Nat) (h : ∀ all, (ro c).toList = all → GoI Tryz.prog T p all true Qs n 0 l tm L fun tm' L' => Q .normal ⟨tm', L', n'⟩) (hk : kd c = 0 := by kernel_rfl) (hr : rd c = true := by kernel_rfl) (hl : (ro c).toList = l := by dsimp only [ro, s1, s2, c1, c2, bc, bod, Tryz.f6, Option.getD_some] <;> exact rfl) (hn : n + (ro c).size = n' := by kernel_rfl) (hd : drawOK (ro c) Qs = true := by kernel_rfl) : PI Tryz.prog T p c Q ⟨tm, L, n⟩ := PI.rg n' Qs hk hr hl (fun _ => hd) hn (h _ rfl)
set_option maxHeartbeats 4000000 in
set_option maxRecDepth 100000 in
theorem okSetsLaw (a b : Bag) : CallsOK Tryz.prog 6 [aBag a, aBag b] (.v (.bool true)) := by
  have U : Hid True := ⟨trivial⟩
  refine CallsOK.of_pi mixed Tryz.func6 (by kernel_rfl) (by kernel_rfl) (?_ : PI _ _ _ _ _ ⟨[aBag a, aBag b, .und, .und, .und, .und, .und, .und, .und, .und, .und, .und, .und, .und, .und, .und, .und, .und, .und, .und, .und, .und, .und, .und, .und, .und, .und, .und, .und, .und, .und, .und, .und, .und, .und, .und, .und, .und, .und, .und, .und, .und, .und, .und, .und, .und, .und, .und, .und, .und, .und, .und, .und, .und, .und, .und, .und, .und, .und, .und, .und, .und, .und, .und, .und, .und, .und, .und], [], 0⟩)
  refine PI.q ?_
  refine rg6w17 (3) [] fun all1 _ => ?_
  refine GoI.runN 2 nfw17 ?_
  refine GoI.z nfw17 ?_
  refine PI.q ?_
  refine PI.q ?_
  refine rg6w17 (19) [] fun all2 hall2 => ?_
  have hgd2_3 : (all2[3]?).bind (fun o => o.dst) = some 8 := by rw [← hall2]; kernel_rfl
  have hgd2_8 : (all2[8]?).bind (fun o => o.dst) = some 13 := by rw [← hall2]; kernel_rfl
  replace U := U.cons (And.intro (hgd2_3) (hgd2_8))
  refine GoI.run nfw17 ?_
  refine GoI.call nfw17 nfw17 (by exact okFew _ _ (by decide)) ?_
  refine GoI.runN 2 nfw17 ?_
  refine GoI.grd 8 nfw17 (fun hg1 => ?_) (fun hg1 => ?_)
  ·
   try simp only [hg1]
   refine GoI.runN 2 nfw17 ?_
   refine GoI.runN 2 nfw17 ?_
   refine GoI.runN 2 nfw17 ?_
   refine GoI.runN 2 nfw17 ?_
   refine GoI.runN 2 nfw17 ?_
   refine GoI.z nfw17 ?_
   refine PI.t 20 nfw17 ?_
   refine PI.q ?_
   refine rg6w17 (21) [] fun all3 _ => ?_
   refine GoI.call nfw17 nfw17 (by exact okAwake) ?_
   refine GoI.z nfw17 ?_
   refine PI.r ?_
   exact FinI.mk _ nfw17 (by clear U; first | (simp [finR, nrmA, nrm, AV.content]; done) | rfl)
  try simp only [hg1]
  refine GoI.run nfw17 ?_
  refine GoI.call nfw17 nfw17 (by exact okFew _ _ (by decide)) ?_
  refine GoI.runN 2 nfw17 ?_
  refine GoI.runN 1 nfw17 ?_
  refine GoI.grd 13 nfw17 (fun hg2 => ?_) (fun hg2 => ?_)
  ·
   try simp only [hg2]
   refine GoI.runN 2 nfw17 ?_
   refine GoI.runN 2 nfw17 ?_
   refine GoI.runN 2 nfw17 ?_
   refine GoI.z nfw17 ?_
   refine PI.t 20 nfw17 ?_
   refine PI.q ?_
   refine rg6w17 (21) [] fun all3 _ => ?_
   refine GoI.call nfw17 nfw17 (by exact okAwake) ?_
   refine GoI.z nfw17 ?_
   refine PI.r ?_
   exact FinI.mk _ nfw17 (by clear U; first | (simp [finR, nrmA, nrm, AV.content]; done) | rfl)
  try simp only [hg2]
  refine GoI.runN 2 nfw17 ?_
  refine GoI.runN 2 nfw17 ?_
  refine GoI.call nfw17 nfw17 (by exact okSameKinds _ _) ?_
  refine GoI.z nfw17 ?_
  refine PI.d 20 nfw17 (fun hb1 => ?_) (fun hb1 => ?_)
  ·
   try simp only [hb1]
   refine PI.q ?_
   refine rg6w17 (21) [] fun all3 _ => ?_
   refine GoI.call nfw17 nfw17 (by exact okAwake) ?_
   refine GoI.z nfw17 ?_
   refine PI.r ?_
   exact FinI.mk _ nfw17 (by clear U; first | (simp [finR, nrmA, nrm, AV.content]; done) | rfl)
  try simp only [hb1]
  have ha : GoodB a := few_good (most := 40) (by simpa using hg1) (by decide)
  have hb : GoodB b := few_good (most := 40) (by simpa using hg2) (by decide)
  have hk : a.kinds = b.kinds := by simpa using hb1
  have h0 : GoodB ⟨a.kinds, []⟩ := ⟨ha.k, Nat.zero_le _, fun r hr => (by cases hr), fun r hr => (by cases hr)⟩
  have u1 := okUnion a b ha.ok hb.ok
  have u2 := okUnion' a b ha.ok.ok' hb.ok.ok' (by have := ha.l; have := hb.l; omega)
  have u3 := okUnion a ⟨a.kinds, []⟩ ha.ok h0.ok
  have x1 := okExcept a b ha.ok hb.ok
  have x2 := okExcept' a b ha.ok.ok' hb.ok.ok'
  have i1 := okIntersect a b ha.ok hb.ok
  have i2 := okIntersect' a b ha.ok.ok' hb.ok.ok'
  rw [ex_law] at x1
  rw [in_law] at i1
  have y1 := okExactly ⟨a.kinds, srt (a.rows ++ b.rows)⟩ ⟨a.kinds, srt (a.rows ++ b.rows)⟩
  have y2 := okExactly ⟨a.kinds, exS a.rows b.rows⟩ ⟨a.kinds, exS a.rows b.rows⟩
  have y3 := okExactly ⟨a.kinds, inS a.rows b.rows⟩ ⟨a.kinds, inS a.rows b.rows⟩
  rw [exactly_self] at y1 y2 y3
  have hkl : ∀ {c : Bag}, GoodB c → OkL c.rows := fun {c} h => ⟨by have := h.l; omega, fun r hr => by have := h.r r hr; omega⟩
  have m1 := okSame a b (hkl ha) (hkl hb)
  have m2 := okSame' a b ha.ok.ok' hb.ok.ok'
  have hsl : OkL (srt (a.rows ++ [])) := ⟨by rw [srt_len]; simp; have := ha.l; omega, fun r hr => by have := (srt_perm _).mem_iff.1 hr; simp at this; have := ha.r r this; omega⟩
  have m3 := okSame a ⟨a.kinds, srt (a.rows ++ [])⟩ (hkl ha) hsl
  have hm3 : sameR a.rows (srt (a.rows ++ [])) = true := sameR_iff.2 (by rw [List.append_nil]; exact (srt_perm _).symm)
  rw [hm3] at m3
  simp only [List.append_nil] at u3 m3
  refine PI.s ?_
  refine PI.q ?_
  refine rd6w17 (66) [] fun all4 hall4 => ?_
  have hgd4_7 : (all4[7]?).bind (fun o => o.dst) = some 29 := by rw [← hall4]; kernel_rfl
  have hgd4_16 : (all4[16]?).bind (fun o => o.dst) = some 38 := by rw [← hall4]; kernel_rfl
  have hgd4_25 : (all4[25]?).bind (fun o => o.dst) = some 47 := by rw [← hall4]; kernel_rfl
  have hgd4_34 : (all4[34]?).bind (fun o => o.dst) = some 56 := by rw [← hall4]; kernel_rfl
  have hgd4_43 : (all4[43]?).bind (fun o => o.dst) = some 65 := by rw [← hall4]; kernel_rfl
  replace U := U.cons (And.intro (hgd4_7) (And.intro (hgd4_16) (And.intro (hgd4_25) (And.intro (hgd4_34) (hgd4_43)))))
  refine GoI.runN 2 nfw17 ?_
  refine GoI.call nfw17 nfw17 (by first | exact u1 | exact u3) ?_
  refine GoI.runN 2 nfw17 ?_
  refine GoI.call nfw17 nfw17 (by exact u2) ?_
  refine GoI.call nfw17 nfw17 (by first | exact y1 | exact y2 | exact y3) ?_
  refine GoI.runN 1 nfw17 ?_
  refine GoI.grd 29 nfw17 (fun hg3 => ?_) (fun hg3 => ?_)
  ·
   try simp only [hg3]
   refine GoI.runN 2 nfw17 ?_
   refine GoI.call nfw17 nfw17 (by exact x1) ?_
   refine GoI.runN 2 nfw17 ?_
   refine GoI.call nfw17 nfw17 (by exact x2) ?_
   refine GoI.call nfw17 nfw17 (by first | exact y1 | exact y2 | exact y3) ?_
   refine GoI.runN 2 nfw17 ?_
   refine GoI.grd 38 nfw17 (fun hg4 => ?_) (fun hg4 => ?_)
   ·
    try simp only [hg4]
    refine GoI.runN 2 nfw17 ?_
    refine GoI.call nfw17 nfw17 (by exact i1) ?_
    refine GoI.runN 2 nfw17 ?_
    refine GoI.call nfw17 nfw17 (by exact i2) ?_
    refine GoI.call nfw17 nfw17 (by first | exact y1 | exact y2 | exact y3) ?_
    refine GoI.runN 2 nfw17 ?_
    refine GoI.grd 47 nfw17 (fun hg5 => ?_) (fun hg5 => ?_)
    ·
     try simp only [hg5]
     refine GoI.runN 2 nfw17 ?_
     refine GoI.call nfw17 nfw17 (by first | exact m1 | exact m3) ?_
     refine GoI.runN 2 nfw17 ?_
     refine GoI.call nfw17 nfw17 (by exact m2) ?_
     refine GoI.runN 2 nfw17 ?_
     refine GoI.runN 1 nfw17 ?_
     refine GoI.grd 56 nfw17 (fun hg6 => ?_) (fun hg6 => ?_)
     ·
      try simp only [hg6]
      refine GoI.runN 2 nfw17 ?_
      refine GoI.runN 2 nfw17 ?_
      refine GoI.run nfw17 ?_
      refine GoI.call nfw17 nfw17 (by first | exact u1 | exact u3) ?_
      refine GoI.call nfw17 nfw17 (by first | exact m1 | exact m3) ?_
      refine GoI.runN 2 nfw17 ?_
      refine GoI.grd 65 nfw17 (fun hg7 => ?_) (fun hg7 => ?_)
      ·
       try simp only [hg7]
       refine GoI.call nfw17 nfw17 (by exact okAwake) ?_
       refine GoI.z nfw17 ?_
       refine PI.r ?_
       exact FinI.mk _ nfw17 (by clear U; first | (simp [finR, nrmA, nrm, AV.content]; done) | rfl)
      try simp only [hg7]
      cases hg7
     try simp only [hg6]
     simp at hg6
    try simp only [hg5]
    cases hg5
   try simp only [hg4]
   cases hg4
  try simp only [hg3]
  cases hg3
end Go.FE
