/- The library's contracts as contracts on contents: strings.Compare, strconv.Itoa, (*strings.Builder).copyCheck. (*strings.Builder).WriteString and WriteByte. A row's key: a text that is another for another row. -/
import Derived.Lib.AppendIntMem
import Derived.Shelf.RegionOpenPlain
import Derived.Lib.UnsafeStr
import Derived.Lib.Walk
import Derived.WalkKit
import Derived.Test.YtmblejfjbnoodaaGreatDoorS09
import Derived.Test.YtmblejfjbnoodaaGreatDoorS10
set_option linter.unusedVariables false
set_option linter.unusedSimpArgs false
namespace Go.FE
open Go.Proofs Go.RowKit
theorem args1 {m : Nat → Nat} {w : World} {vs : Array Value} {x : Value} (hs : vs.size = 1) (hv : ∀ (i : Nat) (q : AV), [AV.v x][i]? = some q → CR m w q (vs.getD i undef)) : vs = #[x] := by
  have h0 := (CR.v_inv (hv 0 _ rfl)).1
  apply Array.ext (by simpa using hs)
  intro i h1 h2
  have : i = 0 := by omega
  subst this
  simp at h0
  rw [Array.getElem?_eq_getElem h1] at h0
  simpa using h0
theorem args22 {m : Nat → Nat} {w : World} {vs : Array Value} {x y : Value} (hs : vs.size = 2) (hv : ∀ (i : Nat) (q : AV), [AV.v x, AV.v y][i]? = some q → CR m w q (vs.getD i undef)) : vs = #[x, y] := by
  have h0 := (CR.v_inv (hv 0 _ rfl)).1
  have h1 := (CR.v_inv (hv 1 _ rfl)).1
  apply Array.ext (by simpa using hs)
  intro i h2 h3
  simp at h0 h1
  rw [Array.getElem?_eq_getElem (by omega)] at h0 h1
  match i, h2, h3 with
  | 0, _, _ => simpa using h0
  | 1, _, _ => simpa using h1
  | i + 2, h2, _ => omega
theorem okCmpS (a b : ByteArray) : CallsOK Tryz.prog 132 [aS a, aS b] (aI (Lib.compareBytes a.data.toList b.data.toList)) := by
  refine ⟨by kernel_rfl, fun m w vs hf ht hs hv => ?_⟩
  have := args22 hs hv
  subst this
  refine (Tryz.strings_Compare a b w).mono ?_
  rintro e w' ⟨rfl, rfl⟩
  exact ⟨_, m, rfl, Below.refl _ _, fun _ _ => rfl, hf, .v rfl⟩
def itoa (n : Int) : ByteArray := ⟨(Lib.itoa n).toArray⟩
theorem tabIs_of {W : World} (h : TabW W) : Lib.TabIs Tryz.prog W "internal/strconv.uint64pow10" .u64 Lib.pow10Tab := by
  obtain ⟨t, fr, h1⟩ := h (1, .u64, [1, 10, 100, 1000, 10000, 100000, 1000000, 10000000, 100000000, 1000000000, 10000000000, 100000000000, 1000000000000, 10000000000000, 100000000000000, 1000000000000000, 10000000000000000, 100000000000000000, 1000000000000000000, 10000000000000000000]) (by unfold tabs; exact List.mem_cons_self)
  unfold Lib.TabIs World.var?
  rw [show Tryz.prog.globalNamed "internal/strconv.uint64pow10" = some 1 by kernel_rfl]
  simp only [Option.bind_some, h1]
  rfl
theorem okItoa (n : Int) (hn : i64ok n) : CallsOK Tryz.prog 89 [aI n] (aS (itoa n)) := by
  refine ⟨by kernel_rfl, fun m w vs hf ht hs hv => ?_⟩
  have := args1 hs hv
  subst this
  refine (Tryz.strconv_Itoa n hn.1 hn.2 w (tabIs_of ht)).mono ?_
  rintro e w' ⟨rfl, k, os, rfl⟩
  have hb := Lib.below_grow w.heap.size w (Nat.le_refl _) k os
  exact ⟨_, m, rfl, hb, fun _ _ => rfl, fun g hg => hf g (Nat.le_trans hb.size hg), .v rfl⟩
theorem okItoaN (n : Nat) (hn : n ≤ maxLen) : CallsOK Tryz.prog 89 [aI n] (aS (itoa n)) := okItoa n ⟨by omega, by unfold maxLen at hn; omega⟩
/-- (*strings.Builder).copyCheck -/
theorem okCopy {id : Rid} {rs : Rid → Res} {p : Path} {c0 c1 : AV} (hrs : rs id = .var 111 [c0, c1]) (hc : c0 = .v (.pointer none) ∨ c0 = .vp id 0) :
    Calls2 Tryz.prog 127 [.vp id 0] [id] rs p (.tup []) [(id, .var 111 [.vp id 0, c1])] := by
  refine ⟨by kernel_rfl, fun t ht => by simp at ht; subst ht; rw [hrs]; simp, fun q hq => by simp at hq; subst hq; exact .inl (List.mem_singleton.2 rfl), fun {B E0 tm a E} S hT hfr vs hs hv => ?_⟩
  have hrE : E.rs id = .var 111 [c0, c1] := (hT id (List.mem_singleton.2 rfl)).trans hrs
  have hr := S.res id
  unfold RF at hr
  rw [hrE] at hr
  obtain ⟨arr, h1, h2, h3, h4, h5⟩ := hr
  obtain ⟨hU, hp⟩ := hv 0 _ rfl
  have hvs : vs = #[.pointer (some ⟨E.gs id, 0, none⟩)] := by
    apply Array.ext (by simpa using hs)
    intro i h6 h7
    have : i = 0 := by simp at h7; omega
    subst this
    rw [Array.getD_eq_getD_getElem?, Array.getElem?_eq_getElem h6] at hp
    simpa using hp
  subst hvs
  have harr : arr.size = 2 := h3
  have hcell : E.w.cell? ⟨E.gs id, 0, none⟩ = some (arr.getD 0 undef) := by
    simp [World.cell?, h2, harr]
  have h50 := (h5 0 c0 rfl).1
  rcases hc with rfl | rfl
  · obtain ⟨h50, _⟩ := CR.v_inv h50
    rw [h50] at hcell
    refine (Any.Builder_copyCheck_fresh Tryz.lays240 Tryz.Builder_X72_240 (E.gs id) E.w hcell (by simp [World.shape?, h2, harr]; rfl) (by simp [World.frozen?, h2])).mono ?_
    rintro e w' ⟨rfl, rfl⟩
    obtain ⟨w', hrun, S'⟩ := S.setvar id _ [.vp id 0] 0 hrE [.pointer (some ⟨E.gs id, 0, none⟩)] rfl (by simp) (fun i q hi => by
      match i, hi with
      | 0, hi => simp at hi; subst hi; exact ⟨⟨hU, rfl⟩, rfl⟩)
    have hw : w' = E.w.setCell ⟨E.gs id, 0, none⟩ (.pointer (some ⟨E.gs id, 0, none⟩)) := by
      have := hrun Tryz.prog
      simp only [storeCells, Sem.run_bind, add_zero] at this
      rw [run_store Tryz.prog E.w _ _ _ rfl, hcell] at this
      simp [World.frozen?, h2] at this
      exact this.symm
    exact ⟨_, _, rfl, S', hw, ⟨#[], rfl, rfl, fun i q hi => by simp at hi⟩, rfl, fun r hr => .inl hr⟩
  · obtain ⟨_, h50⟩ := h50
    rw [h50] at hcell
    refine (Any.Builder_copyCheck_used Tryz.lays240 Tryz.Builder_X72_240 (E.gs id) E.w hcell).mono ?_
    rintro e w' ⟨rfl, rfl⟩
    refine ⟨_, { E with rs := fup E.rs id (.var 111 [.vp id 0, c1]) }, rfl, ?_, rfl, ⟨#[], rfl, rfl, fun i q hi => by simp at hi⟩, rfl, fun r hr => .inl hr⟩
    have : fup E.rs id (.var 111 [.vp id 0, c1]) = E.rs := by
      funext r
      unfold fup
      split
      · rename_i h; rw [h, hrE]
      · rfl
    rw [this]
    exact S
def bytesL (l : List UInt8) : List (List AV) := l.map fun b => [AV.v (.int .u8 b.toNat)]
theorem bytesA_L (s : ByteArray) : bytesA s = bytesL s.data.toList := rfl
theorem bytesL_app (l l' : List UInt8) : bytesL l ++ bytesL l' = bytesL (l ++ l') := by simp [bytesL]
theorem bytesL_len (l : List UInt8) : (bytesL l).length = l.length := by simp [bytesL]
set_option maxHeartbeats 1000000 in
set_option maxRecDepth 100000 in
/-- String, of a builder that holds some byte: the world behind it. -/
theorem string_world (b g cap : Nat) (p : Value) (l : List UInt8) (cur : Array Value) (w : World) (h0 : l ≠ []) (hbk : w.heap[b]? = some (.cells #[p, .slice (some ⟨g, 0, none⟩) l.length cap] 111 (0, 0))) (hg : w.heap[g]? = some (.cells cur 5 (0, 0)))
    (hn : l.length ≤ cap) (hm : cap ≤ maxLen) (hcs : cur.size = cap) (ht : cur.toList.take l.length = Lib.byteCells l) :
    Calls Tryz.prog 91 #[.pointer (some ⟨b, 0, none⟩)] w fun e w' => e = .returned (.string ⟨l.toArray⟩) ∧ w' = w.drew.freeze ⟨g, 0, none⟩ l.length := by
  have hl0 : l.length ≠ 0 := by simpa using h0
  have mixed := Tryz.lays169.mixed
  have c1 : w.drew.cell? ⟨b, 1, none⟩ = some (.slice (some ⟨g, 0, none⟩) l.length cap) := by
    have : w.drew.heap[b]? = some (.cells #[p, .slice (some ⟨g, 0, none⟩) l.length cap] 111 (0, 0)) := hbk
    rw [Lib.cell_of_heap this]; rfl
  have hSD : (Builtin.unsafeSliceData_ #[109] 137 #[.slice (some ⟨g, 0, none⟩) l.length cap]).run Tryz.prog w.drew = .ok (.pointer (some ⟨g, 0, none⟩)) w.drew := Lib.run_unsafeSliceData_row _ _ _ _ _ _ (by omega)
  have hUS : (Builtin.unsafeString_ #[137, 3] 9 #[.pointer (some ⟨g, 0, none⟩), .int .i64 l.length]).run Tryz.prog w.drew = .ok (.string ⟨l.toArray⟩) (w.drew.freeze ⟨g, 0, none⟩ l.length) := by
    refine Lib.run_unsafeString_row w.drew 137 3 9 5 Tryz.underlying137 Tryz.Builder_Extra_169.cellsByte g cur.size (by have hg' : w.drew.heap[g]? = some (.cells cur 5 (0, 0)) := hg; simp [World.shape?, hg']) l h0 (by omega) (by unfold maxLen at hm; omega) ?_
    intro j x hx
    have hj : j < l.length := (List.getElem?_eq_some_iff.1 hx).1
    have h1 : cur.toList[j]? = some (.int .u8 x.toNat) := by
      rw [← List.getElem?_take_of_lt hj, ht]
      simp [Lib.byteCells, hx]
    have hg' : w.drew.heap[g]? = some (.cells cur 5 (0, 0)) := hg
    rw [add_lit0, Lib.cell_of_heap hg']
    simpa using h1
  have u111 := run_underlying (w := w) Tryz.underlying111
  go_enter Tryz.func91, Tryz.ntmps91
  go_wp2
  go_region_o
  all_goals (go_wp2; go_ret; exact ⟨rfl, rfl⟩)
theorem freeze_size (w : World) (a : Addr) (n : Nat) : (w.freeze a n).heap.size = w.heap.size := by
  unfold World.freeze; split <;> simp
theorem freeze_other (w : World) (a : Addr) (n k : Nat) (h : k ≠ a.block) : (w.freeze a n).heap[k]? = w.heap[k]? := by
  unfold World.freeze
  split
  · rfl
  · simp only [Array.getElem?_modify]
    rw [if_neg (Ne.symm h)]
theorem freeze_cell (w : World) (a b : Addr) (n : Nat) {x : Value} (h : w.cell? b = some x) : (w.freeze a n).cell? b = some x := by
  by_cases hb : b.block = a.block
  · unfold World.freeze
    split
    · exact h
    · unfold World.cell? at h ⊢
      simp only [Array.getElem?_modify, hb, if_true]
      rw [hb] at h
      cases ho : w.heap[a.block]? with
      | none => rw [ho] at h; cases h
      | some o =>
        rw [ho] at h
        simp only [Option.map_some]
        cases o <;> first | exact h | (cases h; done)
  · exact (World.cell?_of_block (freeze_other w a n _ hb)).trans h
/-- (*strings.Builder).String -/
theorem okStr {id t : Rid} {rs : Rid → Res} {p : Path} {c0 : AV} {n : Nat} {l : List UInt8} (hne : t ≠ id) (hrs : rs id = .var 111 [c0, .sl (bytesL l) (some (t, n))]) (hrt : rs t = .tok n 5 1) (hc : c0 = .v (.pointer none) ∨ c0 = .vp id 0) :
    Calls2 Tryz.prog 91 [.vp id 0] [id, t] rs p (aS ⟨l.toArray⟩) [(t, .dead)] := by
  refine ⟨by kernel_rfl, fun r hr => ?_, fun q hq => by simp at hq; subst hq; exact .inl (by simp), fun {B E0 tm a E} S hT hfr vs hs hv => ?_⟩
  · simp at hr
    rcases hr with rfl | rfl
    · rw [hrs]; simp
    · rw [hrt]; simp
  have hrE : E.rs id = .var 111 [c0, .sl (bytesL l) (some (t, n))] := (hT id (by simp)).trans hrs
  have htE : E.rs t = .tok n 5 1 := (hT t (by simp)).trans hrt
  have hr := S.res id
  unfold RF at hr
  rw [hrE] at hr
  obtain ⟨arr, h1, h2, h3, h4, h5⟩ := hr
  obtain ⟨hU, hp⟩ := hv 0 _ rfl
  have hvs : vs = #[.pointer (some ⟨E.gs id, 0, none⟩)] := by
    apply Array.ext (by simpa using hs)
    intro i h6 h7
    have : i = 0 := by simp at h7; omega
    subst this
    rw [Array.getD_eq_getD_getElem?, Array.getElem?_eq_getElem h6] at hp
    simpa using hp
  subst hvs
  have harr : arr.size = 2 := h3
  have hq := S.res t
  unfold RF at hq
  rw [htE] at hq
  obtain ⟨N, xs, hown, hm⟩ := hq
  obtain ⟨hcx, _, hver⟩ := (h5 1 _ rfl).1
  obtain ⟨_, hx1, hxs⟩ := (hver n 5 1 false (by rw [htE]; rfl)).2 rfl
  obtain ⟨A, c, us, ex, hc1, hc2, hul, hua, hu1, hur⟩ := CR.cells hcx 1 hxs
  have harr2 : arr = #[arr.getD 0 undef, E.tv t] := by
    apply Array.ext (by simp [harr])
    intro i h6 h7
    match i, h6, h7 with
    | 0, h6, _ => simp [h6]
    | 1, h6, _ =>
      rw [← hx1]
      simp [h6]
    | i + 2, h6, _ => omega
  rw [harr2] at h2
  have hN : N = l.length := by
    rw [← hx1] at hown
    rcases hown.2 with ⟨e1, rfl⟩ | ⟨g, cap, cur, e1, _⟩
    · rw [ex] at e1; injection e1 with _ e1 _; rw [bytesL_len] at e1; exact e1.symm
    · rw [ex] at e1; injection e1 with _ e1 _; rw [bytesL_len] at e1; exact e1.symm
  subst hN
  have hidU : E.U t := S.used _ (by rw [htE]; simp)
  by_cases hl : l = []
  · subst hl
    have hfin : ∀ (e : Ending) (w' : World), (e = .returned (.string ⟨#[]⟩) ∧ Below E.w.heap.size E.w w') → ∃ v E', e = .returned v ∧ Sim B E0 tm E' a ∧ E'.w = w' ∧ VR E' (aS ⟨([] : List UInt8).toArray⟩) v ∧ E'.rs = wrs E.rs [(t, .dead)] ∧ ∀ r, E'.U r → E.U r ∨ Under p r := by
      rintro e w' ⟨rfl, hb⟩
      have S1 := S.world (m' := E.m) hb (fun _ _ => rfl) (fun g hg => S.fresh g (Nat.le_trans hb.size hg))
      refine ⟨_, _, rfl, S1.hide (rs1 := fup E.rs t .dead) (fun r => ?_), rfl, VR.v rfl, rfl, fun r hr => .inl hr⟩
      by_cases hrt' : r = t
      · subst hrt'; exact .inr (fup_self _ _ _)
      · exact .inl (fup_ne _ _ hrt')
    rcases hown.2 with ⟨e1, _⟩ | ⟨g, cap, cur, e1, hBg, hg, _, _, _, _⟩
    · rw [e1] at h2
      exact (Any.Builder_String_nil Tryz.lays169 Tryz.Builder_Extra_169 E.w.heap.size _ _ E.w h2).mono hfin
    · rw [e1] at h2
      by_cases hc0 : cap = 0
      · subst hc0
        exact (Any.Builder_String_noroom Tryz.lays169 Tryz.Builder_Extra_169 E.w.heap.size _ g _ cur E.w (Nat.le_refl _) h2 hg).mono hfin
      · exact (Any.Builder_String_room Tryz.lays169 Tryz.Builder_Extra_169 E.w.heap.size _ g cap _ E.w hc0 h2).mono hfin
  · rcases hown.2 with ⟨e1, e2⟩ | ⟨g, cap, cur, e1, hBg, hg, hn, hcm, hcs, ht⟩
    · exact absurd (List.eq_nil_of_length_eq_zero e2) hl
    rw [e1] at h2
    have hcl : cur.toList.take l.length = Lib.byteCells l := by
      apply List.ext_getElem?
      intro j
      by_cases hj : j < l.length
      · have hcur : j < cur.size := by rw [hcs]; omega
        have hz := hur j [AV.v (.int .u8 l[j].toNat)] 0 _ (by simp [bytesL, hj]) rfl
        obtain ⟨u, hu2, _, hu3⟩ := hz
        obtain ⟨hu3, _⟩ := CR.v_inv hu3
        subst hu3
        have hne' : bytesL l ≠ [] := by simp [bytesL, hl]
        obtain ⟨ad, rfl, hcell⟩ := hua hne'
        rw [hx1, e1] at ex
        injection ex with ex _ _
        injection ex with ex
        subst ex
        have h6 := hcell _ _ hu2
        rw [add_lit0, Lib.cell_of_heap hg] at h6
        rw [List.getElem?_take_of_lt hj]
        simp only [Nat.mul_one, Nat.add_zero] at h6
        rw [Array.getElem?_toList, h6]
        simp [Lib.byteCells, hj]
      · rw [List.getElem?_eq_none (by simp; omega), List.getElem?_eq_none (by simp [Lib.byteCells]; omega)]
    refine (string_world (E.gs id) g cap _ l cur E.w hl h2 hg hn hcm (by rw [hcs, Nat.mul_one]) hcl).mono ?_
    rintro e w' ⟨rfl, rfl⟩
    have hgb : blk E t = some g := by unfold blk; rw [htE, e1]; rfl
    have hL : Le E { E with rs := fup E.rs t .dead, w := E.w.drew.freeze ⟨g, 0, none⟩ l.length } := by
      refine ⟨fun b x h => ⟨freeze_cell _ _ _ _ h.1, h.2⟩, fun _ h => h, fun _ _ => rfl, fun r hr s' e sz b h => .inl ⟨?_, rfl⟩⟩
      by_cases hrt' : r = t
      · subst hrt'; simp [fup_self, ver] at h
      · simpa [fup, hrt'] using h
    have hfo : ∀ k, k ≠ g → (E.w.drew.freeze ⟨g, 0, none⟩ l.length).heap[k]? = E.w.heap[k]? := fun k hk => freeze_other _ _ _ _ hk
    refine ⟨_, { E with rs := fup E.rs t .dead, w := E.w.drew.freeze ⟨g, 0, none⟩ l.length }, rfl, ?_, rfl, VR.v rfl, rfl, fun r hr => .inl hr⟩
    refine S.upd (fun _ _ => rfl) hL (S.below.trans ⟨by unfold World.freeze; split <;> rfl, by unfold World.freeze; split <;> rfl, by unfold World.freeze; split <;> rfl, by rw [freeze_size]; exact Nat.le_refl _, fun k hk => hfo k (by omega)⟩) (by rw [freeze_size]; exact S.hB) (fun k hk => S.fresh k (by rw [freeze_size] at hk; exact hk)) (fun r => r = t) ?_ (fun r hr => ⟨fup_ne _ _ hr, fun hd => ⟨rfl, fun k hk => ⟨hfo k (fun ek => ?_), rfl⟩⟩⟩) (fun r hr _ => by subst hr; exact hidU) ?_
    · rintro r rfl
      unfold RF
      simp only [fup_self]
    · subst ek
      exact S.apart r t k hr hk hgb
    · rintro i j k hij rfl hi hj
      simp [blk, fup_self] at hi
end Go.FE
namespace Go.FE
open Go.Proofs
theorem nf1 {α : Type} {a b : α} (h : a = b := by simp only [goP, goN, mrk, Nat.reduceMul, Nat.one_mul, Nat.mul_one, eq_self, false_implies, implies_true, Nat.reduceLT, List.getElem?_toArray, isCall, List.contains_nil, List.contains_cons, Nat.reduceBEq, Bool.or_false, Bool.or_self, List.length_map, gOf, step, stepM, stepP, ev, okV, if_true, if_false, allocA, storeA, boxA, one1, tokN, tok1, buildA, rowA, nrmP, partV, partA, fieldA, fieldV, elemA, lenA, bltA, asSl, appA, makeA, makeR, cutA, bndA, binV, intOp, strOp, unV, eqB, nilB, sameT, List.all_cons, List.all_nil, Bool.and_self, Bool.and_true, Bool.true_and, List.map_cons, List.map_nil, List.nil_append, List.cons_append, List.append_nil, AV.bare, AV.content, AV.clean, AV.one, putD, List.set_cons_zero, List.set_cons_succ, List.reverse_cons, List.reverse_nil, List.getD_cons_zero, List.getD_cons_succ, List.getElem?_cons_zero, List.getElem?_cons_succ, Option.getD_some, Option.map_some, Option.map_none, Option.bind_some, List.length_cons, List.length_nil, lk, cellsA, fillA, fillS, isAggD, spl, nrm, nrmA, List.take_succ_cons, List.take_zero, List.drop_succ_cons, List.drop_zero, List.drop_nil, List.take_nil, Nat.reduceAdd, Nat.zero_add, Nat.add_zero, Nat.add_assoc, Nat.add_left_cancel_iff, reduceCtorEq, Prod.mk.injEq, List.cons.injEq, and_self, and_true, true_and, Nat.le_refl, Nat.reduceLeDiff, Nat.reduceEqDiff, List.getElem?_nil, Int.reduceToNat, Int.reduceLE, Int.reduceLT, ite_self, List.forall_mem_cons, List.not_mem_nil, false_and, and_false, Bool.false_eq_true, List.replicate_zero, List.replicate_succ, Int.toNat_natCast, neJ2, neJ2', neJ3, neJ3', callOf, callOf2, fnOf, argsA, args2, Array.isEmpty_empty, resLL, resVL, beq_self_eq_true, appR, appS, st3, zt3, it3, ct3, se3, Tryz.underlying3, st5, zt5, it5, ct5, se5, Tryz.underlying5, st9, zt9, it9, ct9, se9, Tryz.underlying9, st108, zt108, it108, ct108, se108, Tryz.underlying108, st109, zt109, it109, ct109, se109, Tryz.underlying109, st111, zt111, it111, ct111, pt111, se111, Tryz.underlying111, st113, zt113, it113, ct113, se113, Tryz.underlying113, Tryz.results88, zv5, Tryz.results90, U.out] <;> rfl) : a = b := h
theorem zv5 : zeroV Tryz.prog 5 = some (.int .u8 0) := by kernel_rfl
theorem rg88v1 {T : List Rid} {p : Path} {Q : Exit → SL → Prop} {tm : List AV} {L : RL} {n : Nat} {c : Code} {l : List Oper} (n' : Nat) (Qs : List Nat) (h : ∀ all, (ro c).toList = all → GoI Tryz.prog T p all false Qs n 0 l tm L fun tm' L' => Q .normal ⟨tm', L', n'⟩) (hk : kd c = 0 := by kernel_rfl) (hr : rd c = false := by kernel_rfl) (hl : (ro c).toList = l := by dsimp only [ro, s1, s2, c1, c2, bc, bod, Tryz.f88, Option.getD_some] <;> exact rfl) (hn : n + (ro c).size = n' := by kernel_rfl) : PI Tryz.prog T p c Q ⟨tm, L, n⟩ := PI.rg n' Qs hk hr hl (fun h => by cases h) hn (h _ rfl)
set_option maxRecDepth 100000 in
theorem okWS {id t : Rid} {rs : Rid → Res} {p : Path} {c0 : AV} {bs : List (List AV)} {n : Nat} (s : ByteArray) (hne : t ≠ id) (hid : ¬ Under p id) (ht : ¬ Under p t) (hrs : rs id = .var 111 [c0, .sl bs (some (t, n))]) (hrt : rs t = .tok n 5 1)
    (hc : c0 = .v (.pointer none) ∨ c0 = .vp id 0) (hb : bs.length + s.size ≤ 140737488355328) :
    Calls2 Tryz.prog 88 [.vp id 0, aS s] [id, t] rs p (.tup [aI s.size, .unk]) [(t, .tok (n + 1) 5 1), (id, .var 111 [.vp id 0, .sl (bs ++ bytesA s) (some (t, n + 1))])] := by
  have U : Hid True := ⟨trivial⟩
  replace U := U.cons (And.intro (nu1 hid) (And.intro (nu2 hid) (And.intro (nu1 ht) (And.intro (nu2 ht) (And.intro (ne1 hne) (And.intro (ne2 hne) (hb)))))))
  refine Calls2.of_pi ([(id, .var 111 [c0, .sl bs (some (t, n))]), (t, .tok n 5 1)]) mixed Tryz.func88 (by kernel_rfl) (by kernel_rfl) (by simp [lk, hrs, hrt, hne, hid, ht]) (by simp [lk, hrs, hrt, hne, hid, ht]) (by simp [lk, hrs, hrt, hne, hid, ht]) (by simp [lk, hrs, hrt, hne, hid, ht]) (by simp [lk, hrs, hrt, hne, hid, ht]) (?_ : PI _ _ _ _ _ ⟨[.vp id 0, aS s, .und, .und, .und, .und, .und, .und, .und, .und, .und, .und, .und, .und, .und, .und, .und, .und, .und], [(id, .var 111 [c0, .sl bs (some (t, n))]), (t, .tok n 5 1)], 0⟩)
  refine PI.q ?_
  refine rg88v1 (2) [] fun all1 _ => ?_
  refine GoI.z nf1 ?_
  refine PI.q ?_
  refine rg88v1 (4) [1] fun all2 _ => ?_
  refine GoI.run nf1 ?_
  refine GoI.call2e nf1 nf1 (by exact okCopy lk_hd hc) (by first | exact .inr rfl | exact .inl rfl) (by exact fun h => by cases h) ?_
  try simp only [List.reverse_cons, List.reverse_nil, List.nil_append, List.cons_append, List.append_assoc]
  refine GoI.z nf1 ?_
  refine PI.q ?_
  refine rg88v1 (14) [] fun all3 _ => ?_
  refine GoI.runN 2 nf1 ?_
  refine GoI.runN 2 nf1 ?_
  refine GoI.runN 2 nf1 ?_
  refine GoI.runN 2 nf1 ?_
  refine GoI.z nf1 ?_
  refine PI.q ?_
  refine rg88v1 (18) [] fun all4 _ => ?_
  refine GoI.runN 2 nf1 ?_
  refine GoI.z nf1 ?_
  refine PI.r ?_
  exact FinI.mk _ nf1 ⟨by clear U; rfl, fin_keys (by simp [lk, under_self, nu1 hid, nu2 hid, nu1 ht, nu2 ht, ne1 hne, ne2 hne, hb, zv5]) (by simp [lk, under_self, nu1 hid, nu2 hid, nu1 ht, nu2 ht, ne1 hne, ne2 hne, hb, zv5])⟩
theorem rg90v1 {T : List Rid} {p : Path} {Q : Exit → SL → Prop} {tm : List AV} {L : RL} {n : Nat} {c : Code} {l : List Oper} (n' : Nat) (Qs : List Nat) (h : ∀ all, (ro c).toList = all → GoI Tryz.prog T p all false Qs n 0 l tm L fun tm' L' => Q .normal ⟨tm', L', n'⟩) (hk : kd c = 0 := by kernel_rfl) (hr : rd c = false := by kernel_rfl) (hl : (ro c).toList = l := by dsimp only [ro, s1, s2, c1, c2, bc, bod, Tryz.f90, Option.getD_some] <;> exact rfl) (hn : n + (ro c).size = n' := by kernel_rfl) : PI Tryz.prog T p c Q ⟨tm, L, n⟩ := PI.rg n' Qs hk hr hl (fun h => by cases h) hn (h _ rfl)
set_option maxRecDepth 100000 in
theorem okWB {id t : Rid} {rs : Rid → Res} {p : Path} {c0 : AV} {bs : List (List AV)} {n : Nat} (b : Int) (hne : t ≠ id) (hid : ¬ Under p id) (ht : ¬ Under p t) (hrs : rs id = .var 111 [c0, .sl bs (some (t, n))]) (hrt : rs t = .tok n 5 1)
    (hc : c0 = .v (.pointer none) ∨ c0 = .vp id 0) (hb : bs.length + 1 ≤ 140737488355328) :
    Calls2 Tryz.prog 90 [.vp id 0, .v (.int .u8 b)] [id, t] rs p .unk [(t, .tok (n + 1) 5 1), (id, .var 111 [.vp id 0, .sl (bs ++ [[.v (.int .u8 b)]]) (some (t, n + 1))])] := by
  have U : Hid True := ⟨trivial⟩
  replace U := U.cons (And.intro (nu1 hid) (And.intro (nu2 hid) (And.intro (nu1 ht) (And.intro (nu2 ht) (And.intro (ne1 hne) (And.intro (ne2 hne) (hb)))))))
  refine Calls2.of_pi ([(id, .var 111 [c0, .sl bs (some (t, n))]), (t, .tok n 5 1)]) mixed Tryz.func90 (by kernel_rfl) (by kernel_rfl) (by simp [lk, hrs, hrt, hne, hid, ht]) (by simp [lk, hrs, hrt, hne, hid, ht]) (by simp [lk, hrs, hrt, hne, hid, ht]) (by simp [lk, hrs, hrt, hne, hid, ht]) (by simp [lk, hrs, hrt, hne, hid, ht]) (?_ : PI _ _ _ _ _ ⟨[.vp id 0, .v (.int .u8 b), .und, .und, .und, .und, .und, .und, .und, .und, .und, .und, .und, .und, .und, .und, .und], [(id, .var 111 [c0, .sl bs (some (t, n))]), (t, .tok n 5 1)], 0⟩)
  refine PI.q ?_
  refine rg90v1 (1) [] fun all1 _ => ?_
  refine GoI.z nf1 ?_
  refine PI.q ?_
  refine rg90v1 (3) [1] fun all2 _ => ?_
  refine GoI.run nf1 ?_
  refine GoI.call2e nf1 nf1 (by exact okCopy lk_hd hc) (by first | exact .inr rfl | exact .inl rfl) (by exact fun h => by cases h) ?_
  try simp only [List.reverse_cons, List.reverse_nil, List.nil_append, List.cons_append, List.append_assoc]
  refine GoI.z nf1 ?_
  refine PI.q ?_
  refine rg90v1 (14) [] fun all3 _ => ?_
  refine GoI.runN 2 nf1 ?_
  refine GoI.runN 2 nf1 ?_
  refine GoI.runN 2 nf1 ?_
  refine GoI.runN 2 nf1 ?_
  refine GoI.runN 2 nf1 ?_
  refine GoI.z nf1 ?_
  refine PI.q ?_
  refine rg90v1 (15) [] fun all4 _ => ?_
  refine GoI.z nf1 ?_
  refine PI.r ?_
  exact FinI.mk _ nf1 ⟨by clear U; rfl, fin_keys (by simp [lk, under_self, nu1 hid, nu2 hid, nu1 ht, nu2 ht, ne1 hne, ne2 hne, hb, zv5, Nat.mul_one, Nat.reduceMul, Nat.reduceLeDiff]) (by simp [lk, under_self, nu1 hid, nu2 hid, nu1 ht, nu2 ht, ne1 hne, ne2 hne, hb, zv5, Nat.mul_one, Nat.reduceMul, Nat.reduceLeDiff])⟩
theorem okWS' {id t : Rid} {rs : Rid → Res} {p : Path} {c0 : AV} {l : List UInt8} {n : Nat} (s : ByteArray) (hne : t ≠ id) (hid : ¬ Under p id) (ht : ¬ Under p t) (hrs : rs id = .var 111 [c0, .sl (bytesL l) (some (t, n))]) (hrt : rs t = .tok n 5 1)
    (hc : c0 = .v (.pointer none) ∨ c0 = .vp id 0) (hb : l.length + s.data.toList.length ≤ 140737488355328) :
    Calls2 Tryz.prog 88 [.vp id 0, aS s] [id, t] rs p (.tup [aI s.size, .unk]) [(t, .tok (n + 1) 5 1), (id, .var 111 [.vp id 0, .sl (bytesL (l ++ s.data.toList)) (some (t, n + 1))])] := by
  have := okWS s hne hid ht hrs hrt hc (by rw [bytesL_len]; exact hb)
  rw [bytesA_L, bytesL_app] at this
  exact this
theorem okWB' {id t : Rid} {rs : Rid → Res} {p : Path} {c0 : AV} {l : List UInt8} {n : Nat} (hne : t ≠ id) (hid : ¬ Under p id) (ht : ¬ Under p t) (hrs : rs id = .var 111 [c0, .sl (bytesL l) (some (t, n))]) (hrt : rs t = .tok n 5 1)
    (hc : c0 = .v (.pointer none) ∨ c0 = .vp id 0) (hb : l.length + 1 ≤ 140737488355328) :
    Calls2 Tryz.prog 90 [.vp id 0, .v (.int .u8 58)] [id, t] rs p .unk [(t, .tok (n + 1) 5 1), (id, .var 111 [.vp id 0, .sl (bytesL (l ++ [58])) (some (t, n + 1))])] := by
  have := okWB 58 hne hid ht hrs hrt hc (by rw [bytesL_len]; exact hb)
  rw [show [[AV.v (.int .u8 58)]] = bytesL [58] from rfl, bytesL_app] at this
  exact this
end Go.FE
namespace Go.FE
open Go.Proofs
theorem nf2 {α : Type} {a b : α} (h : a = b := by simp only [goP, goN, mrk, Nat.reduceMul, Nat.one_mul, Nat.mul_one, eq_self, false_implies, implies_true, Nat.reduceLT, List.getElem?_toArray, isCall, List.contains_nil, List.contains_cons, Nat.reduceBEq, Bool.or_false, Bool.or_self, List.length_map, gOf, step, stepM, stepP, ev, okV, if_true, if_false, allocA, storeA, boxA, one1, tokN, tok1, buildA, rowA, nrmP, partV, partA, fieldA, fieldV, elemA, lenA, bltA, asSl, appA, makeA, makeR, cutA, bndA, binV, intOp, strOp, unV, eqB, nilB, sameT, List.all_cons, List.all_nil, Bool.and_self, Bool.and_true, Bool.true_and, List.map_cons, List.map_nil, List.nil_append, List.cons_append, List.append_nil, AV.bare, AV.content, AV.clean, AV.one, putD, List.set_cons_zero, List.set_cons_succ, List.reverse_cons, List.reverse_nil, List.getD_cons_zero, List.getD_cons_succ, List.getElem?_cons_zero, List.getElem?_cons_succ, Option.getD_some, Option.map_some, Option.map_none, Option.bind_some, List.length_cons, List.length_nil, lk, cellsA, fillA, fillS, isAggD, spl, nrm, nrmA, List.take_succ_cons, List.take_zero, List.drop_succ_cons, List.drop_zero, List.drop_nil, List.take_nil, Nat.reduceAdd, Nat.zero_add, Nat.add_zero, Nat.add_assoc, Nat.add_left_cancel_iff, reduceCtorEq, Prod.mk.injEq, List.cons.injEq, and_self, and_true, true_and, Nat.le_refl, Nat.reduceLeDiff, Nat.reduceEqDiff, List.getElem?_nil, Int.reduceToNat, Int.reduceLE, Int.reduceLT, ite_self, List.forall_mem_cons, List.not_mem_nil, false_and, and_false, Bool.false_eq_true, List.replicate_zero, List.replicate_succ, Int.toNat_natCast, neJ2, neJ2', neJ3, neJ3', callOf, callOf2, fnOf, argsA, args2, Array.isEmpty_empty, resLL, resVL, beq_self_eq_true, appR, appS, st3, zt3, it3, ct3, se3, Tryz.underlying3, st5, zt5, it5, ct5, se5, Tryz.underlying5, st9, zt9, it9, ct9, se9, Tryz.underlying9, st25, zt25, it25, ct25, pt25, eqs25, se25, Tryz.underlying25, st49, zt49, it49, ct49, se49, Tryz.underlying49, st108, zt108, it108, ct108, se108, Tryz.underlying108, st109, zt109, it109, ct109, se109, Tryz.underlying109, st111, zt111, it111, ct111, pt111, se111, Tryz.underlying111, st113, zt113, it113, ct113, se113, Tryz.underlying113, st114, Tryz.underlying114, Tryz.results54, U.out] <;> rfl) : a = b := h
def keyV (v : Vl) : List UInt8 := (itoa v.k).data.toList ++ [58] ++ (itoa v.i).data.toList ++ [58] ++ (itoa v.s.size).data.toList ++ [58] ++ v.s.data.toList
def keyR (r : Row) : List UInt8 := r.flatMap keyV
def keyB (r : Row) : ByteArray := ⟨(keyR r).toArray⟩
theorem row_at {l : Row} {i : Nat} (h : i < l.length) : (l.map encV)[i]? = some (encV l[i]) := by simp [h]
theorem keyR_at {l : Row} {i : Nat} (h : i < l.length) : keyR (l.take (i + 1)) = keyR (l.take i) ++ keyV l[i] ∧ (keyR (l.take i)).length + (keyV l[i]).length ≤ (keyR l).length := by
  have h1 : keyR (l.take (i + 1)) = keyR (l.take i) ++ keyV l[i] := by
    rw [List.take_succ_eq_append_getElem h, keyR, List.flatMap_append]; simp [keyR]
  refine ⟨h1, ?_⟩
  have h2 : keyR l = keyR (l.take (i + 1)) ++ keyR (l.drop (i + 1)) := by
    simp only [keyR]
    rw [← List.flatMap_append, List.take_append_drop]
  rw [h2, h1]
  simp
structure KX where
  i : Nat
  c0 : AV
  n : Nat
theorem rg54v2 {T : List Rid} {p : Path} {Q : Exit → SL → Prop} {tm : List AV} {L : RL} {n : Nat} {c : Code} {l : List Oper} (n' : Nat) (Qs : List Nat) (h : ∀ all, (ro c).toList = all → GoI Tryz.prog T p all false Qs n 0 l tm L fun tm' L' => Q .normal ⟨tm', L', n'⟩) (hk : kd c = 0 := by kernel_rfl) (hr : rd c = false := by kernel_rfl) (hl : (ro c).toList = l := by dsimp only [ro, s1, s2, c1, c2, bc, bod, Tryz.f54, Option.getD_some] <;> exact rfl) (hn : n + (ro c).size = n' := by kernel_rfl) : PI Tryz.prog T p c Q ⟨tm, L, n⟩ := PI.rg n' Qs hk hr hl (fun h => by cases h) hn (h _ rfl)
set_option maxRecDepth 100000 in
theorem okKey (r : Row) (hr : OkRow r) (hk : (keyR r).length ≤ 140737488355328) : CallsOK Tryz.prog 54 [aRow r] (aS (keyB r)) := by
  have hl : r.length ≤ maxLen := hr.1
  have U : Hid True := ⟨trivial⟩
  refine CallsOK.of_pi mixed Tryz.func54 (by kernel_rfl) (by kernel_rfl) (?_ : PI _ _ _ _ _ ⟨[aRow r, .und, .und, .und, .und, .und, .und, .und, .und, .und, .und, .und, .und, .und, .und, .und, .und, .und, .und, .und, .und, .und, .und, .und, .und, .und, .und, .und, .und, .und, .und, .und, .und], [], 0⟩)
  refine PI.q ?_
  refine rg54v2 (1) [] fun all1 _ => ?_
  refine GoI.z nf2 ?_
  refine PI.q ?_
  refine rg54v2 (2) [] fun all2 _ => ?_
  refine GoI.z nf2 ?_
  refine PI.q ?_
  refine PI.q ?_
  refine rg54v2 (5) [] fun all3 _ => ?_
  refine GoI.runN 2 nf2 ?_
  refine GoI.z nf2 ?_
  refine PI.b 0 ?_
  refine PI.lo (by kernel_rfl) (X := KX) (fun x => (8, aI x.i) :: uk [5, 9, 10, 11, 12, 13, 14, 15, 16, 17, 18, 19, 20, 21, 22, 23, 24, 25, 26, 27, 28, 29, 30, 31]) (fun x => [(([1], 0), .var 111 [x.c0, .sl (bytesL (keyR (r.take x.i))) (some (([1], 2), x.n))]), (([1], 2), .tok x.n 5 1)]) (fun k x => k = r.length - x.i ∧ x.i ≤ r.length ∧ (x.c0 = .v (.pointer none) ∨ x.c0 = .vp ([1], 0) 0)) (r.length) (⟨0, .v (.pointer none), 0⟩) (GhI.of_wk ⟨by simp [ovr, uk, lessT], by simp [lessR, lk, keyR, bytesL], by (try dsimp only); omega, keep0⟩) (by simp) ?_
  intro k1 x1 j1 hr1
  obtain ⟨rfl, hi1, hc⟩ := hr1
  simp only [ovr, uk, List.set_cons_zero, List.set_cons_succ]
  refine PI.q ?_
  refine rg54v2 (j1 + 6) [] fun all4 _ => ?_
  refine GoI.z nf2 ?_
  refine PI.q ?_
  refine PI.d 9 nf2 (fun hb1 => ?_) (fun hb1 => ?_)
  ·
   try simp only [hb1]
   obtain ⟨hlt, hw⟩ := up hb1 hl
   have hx := row_at hlt
   obtain ⟨hk1, hk2⟩ := keyR_at hlt
   have hok := hr.2 r[x1.i] (List.getElem_mem hlt)
   have hks : (keyV r[x1.i]).length = (itoa r[x1.i].k).data.toList.length + 1 + (itoa r[x1.i].i).data.toList.length + 1 + (itoa r[x1.i].s.size).data.toList.length + 1 + r[x1.i].s.data.toList.length := by simp [keyV]; omega
   replace U := U.cons (And.intro (hw) (hx))
   refine PI.s ?_
   refine PI.q ?_
   refine PI.b 1 ?_
   refine PI.q ?_
   refine rg54v2 (j1 + 10) [] fun all5 _ => ?_
   refine GoI.runN 2 nf2 ?_
   refine GoI.z nf2 ?_
   refine PI.q ?_
   refine rg54v2 (j1 + 14) [3] fun all6 _ => ?_
   refine GoI.runN 2 nf2 ?_
   refine GoI.call nf2 nf2 (by first | exact okItoa _ hok.k | exact okItoa _ hok.i | exact okItoaN _ hok.s) ?_
   refine GoI.call2e nf2 nf2 (by exact okWS' (id := ([1], 0)) (t := ([1], 2)) _ (by simp) (nul (by omega)) (nul (by omega)) (by repeat (first | exact lk_hd | refine lk_tl (by simp <;> omega) ?_)) (by repeat (first | exact lk_hd | refine lk_tl (by simp <;> omega) ?_)) (by first | exact .inr rfl | exact hc) (by (try simp only [List.length_append, List.length_cons, List.length_nil]); omega)) (by first | exact .inr rfl | exact .inl rfl) (by exact fun h => by cases h) ?_
   try simp only [List.reverse_cons, List.reverse_nil, List.nil_append, List.cons_append, List.append_assoc]
   refine GoI.z nf2 ?_
   refine PI.q ?_
   refine rg54v2 (j1 + 15) [0] fun all7 _ => ?_
   refine GoI.call2e nf2 nf2 (by exact okWB' (id := ([1], 0)) (t := ([1], 2)) (by simp) (nul (by omega)) (nul (by omega)) (by repeat (first | exact lk_hd | refine lk_tl (by simp <;> omega) ?_)) (by repeat (first | exact lk_hd | refine lk_tl (by simp <;> omega) ?_)) (.inr rfl) (by (try simp only [List.length_append, List.length_cons, List.length_nil]); omega)) (by first | exact .inr rfl | exact .inl rfl) (by exact fun h => by cases h) ?_
   try simp only [List.reverse_cons, List.reverse_nil, List.nil_append, List.cons_append, List.append_assoc]
   refine GoI.z nf2 ?_
   refine PI.q ?_
   refine rg54v2 (j1 + 19) [3] fun all8 _ => ?_
   refine GoI.runN 2 nf2 ?_
   refine GoI.call nf2 nf2 (by first | exact okItoa _ hok.k | exact okItoa _ hok.i | exact okItoaN _ hok.s) ?_
   refine GoI.call2e nf2 nf2 (by exact okWS' (id := ([1], 0)) (t := ([1], 2)) _ (by simp) (nul (by omega)) (nul (by omega)) (by repeat (first | exact lk_hd | refine lk_tl (by simp <;> omega) ?_)) (by repeat (first | exact lk_hd | refine lk_tl (by simp <;> omega) ?_)) (by first | exact .inr rfl | exact hc) (by (try simp only [List.length_append, List.length_cons, List.length_nil]); omega)) (by first | exact .inr rfl | exact .inl rfl) (by exact fun h => by cases h) ?_
   try simp only [List.reverse_cons, List.reverse_nil, List.nil_append, List.cons_append, List.append_assoc]
   refine GoI.z nf2 ?_
   refine PI.q ?_
   refine rg54v2 (j1 + 20) [0] fun all9 _ => ?_
   refine GoI.call2e nf2 nf2 (by exact okWB' (id := ([1], 0)) (t := ([1], 2)) (by simp) (nul (by omega)) (nul (by omega)) (by repeat (first | exact lk_hd | refine lk_tl (by simp <;> omega) ?_)) (by repeat (first | exact lk_hd | refine lk_tl (by simp <;> omega) ?_)) (.inr rfl) (by (try simp only [List.length_append, List.length_cons, List.length_nil]); omega)) (by first | exact .inr rfl | exact .inl rfl) (by exact fun h => by cases h) ?_
   try simp only [List.reverse_cons, List.reverse_nil, List.nil_append, List.cons_append, List.append_assoc]
   refine GoI.z nf2 ?_
   refine PI.q ?_
   refine rg54v2 (j1 + 25) [4] fun all10 _ => ?_
   refine GoI.runN 2 nf2 ?_
   refine GoI.run nf2 ?_
   refine GoI.call nf2 nf2 (by first | exact okItoa _ hok.k | exact okItoa _ hok.i | exact okItoaN _ hok.s) ?_
   refine GoI.call2e nf2 nf2 (by exact okWS' (id := ([1], 0)) (t := ([1], 2)) _ (by simp) (nul (by omega)) (nul (by omega)) (by repeat (first | exact lk_hd | refine lk_tl (by simp <;> omega) ?_)) (by repeat (first | exact lk_hd | refine lk_tl (by simp <;> omega) ?_)) (by first | exact .inr rfl | exact hc) (by (try simp only [List.length_append, List.length_cons, List.length_nil]); omega)) (by first | exact .inr rfl | exact .inl rfl) (by exact fun h => by cases h) ?_
   try simp only [List.reverse_cons, List.reverse_nil, List.nil_append, List.cons_append, List.append_assoc]
   refine GoI.z nf2 ?_
   refine PI.q ?_
   refine rg54v2 (j1 + 26) [0] fun all11 _ => ?_
   refine GoI.call2e nf2 nf2 (by exact okWB' (id := ([1], 0)) (t := ([1], 2)) (by simp) (nul (by omega)) (nul (by omega)) (by repeat (first | exact lk_hd | refine lk_tl (by simp <;> omega) ?_)) (by repeat (first | exact lk_hd | refine lk_tl (by simp <;> omega) ?_)) (.inr rfl) (by (try simp only [List.length_append, List.length_cons, List.length_nil]); omega)) (by first | exact .inr rfl | exact .inl rfl) (by exact fun h => by cases h) ?_
   try simp only [List.reverse_cons, List.reverse_nil, List.nil_append, List.cons_append, List.append_assoc]
   refine GoI.z nf2 ?_
   refine rg54v2 (j1 + 29) [2] fun all12 _ => ?_
   refine GoI.runN 2 nf2 ?_
   refine GoI.call2e nf2 nf2 (by exact okWS' (id := ([1], 0)) (t := ([1], 2)) _ (by simp) (nul (by omega)) (nul (by omega)) (by repeat (first | exact lk_hd | refine lk_tl (by simp <;> omega) ?_)) (by repeat (first | exact lk_hd | refine lk_tl (by simp <;> omega) ?_)) (by first | exact .inr rfl | exact hc) (by (try simp only [List.length_append, List.length_cons, List.length_nil]); omega)) (by first | exact .inr rfl | exact .inl rfl) (by exact fun h => by cases h) ?_
   try simp only [List.reverse_cons, List.reverse_nil, List.nil_append, List.cons_append, List.append_assoc]
   refine GoI.z nf2 ?_
   refine rg54v2 (j1 + 31) [] fun all13 _ => ?_
   refine GoI.z nf2 ?_
   refine ⟨r.length - (x1.i + 1), ⟨x1.i + 1, .vp ([1], 0) 0, x1.n + 7⟩, j1 + 26, by (try dsimp only); omega, ⟨rfl, by (try dsimp only); omega, .inr rfl⟩, GhI.of_wk ⟨by simp [ovr, uk, lessT], by simp [lessR, lk, hk1, keyV], by (try dsimp only); omega, keep0⟩⟩
  try simp only [hb1]
  have hge := dn hb1
  refine PI.e 0 ?_
  refine PI.q ?_
  refine rg54v2 (j1 + 8) [0] fun all14 _ => ?_
  refine GoI.call2e nf2 nf2 (by exact okStr (id := ([1], 0)) (t := ([1], 2)) (by simp) (by repeat (first | exact lk_hd | refine lk_tl (by simp <;> omega) ?_)) (by repeat (first | exact lk_hd | refine lk_tl (by simp <;> omega) ?_)) hc) (by first | exact .inr rfl | exact .inl rfl) (by exact fun h => by cases h) ?_
  try simp only [List.reverse_cons, List.reverse_nil, List.nil_append, List.cons_append, List.append_assoc]
  refine GoI.z nf2 ?_
  refine PI.r ?_
  exact FinI.mk _ nf2 (by clear U; simp [finR, nrmA, nrm, AV.content, keyB, List.take_of_length_le hge])
end Go.FE
