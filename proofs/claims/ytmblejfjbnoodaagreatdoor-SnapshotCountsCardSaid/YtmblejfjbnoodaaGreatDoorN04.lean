/- Rows whose elements may still be written: stores, appends, makes. Rows whose elements may still be written: appends and makes at the machine. Maps of the call's own from strings to numbers or booleans; struct values held against each other; slices held against nil. -/
import Derived.MapKept
import Derived.Laws.StructEq
import Derived.Test.YtmblejfjbnoodaaGreatDoorN03
set_option linter.unusedVariables false
set_option linter.unusedSimpArgs false
namespace Go.FE
open Go.RowKit
def storeP (P : Program) (rs : Rid → Res) (id : Path) (t : TypeId) (aid : Rid) (s j k : Nat) (q : AV) : Option Eff :=
  match rs aid with
  | .arr s' e sz rows => match rows[j]?, P.underlying t, sizeT P t with
    | some cs, some d, some szt => if s' = s then (
      if isAggD d = true then (match q with
        | .agg n qs => if n = szt ∧ k + n ≤ cs.length then some ⟨.und, (tokN id 0 (cellTys P 8 t) qs).2 ++ [(aid, .arr s e sz (rows.set j (spl cs k n (tokN id 0 (cellTys P 8 t) qs).1)))], [aid]⟩ else none
        | _ => none)
      else if szt = 1 ∧ k < cs.length then (one1 P id 0 t q).map fun r => ⟨.und, r.2 ++ [(aid, .arr s e sz (rows.set j (spl cs k 1 [r.1])))], [aid]⟩ else none) else none
    | _, _, _ => none
  | _ => none
theorem storeP_sound {P : Program} {B w0 tm a E} (S : Sim B w0 tm E a) (id : Path) (hf : Fresh E.U id 0) (t : TypeId) (aid : Rid) (s j k : Nat) (q : AV) (x v : Value) (hx : VR E (.ap aid s j k) x) (hc : VR E q v) {e : Eff}
    (h : storeP P E.rs id t aid s j k q = some e) :
    ∃ E', (Instr.storeAt t x v).run P E.w = .ok () E'.w ∧ Sim B w0 tm E' a ∧ e.val = .und ∧ E'.rs = wrs E.rs e.wr ∧ (∀ r, E'.U r → E.U r ∨ r.1 = id) := by
  unfold storeP at h
  split at h
  · rename_i s' el sz rows hrs
    split at h
    · rename_i cs d szt hj hd hs
      split at h
      · rename_i hss
        subst hss
        have hU : E.U aid := hx.1
        obtain ⟨_, A, N, c, htv, rfl⟩ := (hx.2.2 s' el sz true (by rw [hrs]; rfl)).2 rfl
        split at h
        · rename_i ha
          split at h
          · rename_i n qs
            split at h
            · rename_i hcond
              obtain ⟨rfl, hle⟩ := hcond
              injection h with h
              subst h
              obtain ⟨vs, rfl, hn, hvs, h1, hq⟩ := CR.agg_inv hc
              obtain ⟨E1, S1, L1, hw1, hm1, hg1, hr1, hU1, hv1, hl1⟩ := tokN_sound id (cellTys P 8 t) qs 0 vs.toList E S hf (by simp; omega) (fun i q hi => by
                have := hq i q hi
                simpa [Array.getD_eq_getD_getElem?, List.getD_eq_getElem?_getD] using this)
              have hrs1 : E1.rs aid = .arr s' el sz rows := by
                rw [hr1, wrs_ne (fun p hp e => ?_)]
                · exact hrs
                · obtain ⟨h2, h3⟩ := tokN_ids id _ qs 0 p hp
                  rw [e] at h2
                  exact hf aid.2 (Nat.zero_le _) (by rw [← h2]; exact hU)
              have htv1 : E1.tv aid = .slice (some A) N c := by
                rcases L1.rs aid hU s' el sz true (by rw [hrs1]; rfl) with ⟨_, h2⟩ | ⟨s0, b0, h2, h3⟩
                · rw [h2]; exact htv
                · rw [hrs] at h2; simp only [ver, Option.some.injEq, Prod.mk.injEq] at h2; omega
              obtain ⟨w', hrun, S2⟩ := S1.setarr aid s' el sz rows j k cs (tokN id 0 (cellTys P 8 t) qs).1 hrs1 hj vs.toList (by rw [hl1]; simp; omega) (by rw [hl1, hn]; exact hle) A N c htv1 (fun i q hi => ⟨hv1 i q hi, by
                have hil : i < n := by have := (List.getElem?_eq_some_iff.1 hi).1; omega
                have := h1 i hil
                simpa [Array.getD_eq_getD_getElem?, List.getD_eq_getElem?_getD] using this⟩)
              refine ⟨_, ?_, S2, rfl, ?_, fun r h => ?_⟩
              · have := hrun P
                rw [hw1] at this
                simp only [Instr.storeAt, Instr.sureAddr, Sem.run_bind, Sem.run_pure, Result.andThen_ok, storeVar, run_sizeOf hs]
                have hne : ¬ ((Value.agg vs).cells.size ≠ n) := by simp [Value.cells, hvs]
                rw [if_neg hne]
                exact this
              · simp only [hr1, wrs_append, wrs]
                rw [spl_splice _ _ _ _ (by rw [hl1, hn])]
              · rcases hU1 r h with h | h
                · exact .inl h
                · exact .inr h.1
            · cases h
          · cases h
        · rename_i ha
          split at h
          · rename_i hcond
            obtain ⟨rfl, hlt⟩ := hcond
            obtain ⟨r, hr, rfl⟩ := Option.map_eq_some_iff.1 h
            obtain ⟨E1, S1, L1, hw1, hm1, hg1, hr1, hU1, hv1, ho, hcs, hids⟩ := one1_sound S id 0 (hf 0 (Nat.le_refl _)) t q v hc hr
            have hrs1 : E1.rs aid = .arr s' el sz rows := by
              rw [hr1, wrs_ne (fun p hp e => ?_)]
              · exact hrs
              · rw [hids p hp] at e
                exact hf 0 (Nat.le_refl _) (by rw [e]; exact hU)
            have htv1 : E1.tv aid = .slice (some A) N c := by
              rcases L1.rs aid hU s' el sz true (by rw [hrs1]; rfl) with ⟨_, h2⟩ | ⟨s0, b0, h2, h3⟩
              · rw [h2]; exact htv
              · rw [hrs] at h2; simp only [ver, Option.some.injEq, Prod.mk.injEq] at h2; omega
            obtain ⟨w', hrun, S2⟩ := S1.setarr aid s' el sz rows j k cs [r.1] hrs1 hj [v] rfl (by simp; omega) A N c htv1 (fun i q hi => by
              match i, hi with
              | 0, hi => simp at hi; subst hi; exact ⟨hv1, ho⟩)
            refine ⟨_, ?_, S2, rfl, ?_, fun i h => ?_⟩
            · have := hrun P
              rw [hw1] at this
              simp only [Instr.storeAt, Instr.sureAddr, Sem.run_bind, Sem.run_pure, Result.andThen_ok, storeVar, run_sizeOf hs, hcs]
              rw [if_neg (by simp)]
              exact this
            · simp only [hr1, wrs_append, wrs]
              rw [spl_splice _ [r.1] _ 1 rfl]
            · rcases hU1 i h with h | rfl
              · exact .inl h
              · exact .inr rfl
          · cases h
      · cases h
    · cases h
  · cases h
/-- An append onto such a row. -/
theorem Sim.appendArr {B w0 tm E a} (S : Sim B w0 tm E a) (t : Rid) (s : Nat) (e : TypeId) (sz : Nat) (rows ys : List (List AV)) (news : List Value) (v' : Value) (w' : World) (hrs : E.rs t = .arr s e sz rows)
    {xs : List Value} (hown : E.w.ownsRow B e sz (E.tv t) rows.length xs) (hm : ∀ g, (E.tv t).ownBlock = some g → E.m g = 0) (hrows : ∀ cs ∈ rows, cs.length = sz) (hvx : ∀ j cs i q, rows[j]? = some cs → cs[i]? = some q → VR E q (xs.getD (j * sz + i) undef) ∧ (xs.getD (j * sz + i) undef).oneCell' = true)
    (hl : news.length = ys.length * sz) (hys : ∀ cs ∈ ys, cs.length = sz) (hvy : ∀ j cs i q, ys[j]? = some cs → cs[i]? = some q → VR E q (news.getD (j * sz + i) undef) ∧ (news.getD (j * sz + i) undef).oneCell' = true)
    (hown' : w'.ownsRow B e sz v' (rows.length + ys.length) (xs ++ news))
    (hg : (v'.ownBlock = (E.tv t).ownBlock ∧ E.w.grownBy w' (E.tv t).ownBlock) ∨ (v'.ownBlock = some E.w.heap.size ∧ E.w.grownBy w' none)) :
    Sim B w0 tm { E with rs := fup E.rs t (.arr (s + 1) e sz (rows ++ ys)), tv := fup E.tv t v', w := w' } a ∧ Le E { E with rs := fup E.rs t (.arr (s + 1) e sz (rows ++ ys)), tv := fup E.tv t v', w := w' } := by
  have hU : E.U t := S.used _ (by rw [hrs]; simp)
  have hgr : E.w.grownBy w' (E.tv t).ownBlock := by
    rcases hg with ⟨_, h⟩ | ⟨_, h⟩
    · exact h
    · exact ⟨h.os, h.tape, h.output, h.size, fun i hi _ => h.block i hi (by simp)⟩
  have hown_lt := hown.lt
  have hown_lt' := hown'.lt
  have hother : ∀ g, g < E.w.heap.size → (E.tv t).ownBlock ≠ some g → w'.heap[g]? = E.w.heap[g]? := fun g hgl hne => hgr.block g hgl (fun e => hne e.symm)
  have hrc : ∀ b x, RC E.m E.w b x → RC E.m w' b x := by
    intro b x h
    by_cases hb : (E.tv t).ownBlock = some b.block
    · have := h.2; rw [hm _ hb] at this; omega
    · exact ⟨(World.cell?_of_block (hother b.block h.lt hb)).trans h.1, h.2⟩
  have hL : Le E { E with rs := fup E.rs t (.arr (s + 1) e sz (rows ++ ys)), tv := fup E.tv t v', w := w' } := by
    refine ⟨hrc, fun i h => h, fun j hj => rfl, fun t' ht' s' e' sz' b' h => ?_⟩
    by_cases hti : t' = t
    · subst hti
      simp only [fup_self, ver, Option.some.injEq, Prod.mk.injEq] at h
      obtain ⟨rfl, rfl, rfl, rfl⟩ := h
      exact .inr ⟨s, true, by rw [hrs]; rfl, by omega⟩
    · exact .inl ⟨by simpa [fup, hti] using h, fup_ne _ _ hti⟩
  refine ⟨?_, hL⟩
  have hB' : B ≤ w'.heap.size := Nat.le_trans S.hB hgr.size
  refine S.upd (fun _ _ => rfl) hL ?_ hB' (fun g hgl => S.fresh g (Nat.le_trans hgr.size hgl)) (fun j => j = t) ?_ (fun j hj => ⟨fup_ne _ _ hj, fun hd => ⟨fup_ne _ _ hj, fun q hq => ⟨hother q (blk_ge S hq).2 (fun eq => ?_), rfl⟩⟩⟩) (fun j hj _ => ?_) ?_
  · exact S.below.grown hgr S.hB (fun g hg' => (hown_lt g hg').1)
  · rintro j rfl
    unfold RF
    simp only [fup_self]
    refine ⟨xs ++ news, by rw [List.length_append]; exact hown', fun g hg' => ?_, fun cs hcs => (List.mem_append.1 hcs).elim (hrows cs) (hys cs), fun j' cs i q hj hi => ?_⟩
    · rcases hg with ⟨h1, _⟩ | ⟨h1, _⟩
      · rw [h1] at hg'; exact hm g hg'
      · rw [h1] at hg'; injection hg' with hg'; subst hg'; exact S.fresh _ (Nat.le_refl _)
    · have hil : i < sz := by
        have h0 := (List.getElem?_eq_some_iff.1 hi).1
        rw [(List.mem_append.1 (List.mem_of_getElem? hj)).elim (hrows cs) (hys cs)] at h0
        exact h0
      rcases Nat.lt_or_ge j' rows.length with hlt | hge
      · rw [List.getElem?_append_left hlt] at hj
        have hlt2 : j' * sz + i < xs.length := by
          rw [hown.1]
          have := Nat.mul_le_mul_right sz (show j' + 1 ≤ rows.length by omega)
          rw [Nat.add_mul] at this
          omega
        have h := hvx j' cs i q hj hi
        rw [List.getD_eq_getElem?_getD, List.getElem?_append_left hlt2, ← List.getD_eq_getElem?_getD]
        exact ⟨h.1.mono hL, h.2⟩
      · rw [List.getElem?_append_right hge] at hj
        have hge2 : xs.length ≤ j' * sz + i := by
          rw [hown.1]
          have := Nat.mul_le_mul_right sz hge
          omega
        have h := hvy _ cs i q hj hi
        have e1 : j' * sz + i - xs.length = (j' - rows.length) * sz + i := by
          rw [hown.1, Nat.sub_mul]
          have := Nat.mul_le_mul_right sz hge
          omega
        rw [List.getD_eq_getElem?_getD, List.getElem?_append_right hge2, e1, ← List.getD_eq_getElem?_getD]
        exact ⟨h.1.mono hL, h.2⟩
  · exact S.apart j t q hj hq (by unfold blk; rw [hrs]; exact eq)
  · subst hj; exact hU
  · rintro i j q hij rfl hi hj
    simp only [blk, fup_self] at hi
    have hj' : blk E j = some q := by
      unfold blk at hj ⊢
      simp only [fup_ne _ _ (Ne.symm hij)] at hj
      exact hj
    rcases hg with ⟨h1, _⟩ | ⟨h1, _⟩
    · exact S.apart i j q hij (by unfold blk; rw [hrs]; exact h1 ▸ hi) hj'
    · have := (blk_ge S hj').2
      rw [h1] at hi
      injection hi with hi
      omega
end Go.FE
namespace Go.FE
open Go.RowKit
/-- What is appended to such a row: nil slices become rows of the call's own. -/
def newR (P : Program) (id : Path) (e : TypeId) : List (List AV) → List (List AV) × List (Rid × Res)
  | [cs] => ([(tokN id 0 (cellTys P 8 e) cs).1], (tokN id 0 (cellTys P 8 e) cs).2)
  | ys => (ys.map (List.map AV.bare), [])
theorem newR_sound {P : Program} {B w0 tm a E} (S : Sim B w0 tm E a) (id : Path) (hf : Fresh E.U id 0) (e sz : Nat) (ys : List (List AV)) (hys : ∀ cs ∈ ys, cs.length = sz) (vs : List Value) (hvl : vs.length = ys.length * sz)
    (hv : ∀ j cs i q, ys[j]? = some cs → cs[i]? = some q → ∃ u, vs[j * sz + i]? = some u ∧ u.oneCell' = true ∧ CR E.m E.w q u) :
    ∃ E', Sim B w0 tm E' a ∧ Le E E' ∧ E'.w = E.w ∧ E'.m = E.m ∧ E'.gs = E.gs ∧ E'.rs = wrs E.rs (newR P id e ys).2 ∧ (∀ r, E'.U r → E.U r ∨ r.1 = id) ∧ (newR P id e ys).1.length = ys.length ∧ (∀ cs ∈ (newR P id e ys).1, cs.length = sz) ∧
      ∀ j cs i q, (newR P id e ys).1[j]? = some cs → cs[i]? = some q → VR E' q (vs.getD (j * sz + i) undef) ∧ (vs.getD (j * sz + i) undef).oneCell' = true := by
  unfold newR
  split
  · rename_i cs
    have hcl := hys cs (by simp)
    have hget : ∀ i q, cs[i]? = some q → CR E.m E.w q (vs.getD i undef) ∧ (vs.getD i undef).oneCell' = true := fun i q hi => by
      obtain ⟨u, h1, h2, h3⟩ := hv 0 cs i q rfl hi
      rw [Nat.zero_mul, Nat.zero_add] at h1
      rw [List.getD_eq_getElem?_getD, h1]
      exact ⟨h3, h2⟩
    obtain ⟨E1, S1, L1, hw1, hm1, hg1, hr1, hU1, hv1, hl1⟩ := tokN_sound id (cellTys P 8 e) cs 0 vs E S hf (by simpa [hcl] using hvl) (fun i q hi => (hget i q hi).1)
    refine ⟨E1, S1, L1, hw1, hm1, hg1, hr1, fun r h => (hU1 r h).imp (fun h => h) (fun h => h.1), rfl, fun c hc => by simp at hc; rw [hc, hl1, hcl], fun j c i q hj hi => ?_⟩
    cases j with
    | zero =>
      simp at hj
      subst hj
      simp only [Nat.zero_mul, Nat.zero_add]
      refine ⟨hv1 i q hi, ?_⟩
      have hil : i < cs.length := by rw [← hl1]; exact (List.getElem?_eq_some_iff.1 hi).1
      exact (hget i cs[i] (List.getElem?_eq_getElem hil)).2
    | succ j => simp at hj
  · refine ⟨E, S, Le.refl E, rfl, rfl, rfl, rfl, fun r h => .inl h, by simp, fun cs hcs => ?_, fun j cs i q hj hi => ?_⟩
    · obtain ⟨c0, h0, rfl⟩ := List.mem_map.1 hcs
      rw [List.length_map]
      exact hys c0 h0
    · rw [List.getElem?_map] at hj
      obtain ⟨c0, h0, rfl⟩ := Option.map_eq_some_iff.1 hj
      rw [List.getElem?_map] at hi
      obtain ⟨q0, h1, rfl⟩ := Option.map_eq_some_iff.1 hi
      obtain ⟨u, h2, h3, h4⟩ := hv j c0 i q0 h0 h1
      rw [List.getD_eq_getElem?_getD, h2]
      exact ⟨VR.of_CR_bare h4, h3⟩
theorem newR_ids {P : Program} (id : Path) (e : Nat) (ys : List (List AV)) : ∀ p ∈ (newR P id e ys).2, p.1.1 = id := by
  unfold newR
  split
  · exact fun p hp => (tokN_ids id _ _ 0 p hp).1
  · exact fun p hp => by cases hp
def appR (P : Program) (rs : Rid → Res) (id : Path) (ts : List TypeId) (xs : List AV) : Option Eff :=
  match ts, xs with
  | [T, T'], [.ar t s z 0 n, p] => if T = T' then (match sliceElem P T, asSl p with
    | some (e, sz), some ys => match infoT P e with
      | some (sz', bytes, some zz) =>
        if sz' = sz ∧ zz = sz ∧ 0 < sz ∧ 0 < bytes ∧ ∀ cs ∈ ys, cs.length = sz then (match rs t with
          | .arr s' e' sz'' rows => if s' = s ∧ e' = e ∧ sz'' = sz ∧ z = sz ∧ rows.length = n ∧ (n + ys.length) * bytes ≤ 140737488355328 then some ⟨.ar t (s + 1) sz 0 (n + ys.length), (newR P id e ys).2 ++ [(t, .arr (s + 1) e sz (rows ++ (newR P id e ys).1))], [t]⟩ else none
          | _ => none) else none
      | _ => none
    | _, _ => none) else none
  | [T, T'], [.e0, p] => if T = T' then (match sliceElem P T, asSl p with
    | some (e, sz), some ys => match infoT P e with
      | some (sz', bytes, some zz) =>
        if sz' = sz ∧ zz = sz ∧ 0 < sz ∧ 0 < bytes ∧ ys.length * bytes ≤ 140737488355328 ∧ ∀ cs ∈ ys, cs.length = sz then (match ys with
          | [] => some ⟨.e0, [], []⟩
          | y :: ys => some ⟨.sl ((y :: ys).map (List.map nrm)) (some ((id, 0), 0)), [((id, 0), .tok 0 e sz)], []⟩) else none
      | _ => none
    | _, _ => none) else none
  | _, _ => none
theorem appR_sound {P : Program} {B w0 tm a E} (S : Sim B w0 tm E a) (id : Path) (hf : Fresh E.U id 0) (ts : Array TypeId) (ty : TypeId) (args : List Operand) {e : Eff} (h : appR P E.rs id ts.toList (args.map (ev tm)) = some e) :
    ∃ z E', (Builtin.append_ ts ty (args.map a.eval).toArray).run P E.w = .ok z E'.w ∧ Sim B w0 tm E' a ∧ VR E' e.val z ∧ E'.rs = wrs E.rs e.wr ∧ (∀ r, E'.U r → E.U r ∨ r.1 = id) := by
  obtain ⟨ts⟩ := ts
  unfold appR at h
  split at h
  · rename_i T T' t s z n p et ex
    simp only at et
    subst et
    rcases args with _ | ⟨x, _ | ⟨y, _ | ⟨y', r'⟩⟩⟩
    · cases ex
    · simp at ex
    · simp only [List.map_cons, List.map_nil, List.cons.injEq, and_true] at ex
      have hx := ev_sound S x
      have hy := ev_sound S y
      rw [ex.1] at hx
      rw [ex.2] at hy
      split at h
      · rename_i hT
        subst hT
        split at h
        · rename_i el sz ys hse hp
          have hyc := asSl_CR hy hp
          unfold sliceElem at hse
          split at hse
          · rename_i e' hu
            obtain ⟨n', hn', he'⟩ := Option.map_eq_some_iff.1 hse
            injection he' with he1 he2
            subst he1 he2
            split at h
            · rename_i sz' bytes zz hi
              split at h
              · rename_i hcond
                obtain ⟨rfl, rfl, hsz, hb0, hys⟩ := hcond
                split at h
                · rename_i s' el' sz'' rows hrs
                  split at h
                  · rename_i hc2
                    obtain ⟨rfl, rfl, rfl, rfl, rfl, hb⟩ := hc2
                    injection h with h
                    subst h
                    unfold infoT at hi
                    obtain ⟨it, hit, hii⟩ := Option.map_eq_some_iff.1 hi
                    simp only [Prod.mk.injEq] at hii
                    obtain ⟨hi1, hi2, hi3⟩ := hii
                    obtain ⟨zv, hz, hzs⟩ := Option.map_eq_some_iff.1 hi3
                    obtain ⟨A2, c2, ws, ey, hc2, hml2, hwl, hwa, hw1, hwr⟩ := CR.cells hyc z hys
                    obtain ⟨E1, S1, L1, hw1', hm1, hg1, hr1, hU1, hnl, hns, hnv⟩ := newR_sound (P := P) S id hf el' z ys hys ws hwl hwr
                    have hU : E.U t := hx.1
                    have hrs1 : E1.rs t = .arr s' el' z rows := by
                      rw [hr1, wrs_ne (fun p hp e => ?_)]
                      · exact hrs
                      · have h2 := newR_ids id el' ys p hp
                        rw [e] at h2
                        exact hf t.2 (Nat.zero_le _) (by rw [← h2]; exact hU)
                    have hx1 := hx.mono L1
                    obtain ⟨_, _, hver⟩ := hx1
                    obtain ⟨_, _, ⟨A0, N0, c0, htv, _⟩, hview⟩ := (hver s' el' z true (by rw [hrs1]; rfl)).2 rfl
                    have hxv := hview (.inl rfl)
                    have hr := S1.res t
                    unfold RF at hr
                    rw [hrs1] at hr
                    obtain ⟨xs, hown, hm, hrz, hrv⟩ := hr
                    have hN0 : N0 = rows.length ∧ a.eval x = E1.tv t := by
                      rcases hown.2 with ⟨e1, e2⟩ | ⟨g, cap, cur, e1, _⟩
                      · rw [e1] at htv; injection htv with h1 h2 h3
                        subst h1 h2 h3
                        refine ⟨e2.symm, ?_⟩
                        rw [hxv, e1, e2]
                        rfl
                      · rw [e1] at htv; injection htv with h1 h2 h3
                        subst h1 h2 h3
                        refine ⟨rfl, ?_⟩
                        rw [hxv, e1]
                        simp [viewOf, add_zero]
                    obtain ⟨rfl, hxe⟩ := hN0
                    have hlen : rows.length + ys.length ≤ maxLen := by
                      have : rows.length + ys.length ≤ (rows.length + ys.length) * bytes := Nat.le_mul_of_pos_right _ hb0
                      unfold maxLen; omega
                    have hrun : ∃ v' w', (Builtin.append_ #[T, T] ty #[E1.tv t, a.eval y]).run P E1.w = .ok v' w' ∧ w'.ownsRow B el' z v' (rows.length + ys.length) (xs ++ ws) ∧
                        ((v'.ownBlock = (E1.tv t).ownBlock ∧ E1.w.grownBy w' (E1.tv t).ownBlock) ∨ (v'.ownBlock = some E1.w.heap.size ∧ E1.w.grownBy w' none)) := by
                      by_cases hne : ys = []
                      · subst hne
                        have hws : ws = [] := List.eq_nil_of_length_eq_zero (by simpa using hwl)
                        subst hws
                        cases hA : A2 with
                        | none =>
                          refine ⟨E1.tv t, E1.w, ?_, by simpa using hown, .inl ⟨rfl, ⟨rfl, rfl, rfl, Nat.le_refl _, fun _ _ _ => rfl⟩⟩⟩
                          rw [ey, hA]
                          rcases hown.2 with ⟨e1, e2⟩ | ⟨g, cap, cur, e1, _, _, hnc, _⟩
                          · rw [e1]; simp [Builtin.append_, run_underlying hu, sizeOf, typeInfo, hit, Builtin.lenOf, Builtin.firstCells]
                          · rw [e1]; simp [Builtin.append_, run_underlying hu, sizeOf, typeInfo, hit, Builtin.lenOf, Builtin.firstCells, hnc, storeCells]
                        | some ad =>
                          rw [ey, hA]
                          exact append_at B T ty el' it zv z bytes hu hit hz hi1 hi2 hzs hsz (E1.tv t) rows.length xs hown ad 0 c2 [] (by simp) (fun j u h => by simp at h) (fun u h => by cases h) (by simpa using hlen) (by simpa using hb) S1.hB
                      · obtain ⟨ad, rfl, hcell⟩ := hwa hne
                        rw [ey]
                        exact append_at B T ty el' it zv z bytes hu hit hz hi1 hi2 hzs hsz (E1.tv t) rows.length xs hown ad ys.length c2 ws hwl (by rw [hw1']; exact hcell) hw1 hlen hb S1.hB
                    obtain ⟨v', w', hr1', hr2, hr3⟩ := hrun
                    obtain ⟨S2, L2⟩ := S1.appendArr t s' el' z rows (newR P id el' ys).1 ws v' w' hrs1 hown hm hrz hrv (by rw [hnl]; exact hwl) hns hnv (by rw [hnl]; exact hr2) hr3
                    refine ⟨v', _, ?_, S2, ⟨L2.U _ (L1.U _ hU), ?_, fun s2 e2 sz2 b2 h2 => ?_⟩, ?_, fun r h => hU1 r h⟩
                    · rw [← hw1', ← hr1']
                      simp [hxe]
                    · rcases hr2.2 with ⟨e1, e2⟩ | ⟨g, cap, cur, e1, _, _, hn, hcm, _⟩
                      · exact ⟨none, 0, by rw [e1, e2], by omega, by omega, fun h => absurd e2 h⟩
                      · exact ⟨_, _, e1, hn, by omega, fun _ => ⟨_, rfl⟩⟩
                    · simp only [fup_self, ver, Option.some.injEq, Prod.mk.injEq] at h2
                      obtain ⟨rfl, rfl, rfl, rfl⟩ := h2
                      refine ⟨Nat.le_refl _, fun _ => ⟨rfl, rfl, ?_, fun _ => ?_⟩⟩
                      · simp only [fup_self]
                        rcases hr2.2 with ⟨e1, e2⟩ | ⟨g, cap, cur, e1, _, _, hn, hcm, _⟩
                        · exact ⟨_, _, _, e1, by omega⟩
                        · exact ⟨_, _, _, e1, by omega⟩
                      · simp only [fup_self]
                        rcases hr2.2 with ⟨e1, e2⟩ | ⟨g, cap, cur, e1, _, _, hn, hcm, _⟩
                        · rw [e1, e2]; rfl
                        · rw [e1]; simp [viewOf, add_zero]
                    · simp only [hr1, wrs_append, wrs]
                  · cases h
                · cases h
              · cases h
            · cases h
          · cases hse
        · cases h
      · cases h
    · simp at ex
  · rename_i T T' p et ex
    simp only at et
    subst et
    rcases args with _ | ⟨x, _ | ⟨y, _ | ⟨y', r'⟩⟩⟩
    · cases ex
    · simp at ex
    · simp only [List.map_cons, List.map_nil, List.cons.injEq, and_true] at ex
      have hx := ev_sound S x
      have hy := ev_sound S y
      rw [ex.1] at hx
      rw [ex.2] at hy
      obtain ⟨A, hxe⟩ := hx
      split at h
      · rename_i hT
        subst hT
        split at h
        · rename_i el sz ys hse hp
          have hyc := asSl_CR hy hp
          unfold sliceElem at hse
          split at hse
          · rename_i e' hu
            obtain ⟨n', hn', he'⟩ := Option.map_eq_some_iff.1 hse
            injection he' with he1 he2
            subst he1 he2
            split at h
            · rename_i sz' bytes zz hi
              split at h
              · rename_i hcond
                obtain ⟨rfl, rfl, hsz, hb0, hb, hys⟩ := hcond
                unfold infoT at hi
                obtain ⟨it, hit, hii⟩ := Option.map_eq_some_iff.1 hi
                simp only [Prod.mk.injEq] at hii
                obtain ⟨hi1, hi2, hi3⟩ := hii
                obtain ⟨zv, hz, hzs⟩ := Option.map_eq_some_iff.1 hi3
                obtain ⟨A2, c2, ws, ey, hc2, hml2, hwl, hwa, hw1, hwr⟩ := CR.cells hyc zz hys
                split at h
                · injection h with h
                  subst h
                  have hws : ws = [] := List.eq_nil_of_length_eq_zero (by simpa using hwl)
                  subst hws
                  refine ⟨.slice A 0 0, E, ?_, S, ⟨A, rfl⟩, rfl, fun r h => .inl h⟩
                  simp only [List.map_cons, List.map_nil, hxe, ey, List.length_nil]
                  cases A <;> cases A2 <;> simp [Builtin.append_, run_underlying hu, sizeOf, typeInfo, hit, Builtin.lenOf, Builtin.firstCells, storeCells, loadCells, loadCellsFrom]
                · rename_i y1 ys1
                  injection h with h
                  subst h
                  obtain ⟨ad, rfl, hcell⟩ := hwa (by simp)
                  have hlen : (y1 :: ys1).length ≤ maxLen := hml2
                  have hlenb : (y1 :: ys1).length ≤ 140737488355328 := by
                    have : (y1 :: ys1).length ≤ (y1 :: ys1).length * bytes := Nat.le_mul_of_pos_right _ hb0
                    omega
                  have hnx : ∃ v' w', (Builtin.append_ #[T, T] ty #[.slice A 0 0, .slice (some ad) (y1 :: ys1).length c2]).run P E.w = .ok v' w' ∧ ∃ cap, v' = .slice (some ⟨E.w.heap.size, 0, none⟩) (y1 :: ys1).length cap ∧ w'.ownsRow B e' zz v' (y1 :: ys1).length ws ∧ E.w.grownBy w' none := by
                    have hpos : 0 < (y1 :: ys1).length := by simp
                    obtain ⟨v', w', h1, h2, h3, h4, h5⟩ := run_append_own_at (P := P) E.w B T ty e' it zv zz bytes hu hit hz hi1 hi2 hzs hsz (.slice none 0 0) 0 [] (World.ownsRow_nil _ _ _ _) ad (y1 :: ys1).length c2 ws hwl hcell hw1 (by omega) (by simpa using hb) S.hB
                    simp only [Nat.zero_add, List.nil_append] at h2
                    have hne : v' ≠ .slice none 0 0 := fun e => by have := (h4.1 e).2; omega
                    rcases h2.2 with ⟨e1, _⟩ | ⟨g, cap, cur, e1, r⟩
                    · exact absurd e1 hne
                    · have hgs : g = E.w.heap.size := by
                        rcases h5 with h5 | h5
                        · rw [e1] at h5; cases h5
                        · rw [e1] at h5; injection h5
                      subst hgs
                      refine ⟨v', w', ?_, cap, e1, h2, h3⟩
                      cases A with
                      | none => exact h1
                      | some b =>
                        subst hi1 hi2
                        have hnil := run_append_nil (P := P) E.w T ty e' it zv hu hit hz ad (y1 :: ys1).length c2 ws hwl hcell (by omega) (by unfold maxLen at hlen; omega) (by omega)
                        have hsm := run_append_grow (P := P) E.w T ty e' it zv hu hit hz b 0 0 [] (by simp) (fun j u h => by simp at h) ad (y1 :: ys1).length c2 ws hwl hcell (by omega) (by unfold maxLen at hlen; omega) (growslice_fits (by omega) (by simpa using hb))
                        rw [hsm, ← h1, hnil]
                        simp
                  obtain ⟨v', w', h1, cap, rfl, h2, h3⟩ := hnx
                  obtain ⟨E', e1, e2, e3, e4, e5⟩ := newrow2 S (id, 0) (hf 0 (Nat.le_refl _)) e' zz (y1 :: ys1).length cap ws w' h2 h3 ((y1 :: ys1).map (List.map nrm)) (by simp) (fun cs hcs => by
                      obtain ⟨c0, h0, rfl⟩ := List.mem_map.1 hcs
                      rw [List.length_map]
                      exact hys c0 h0) (fun j cs i q hj hi => by
                      rw [List.getElem?_map] at hj
                      obtain ⟨c0, h0, rfl⟩ := Option.map_eq_some_iff.1 hj
                      rw [List.getElem?_map] at hi
                      obtain ⟨q0, h1, rfl⟩ := Option.map_eq_some_iff.1 hi
                      obtain ⟨u, h4, h5, h6⟩ := hwr j c0 i q0 h0 h1
                      exact ⟨u, h4, h5, h6.nrm⟩)
                  refine ⟨_, E', ?_, e2, e3, e4, fun r h => (e5 r h).imp (fun h => h) (fun h => by rw [h])⟩
                  rw [e1]
                  simp only [List.map_cons, List.map_nil, hxe, ey]
                  exact h1
              · cases h
            · cases h
          · cases hse
        · cases h
      · cases h
    · simp at ex
  · cases h
end Go.FE
namespace Go.FE
open Go.RowKit Go.MapKept
/-- Struct values whose fields are numbers, booleans and texts. -/
def eqF (P : Program) (cs ds : List AV) : List Field → Option Bool
  | [] => some true
  | f :: fs => if f.name = "_" then none else match P.underlying f.type, cs[f.offset]?, ds[f.offset]? with
    | some (.int _), some (.v (.int k a)), some (.v (.int k' b)) => if k = k' then (eqF P cs ds fs).map fun r => a == b && r else none
    | some .bool, some (.v (.bool a)), some (.v (.bool b)) => (eqF P cs ds fs).map fun r => a == b && r
    | some .string, some (.v (.string a)), some (.v (.string b)) => (eqF P cs ds fs).map fun r => a.toList == b.toList && r
    | _, _, _ => none
def eqS (P : Program) (t : TypeId) (n m : Nat) (cs ds : List AV) : Option Bool :=
  match P.underlying t with
  | some (.struct fs) => if P.stoodInHeld t = false ∧ P.eqGuardType P.depth t = false then eqF P cs ds fs.toList else none
  | _ => none
theorem run_part {P : Program} {w : World} {t : TypeId} {d : TypeDesc} {xs : Array Value} {off : Nat} {x : Value} (h : P.underlying t = some d) (hd : isAggD d = false) (hx : xs[off]? = some x) : (part t xs off).run P w = .ok x w := by
  have hlt := (Array.getElem?_eq_some_iff.1 hx).1
  have he := (Array.getElem?_eq_some_iff.1 hx).2
  simp only [part, Sem.run_bind, run_isAgg h, Result.andThen_ok, hd]
  simp [hlt, he]
theorem eqF_run {P : Program} {m : Nat → Nat} {W w : World} {n n' : Nat} {cs ds : List AV} {xs ys : Array Value} (hx : CR m W (.agg n cs) (.agg xs)) (hy : CR m W (.agg n' ds) (.agg ys)) : ∀ (fs : List Field) (r : Bool), eqF P cs ds fs = some r → ∀ d, (Op.eqFields (d + 1) xs ys fs).run P w = .ok r w
  | [], r, h, d => by injection h with h; subst h; simp [Op.eqFields]
  | f :: fs, r, h, d => by
    obtain ⟨xs', ex, hn, hvx, _, hqx⟩ := hx.agg_inv
    injection ex with ex
    subst ex
    obtain ⟨ys', ey, hn', hvy, _, hqy⟩ := hy.agg_inv
    injection ey with ey
    subst ey
    have hat : ∀ (k : Nat) (v : Value), cs[k]? = some (.v v) → xs[k]? = some v := fun k v h => by
      have h1 := (CR.v_inv (hqx k _ h)).1
      have h2 : k < xs.size := by rw [hvx, ← hn]; exact (List.getElem?_eq_some_iff.1 h).1
      rw [Array.getElem?_eq_getElem h2, ← h1]
      simp [h2]
    have hat' : ∀ (k : Nat) (v : Value), ds[k]? = some (.v v) → ys[k]? = some v := fun k v h => by
      have h1 := (CR.v_inv (hqy k _ h)).1
      have h2 : k < ys.size := by rw [hvy, ← hn']; exact (List.getElem?_eq_some_iff.1 h).1
      rw [Array.getElem?_eq_getElem h2, ← h1]
      simp [h2]
    unfold eqF at h
    split at h
    · cases h
    · rename_i hname
      unfold Op.eqFields
      rw [if_pos hname]
      have fin : ∀ (c : Bool) (x y : Value) (tail : Bool), xs[f.offset]? = some x → ys[f.offset]? = some y → (∃ D, P.underlying f.type = some D ∧ isAggD D = false) → (Op.equalIn (d + 1) f.type x y).run P w = .ok c w → eqF P cs ds fs = some tail → r = (c && tail) →
          (do let a ← part f.type xs f.offset
              let b ← part f.type ys f.offset
              let r ← Op.equalIn (d + 1) f.type a b
              if (!r) = true then pure false else Op.eqFields (d + 1) xs ys fs : Sem Bool).run P w = .ok r w := by
        intro c x y tail h1 h2 hD h3 h4 h5
        obtain ⟨D, hD1, hD2⟩ := hD
        simp only [Sem.run_bind, run_part hD1 hD2 h1, run_part hD1 hD2 h2, Result.andThen_ok, h3]
        cases c
        · simp [h5]
        · simp only [Bool.not_true, Bool.false_eq_true, if_false]
          rw [eqF_run hx hy fs tail h4 d, h5]
          rfl
      split at h
      · rename_i k0 k a k' b hu h1 h2
        split at h
        · rename_i hk
          subst hk
          obtain ⟨tail, h3, h4⟩ := Option.map_eq_some_iff.1 h
          exact fin (a == b) _ _ tail (hat _ _ h1) (hat' _ _ h2) ⟨_, hu, rfl⟩ (run_equalIn_int w d f.type k k0 a b hu) h3 h4.symm
        · cases h
      · rename_i a b hu h1 h2
        obtain ⟨tail, h3, h4⟩ := Option.map_eq_some_iff.1 h
        exact fin (a == b) _ _ tail (hat _ _ h1) (hat' _ _ h2) ⟨_, hu, rfl⟩ (run_equalIn_bool' w d f.type a b hu) h3 h4.symm
      · rename_i a b hu h1 h2
        obtain ⟨tail, h3, h4⟩ := Option.map_eq_some_iff.1 h
        exact fin (a.toList == b.toList) _ _ tail (hat _ _ h1) (hat' _ _ h2) ⟨_, hu, rfl⟩ (run_equalIn_string w d f.type a b hu) h3 h4.symm
      · cases h
/-- Whether a slice is nil: known where it has elements. -/
def nilB : List (List AV) → Bool → AV
  | [], _ => .bl
  | _ :: _, b => .v (.bool b)
def eqB (P : Program) (op : BinOp) (t : TypeId) (x y : AV) : Option AV :=
  match op, x, y with
  | .eql, .agg n cs, .agg m ds => (eqS P t n m cs ds).map fun b => .v (.bool b)
  | .neq, .agg n cs, .agg m ds => (eqS P t n m cs ds).map fun b => .v (.bool (!b))
  | .eql, q, .v (.slice none 0 0) => match P.underlying t, asSl q with
    | some (.slice _), some ys => some (nilB ys false)
    | _, _ => none
  | .neq, q, .v (.slice none 0 0) => match P.underlying t, asSl q with
    | some (.slice _), some ys => some (nilB ys true)
    | _, _ => none
  | _, _, _ => none
theorem slice_eq_run {P : Program} {w : World} {t e : TypeId} (h : P.underlying t = some (.slice e)) (A : Option Addr) (n c : Nat) : (Op.equal t (.slice A n c) (.slice none 0 0)).run P w = .ok A.isNone w := by
  unfold Op.equal Op.maxDepth
  show (Op.equalIn (9999 + 1) t _ _).run P w = _
  unfold Op.equalIn
  cases A <;> simp [run_underlying h]
theorem eqB_sound {P : Program} {E : Env} {op : BinOp} {t : TypeId} {x y : AV} {vx vy : Value} {ox oy : Operand} {r : AV} (hx : VR E x vx) (hy : VR E y vy) (h : eqB P op t x y = some r) :
    ∃ z, (do eqGuard op t ox oy vx vy; binOp op t vx vy : Sem Value).run P E.w = .ok z E.w ∧ VR E r z := by
  have key : ∀ {n m : Nat} {cs ds : List AV} {b : Bool}, VR E (.agg n cs) vx → VR E (.agg m ds) vy → eqS P t n m cs ds = some b →
      ∃ xs ys, vx = .agg xs ∧ vy = .agg ys ∧ P.eqGuardType P.depth t = false ∧ (Op.equalIn 10000 t (.agg xs) (.agg ys)).run P E.w = .ok b E.w := by
    intro n m cs ds b hx hy h
    obtain ⟨xs, rfl, _⟩ := CR.agg_inv hx
    obtain ⟨ys, rfl, _⟩ := CR.agg_inv hy
    unfold eqS at h
    split at h
    · rename_i fs hu
      split at h
      · rename_i hc
        have hfs : P.underlying t = some (.struct (P.fieldsOf t)) := by unfold Program.fieldsOf; rw [hu]
        have hfe : P.fieldsOf t = fs := by unfold Program.fieldsOf; rw [hu]
        refine ⟨xs, ys, rfl, rfl, hc.2, ?_⟩
        rw [run_equalIn_struct E.w 9999 t xs ys hfs hc.1, hfe]
        exact eqF_run hx hy fs.toList b h 9998
      · cases h
    · cases h
  unfold eqB at h
  split at h
  · obtain ⟨b, hb, rfl⟩ := Option.map_eq_some_iff.1 h
    obtain ⟨xs, ys, rfl, rfl, hg, hr⟩ := key hx hy hb
    exact ⟨.bool b, by simp only [Sem.run_bind, run_eqGuard_agg E.w _ t _ _ xs ys hg, Result.andThen_ok, run_eql_struct, hr], VR.v rfl⟩
  · obtain ⟨b, hb, rfl⟩ := Option.map_eq_some_iff.1 h
    obtain ⟨xs, ys, rfl, rfl, hg, hr⟩ := key hx hy hb
    exact ⟨.bool (!b), by simp only [Sem.run_bind, run_eqGuard_agg E.w _ t _ _ xs ys hg, Result.andThen_ok, run_neq_struct, hr], VR.v rfl⟩
  · split at h
    · rename_i e xs hu hq
      injection h with h
      subst h
      obtain ⟨A, c, sz, f, rfl, _, _, _, ha, _⟩ := (asSl_CR hx hq).sl_inv
      obtain ⟨rfl, _⟩ := CR.v_inv hy
      refine ⟨.bool A.isNone, by simp [eqGuard, binOp, slice_eq_run hu], ?_⟩
      cases xs with
      | nil => exact ⟨_, rfl⟩
      | cons x0 xs =>
        obtain ⟨ad, rfl, _⟩ := ha (by simp)
        exact VR.v rfl
    · cases h
  · split at h
    · rename_i e xs hu hq
      injection h with h
      subst h
      obtain ⟨A, c, sz, f, rfl, _, _, _, ha, _⟩ := (asSl_CR hx hq).sl_inv
      obtain ⟨rfl, _⟩ := CR.v_inv hy
      refine ⟨.bool (!A.isNone), by simp [eqGuard, binOp, slice_eq_run hu], ?_⟩
      cases xs with
      | nil => exact ⟨_, rfl⟩
      | cons x0 xs =>
        obtain ⟨ad, rfl, _⟩ := ha (by simp)
        exact VR.v rfl
    · cases h
  · cases h
/-- s[:0:0] -/
def cut0 (P : Program) (t : TypeId) (q hi mx : AV) : Option AV :=
  match P.underlying t, asSl q, hi, mx with
  | some (.slice e), some _, .v (.int _ 0), .v (.int _ 0) => (sizeT P e).map fun _ => .e0
  | _, _, _, _ => none
theorem cut0_sound {P : Program} {E : Env} {t : TypeId} {q h m r : AV} {x y z : Value} (hx : VR E q x) (hy : VR E h y) (hz : VR E m z) (hc : cut0 P t q h m = some r) :
    ∃ v, (Instr.sliceAt t x none (some y) (some z)).run P E.w = .ok v E.w ∧ VR E r v := by
  unfold cut0 at hc
  split at hc
  · rename_i e xs k k' hu hq
    obtain ⟨sz, hs, rfl⟩ := Option.map_eq_some_iff.1 hc
    obtain ⟨A, c, sz', f, rfl, _⟩ := (asSl_CR hx hq).sl_inv
    obtain ⟨rfl, _⟩ := CR.v_inv hy
    obtain ⟨rfl, _⟩ := CR.v_inv hz
    refine ⟨.slice A 0 0, ?_, A, rfl⟩
    have hb : ∀ (k : IntKind) (y : Nat) (code : BoundsCode), (Instr.sliceBound (.int k 0) y code).run P E.w = .ok 0 E.w := fun k y code => bound_run 0 k y code (by omega) (by omega)
    simp [Instr.sliceAt, Instr.slice, Instr.sliceBounds, run_underlying hu, hb, run_sizeOf hs]
  · cases hc
/-- A new map. -/
theorem Sim.newmap {B w0 tm E a} (S : Sim B w0 tm E a) (id : Rid) (hid : ¬ E.U id) (k e : TypeId) (b : Bool) :
    ∃ E', E'.w = E.w.alloc (.map #[] 0) ∧ Sim B w0 tm E' a ∧ VR E' (.mp id) (.map (some E.w.heap.size)) ∧ E'.rs = fup E.rs id (.map k e b fun _ => none) ∧ (∀ i, E'.U i → E.U i ∨ i = id) := by
  have hL : Le E { E with gs := fup E.gs id E.w.heap.size, rs := fup E.rs id (.map k e b fun _ => none), U := fun i => E.U i ∨ i = id, w := E.w.alloc (.map #[] 0) } := by
    refine ⟨fun a x h => ⟨?_, h.2⟩, fun i h => .inl h, fun j hj => fup_ne _ _ (fun ej => hid (ej ▸ hj)), fun t ht s' e' sz b h => .inl ⟨?_, rfl⟩⟩
    · exact (((Below.refl E.w.heap.size E.w).alloc (Nat.le_refl _) _).cell h.lt).trans h.1
    · have hne : t ≠ id := fun et => hid (et ▸ ht)
      simpa [fup, hne] using h
  refine ⟨{ E with gs := fup E.gs id E.w.heap.size, rs := fup E.rs id (.map k e b fun _ => none), U := fun i => E.U i ∨ i = id, w := E.w.alloc (.map #[] 0) }, rfl, S.upd (fun _ _ => rfl) hL (S.below.alloc S.hB _) (by simp; have := S.hB; omega) (fun g hg => S.fresh g (by simp at hg; omega)) (fun j => j = id) ?_ (fun j hj => ⟨fup_ne _ _ hj, fun hd => ⟨rfl, fun k hk => ⟨?_, rfl⟩⟩⟩) (fun j hj _ => .inr (by rw [hj])) ?_, ⟨.inr rfl, by simp [fup_self]⟩, rfl, fun i h => h⟩
  · rintro j rfl
    unfold RF
    simp only [fup_self]
    exact ⟨#[], 0, S.hB, heap_alloc_new E.w _, S.fresh _ (Nat.le_refl _), ⟨fun x hx => by simp at hx, by simp, fun _ _ => rfl⟩⟩
  · exact Below.heap_alloc _ _ _ (blk_ge S hk).2
  · rintro i j k hij rfl hi hj
    simp only [blk, fup_self] at hi
    injection hi with hi
    subst hi
    have : blk E j = some E.w.heap.size := by
      unfold blk at hj ⊢
      simp only [fup_ne _ _ (Ne.symm hij)] at hj
      cases hrs : E.rs j with
      | dead => rw [hrs] at hj; cases hj
      | var _ cs => rw [hrs] at hj; exact hj
      | tok s e' sz => rw [hrs] at hj; exact hj
      | arr s e' sz rows => rw [hrs] at hj; exact hj
      | map kt et n f => rw [hrs] at hj; exact hj
    have := (blk_ge S this).2
    omega
def zeroV (P : Program) (e : TypeId) : Option Value := (P.info? e).bind (·.zero)
def setBlk (w : World) (b : Nat) (o : Obj) : World := { w with heap := w.heap.setIfInBounds b o }
def mapTy (P : Program) (t : TypeId) : Option (TypeId × TypeId × Bool) := match P.underlying t with
  | some (.map k e) => match P.underlying k, zeroV P e with
    | some .string, some (.int .i64 0) => some (k, e, false)
    | some .string, some (.bool false) => some (k, e, true)
    | _, _ => none
  | _ => none
theorem mapTy_ok {P : Program} {t k e : TypeId} {b : Bool} (h : mapTy P t = some (k, e, b)) : P.underlying t = some (.map k e) ∧ P.underlying k = some .string ∧ zeroV P e = some (mkV b 0) := by
  unfold mapTy at h
  split at h
  · rename_i k' e' hu
    split at h
    · rename_i h1 h3
      injection h with h; injection h with h4 h; injection h with h5 h6
      subst h4 h5 h6
      exact ⟨hu, h1, h3⟩
    · rename_i h1 h3
      injection h with h; injection h with h4 h; injection h with h5 h6
      subst h4 h5 h6
      exact ⟨hu, h1, h3⟩
    · cases h
  · cases h
def look (b : Bool) (x : Option Int) : AV := match b with
  | true => .v (.bool (x.getD 0 != 0))
  | false => .v (.int .i64 (x.getD 0))
theorem look_eq (b : Bool) (x : Option Int) : look b x = .v (mkV b (x.getD 0)) := by cases b <;> rfl
theorem mkV_ok (b : Bool) (n : Int) : okV (mkV b n) = true := by cases b <;> rfl
def lookA (P : Program) (rs : Rid → Res) (t : TypeId) (q i : AV) (ok : Bool) : Option Eff :=
  match q, i with
  | .mp r, .v (.string s) => match rs r, mapTy P t with
    | .map k e b f, some (k', e', b') => if k = k' ∧ e = e' ∧ b = b' then some ⟨if ok = true then .tup [look b (f s), .v (.bool (f s).isSome)] else look b (f s), [], [r]⟩ else none
    | _, _ => none
  | _, _ => none
theorem find_map {es : Array MapEntry} {b : Bool} {f : ByteArray → Option Int} (h : MapOK es b f) (s : ByteArray) :
    (f s = none ∧ Instr.findNow .string (.string s) es.toList 0 = some none ∧ ∀ x ∈ es.toList, x.key ≠ .string s) ∨
    ∃ n j e, f s = some n ∧ Instr.findNow .string (.string s) es.toList 0 = some (some (j, mkV b n)) ∧ es[j]? = some e ∧ e.key = .string s := by
  rcases findNow_spec (d := .string) (k := .string s) trivial es.toList 0 (fun x hx => by obtain ⟨s', n, h1, _⟩ := h.all x hx; rw [h1]; trivial) with ⟨h1, h2⟩ | ⟨j, e, h1, h2, h3⟩
  · exact .inl ⟨h.none s h2, h1, h2⟩
  · obtain ⟨s', n, h4, h5, h6⟩ := h.all e (List.mem_of_getElem? h2)
    rw [h3] at h4
    injection h4 with h4
    subst h4
    exact .inr ⟨n, j, e, h5, by rw [h1, h6, Nat.zero_add], by rw [← Array.getElem?_toList]; exact h2, h3⟩
theorem run_zero {P : Program} {w : World} {e : TypeId} {z : Value} (h : zeroV P e = some z) : (zeroValue e).run P w = .ok z w := by
  unfold zeroV at h
  obtain ⟨i, hi, h⟩ := Option.bind_eq_some_iff.1 h
  simp [zeroValue, typeInfo, hi, h]
theorem run_checkKey {P : Program} {w : World} {k : TypeId} (h : P.underlying k = some .string) (b : Bool) (s : ByteArray) : (Instr.checkKey b 10000 k (.string s)).run P w = .ok () w := by
  show (Instr.checkKey b (9999 + 1) k (.string s)).run P w = _
  unfold Instr.checkKey
  simp [run_underlying h]
theorem lookA_sound {P : Program} {B w0 tm E a} (S : Sim B w0 tm E a) {t : TypeId} {q i : AV} {ok : Bool} {x y : Value} (hx : VR E q x) (hy : VR E i y) {e : Eff} (h : lookA P E.rs t q i ok = some e) :
    ∃ z, (Instr.lookup t x y ok).run P E.w = .ok z E.w ∧ VR E e.val z ∧ e.wr = [] := by
  unfold lookA at h
  split at h
  · rename_i r s
    obtain ⟨hU, rfl⟩ := hx
    obtain ⟨rfl, _⟩ := CR.v_inv hy
    split at h
    · rename_i k et b f k' et' b' hrs ht
      split at h
      · rename_i hc
        obtain ⟨rfl, rfl, rfl⟩ := hc
        injection h with h
        subst h
        obtain ⟨h1, h2, h3⟩ := mapTy_ok ht
        have hr := S.res r
        unfold RF at hr
        rw [hrs] at hr
        obtain ⟨es, clock, _, hh, _, hm⟩ := hr
        have hobj : (getObj (E.gs r)).run P E.w = .ok (.map es clock) E.w := MapKept.run_getObj_map hh
        have hval : ∀ n : Option Int, VR E (if ok = true then AV.tup [look b n, .v (.bool n.isSome)] else look b n) (if ok = true then .tuple #[mkV b (n.getD 0), .bool n.isSome] else mkV b (n.getD 0)) := fun n => by
          cases ok
          · simp only [Bool.false_eq_true, if_false]
            rw [look_eq]; exact VR.v (mkV_ok _ _)
          · simp only [if_true]
            refine ⟨_, rfl, rfl, fun i q hi => ?_⟩
            match i, hi with
            | 0, hi => simp at hi; subst hi; rw [look_eq]; exact .v (mkV_ok _ _)
            | 1, hi => simp at hi; subst hi; exact .v rfl
        refine ⟨_, ?_, hval (f s), rfl⟩
        rcases find_map hm s with ⟨h4, h5, _⟩ | ⟨n, j, e, h4, h5, _⟩
        · have hf := run_findKey (P := P) (w := E.w) h2 h5
          simp only [Instr.lookup, Sem.run_bind, run_underlying h1, Result.andThen_ok, hobj, run_checkKey h2, hf, run_zero h3, Sem.run_pure, h4]
          cases ok <;> simp
        · have hf := run_findKey (P := P) (w := E.w) h2 h5
          simp only [Instr.lookup, Sem.run_bind, run_underlying h1, Result.andThen_ok, hobj, run_checkKey h2, hf, Sem.run_pure, h4]
          cases ok <;> simp
      · cases h
    · cases h
  · cases h
def unMk (b : Bool) : AV → Option Int
  | .v (.int .i64 n) => if b = false then some n else none
  | .v (.bool c) => if b = true then some (if c = true then 1 else 0) else none
  | _ => none
theorem unMk_ok {b : Bool} {q : AV} {n : Int} (h : unMk b q = some n) : q = .v (mkV b n) := by
  unfold unMk at h
  split at h
  · split at h
    · rename_i hb; injection h with h; subst hb h; rfl
    · cases h
  · rename_i c
    split at h
    · rename_i hb; injection h with h; subst hb h; cases c <;> rfl
    · cases h
  · cases h
def updA (P : Program) (rs : Rid → Res) (t : TypeId) (q i v : AV) : Option Eff :=
  match q, i with
  | .mp r, .v (.string s) => match rs r, mapTy P t with
    | .map k e b f, some (k', e', b') => if k = k' ∧ e = e' ∧ b = b' then (unMk b v).map fun n => ⟨.und, [(r, .map k e b fun s' => if s' = s then some n else f s')], [r]⟩ else none
    | _, _ => none
  | _, _ => none
theorem Sim.setmap {B w0 tm E a} (S : Sim B w0 tm E a) (id : Rid) {k e : TypeId} {b : Bool} {f g : ByteArray → Option Int} (hrs : E.rs id = .map k e b f) (es : Array MapEntry) (clock : Nat) (hm : MapOK es b g) :
    Sim B w0 tm { E with rs := fup E.rs id (.map k e b g), w := setBlk E.w (E.gs id) (.map es clock) } a := by
  have hr := S.res id
  unfold RF at hr
  rw [hrs] at hr
  obtain ⟨es0, clock0, h1, h2, h3, h4⟩ := hr
  have hlt : E.gs id < E.w.heap.size := (Array.getElem?_eq_some_iff.1 h2).1
  have hne : ∀ k, k ≠ E.gs id → (setBlk E.w (E.gs id) (.map es clock)).heap[k]? = E.w.heap[k]? := fun k hk => by
    simp only [setBlk]
    rw [Array.getElem?_setIfInBounds_ne (Ne.symm hk)]
  have hsz : (setBlk E.w (E.gs id) (.map es clock)).heap.size = E.w.heap.size := by simp [setBlk]
  have hL : Le E { E with rs := fup E.rs id (.map k e b g), w := setBlk E.w (E.gs id) (.map es clock) } := by
    refine ⟨fun c x h => ⟨?_, h.2⟩, fun i h => h, fun j hj => rfl, fun t ht s' e' sz b' h => .inl ⟨?_, rfl⟩⟩
    · have hb : c.block ≠ E.gs id := fun eb => by have := h.2; rw [eb, h3] at this; omega
      exact (World.cell?_of_block (hne _ hb)).trans h.1
    · by_cases hti : t = id
      · subst hti; simp [fup_self, ver] at h
      · simpa [fup, hti] using h
  refine S.upd (fun _ _ => rfl) hL ?_ (by simp only [hsz]; exact S.hB) (fun g hg => S.fresh g (by simpa only [hsz] using hg)) (fun j => j = id) ?_ (fun j hj => ⟨fup_ne _ _ hj, fun hd => ⟨rfl, fun k hk => ⟨?_, rfl⟩⟩⟩) (fun j hj _ => ?_) ?_
  · refine S.below.trans ⟨rfl, rfl, rfl, by rw [hsz]; exact Nat.le_refl _, fun k hk => hne k (by omega)⟩
  · rintro j rfl
    unfold RF
    simp only [fup_self]
    exact ⟨es, clock, h1, by simp [setBlk, hlt], h3, hm⟩
  · refine hne k (fun ek => ?_)
    exact S.apart j id k hj hk (by unfold blk; rw [hrs, ek])
  · subst hj; exact S.used _ (by rw [hrs]; simp)
  · rintro i j k' hij rfl hi hj
    simp only [blk, fup_self] at hi
    have hj' : blk E j = some k' := by
      unfold blk at hj ⊢
      simp only [fup_ne _ _ (Ne.symm hij)] at hj
      exact hj
    exact S.apart i j k' hij (by unfold blk; rw [hrs]; exact hi) hj'
theorem map_upd {es : Array MapEntry} {b : Bool} {f : ByteArray → Option Int} (h : MapOK es b f) (s : ByteArray) (n : Int) :
    (∀ (c : Nat), Instr.findNow .string (.string s) es.toList 0 = some none → MapOK (es.push { key := .string s, val := mkV b n, born := c }) b fun s' => if s' = s then some n else f s') ∧
    (∀ (j : Nat) (e : MapEntry), es[j]? = some e → e.key = .string s → MapOK (es.modify j fun e => { e with key := .string s, val := mkV b n }) b fun s' => if s' = s then some n else f s') := by
  refine ⟨fun c hn => ?_, fun j e hj he => ?_⟩
  · have hno : ∀ x ∈ es.toList, x.key ≠ .string s := by
      rcases find_map h s with ⟨_, _, h1⟩ | ⟨n', j, e, _, h1, _⟩
      · exact h1
      · rw [hn] at h1; cases h1
    refine ⟨fun x hx => ?_, ?_, fun s' hs' => ?_⟩
    · simp only [Array.toList_push, List.mem_append, List.mem_singleton] at hx
      rcases hx with hx | rfl
      · obtain ⟨s', n', h1, h2, h3⟩ := h.all x hx
        refine ⟨s', n', h1, ?_, h3⟩
        have hne : s' ≠ s := fun e => hno x hx (by rw [h1, e])
        simp only [if_neg hne]; exact h2
      · exact ⟨s, n, rfl, by simp, rfl⟩
    · simp only [Array.toList_push, List.map_append, List.map_cons, List.map_nil]
      refine List.nodup_append.2 ⟨h.nodup, by simp, ?_⟩
      intro k hk k' hk'
      simp only [List.mem_singleton] at hk'
      subst hk'
      obtain ⟨x, hx, rfl⟩ := List.mem_map.1 hk
      exact hno x hx
    · have hne : s' ≠ s := fun e => hs' { key := .string s, val := mkV b n, born := c } (by simp) (by rw [e])
      simp only [if_neg hne]
      exact h.none s' fun x hx => hs' x (by simp [Array.mem_toList_iff.1 hx])
  · have hkeys : (es.modify j fun e => { e with key := .string s, val := mkV b n }).toList.map (·.key) = es.toList.map (·.key) :=
      modify_keys j _ fun e' he' => by rw [hj] at he'; injection he' with he'; rw [← he', he]
    have hget : ∀ (i : Nat) (x : MapEntry), (es.modify j fun e => { e with key := .string s, val := mkV b n }).toList[i]? = some x → (i = j ∧ x.key = .string s ∧ x.val = mkV b n) ∨ (i ≠ j ∧ es.toList[i]? = some x) := fun i x hi => by
      rw [Array.getElem?_toList, Array.getElem?_modify] at hi
      by_cases hij : j = i
      · subst hij
        simp [hj] at hi
        subst hi
        exact .inl ⟨rfl, rfl, rfl⟩
      · rw [if_neg hij] at hi
        exact .inr ⟨Ne.symm hij, by rw [Array.getElem?_toList]; exact hi⟩
    refine ⟨fun x hx => ?_, by rw [hkeys]; exact h.nodup, fun s' hs' => ?_⟩
    · obtain ⟨i, hi⟩ := List.getElem?_of_mem hx
      rcases hget i x hi with ⟨_, h1, h2⟩ | ⟨hne, h1⟩
      · exact ⟨s, n, h1, by simp, h2⟩
      · obtain ⟨s', n', h2, h3, h4⟩ := h.all x (List.mem_of_getElem? h1)
        refine ⟨s', n', h2, ?_, h4⟩
        have hne' : s' ≠ s := fun e' => by
          subst e'
          have hnd := h.nodup
          have e1 : (es.toList.map (·.key))[i]? = some (.string s') := by rw [List.getElem?_map, h1]; simp [h2]
          have e2 : (es.toList.map (·.key))[j]? = some (.string s') := by rw [List.getElem?_map, Array.getElem?_toList, hj]; simp [he]
          exact hne (List.getElem?_inj (by have := (List.getElem?_eq_some_iff.1 e1).1; exact this) hnd |>.1 (e1.trans e2.symm))
        simp only [if_neg hne']; exact h3
    · have hkm : (Value.string s') ∉ es.toList.map (·.key) := fun hm => by
        rw [← hkeys] at hm
        obtain ⟨x, hx, e⟩ := List.mem_map.1 hm
        exact hs' x hx e
      have hne : s' ≠ s := fun e' => hkm (List.mem_map.2 ⟨e, by rw [← Array.getElem?_toList] at hj; exact List.mem_of_getElem? hj, by rw [he, e']⟩)
      simp only [if_neg hne]
      exact h.none s' fun x hx e' => hkm (List.mem_map.2 ⟨x, hx, e'⟩)
theorem updA_sound {P : Program} {B w0 tm E a} (S : Sim B w0 tm E a) {t : TypeId} {q i v : AV} {x y z : Value} (hx : VR E q x) (hy : VR E i y) (hz : VR E v z) {e : Eff} (h : updA P E.rs t q i v = some e) :
    ∃ E', (Instr.mapUpdate t x y z).run P E.w = .ok () E'.w ∧ Sim B w0 tm E' a ∧ e.val = .und ∧ E'.rs = wrs E.rs e.wr ∧ E'.U = E.U := by
  unfold updA at h
  split at h
  · rename_i r s
    obtain ⟨hU, rfl⟩ := hx
    obtain ⟨rfl, _⟩ := CR.v_inv hy
    split at h
    · rename_i k et b f k' et' b' hrs ht
      split at h
      · rename_i hc
        obtain ⟨rfl, rfl, rfl⟩ := hc
        obtain ⟨n, hn, rfl⟩ := Option.map_eq_some_iff.1 h
        have := unMk_ok hn
        subst this
        obtain ⟨rfl, _⟩ := CR.v_inv hz
        obtain ⟨h1, h2, h3⟩ := mapTy_ok ht
        have hr := S.res r
        unfold RF at hr
        rw [hrs] at hr
        obtain ⟨es, clock, _, hh, _, hm⟩ := hr
        have hobj : (getObj (E.gs r)).run P E.w = .ok (.map es clock) E.w := MapKept.run_getObj_map hh
        rcases find_map hm s with ⟨h4, h5, _⟩ | ⟨n', j, e, h4, h5, h6, h7⟩
        · have hf := run_findKey (P := P) (w := E.w) h2 h5
          refine ⟨_, ?_, S.setmap r hrs _ (clock + 1) ((map_upd hm s n).1 clock h5), rfl, rfl, rfl⟩
          simp only [Instr.mapUpdate, Sem.run_bind, run_underlying h1, Result.andThen_ok, hobj, run_checkKey h2, hf]
          exact MapKept.run_setObj_map _ hh
        · have hf := run_findKey (P := P) (w := E.w) h2 h5
          refine ⟨_, ?_, S.setmap r hrs _ clock ((map_upd hm s n).2 j e h6 h7), rfl, rfl, rfl⟩
          have hks : (Instr.keyThatStays (((es[j]?).map (·.key)).getD (.string s)) (.string s)).run P E.w = .ok (.string s) E.w := by
            rw [h6]
            simp only [Option.map_some, Option.getD_some, h7]
            unfold Instr.keyThatStays
            have : Instr.sameBits 10000 (.string s) (.string s) = true := by unfold Instr.sameBits; exact (bytes_beq s s).2 rfl
            rw [if_pos this]; rfl
          simp only [Instr.mapUpdate, Sem.run_bind, run_underlying h1, Result.andThen_ok, hobj, run_checkKey h2, hf, hks]
          exact MapKept.run_setObj_map _ hh
      · cases h
    · cases h
  · cases h
end Go.FE
