/- The multiset operations count rows. Rows with their keys, in the order of the keys; those with equal keys stay in their order. The document's groups: stretches of rows with equal keys. -/
import Derived.Test.YtmblejfjbnoodaaGreatDoorN19
import Derived.Test.YtmblejfjbnoodaaGreatDoorN23
set_option linter.unusedVariables false
set_option linter.unusedSimpArgs false
namespace Go.FE
open Go.Proofs
theorem upd_key (f : MF) (r q : Row) (n : Int) : upd f (keyB r) n (keyB q) = if r = q then some n else f (keyB q) := by
  unfold upd
  by_cases h : r = q
  · rw [if_pos h, if_pos (by rw [h])]
  · rw [if_neg h, if_neg (fun e => h (keyB_inj e).symm)]
theorem cntF_key (l : List Row) (q : Row) : (cntF l (keyB q)).getD 0 = (cntR l q : Int) := by
  induction l using snoc_ind with
  | h0 => rfl
  | h1 l r ih =>
    rw [cntF_snoc, cntR_snoc, ih]
    by_cases h : r = q
    · subst h; rw [if_pos rfl, if_pos rfl]; omega
    · rw [if_neg h, if_neg (fun e => h (keyB_inj e).symm)]; omega
structure SplI (a b : List Row) (q : Row) : Prop where
  f : ((splR a b).f (keyB q)).getD 0 = (cntR b q : Int) - (min (cntR a q) (cntR b q) : Nat)
  x : cntR (splR a b).x q = min (cntR a q) (cntR b q)
  y : cntR (splR a b).y q = cntR a q - cntR b q
theorem splI (b a : List Row) (q : Row) : SplI a b q := by
  induction a using snoc_ind with
  | h0 => exact ⟨by show (cntF b (keyB q)).getD 0 = _; rw [cntF_key]; simp [cntR], by simp [splR, cntR], by simp [splR, cntR]⟩
  | h1 a r ih =>
    obtain ⟨hf, hx, hy⟩ := ih
    have hs := splR_snoc a b r
    rw [splStep] at hs
    by_cases h : r = q
    · subst h
      by_cases hc : ((splR a b).f (keyB r)).getD 0 > 0
      · rw [if_pos hc] at hs
        refine ⟨?_, ?_, ?_⟩
        · rw [hs]; dsimp only; rw [upd_key, if_pos rfl, Option.getD_some, cntR_snoc, if_pos rfl]; omega
        · rw [hs]; dsimp only; rw [cntR_snoc, cntR_snoc, if_pos rfl, hx]; omega
        · rw [hs]; dsimp only; rw [cntR_snoc, if_pos rfl, hy]; omega
      · rw [if_neg hc] at hs
        refine ⟨?_, ?_, ?_⟩
        · rw [hs]; dsimp only; rw [cntR_snoc, if_pos rfl]; omega
        · rw [hs]; dsimp only; rw [cntR_snoc, if_pos rfl, hx]; omega
        · rw [hs]; dsimp only; rw [cntR_snoc, cntR_snoc, if_pos rfl, hy]; omega
    · have e1 : cntR (a ++ [r]) q = cntR a q := by rw [cntR_snoc, if_neg h]; rfl
      by_cases hc : ((splR a b).f (keyB r)).getD 0 > 0
      · rw [if_pos hc] at hs
        refine ⟨?_, ?_, ?_⟩
        · rw [hs, e1]; dsimp only; rw [upd_key, if_neg h]; exact hf
        · rw [hs, e1]; dsimp only; rw [cntR_snoc, if_neg h, hx]; rfl
        · rw [hs, e1]; exact hy
      · rw [if_neg hc] at hs
        refine ⟨?_, ?_, ?_⟩
        · rw [hs, e1]; exact hf
        · rw [hs, e1]; exact hx
        · rw [hs, e1]; dsimp only; rw [cntR_snoc, if_neg h, hy]; rfl
theorem cnt_rep (n : Nat) (r q : Row) : cntR (List.replicate n r) q = if r = q then n else 0 := by
  induction n with
  | zero => simp [cntR]
  | succ n ih =>
    rw [List.replicate_succ, cntR_cons, ih]
    by_cases h : r = q <;> simp [h]
theorem cnt_fm (f : Row → Nat) (q : Row) : ∀ l : List Row, l.Nodup → cntR (l.flatMap fun r => List.replicate (f r) r) q = if q ∈ l then f q else 0
  | [], _ => by simp [cntR]
  | r :: l, h => by
    rw [List.nodup_cons] at h
    rw [List.flatMap_cons, cntR_append, cnt_rep, cnt_fm f q l h.2]
    by_cases h1 : r = q
    · subst h1; simp [h.1]
    · simp [h1, Ne.symm h1]
theorem exS_cnt (a b : List Row) (q : Row) : cntR (exS a b) q = cntR a q - cntR b q := by
  unfold exS
  rw [cnt_fm _ _ _ (ss_nd (dd_ss a))]
  split
  · rfl
  · rename_i h
    rw [dd_mem] at h
    rw [cntR_zero.2 h]; omega
theorem fm_sd {f : Row → Nat} : ∀ {l : List Row}, Ss l → Sd (l.flatMap fun r => List.replicate (f r) r)
  | [], _ => List.Pairwise.nil
  | r :: l, h => by
    rw [List.flatMap_cons]
    obtain ⟨h1, h2⟩ := List.pairwise_cons.1 h
    refine List.pairwise_append.2 ⟨?_, fm_sd h2, fun x hx y hy => ?_⟩
    · rw [List.pairwise_replicate]; exact .inr (by rw [preR.refl]; exact Int.le_refl _)
    · obtain ⟨q, hq, hy⟩ := List.mem_flatMap.1 hy
      rw [(List.mem_replicate.1 hx).2, (List.mem_replicate.1 hy).2]
      exact Int.le_of_lt (h1 q hq)
/-- The code's difference and intersection are the document's. -/
theorem ex_law (a b : List Row) : srt (splR a b).y = exS a b :=
  (srt_of (fm_sd (dd_ss a)) (perm_of_cnt fun q => by show cntR (exS a b) q = _; rw [exS_cnt, (splI b a q).y])).symm
structure DstI (a : List Row) (q : Row) : Prop where
  f : ((dstR a).f (keyB q)).getD 0 = if q ∈ a then 1 else 0
  x : cntR (dstR a).x q = if q ∈ a then 1 else 0
end Go.FE
namespace Go.FE
abbrev Kd := Row × Row
def fk (k : Row) (l : List Kd) : List Kd := l.filter fun x => eqR x.1 k
theorem fk_app (k : Row) (a b : List Kd) : fk k (a ++ b) = fk k a ++ fk k b := List.filter_append ..
theorem fk_nil (k : Row) : fk k [] = [] := rfl
theorem fk_cons (k : Row) (x : Kd) (l : List Kd) : fk k (x :: l) = if x.1 = k then x :: fk k l else fk k l := by
  unfold fk
  rw [List.filter_cons]
  by_cases h : x.1 = k
  · rw [if_pos (eqR_iff.2 h), if_pos h]
  · rw [if_neg (fun h' => h (eqR_iff.1 h')), if_neg h]
theorem fk_one (k : Row) (x : Kd) : fk k [x] = if x.1 = k then [x] else [] := by rw [fk_cons, fk_nil]
theorem fk_mem {k : Row} {x : Kd} {l : List Kd} : x ∈ fk k l ↔ x ∈ l ∧ x.1 = k := by unfold fk; rw [List.mem_filter, eqR_iff]
def SdK (l : List Kd) : Prop := l.Pairwise fun x y => cmpR x.1 y.1 ≤ 0
structure MKX where
  i : Nat
  j : Nat
  o : List Kd
/-- Two ordered lists, partly merged. -/
structure MgK (a b : List Kd) (x : MKX) : Prop where
  hi : x.i ≤ a.length
  hj : x.j ≤ b.length
  sd : SdK x.o
  la : ∀ r ∈ x.o, ∀ s ∈ a.drop x.i, cmpR r.1 s.1 ≤ 0
  lb : ∀ r ∈ x.o, ∀ s ∈ b.drop x.j, cmpR r.1 s.1 ≤ 0
  st : ∀ s ∈ b.take x.j, ∀ r ∈ a.drop x.i, cmpR s.1 r.1 < 0
  fl : ∀ k, fk k x.o = fk k (a.take x.i) ++ fk k (b.take x.j)
  ln : x.o.length = x.i + x.j
theorem MgK.start (a b : List Kd) : MgK a b ⟨0, 0, []⟩ := ⟨Nat.zero_le _, Nat.zero_le _, .nil, fun r h => (by cases h), fun r h => (by cases h), fun s h => (by simp at h), fun k => by simp [fk_nil], rfl⟩
theorem sdK_snoc {o : List Kd} {r : Kd} (h : SdK o) (hr : ∀ s ∈ o, cmpR s.1 r.1 ≤ 0) : SdK (o ++ [r]) := by
  unfold SdK
  rw [List.pairwise_append]
  exact ⟨h, List.pairwise_singleton _ _, fun x hx y hy => by rw [List.mem_singleton.1 hy]; exact hr x hx⟩
theorem sdK_drop {a : List Kd} (h : SdK a) {i : Nat} (hi : i < a.length) : ∀ s ∈ a.drop (i + 1), cmpR a[i].1 s.1 ≤ 0 := by
  have h1 : (a.drop i).Pairwise fun x y => cmpR x.1 y.1 ≤ 0 := List.Pairwise.sublist (List.drop_sublist i a) h
  rw [List.drop_eq_getElem_cons hi, List.pairwise_cons] at h1
  exact h1.1
theorem MgK.left {a b : List Kd} {x : MKX} (h : MgK a b x) (ha : SdK a) (hb : SdK b) (hi : x.i < a.length) (hj : x.j < b.length) (hc : ¬ cmpR b[x.j].1 a[x.i].1 < 0) : MgK a b ⟨x.i + 1, x.j, x.o ++ [a[x.i]]⟩ := by
  have hm : a[x.i] ∈ a.drop x.i := by rw [List.drop_eq_getElem_cons hi]; exact List.mem_cons_self
  have hsub : ∀ s, s ∈ a.drop (x.i + 1) → s ∈ a.drop x.i := fun s hs => by rw [List.drop_eq_getElem_cons hi]; exact List.mem_cons_of_mem _ hs
  have hab : cmpR a[x.i].1 b[x.j].1 ≤ 0 := by have := preR.anti a[x.i].1 b[x.j].1; omega
  refine ⟨hi, h.hj, sdK_snoc h.sd (fun s hs => h.la s hs _ hm), fun r hr s hs => ?_, fun r hr s hs => ?_, fun s hs r hr => h.st s hs r (hsub r hr), fun k => ?_, by simp [h.ln]; omega⟩
  · rcases List.mem_append.1 hr with hr | hr
    · exact h.la r hr s (hsub s hs)
    · rw [List.mem_singleton.1 hr]; exact sdK_drop ha hi s hs
  · rcases List.mem_append.1 hr with hr | hr
    · exact h.lb r hr s hs
    · rw [List.mem_singleton.1 hr]
      have hs : s ∈ b.drop x.j := hs
      rw [List.drop_eq_getElem_cons hj] at hs
      rcases List.mem_cons.1 hs with rfl | hs
      · exact hab
      · exact preR.tr _ _ _ hab (sdK_drop hb hj s hs)
  · show fk k (x.o ++ [a[x.i]]) = fk k (a.take (x.i + 1)) ++ fk k (b.take x.j)
    rw [List.take_succ_eq_append_getElem hi, fk_app, fk_app, h.fl k, fk_one]
    by_cases hk : a[x.i].1 = k
    · have hbn : fk k (b.take x.j) = [] := by
        rw [List.eq_nil_iff_forall_not_mem]
        intro s hs
        obtain ⟨h1, h2⟩ := fk_mem.1 hs
        have := h.st s h1 _ hm
        rw [h2, hk, preR.refl] at this; omega
      rw [hbn]; simp
    · rw [if_neg hk]; simp
theorem MgK.right {a b : List Kd} {x : MKX} (h : MgK a b x) (ha : SdK a) (hb : SdK b) (hi : x.i < a.length) (hj : x.j < b.length) (hc : cmpR b[x.j].1 a[x.i].1 < 0) : MgK a b ⟨x.i, x.j + 1, x.o ++ [b[x.j]]⟩ := by
  have hm : b[x.j] ∈ b.drop x.j := by rw [List.drop_eq_getElem_cons hj]; exact List.mem_cons_self
  have hsub : ∀ s, s ∈ b.drop (x.j + 1) → s ∈ b.drop x.j := fun s hs => by rw [List.drop_eq_getElem_cons hj]; exact List.mem_cons_of_mem _ hs
  have hle : ∀ s ∈ a.drop x.i, cmpR b[x.j].1 s.1 < 0 := fun s hs => by
    rw [List.drop_eq_getElem_cons hi] at hs
    rcases List.mem_cons.1 hs with rfl | hs
    · exact hc
    · exact preR.tr1 hc (sdK_drop ha hi s hs)
  refine ⟨h.hi, hj, sdK_snoc h.sd (fun s hs => h.lb s hs _ hm), fun r hr s hs => ?_, fun r hr s hs => ?_, fun s hs r hr => ?_, fun k => ?_, by simp [h.ln]; omega⟩
  · rcases List.mem_append.1 hr with hr | hr
    · exact h.la r hr s hs
    · rw [List.mem_singleton.1 hr]; exact Int.le_of_lt (hle s hs)
  · rcases List.mem_append.1 hr with hr | hr
    · exact h.lb r hr s (hsub s hs)
    · rw [List.mem_singleton.1 hr]; exact sdK_drop hb hj s hs
  · have hs : s ∈ b.take (x.j + 1) := hs
    rw [List.take_succ_eq_append_getElem hj] at hs
    rcases List.mem_append.1 hs with hs | hs
    · exact h.st s hs r hr
    · rw [List.mem_singleton.1 hs]; exact hle r hr
  · show fk k (x.o ++ [b[x.j]]) = fk k (a.take x.i) ++ fk k (b.take (x.j + 1))
    rw [List.take_succ_eq_append_getElem hj, fk_app, fk_app, h.fl k, List.append_assoc]
theorem MgK.fin {a b : List Kd} {x : MKX} (h : MgK a b x) (ha : SdK a) (hb : SdK b) (he : a.length ≤ x.i ∨ b.length ≤ x.j) : SdK (x.o ++ a.drop x.i ++ b.drop x.j) ∧ ∀ k, fk k (x.o ++ a.drop x.i ++ b.drop x.j) = fk k a ++ fk k b := by
  have hda : SdK (a.drop x.i) := List.Pairwise.sublist (List.drop_sublist _ _) ha
  have hdb : SdK (b.drop x.j) := List.Pairwise.sublist (List.drop_sublist _ _) hb
  have ea : ∀ k, fk k a = fk k (a.take x.i) ++ fk k (a.drop x.i) := fun k => by rw [← fk_app, List.take_append_drop]
  have eb : ∀ k, fk k b = fk k (b.take x.j) ++ fk k (b.drop x.j) := fun k => by rw [← fk_app, List.take_append_drop]
  rcases he with he | he
  · have h0 : a.drop x.i = [] := List.drop_of_length_le he
    rw [h0, List.append_nil]
    refine ⟨List.pairwise_append.2 ⟨h.sd, hdb, fun r hr s hs => h.lb r hr s hs⟩, fun k => ?_⟩
    rw [fk_app, h.fl k, ea k, eb k, h0, fk_nil, List.append_nil, List.append_assoc]
  · have h0 : b.drop x.j = [] := List.drop_of_length_le he
    rw [h0, List.append_nil]
    refine ⟨List.pairwise_append.2 ⟨h.sd, hda, fun r hr s hs => h.la r hr s hs⟩, fun k => ?_⟩
    rw [fk_app, h.fl k, ea k, eb k, h0, fk_nil, List.append_nil]
    by_cases hn : fk k (a.drop x.i) = []
    · rw [hn]; simp
    · have hbn : fk k (b.take x.j) = [] := by
        rw [List.eq_nil_iff_forall_not_mem]
        intro s hs
        apply hn
        rw [List.eq_nil_iff_forall_not_mem]
        intro r hr
        obtain ⟨h1, h2⟩ := fk_mem.1 hs
        obtain ⟨h3, h4⟩ := fk_mem.1 hr
        have := h.st s h1 r h3
        rw [h2, h4, preR.refl] at this; omega
      rw [hbn]; simp
end Go.FE
namespace Go.FE
structure SegI (all : List Kd) (i : Nat) (ks : List Row) : Prop where
  nd : ks.Nodup
  me : ∀ k, k ∈ ks ↔ ∃ x ∈ all.take i, x.1 = k
  bd : ∀ x ∈ all.take i, ∀ y ∈ all.drop i, cmpR x.1 y.1 < 0
theorem SegI.start (all : List Kd) : SegI all 0 [] := ⟨List.nodup_nil, fun k => by simp, fun x hx => by simp at hx⟩
end Go.FE
