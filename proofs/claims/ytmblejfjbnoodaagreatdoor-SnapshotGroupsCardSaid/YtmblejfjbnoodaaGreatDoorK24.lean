/- The multiset operations count rows. Rows with their keys, in the order of the keys; those with equal keys stay in their order. The document's groups: stretches of rows with equal keys. -/
import Derived.Test.YtmblejfjbnoodaaGreatDoorK19
import Derived.Test.YtmblejfjbnoodaaGreatDoorK23
set_option linter.unusedVariables false
set_option linter.unusedSimpArgs false
namespace Go.FE
open Go.Proofs
theorem upd_key (f : MF) (r q : Row) (n : Int) : upd f (keyB r) n (keyB q) = if r = q then some n else f (keyB q) := by
  unfold upd
  by_cases h : r = q
  · rw [if_pos h, if_pos (by rw [h])]
  · rw [if_neg h, if_neg (fun e => h (keyB_inj e).symm)]
theorem cntF_key (l : List Row) (q : Row) : (cntF l (keyB q)).getD 0 = (cntR l q : Int) := by
  induction l using snoc_ind with
  | h0 => rfl
  | h1 l r ih =>
    rw [cntF_snoc, cntR_snoc, ih]
    by_cases h : r = q
    · subst h; rw [if_pos rfl, if_pos rfl]; omega
    · rw [if_neg h, if_neg (fun e => h (keyB_inj e).symm)]; omega
structure SplI (a b : List Row) (q : Row) : Prop where
  f : ((splR a b).f (keyB q)).getD 0 = (cntR b q : Int) - (min (cntR a q) (cntR b q) : Nat)
  x : cntR (splR a b).x q = min (cntR a q) (cntR b q)
  y : cntR (splR a b).y q = cntR a q - cntR b q
theorem splI (b a : List Row) (q : Row) : SplI a b q := by
  induction a using snoc_ind with
  | h0 => exact ⟨by show (cntF b (keyB q)).getD 0 = _; rw [cntF_key]; simp [cntR], by simp [splR, cntR], by simp [splR, cntR]⟩
  | h1 a r ih =>
    obtain ⟨hf, hx, hy⟩ := ih
    have hs := splR_snoc a b r
    rw [splStep] at hs
    by_cases h : r = q
    · subst h
      by_cases hc : ((splR a b).f (keyB r)).getD 0 > 0
      · rw [if_pos hc] at hs
        refine ⟨?_, ?_, ?_⟩
        · rw [hs]; dsimp only; rw [upd_key, if_pos rfl, Option.getD_some, cntR_snoc, if_pos rfl]; omega
        · rw [hs]; dsimp only; rw [cntR_snoc, cntR_snoc, if_pos rfl, hx]; omega
        · rw [hs]; dsimp only; rw [cntR_snoc, if_pos rfl, hy]; omega
      · rw [if_neg hc] at hs
        refine ⟨?_, ?_, ?_⟩
        · rw [hs]; dsimp only; rw [cntR_snoc, if_pos rfl]; omega
        · rw [hs]; dsimp only; rw [cntR_snoc, if_pos rfl, hx]; omega
        · rw [hs]; dsimp only; rw [cntR_snoc, cntR_snoc, if_pos rfl, hy]; omega
    · have e1 : cntR (a ++ [r]) q = cntR a q := by rw [cntR_snoc, if_neg h]; rfl
      by_cases hc : ((splR a b).f (keyB r)).getD 0 > 0
      · rw [if_pos hc] at hs
        refine ⟨?_, ?_, ?_⟩
        · rw [hs, e1]; dsimp only; rw [upd_key, if_neg h]; exact hf
        · rw [hs, e1]; dsimp only; rw [cntR_snoc, if_neg h, hx]; rfl
        · rw [hs, e1]; exact hy
      · rw [if_neg hc] at hs
        refine ⟨?_, ?_, ?_⟩
        · rw [hs, e1]; exact hf
        · rw [hs, e1]; exact hx
        · rw [hs, e1]; dsimp only; rw [cntR_snoc, if_neg h, hy]; rfl
theorem cnt_rep (n : Nat) (r q : Row) : cntR (List.replicate n r) q = if r = q then n else 0 := by
  induction n with
  | zero => simp [cntR]
  | succ n ih =>
    rw [List.replicate_succ, cntR_cons, ih]
    by_cases h : r = q <;> simp [h]
theorem cnt_fm (f : Row → Nat) (q : Row) : ∀ l : List Row, l.Nodup → cntR (l.flatMap fun r => List.replicate (f r) r) q = if q ∈ l then f q else 0
  | [], _ => by simp [cntR]
  | r :: l, h => by
    rw [List.nodup_cons] at h
    rw [List.flatMap_cons, cntR_append, cnt_rep, cnt_fm f q l h.2]
    by_cases h1 : r = q
    · subst h1; simp [h.1]
    · simp [h1, Ne.symm h1]
theorem exS_cnt (a b : List Row) (q : Row) : cntR (exS a b) q = cntR a q - cntR b q := by
  unfold exS
  rw [cnt_fm _ _ _ (ss_nd (dd_ss a))]
  split
  · rfl
  · rename_i h
    rw [dd_mem] at h
    rw [cntR_zero.2 h]; omega
theorem fm_sd {f : Row → Nat} : ∀ {l : List Row}, Ss l → Sd (l.flatMap fun r => List.replicate (f r) r)
  | [], _ => List.Pairwise.nil
  | r :: l, h => by
    rw [List.flatMap_cons]
    obtain ⟨h1, h2⟩ := List.pairwise_cons.1 h
    refine List.pairwise_append.2 ⟨?_, fm_sd h2, fun x hx y hy => ?_⟩
    · rw [List.pairwise_replicate]; exact .inr (by rw [preR.refl]; exact Int.le_refl _)
    · obtain ⟨q, hq, hy⟩ := List.mem_flatMap.1 hy
      rw [(List.mem_replicate.1 hx).2, (List.mem_replicate.1 hy).2]
      exact Int.le_of_lt (h1 q hq)
/-- The code's difference and intersection are the document's. -/
theorem ex_law (a b : List Row) : srt (splR a b).y = exS a b :=
  (srt_of (fm_sd (dd_ss a)) (perm_of_cnt fun q => by show cntR (exS a b) q = _; rw [exS_cnt, (splI b a q).y])).symm
structure DstI (a : List Row) (q : Row) : Prop where
  f : ((dstR a).f (keyB q)).getD 0 = if q ∈ a then 1 else 0
  x : cntR (dstR a).x q = if q ∈ a then 1 else 0
end Go.FE
namespace Go.FE
abbrev Kd := Row × Row
def fk (k : Row) (l : List Kd) : List Kd := l.filter fun x => eqR x.1 k
theorem fk_app (k : Row) (a b : List Kd) : fk k (a ++ b) = fk k a ++ fk k b := List.filter_append ..
theorem fk_nil (k : Row) : fk k [] = [] := rfl
theorem fk_cons (k : Row) (x : Kd) (l : List Kd) : fk k (x :: l) = if x.1 = k then x :: fk k l else fk k l := by
  unfold fk
  rw [List.filter_cons]
  by_cases h : x.1 = k
  · rw [if_pos (eqR_iff.2 h), if_pos h]
  · rw [if_neg (fun h' => h (eqR_iff.1 h')), if_neg h]
theorem fk_one (k : Row) (x : Kd) : fk k [x] = if x.1 = k then [x] else [] := by rw [fk_cons, fk_nil]
theorem fk_mem {k : Row} {x : Kd} {l : List Kd} : x ∈ fk k l ↔ x ∈ l ∧ x.1 = k := by unfold fk; rw [List.mem_filter, eqR_iff]
def SdK (l : List Kd) : Prop := l.Pairwise fun x y => cmpR x.1 y.1 ≤ 0
theorem cmp_anti {a b : Row} (h1 : cmpR a b ≤ 0) (h2 : cmpR b a ≤ 0) : a = b := by
  have := preR.anti a b
  exact cmpR_eq (by omega)
theorem kd_unique : ∀ {a b : List Kd}, SdK a → SdK b → (∀ k, fk k a = fk k b) → a = b
  | [], [], _, _, _ => rfl
  | [], y :: b, _, _, h => by have := h y.1; rw [fk_nil, fk_cons, if_pos rfl] at this; cases this
  | x :: a, [], _, _, h => by have := h x.1; rw [fk_nil, fk_cons, if_pos rfl] at this; cases this
  | x :: a, y :: b, ha, hb, h => by
    obtain ⟨ha1, ha2⟩ := List.pairwise_cons.1 ha
    obtain ⟨hb1, hb2⟩ := List.pairwise_cons.1 hb
    have hxy : cmpR x.1 y.1 ≤ 0 := by
      have : y ∈ fk y.1 (x :: a) := by rw [h y.1]; exact fk_mem.2 ⟨List.mem_cons_self, rfl⟩
      rcases List.mem_cons.1 (fk_mem.1 this).1 with e | e
      · rw [e, preR.refl]; exact Int.le_refl _
      · exact ha1 y e
    have hyx : cmpR y.1 x.1 ≤ 0 := by
      have : x ∈ fk x.1 (y :: b) := by rw [← h x.1]; exact fk_mem.2 ⟨List.mem_cons_self, rfl⟩
      rcases List.mem_cons.1 (fk_mem.1 this).1 with e | e
      · rw [e, preR.refl]; exact Int.le_refl _
      · exact hb1 x e
    have hk : x.1 = y.1 := cmp_anti hxy hyx
    have h1 := h x.1
    rw [fk_cons, if_pos rfl, fk_cons, if_pos hk.symm] at h1
    injection h1 with h2 h3
    subst h2
    congr 1
    refine kd_unique ha2 hb2 fun k => ?_
    have h4 := h k
    rw [fk_cons, fk_cons] at h4
    split at h4
    · injection h4
    · exact h4
def insK (x : Kd) : List Kd → List Kd
  | [] => [x]
  | y :: l => if cmpR y.1 x.1 < 0 then y :: insK x l else x :: y :: l
def ordS : List Kd → List Kd
  | [] => []
  | x :: l => insK x (ordS l)
theorem insK_mem {x y : Kd} : ∀ {l : List Kd}, y ∈ insK x l ↔ y = x ∨ y ∈ l
  | [] => by simp [insK]
  | z :: l => by
    unfold insK
    split
    · rw [List.mem_cons, insK_mem (l := l), List.mem_cons]
      constructor
      · rintro (h | h | h)
        · exact .inr (.inl h)
        · exact .inl h
        · exact .inr (.inr h)
      · rintro (h | h | h)
        · exact .inr (.inl h)
        · exact .inl h
        · exact .inr (.inr h)
    · rw [List.mem_cons]
theorem insK_sd {x : Kd} : ∀ {l : List Kd}, SdK l → SdK (insK x l)
  | [], _ => List.pairwise_singleton _ _
  | z :: l, h => by
    obtain ⟨h1, h2⟩ := List.pairwise_cons.1 h
    unfold insK
    split
    · rename_i hc
      refine List.pairwise_cons.2 ⟨fun y hy => ?_, insK_sd h2⟩
      rcases insK_mem.1 hy with rfl | hy
      · exact Int.le_of_lt hc
      · exact h1 y hy
    · rename_i hc
      have hxz : cmpR x.1 z.1 ≤ 0 := by have := preR.anti x.1 z.1; omega
      refine List.pairwise_cons.2 ⟨fun y hy => ?_, h⟩
      rcases List.mem_cons.1 hy with rfl | hy
      · exact hxz
      · exact preR.tr _ _ _ hxz (h1 y hy)
theorem insK_fk (k : Row) {x : Kd} : ∀ {l : List Kd}, fk k (insK x l) = if x.1 = k then x :: fk k l else fk k l
  | [] => by unfold insK; rw [fk_cons]
  | z :: l => by
    unfold insK
    split
    · rename_i hc
      rw [fk_cons, insK_fk k (l := l), fk_cons]
      by_cases hx : x.1 = k
      · have hz : z.1 ≠ k := fun e => by rw [e, ← hx, preR.refl] at hc; omega
        rw [if_neg hz, if_neg hz]
      · rw [if_neg hx, if_neg hx]
    · rw [fk_cons]
theorem ordS_sd : ∀ l : List Kd, SdK (ordS l)
  | [] => List.Pairwise.nil
  | x :: l => insK_sd (ordS_sd l)
theorem ordS_fk (k : Row) : ∀ l : List Kd, fk k (ordS l) = fk k l
  | [] => rfl
  | x :: l => by rw [ordS, insK_fk, ordS_fk k l, fk_cons]
theorem ordS_mem {y : Kd} : ∀ {l : List Kd}, y ∈ ordS l ↔ y ∈ l
  | [] => by simp [ordS]
  | x :: l => by rw [ordS, insK_mem, ordS_mem, List.mem_cons]
theorem insK_len (x : Kd) : ∀ l : List Kd, (insK x l).length = l.length + 1
  | [] => rfl
  | z :: l => by
    unfold insK
    split
    · rw [List.length_cons, insK_len x l, List.length_cons]
    · rfl
theorem ordS_len : ∀ l : List Kd, (ordS l).length = l.length
  | [] => rfl
  | x :: l => by rw [ordS, insK_len, ordS_len l, List.length_cons]
theorem ordS_of {l o : List Kd} (h : SdK o) (hf : ∀ k, fk k o = fk k l) : o = ordS l := kd_unique h (ordS_sd l) fun k => by rw [hf, ordS_fk]
structure MKX where
  i : Nat
  j : Nat
  o : List Kd
/-- Two ordered lists, partly merged. -/
structure MgK (a b : List Kd) (x : MKX) : Prop where
  hi : x.i ≤ a.length
  hj : x.j ≤ b.length
  sd : SdK x.o
  la : ∀ r ∈ x.o, ∀ s ∈ a.drop x.i, cmpR r.1 s.1 ≤ 0
  lb : ∀ r ∈ x.o, ∀ s ∈ b.drop x.j, cmpR r.1 s.1 ≤ 0
  st : ∀ s ∈ b.take x.j, ∀ r ∈ a.drop x.i, cmpR s.1 r.1 < 0
  fl : ∀ k, fk k x.o = fk k (a.take x.i) ++ fk k (b.take x.j)
  ln : x.o.length = x.i + x.j
theorem MgK.start (a b : List Kd) : MgK a b ⟨0, 0, []⟩ := ⟨Nat.zero_le _, Nat.zero_le _, .nil, fun r h => (by cases h), fun r h => (by cases h), fun s h => (by simp at h), fun k => by simp [fk_nil], rfl⟩
theorem sdK_snoc {o : List Kd} {r : Kd} (h : SdK o) (hr : ∀ s ∈ o, cmpR s.1 r.1 ≤ 0) : SdK (o ++ [r]) := by
  unfold SdK
  rw [List.pairwise_append]
  exact ⟨h, List.pairwise_singleton _ _, fun x hx y hy => by rw [List.mem_singleton.1 hy]; exact hr x hx⟩
theorem sdK_drop {a : List Kd} (h : SdK a) {i : Nat} (hi : i < a.length) : ∀ s ∈ a.drop (i + 1), cmpR a[i].1 s.1 ≤ 0 := by
  have h1 : (a.drop i).Pairwise fun x y => cmpR x.1 y.1 ≤ 0 := List.Pairwise.sublist (List.drop_sublist i a) h
  rw [List.drop_eq_getElem_cons hi, List.pairwise_cons] at h1
  exact h1.1
theorem MgK.left {a b : List Kd} {x : MKX} (h : MgK a b x) (ha : SdK a) (hb : SdK b) (hi : x.i < a.length) (hj : x.j < b.length) (hc : ¬ cmpR b[x.j].1 a[x.i].1 < 0) : MgK a b ⟨x.i + 1, x.j, x.o ++ [a[x.i]]⟩ := by
  have hm : a[x.i] ∈ a.drop x.i := by rw [List.drop_eq_getElem_cons hi]; exact List.mem_cons_self
  have hsub : ∀ s, s ∈ a.drop (x.i + 1) → s ∈ a.drop x.i := fun s hs => by rw [List.drop_eq_getElem_cons hi]; exact List.mem_cons_of_mem _ hs
  have hab : cmpR a[x.i].1 b[x.j].1 ≤ 0 := by have := preR.anti a[x.i].1 b[x.j].1; omega
  refine ⟨hi, h.hj, sdK_snoc h.sd (fun s hs => h.la s hs _ hm), fun r hr s hs => ?_, fun r hr s hs => ?_, fun s hs r hr => h.st s hs r (hsub r hr), fun k => ?_, by simp [h.ln]; omega⟩
  · rcases List.mem_append.1 hr with hr | hr
    · exact h.la r hr s (hsub s hs)
    · rw [List.mem_singleton.1 hr]; exact sdK_drop ha hi s hs
  · rcases List.mem_append.1 hr with hr | hr
    · exact h.lb r hr s hs
    · rw [List.mem_singleton.1 hr]
      have hs : s ∈ b.drop x.j := hs
      rw [List.drop_eq_getElem_cons hj] at hs
      rcases List.mem_cons.1 hs with rfl | hs
      · exact hab
      · exact preR.tr _ _ _ hab (sdK_drop hb hj s hs)
  · show fk k (x.o ++ [a[x.i]]) = fk k (a.take (x.i + 1)) ++ fk k (b.take x.j)
    rw [List.take_succ_eq_append_getElem hi, fk_app, fk_app, h.fl k, fk_one]
    by_cases hk : a[x.i].1 = k
    · have hbn : fk k (b.take x.j) = [] := by
        rw [List.eq_nil_iff_forall_not_mem]
        intro s hs
        obtain ⟨h1, h2⟩ := fk_mem.1 hs
        have := h.st s h1 _ hm
        rw [h2, hk, preR.refl] at this; omega
      rw [hbn]; simp
    · rw [if_neg hk]; simp
theorem MgK.right {a b : List Kd} {x : MKX} (h : MgK a b x) (ha : SdK a) (hb : SdK b) (hi : x.i < a.length) (hj : x.j < b.length) (hc : cmpR b[x.j].1 a[x.i].1 < 0) : MgK a b ⟨x.i, x.j + 1, x.o ++ [b[x.j]]⟩ := by
  have hm : b[x.j] ∈ b.drop x.j := by rw [List.drop_eq_getElem_cons hj]; exact List.mem_cons_self
  have hsub : ∀ s, s ∈ b.drop (x.j + 1) → s ∈ b.drop x.j := fun s hs => by rw [List.drop_eq_getElem_cons hj]; exact List.mem_cons_of_mem _ hs
  have hle : ∀ s ∈ a.drop x.i, cmpR b[x.j].1 s.1 < 0 := fun s hs => by
    rw [List.drop_eq_getElem_cons hi] at hs
    rcases List.mem_cons.1 hs with rfl | hs
    · exact hc
    · exact preR.tr1 hc (sdK_drop ha hi s hs)
  refine ⟨h.hi, hj, sdK_snoc h.sd (fun s hs => h.lb s hs _ hm), fun r hr s hs => ?_, fun r hr s hs => ?_, fun s hs r hr => ?_, fun k => ?_, by simp [h.ln]; omega⟩
  · rcases List.mem_append.1 hr with hr | hr
    · exact h.la r hr s hs
    · rw [List.mem_singleton.1 hr]; exact Int.le_of_lt (hle s hs)
  · rcases List.mem_append.1 hr with hr | hr
    · exact h.lb r hr s (hsub s hs)
    · rw [List.mem_singleton.1 hr]; exact sdK_drop hb hj s hs
  · have hs : s ∈ b.take (x.j + 1) := hs
    rw [List.take_succ_eq_append_getElem hj] at hs
    rcases List.mem_append.1 hs with hs | hs
    · exact h.st s hs r hr
    · rw [List.mem_singleton.1 hs]; exact hle r hr
  · show fk k (x.o ++ [b[x.j]]) = fk k (a.take x.i) ++ fk k (b.take (x.j + 1))
    rw [List.take_succ_eq_append_getElem hj, fk_app, fk_app, h.fl k, List.append_assoc]
theorem MgK.fin {a b : List Kd} {x : MKX} (h : MgK a b x) (ha : SdK a) (hb : SdK b) (he : a.length ≤ x.i ∨ b.length ≤ x.j) : SdK (x.o ++ a.drop x.i ++ b.drop x.j) ∧ ∀ k, fk k (x.o ++ a.drop x.i ++ b.drop x.j) = fk k a ++ fk k b := by
  have hda : SdK (a.drop x.i) := List.Pairwise.sublist (List.drop_sublist _ _) ha
  have hdb : SdK (b.drop x.j) := List.Pairwise.sublist (List.drop_sublist _ _) hb
  have ea : ∀ k, fk k a = fk k (a.take x.i) ++ fk k (a.drop x.i) := fun k => by rw [← fk_app, List.take_append_drop]
  have eb : ∀ k, fk k b = fk k (b.take x.j) ++ fk k (b.drop x.j) := fun k => by rw [← fk_app, List.take_append_drop]
  rcases he with he | he
  · have h0 : a.drop x.i = [] := List.drop_of_length_le he
    rw [h0, List.append_nil]
    refine ⟨List.pairwise_append.2 ⟨h.sd, hdb, fun r hr s hs => h.lb r hr s hs⟩, fun k => ?_⟩
    rw [fk_app, h.fl k, ea k, eb k, h0, fk_nil, List.append_nil, List.append_assoc]
  · have h0 : b.drop x.j = [] := List.drop_of_length_le he
    rw [h0, List.append_nil]
    refine ⟨List.pairwise_append.2 ⟨h.sd, hda, fun r hr s hs => h.la r hr s hs⟩, fun k => ?_⟩
    rw [fk_app, h.fl k, ea k, eb k, h0, fk_nil, List.append_nil]
    by_cases hn : fk k (a.drop x.i) = []
    · rw [hn]; simp
    · have hbn : fk k (b.take x.j) = [] := by
        rw [List.eq_nil_iff_forall_not_mem]
        intro s hs
        apply hn
        rw [List.eq_nil_iff_forall_not_mem]
        intro r hr
        obtain ⟨h1, h2⟩ := fk_mem.1 hs
        obtain ⟨h3, h4⟩ := fk_mem.1 hr
        have := h.st s h1 r h3
        rw [h2, h4, preR.refl] at this; omega
      rw [hbn]; simp
theorem ordS_merge {l : List Kd} {m : Nat} {o : List Kd} (h : SdK o) (hf : ∀ k, fk k o = fk k (ordS (l.take m)) ++ fk k (ordS (l.drop m))) : o = ordS l :=
  ordS_of h fun k => by rw [hf, ordS_fk, ordS_fk, ← fk_app, List.take_append_drop]
theorem ordS_small {l : List Kd} (h : l.length < 2) : ordS l = l := by
  match l, h with
  | [], _ => rfl
  | [x], _ => rfl
end Go.FE
namespace Go.FE
structure SegI (all : List Kd) (i : Nat) (ks : List Row) : Prop where
  nd : ks.Nodup
  me : ∀ k, k ∈ ks ↔ ∃ x ∈ all.take i, x.1 = k
  bd : ∀ x ∈ all.take i, ∀ y ∈ all.drop i, cmpR x.1 y.1 < 0
theorem SegI.start (all : List Kd) : SegI all 0 [] := ⟨List.nodup_nil, fun k => by simp, fun x hx => by simp at hx⟩
theorem sdK_get {all : List Kd} (h : SdK all) {i j : Nat} (hij : i < j) (hj : j < all.length) : cmpR (all[i]'(by omega)).1 all[j].1 ≤ 0 := (List.pairwise_iff_getElem.1 h) i j (by omega) hj hij
theorem mem_take_ix {all : List Kd} {x : Kd} {k : Nat} (h : x ∈ all.take k) : ∃ j, ∃ hj : j < all.length, j < k ∧ all[j] = x := by
  obtain ⟨j, hj, e⟩ := List.mem_iff_getElem.1 h
  simp at hj
  exact ⟨j, by omega, by omega, by rw [← e]; simp⟩
theorem mem_drop_ix {all : List Kd} {x : Kd} {k : Nat} (h : x ∈ all.drop k) : ∃ j, ∃ hj : j < all.length, k ≤ j ∧ all[j] = x := by
  obtain ⟨j, hj, e⟩ := List.mem_iff_getElem.1 h
  simp at hj
  exact ⟨k + j, by omega, by omega, by rw [← e]; simp⟩
theorem ix_take {all : List Kd} {j k : Nat} (hj : j < all.length) (h : j < k) : all[j] ∈ all.take k := List.mem_iff_getElem.2 ⟨j, by simp; omega, by simp⟩
theorem ix_drop {all : List Kd} {j k : Nat} (hj : j < all.length) (h : k ≤ j) : all[j] ∈ all.drop k := List.mem_iff_getElem.2 ⟨j - k, by simp; omega, by simp [show k + (j - k) = j by omega]⟩
theorem fk_all {k : Row} : ∀ {l : List Kd}, (∀ x ∈ l, x.1 = k) → fk k l = l
  | [], _ => rfl
  | x :: l, h => by rw [fk_cons, if_pos (h x List.mem_cons_self), fk_all fun y hy => h y (List.mem_cons_of_mem _ hy)]
theorem fk_no {k : Row} : ∀ {l : List Kd}, (∀ x ∈ l, x.1 ≠ k) → fk k l = []
  | [], _ => rfl
  | x :: l, h => by rw [fk_cons, if_neg (h x List.mem_cons_self), fk_no fun y hy => h y (List.mem_cons_of_mem _ hy)]
theorem seg_step {all : List Kd} {i k2 : Nat} {ks : List Row} (hs : SdK all) (h : SegI all i ks) (hi : i < all.length) (h1 : i < k2) (h2 : k2 ≤ all.length) (he : ∀ j (hj : j < all.length), i ≤ j → j < k2 → all[j].1 = all[i].1) (hn : ∀ hk : k2 < all.length, all[k2].1 ≠ all[i].1) :
    SegI all k2 (ks ++ [all[i].1]) ∧ fk all[i].1 all = (all.take k2).drop i := by
  have hlo : ∀ x ∈ all.take i, x.1 ≠ all[i].1 := fun x hx e => by
    have := h.bd x hx _ (ix_drop hi (Nat.le_refl _))
    rw [e, preR.refl] at this; omega
  have hhi : ∀ y ∈ all.drop k2, cmpR all[i].1 y.1 < 0 := fun y hy => by
    obtain ⟨j, hj, hkj, rfl⟩ := mem_drop_ix hy
    have hk : k2 < all.length := by omega
    have a1 := sdK_get hs (i := i) (j := k2) h1 hk
    have a2 : cmpR all[i].1 all[k2].1 < 0 := by
      rcases Int.lt_or_le (cmpR all[i].1 all[k2].1) 0 with q | q
      · exact q
      · have : cmpR all[i].1 all[k2].1 = 0 := by omega
        exact absurd (cmpR_eq this).symm (hn hk)
    rcases Nat.eq_or_lt_of_le hkj with q | q
    · subst q; exact a2
    · exact preR.tr1 a2 (sdK_get hs q hj)
  refine ⟨⟨?_, fun k => ?_, fun x hx y hy => ?_⟩, ?_⟩
  · rw [List.nodup_append]
    refine ⟨h.nd, by simp, fun a ha b hb e => ?_⟩
    simp at hb
    subst hb
    subst e
    obtain ⟨x, hx, e⟩ := (h.me _).1 ha
    exact hlo x hx e
  · rw [List.mem_append, List.mem_singleton, h.me k]
    constructor
    · rintro (⟨x, hx, e⟩ | rfl)
      · obtain ⟨j, hj, hji, rfl⟩ := mem_take_ix hx
        exact ⟨_, ix_take hj (by omega), e⟩
      · exact ⟨_, ix_take hi h1, rfl⟩
    · rintro ⟨x, hx, e⟩
      obtain ⟨j, hj, hjk, rfl⟩ := mem_take_ix hx
      rcases Nat.lt_or_ge j i with q | q
      · exact .inl ⟨_, ix_take hj q, e⟩
      · exact .inr (by rw [← e]; exact he j hj q hjk)
  · obtain ⟨j, hj, hjk, rfl⟩ := mem_take_ix hx
    rcases Nat.lt_or_ge j i with q | q
    · exact preR.tr1 (h.bd _ (ix_take hj q) _ (ix_drop hi (Nat.le_refl _))) (Int.le_of_lt (hhi y hy))
    · rw [he j hj q hjk]; exact hhi y hy
  · have e1 : all = all.take i ++ ((all.take k2).drop i ++ all.drop k2) := by
      have a1 : (all.take k2).take i = all.take i := by rw [List.take_take, Nat.min_eq_left (by omega)]
      rw [← List.append_assoc, ← a1, List.take_append_drop, List.take_append_drop]
    have e2 : fk all[i].1 (all.take i) = [] := fk_no hlo
    have e3 : fk all[i].1 (all.drop k2) = [] := fk_no fun y hy e => by have := hhi y hy; rw [e, preR.refl] at this; omega
    have e4 : fk all[i].1 ((all.take k2).drop i) = (all.take k2).drop i := fk_all fun x hx => by
      obtain ⟨j, hj, e⟩ := List.mem_iff_getElem.1 hx
      simp at hj
      rw [← e]
      simp only [List.getElem_drop, List.getElem_take]
      exact he (i + j) (by omega) (by omega) (by omega)
    calc fk all[i].1 all = fk all[i].1 (all.take i ++ ((all.take k2).drop i ++ all.drop k2)) := by rw [← e1]
      _ = _ := by rw [fk_app, fk_app, e2, e3, e4]; simp
def kdOf (keys : List Int) (r : Row) : Kd := (pickR r keys, r)
theorem fk_sel (keys : List Int) (k : Row) : ∀ rows : List Row, (fk k (rows.map (kdOf keys))).map (·.2) = selR keys k rows
  | [] => rfl
  | r :: l => by
    rw [List.map_cons, fk_cons]
    unfold selR
    rw [List.filter_cons]
    by_cases h : pickR r keys = k
    · rw [if_pos (show (kdOf keys r).1 = k from h), if_pos (eqR_iff.2 h), List.map_cons, fk_sel keys k l]; rfl
    · rw [if_neg (show ¬ (kdOf keys r).1 = k from h), if_neg (fun h' => h (eqR_iff.1 h')), fk_sel keys k l]; rfl
/-- The row of a group. -/
def oneR (key : Row) (rows : List Row) (aggs : List Ag) : Row := key ++ aggs.map (aggV rows)
def grpW0 (keys : List Int) (aggs : List Ag) (rows : List Row) : List Row := if rows = [] ∧ keys = [] then [oneR [] [] aggs] else []
def segF (keys : List Int) (aggs : List Ag) (rows : List Row) (k : Row) : Row := oneR k (selR keys k rows) aggs
theorem seg_fin {keys : List Int} {aggs : List Ag} {rows : List Row} {ks : List Row} (h : SegI (ordS (rows.map (kdOf keys))) rows.length ks) : (grpW0 keys aggs rows ++ ks.map (segF keys aggs rows)).Perm (grpD keys aggs rows) := by
  have hl : (ordS (rows.map (kdOf keys))).length = rows.length := by rw [ordS_len, List.length_map]
  have hm : ∀ k, k ∈ ks ↔ k ∈ rows.map fun r => pickR r keys := fun k => by
    rw [h.me k, List.take_of_length_le (by omega)]
    constructor
    · rintro ⟨x, hx, e⟩
      obtain ⟨r, hr, e2⟩ := List.mem_map.1 (ordS_mem.1 hx)
      exact List.mem_map.2 ⟨r, hr, by rw [← e, ← e2]; rfl⟩
    · intro hk
      obtain ⟨r, hr, e⟩ := List.mem_map.1 hk
      exact ⟨kdOf keys r, ordS_mem.2 (List.mem_map.2 ⟨r, hr, rfl⟩), e⟩
  unfold grpW0 grpD keysD
  by_cases hc : rows = [] ∧ keys = []
  · rw [if_pos hc, if_pos hc]
    obtain ⟨rfl, rfl⟩ := hc
    have hk0 : ks = [] := by
      rw [List.eq_nil_iff_forall_not_mem]
      intro k hk
      have := (hm k).1 hk
      simp at this
    rw [hk0]
    exact .refl _
  · rw [if_neg hc, if_neg hc, List.nil_append]
    exact (nd_perm h.nd (ss_nd (dd_ss _)) fun k => by rw [hm k, dd_mem]).map _
end Go.FE
