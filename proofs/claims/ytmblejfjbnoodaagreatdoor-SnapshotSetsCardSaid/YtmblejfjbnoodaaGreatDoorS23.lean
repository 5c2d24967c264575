/- The multiset operations count rows. -/
import Derived.Test.YtmblejfjbnoodaaGreatDoorS22
set_option linter.unusedVariables false
set_option linter.unusedSimpArgs false
namespace Go.FE
open Go.Proofs
theorem upd_key (f : MF) (r q : Row) (n : Int) : upd f (keyB r) n (keyB q) = if r = q then some n else f (keyB q) := by
  unfold upd
  by_cases h : r = q
  · rw [if_pos h, if_pos (by rw [h])]
  · rw [if_neg h, if_neg (fun e => h (keyB_inj e).symm)]
theorem cntF_key (l : List Row) (q : Row) : (cntF l (keyB q)).getD 0 = (cntR l q : Int) := by
  induction l using snoc_ind with
  | h0 => rfl
  | h1 l r ih =>
    rw [cntF_snoc, cntR_snoc, ih]
    by_cases h : r = q
    · subst h; rw [if_pos rfl, if_pos rfl]; omega
    · rw [if_neg h, if_neg (fun e => h (keyB_inj e).symm)]; omega
structure SplI (a b : List Row) (q : Row) : Prop where
  f : ((splR a b).f (keyB q)).getD 0 = (cntR b q : Int) - (min (cntR a q) (cntR b q) : Nat)
  x : cntR (splR a b).x q = min (cntR a q) (cntR b q)
  y : cntR (splR a b).y q = cntR a q - cntR b q
theorem splI (b a : List Row) (q : Row) : SplI a b q := by
  induction a using snoc_ind with
  | h0 => exact ⟨by show (cntF b (keyB q)).getD 0 = _; rw [cntF_key]; simp [cntR], by simp [splR, cntR], by simp [splR, cntR]⟩
  | h1 a r ih =>
    obtain ⟨hf, hx, hy⟩ := ih
    have hs := splR_snoc a b r
    rw [splStep] at hs
    by_cases h : r = q
    · subst h
      by_cases hc : ((splR a b).f (keyB r)).getD 0 > 0
      · rw [if_pos hc] at hs
        refine ⟨?_, ?_, ?_⟩
        · rw [hs]; dsimp only; rw [upd_key, if_pos rfl, Option.getD_some, cntR_snoc, if_pos rfl]; omega
        · rw [hs]; dsimp only; rw [cntR_snoc, cntR_snoc, if_pos rfl, hx]; omega
        · rw [hs]; dsimp only; rw [cntR_snoc, if_pos rfl, hy]; omega
      · rw [if_neg hc] at hs
        refine ⟨?_, ?_, ?_⟩
        · rw [hs]; dsimp only; rw [cntR_snoc, if_pos rfl]; omega
        · rw [hs]; dsimp only; rw [cntR_snoc, if_pos rfl, hx]; omega
        · rw [hs]; dsimp only; rw [cntR_snoc, cntR_snoc, if_pos rfl, hy]; omega
    · have e1 : cntR (a ++ [r]) q = cntR a q := by rw [cntR_snoc, if_neg h]; rfl
      by_cases hc : ((splR a b).f (keyB r)).getD 0 > 0
      · rw [if_pos hc] at hs
        refine ⟨?_, ?_, ?_⟩
        · rw [hs, e1]; dsimp only; rw [upd_key, if_neg h]; exact hf
        · rw [hs, e1]; dsimp only; rw [cntR_snoc, if_neg h, hx]; rfl
        · rw [hs, e1]; exact hy
      · rw [if_neg hc] at hs
        refine ⟨?_, ?_, ?_⟩
        · rw [hs, e1]; exact hf
        · rw [hs, e1]; exact hx
        · rw [hs, e1]; dsimp only; rw [cntR_snoc, if_neg h, hy]; rfl
theorem cnt_rep (n : Nat) (r q : Row) : cntR (List.replicate n r) q = if r = q then n else 0 := by
  induction n with
  | zero => simp [cntR]
  | succ n ih =>
    rw [List.replicate_succ, cntR_cons, ih]
    by_cases h : r = q <;> simp [h]
theorem cnt_fm (f : Row → Nat) (q : Row) : ∀ l : List Row, l.Nodup → cntR (l.flatMap fun r => List.replicate (f r) r) q = if q ∈ l then f q else 0
  | [], _ => by simp [cntR]
  | r :: l, h => by
    rw [List.nodup_cons] at h
    rw [List.flatMap_cons, cntR_append, cnt_rep, cnt_fm f q l h.2]
    by_cases h1 : r = q
    · subst h1; simp [h.1]
    · simp [h1, Ne.symm h1]
theorem exS_cnt (a b : List Row) (q : Row) : cntR (exS a b) q = cntR a q - cntR b q := by
  unfold exS
  rw [cnt_fm _ _ _ (ss_nd (dd_ss a))]
  split
  · rfl
  · rename_i h
    rw [dd_mem] at h
    rw [cntR_zero.2 h]; omega
theorem inS_cnt (a b : List Row) (q : Row) : cntR (inS a b) q = min (cntR a q) (cntR b q) := by
  unfold inS
  rw [cnt_fm _ _ _ (ss_nd (dd_ss a))]
  split
  · rfl
  · rename_i h
    rw [dd_mem] at h
    rw [cntR_zero.2 h]; omega
theorem fm_sd {f : Row → Nat} : ∀ {l : List Row}, Ss l → Sd (l.flatMap fun r => List.replicate (f r) r)
  | [], _ => List.Pairwise.nil
  | r :: l, h => by
    rw [List.flatMap_cons]
    obtain ⟨h1, h2⟩ := List.pairwise_cons.1 h
    refine List.pairwise_append.2 ⟨?_, fm_sd h2, fun x hx y hy => ?_⟩
    · rw [List.pairwise_replicate]; exact .inr (by rw [preR.refl]; exact Int.le_refl _)
    · obtain ⟨q, hq, hy⟩ := List.mem_flatMap.1 hy
      rw [(List.mem_replicate.1 hx).2, (List.mem_replicate.1 hy).2]
      exact Int.le_of_lt (h1 q hq)
/-- The code's difference and intersection are the document's. -/
theorem ex_law (a b : List Row) : srt (splR a b).y = exS a b :=
  (srt_of (fm_sd (dd_ss a)) (perm_of_cnt fun q => by show cntR (exS a b) q = _; rw [exS_cnt, (splI b a q).y])).symm
theorem in_law (a b : List Row) : srt (splR a b).x = inS a b :=
  (srt_of (fm_sd (dd_ss a)) (perm_of_cnt fun q => by show cntR (inS a b) q = _; rw [inS_cnt, (splI b a q).x])).symm
structure DstI (a : List Row) (q : Row) : Prop where
  f : ((dstR a).f (keyB q)).getD 0 = if q ∈ a then 1 else 0
  x : cntR (dstR a).x q = if q ∈ a then 1 else 0
end Go.FE
