/- The order of values and rows; sorting. Plain law of a stable sort by rotation. Sorting: the walks. -/
import Derived.Test.YtmblejfjbnoodaaGreatDoorN09
import Derived.Test.YtmblejfjbnoodaaGreatDoorN14
set_option linter.unusedVariables false
set_option linter.unusedSimpArgs false
namespace Go.FE
open Go.Proofs
structure PreT {α : Type} (c : α → α → Int) : Prop where
  anti : ∀ a b, c b a = - c a b
  tr : ∀ a b d, c a b ≤ 0 → c b d ≤ 0 → c a d ≤ 0
theorem PreT.refl {α : Type} {c : α → α → Int} (h : PreT c) (a : α) : c a a = 0 := by have := h.anti a a; omega
theorem PreT.tr0 {α : Type} {c : α → α → Int} (h : PreT c) {a b d : α} (h1 : c a b = 0) (h2 : c b d = 0) : c a d = 0 := by
  have := h.tr a b d (by omega) (by omega)
  have := h.tr d b a (by rw [h.anti]; omega) (by rw [h.anti]; omega)
  have := h.anti a d
  omega
theorem PreT.tr1 {α : Type} {c : α → α → Int} (h : PreT c) {a b d : α} (h1 : c a b < 0) (h2 : c b d ≤ 0) : c a d < 0 := by
  have h3 := h.tr a b d (by omega) h2
  have h4 : c a d ≠ 0 := fun h4 => by
    have := h.tr b d a h2 (by rw [h.anti]; omega)
    have := h.anti a b
    omega
  omega
theorem PreT.tr2 {α : Type} {c : α → α → Int} (h : PreT c) {a b d : α} (h1 : c a b ≤ 0) (h2 : c b d < 0) : c a d < 0 := by
  have h3 := h.tr a b d h1 (by omega)
  have h4 : c a d ≠ 0 := fun h4 => by
    have := h.tr d a b (by rw [h.anti]; omega) h1
    have := h.anti b d
    omega
  omega
theorem PreT.on {α β : Type} {c : α → α → Int} (h : PreT c) (f : β → α) : PreT fun a b => c (f a) (f b) := ⟨fun _ _ => h.anti _ _, fun _ _ _ => h.tr _ _ _⟩
theorem PreT.lex {α : Type} {f g : α → α → Int} (hf : PreT f) (hg : PreT g) : PreT fun a b => if f a b ≠ 0 then f a b else g a b := by
  refine ⟨fun a b => ?_, fun a b d h1 h2 => ?_⟩
  · have h1 := hf.anti a b
    have h2 := hg.anti a b
    by_cases h : f a b = 0
    · have : f b a = 0 := by omega
      simp [h, this, h2]
    · have : f b a ≠ 0 := by omega
      simp [h, this, h1]
  · by_cases e1 : f a b = 0
    · simp only [e1, ne_eq, not_true, if_false] at h1
      by_cases e2 : f b d = 0
      · simp only [e2, ne_eq, not_true, if_false] at h2
        simp [hf.tr0 e1 e2, hg.tr _ _ _ h1 h2]
      · simp only [ne_eq, e2, not_false_eq_true, if_true] at h2
        have := hf.tr2 (a := a) (by omega) (show f b d < 0 by omega)
        simp only [ne_eq, show ¬ f a d = 0 by omega, not_false_eq_true, if_true]
        omega
    · simp only [ne_eq, e1, not_false_eq_true, if_true] at h1
      have h2' : f b d ≤ 0 := by
        by_cases e2 : f b d = 0
        · omega
        · simpa only [ne_eq, e2, not_false_eq_true, if_true] using h2
      have := hf.tr1 (show f a b < 0 by omega) h2'
      simp only [ne_eq, show ¬ f a d = 0 by omega, not_false_eq_true, if_true]
      omega
theorem preI : PreT cmpI := by
  refine ⟨fun a b => ?_, fun a b d h1 h2 => ?_⟩
  · unfold cmpI; (repeat' split) <;> omega
  · unfold cmpI at *; (repeat' split) <;> (repeat' split at h1) <;> (repeat' split at h2) <;> omega
theorem cmpI_eq {a b : Int} (h : cmpI a b = 0) : a = b := by unfold cmpI at h; split at h <;> (try split at h) <;> omega
def lexL {α : Type} (c : α → α → Int) : List α → List α → Int
  | [], [] => 0
  | [], _ :: _ => -1
  | _ :: _, [] => 1
  | x :: a, y :: b => if c x y ≠ 0 then c x y else lexL c a b
theorem lexL_anti {α : Type} {c : α → α → Int} (h : PreT c) : ∀ a b, lexL c b a = - lexL c a b
  | [], [] => rfl
  | [], _ :: _ => rfl
  | _ :: _, [] => rfl
  | x :: a, y :: b => by
    have h1 := h.anti x y
    have h2 := lexL_anti h a b
    simp only [lexL]
    by_cases e : c x y = 0
    · have : c y x = 0 := by omega
      simp [e, this, h2]
    · have : c y x ≠ 0 := by omega
      simp [e, this, h1]
theorem lexL_tr {α : Type} {c : α → α → Int} (h : PreT c) : ∀ a b d, lexL c a b ≤ 0 → lexL c b d ≤ 0 → lexL c a d ≤ 0
  | [], _, [], _, _ => by simp [lexL]
  | [], _, _ :: _, _, _ => by simp [lexL]
  | _ :: _, [], _, h1, _ => by simp [lexL] at h1
  | _ :: _, _ :: _, [], _, h2 => by simp [lexL] at h2
  | x :: a, y :: b, z :: d, h1, h2 => by
    simp only [lexL] at h1 h2 ⊢
    have ih := lexL_tr h a b d
    by_cases e1 : c x y = 0
    · simp only [e1, ne_eq, not_true, if_false] at h1
      by_cases e2 : c y z = 0
      · simp only [e2, ne_eq, not_true, if_false] at h2
        simp [h.tr0 e1 e2, ih h1 h2]
      · simp only [ne_eq, e2, not_false_eq_true, if_true] at h2
        have := h.tr2 (a := x) (by omega) (show c y z < 0 by omega)
        simp only [ne_eq, show ¬ c x z = 0 by omega, not_false_eq_true, if_true]
        omega
    · simp only [ne_eq, e1, not_false_eq_true, if_true] at h1
      have h2' : c y z ≤ 0 := by
        by_cases e2 : c y z = 0
        · omega
        · simpa only [ne_eq, e2, not_false_eq_true, if_true] using h2
      have := h.tr1 (show c x y < 0 by omega) h2'
      simp only [ne_eq, show ¬ c x z = 0 by omega, not_false_eq_true, if_true]
      omega
theorem preL {α : Type} {c : α → α → Int} (h : PreT c) : PreT (lexL c) := ⟨lexL_anti h, lexL_tr h⟩
theorem lexL_eq {α : Type} {c : α → α → Int} (hc : ∀ {x y}, c x y = 0 → x = y) : ∀ {a b}, lexL c a b = 0 → a = b
  | [], [], _ => rfl
  | [], _ :: _, h => by simp [lexL] at h
  | _ :: _, [], h => by simp [lexL] at h
  | x :: a, y :: b, h => by
    simp only [lexL] at h
    by_cases e : c x y = 0
    · simp only [e, ne_eq, not_true, if_false] at h
      rw [hc e, lexL_eq hc h]
    · simp only [ne_eq, e, not_false_eq_true, if_true] at h
def cmpU (a b : UInt8) : Int := cmpI a.toNat b.toNat
theorem preU : PreT cmpU := preI.on fun a : UInt8 => (a.toNat : Int)
theorem cmpU_eq {a b : UInt8} (h : cmpU a b = 0) : a = b := by
  have := cmpI_eq h
  exact UInt8.toNat_inj.1 (by omega)
theorem compareBytes_lex : ∀ a b : List UInt8, Lib.compareBytes a b = lexL cmpU a b
  | [], [] => rfl
  | [], _ :: _ => rfl
  | _ :: _, [] => rfl
  | x :: a, y :: b => by
    have ih := compareBytes_lex a b
    simp only [Lib.compareBytes, lexL, cmpU, cmpI, UInt8.lt_iff_toNat_lt]
    (repeat' split) <;> (try omega) <;> simp_all
def cmpB (a b : ByteArray) : Int := Lib.compareBytes a.data.toList b.data.toList
theorem cmpB_lex (a b : ByteArray) : cmpB a b = lexL cmpU a.data.toList b.data.toList := compareBytes_lex _ _
theorem preB : PreT cmpB := by
  have := (preL preU).on fun a : ByteArray => a.data.toList
  simpa only [← cmpB_lex] using this
theorem cmpB_eq {a b : ByteArray} (h : cmpB a b = 0) : a = b := by
  rw [cmpB_lex] at h
  have := lexL_eq (fun h => cmpU_eq h) h
  exact ByteArray.ext (Array.toList_inj.1 this)
theorem cmpV_lex (a b : Vl) : cmpV a b = if cmpI a.k b.k ≠ 0 then cmpI a.k b.k else if cmpI a.i b.i ≠ 0 then cmpI a.i b.i else cmpB a.s b.s := by
  rw [← cmpV_or]
  simp only [orI, cmpB]
  by_cases h1 : cmpI a.k b.k = 0 <;> by_cases h2 : cmpI a.i b.i = 0 <;> simp [h1, h2]
  exact fun h => h.symm
theorem preV : PreT cmpV := by
  have := (preI.on fun a : Vl => a.k).lex ((preI.on fun a : Vl => a.i).lex (preB.on fun a : Vl => a.s))
  simpa only [← cmpV_lex] using this
theorem cmpV_eq {a b : Vl} (h : cmpV a b = 0) : a = b := by
  rw [cmpV_lex] at h
  by_cases h1 : cmpI a.k b.k = 0
  · by_cases h2 : cmpI a.i b.i = 0
    · simp only [h1, h2, ne_eq, not_true, if_false] at h
      cases a; cases b
      have := cmpI_eq h1
      have := cmpI_eq h2
      have := cmpB_eq h
      simp_all
    · simp [h1, h2] at h
  · simp [h1] at h
theorem cmpR_lex : ∀ a b : Row, cmpR a b = lexL cmpV a b
  | [], [] => rfl
  | [], _ :: _ => rfl
  | _ :: _, [] => rfl
  | x :: a, y :: b => by
    have ih := cmpR_lex a b
    simp only [cmpR, lexL, ih]
    by_cases h : cmpV x y = 0 <;> simp [h]
theorem preR : PreT cmpR := by
  have := preL preV
  have e : lexL cmpV = cmpR := by funext a b; exact (cmpR_lex a b).symm
  rwa [e] at this
theorem cmpR_eq {a b : Row} (h : cmpR a b = 0) : a = b := lexL_eq (fun h => cmpV_eq h) (cmpR_lex a b ▸ h)
theorem eqR_iff {a b : Row} : eqR a b = true ↔ a = b := by
  unfold eqR
  exact ⟨fun h => cmpR_eq (by simpa using h), fun h => by subst h; simp [preR.refl]⟩
theorem eqR_false {a b : Row} : eqR a b = false ↔ a ≠ b := by rw [← Bool.not_eq_true, eqR_iff]
theorem eqRs_iff : ∀ {a b : List Row}, eqRs a b = true ↔ a = b
  | [], [] => by simp [eqRs]
  | [], _ :: _ => by simp [eqRs]
  | _ :: _, [] => by simp [eqRs]
  | x :: a, y :: b => by simp [eqRs, eqR_iff, eqRs_iff (a := a) (b := b)]
/-! Sorting. -/
def leR (a b : Row) : Bool := decide (cmpR a b ≤ 0)
def srt (l : List Row) : List Row := l.mergeSort leR
def Sd (l : List Row) : Prop := l.Pairwise fun a b => cmpR a b ≤ 0
theorem srt_perm (l : List Row) : (srt l).Perm l := List.mergeSort_perm ..
theorem srt_sd (l : List Row) : Sd (srt l) := by
  have := List.pairwise_mergeSort (le := leR) (fun a b c h1 h2 => by simp only [leR, decide_eq_true_eq] at *; exact preR.tr _ _ _ h1 h2) (fun a b => by have := preR.anti a b; simp only [leR, Bool.or_eq_true, decide_eq_true_eq]; omega) l
  exact this.imp fun h => by simpa [leR] using h
theorem sd_unique {a b : List Row} (ha : Sd a) (hb : Sd b) (h : a.Perm b) : a = b :=
  List.Perm.eq_of_pairwise (fun x y _ _ h1 h2 => cmpR_eq (by have := preR.anti x y; omega)) ha hb h
theorem srt_of {a l : List Row} (ha : Sd a) (h : a.Perm l) : a = srt l := sd_unique ha (srt_sd l) (h.trans (srt_perm l).symm)
theorem srt_congr {a b : List Row} (h : a.Perm b) : srt a = srt b := sd_unique (srt_sd a) (srt_sd b) ((srt_perm a).trans (h.trans (srt_perm b).symm))
theorem srt_len (l : List Row) : (srt l).length = l.length := (srt_perm l).length_eq
/-! Sorting a part of a list. -/
theorem perm_split {a b : Nat} {l x : List Row} (hab : a ≤ b) (h1 : x.take a = l.take a) (h2 : x.drop b = l.drop b) (hp : x.Perm l) : ((x.take b).drop a).Perm ((l.take b).drop a) := by
  have e : ∀ y : List Row, y = y.take a ++ ((y.take b).drop a ++ y.drop b) := fun y => by
    rw [← List.append_assoc]
    have : y.take a ++ (y.take b).drop a = y.take b := by
      have := List.take_append_drop a (y.take b)
      rwa [List.take_take, Nat.min_eq_left hab] at this
    rw [this, List.take_append_drop]
  rw [e x, e l, h1, h2] at hp
  exact (List.perm_append_right_iff _).1 ((List.perm_append_left_iff _).1 hp)
abbrev gt' (l : List Row) (i : Nat) : Row := l.getD i []
/-- The part from a to below b is in order. -/
def SdSeg (l : List Row) (a b : Nat) : Prop := ∀ i j, a ≤ i → i < j → j < b → cmpR (gt' l i) (gt' l j) ≤ 0
def srtSeg (l : List Row) (a b : Nat) : List Row := l.take a ++ srt ((l.take b).drop a) ++ l.drop b
theorem sd_seg {l : List Row} {a b : Nat} (hb : b ≤ l.length) : SdSeg l a b ↔ Sd ((l.take b).drop a) := by
  unfold Sd SdSeg gt'
  rw [List.pairwise_iff_getElem]
  constructor
  · intro h i j hi hj hij
    simp only [List.length_drop, List.length_take] at hi hj
    have := h (a + i) (a + j) (by omega) (by omega) (by omega)
    simp only [List.getElem_drop, List.getElem_take]
    rw [List.getD_eq_getElem?_getD, List.getD_eq_getElem?_getD, List.getElem?_eq_getElem (by omega), List.getElem?_eq_getElem (by omega)] at this
    exact this
  · intro h i j hi hij hj
    have := h (i - a) (j - a) (by simp; omega) (by simp; omega) (by omega)
    simp only [List.getElem_drop, List.getElem_take] at this
    rw [List.getD_eq_getElem?_getD, List.getD_eq_getElem?_getD, List.getElem?_eq_getElem (by omega), List.getElem?_eq_getElem (by omega)]
    have e1 : a + (i - a) = i := by omega
    have e2 : a + (j - a) = j := by omega
    simpa only [e1, e2, Option.getD_some] using this
theorem srtSeg_of {l x : List Row} {a b : Nat} (hab : a ≤ b) (hb : b ≤ l.length) (h1 : x.take a = l.take a) (h2 : x.drop b = l.drop b) (hp : x.Perm l) (hs : SdSeg x a b) : x = srtSeg l a b := by
  have hl := hp.length_eq
  have h3 := srt_of ((sd_seg (by omega)).1 hs) (perm_split hab h1 h2 hp)
  unfold srtSeg
  rw [← h3, ← h1, ← h2]
  have := List.take_append_drop a (x.take b)
  rw [List.take_take, Nat.min_eq_left hab] at this
  rw [this, List.take_append_drop]
structure IsSeg (l x : List Row) (a b : Nat) : Prop where
  tk : x.take a = l.take a
  dp : x.drop b = l.drop b
  pm : x.Perm l
theorem IsSeg.refl (l : List Row) (a b : Nat) : IsSeg l l a b := ⟨rfl, rfl, .refl _⟩
theorem take_le {l x : List Row} {a a' : Nat} (h : x.take a = l.take a) (ha : a' ≤ a) : x.take a' = l.take a' := by
  have := congrArg (List.take a') h
  rwa [List.take_take, List.take_take, Nat.min_eq_left ha] at this
theorem drop_ge {l x : List Row} {b b' : Nat} (h : x.drop b = l.drop b) (hb : b ≤ b') : x.drop b' = l.drop b' := by
  have := congrArg (List.drop (b' - b)) h
  rwa [List.drop_drop, List.drop_drop, show b + (b' - b) = b' by omega] at this
theorem IsSeg.trans {l x y : List Row} {a b : Nat} (h : IsSeg l x a b) {a' b' : Nat} (h' : IsSeg x y a' b') (ha : a ≤ a') (hb : b' ≤ b) : IsSeg l y a b :=
  ⟨(take_le h'.tk ha).trans h.tk, (drop_ge h'.dp hb).trans h.dp, h'.pm.trans h.pm⟩
theorem IsSeg.len {l x : List Row} {a b : Nat} (h : IsSeg l x a b) : x.length = l.length := h.pm.length_eq
theorem gt_take {l x : List Row} {a i : Nat} (h : x.take a = l.take a) (hi : i < a) : gt' x i = gt' l i := by
  have := congrArg (fun y => y[i]?) h
  simp only [List.getElem?_take, hi, if_true] at this
  simp [gt', List.getD_eq_getElem?_getD, this]
theorem gt_drop {l x : List Row} {b i : Nat} (h : x.drop b = l.drop b) (hi : b ≤ i) : gt' x i = gt' l i := by
  have := congrArg (fun y => y[i - b]?) h
  simp only [List.getElem?_drop, show b + (i - b) = i by omega] at this
  simp [gt', List.getD_eq_getElem?_getD, this]
theorem IsSeg.lo {l x : List Row} {a b i : Nat} (h : IsSeg l x a b) (hi : i < a) : gt' x i = gt' l i := gt_take h.tk hi
theorem IsSeg.hi {l x : List Row} {a b i : Nat} (h : IsSeg l x a b) (hi : b ≤ i) : gt' x i = gt' l i := gt_drop h.dp hi
theorem srtSeg_is {l : List Row} {a b : Nat} (hab : a ≤ b) (hb : b ≤ l.length) : IsSeg l (srtSeg l a b) a b ∧ SdSeg (srtSeg l a b) a b := by
  have hlen : (l.take a).length = a := by simp; omega
  have hm : (srt ((l.take b).drop a)).length = b - a := by rw [srt_len]; simp; omega
  have htk : (srtSeg l a b).take a = l.take a := by
    unfold srtSeg
    rw [List.append_assoc, List.take_append_of_le_length (by omega), List.take_of_length_le (by omega)]
  have hdp : (srtSeg l a b).drop b = l.drop b := by
    unfold srtSeg
    have e : (l.take a ++ srt ((l.take b).drop a)).length = b := by simp [hm]; omega
    rw [List.drop_append_of_le_length (by omega), List.drop_of_length_le (by omega), List.nil_append]
  have hmid : ((srtSeg l a b).take b).drop a = srt ((l.take b).drop a) := by
    unfold srtSeg
    have e : (l.take a ++ srt ((l.take b).drop a)).length = b := by simp [hm]; omega
    rw [List.take_append_of_le_length (by omega), List.take_of_length_le (by omega), List.drop_append_of_le_length (by omega), List.drop_of_length_le (by omega), List.nil_append]
  have hpm : (srtSeg l a b).Perm l := by
    have e : l = l.take a ++ (l.take b).drop a ++ l.drop b := by
      have := List.take_append_drop a (l.take b)
      rw [List.take_take, Nat.min_eq_left hab] at this
      rw [this, List.take_append_drop]
    refine List.Perm.trans ?_ (.of_eq e.symm)
    unfold srtSeg
    exact ((srt_perm _).append_left _).append_right _
  refine ⟨⟨htk, hdp, hpm⟩, (sd_seg (by rw [hpm.length_eq]; omega)).2 ?_⟩
  rw [hmid]
  exact srt_sd _
theorem IsSeg.eq {l x : List Row} {a b : Nat} (hab : a ≤ b) (hb : b ≤ l.length) (h : IsSeg l x a b) (hs : SdSeg x a b) : x = srtSeg l a b := srtSeg_of hab hb h.tk h.dp h.pm hs
/-- Every element of the part lies among those of the part before. -/
theorem IsSeg.mem {l x : List Row} {a b : Nat} (h : IsSeg l x a b) (hab : a ≤ b) (hb : b ≤ l.length) {i : Nat} (hi : a ≤ i) (hib : i < b) : ∃ j, a ≤ j ∧ j < b ∧ gt' x i = gt' l j := by
  have hp := perm_split hab h.tk h.dp h.pm
  have hl := h.len
  have : gt' x i ∈ (x.take b).drop a := by
    rw [List.mem_iff_getElem]
    refine ⟨i - a, by simp; omega, ?_⟩
    simp only [List.getElem_drop, List.getElem_take, gt']
    rw [List.getD_eq_getElem?_getD, List.getElem?_eq_getElem (by omega)]
    simp only [Option.getD_some]
    congr 1; omega
  rw [hp.mem_iff, List.mem_iff_getElem] at this
  obtain ⟨k, hk, e⟩ := this
  simp only [List.length_drop, List.length_take] at hk
  refine ⟨a + k, by omega, by omega, ?_⟩
  simp only [List.getElem_drop, List.getElem_take] at e
  rw [← e, gt', List.getD_eq_getElem?_getD, List.getElem?_eq_getElem (by omega), Option.getD_some]
/-- Two elements change places. -/
def swp (l : List Row) (i j : Nat) : List Row := (l.set i (gt' l j)).set j (gt' l i)
theorem swp_len (l : List Row) (i j : Nat) : (swp l i j).length = l.length := by simp [swp]
theorem gt_swp {l : List Row} {i j : Nat} (hi : i < l.length) (hj : j < l.length) (k : Nat) : gt' (swp l i j) k = if k = j then gt' l i else if k = i then gt' l j else gt' l k := by
  simp only [gt', swp, List.getD_eq_getElem?_getD, List.getElem?_set, List.length_set]
  by_cases h1 : k = j
  · subst h1; simp [hj]
  · by_cases h2 : k = i
    · subst h2; simp [h1, hi, Ne.symm h1, hj]
    · simp [h1, h2, Ne.symm h1, Ne.symm h2]
theorem ext_gt {l x : List Row} (hl : x.length = l.length) (h : ∀ k, k < l.length → gt' x k = gt' l k) : x = l := by
  apply List.ext_getElem hl
  intro k h1 h2
  have := h k h2
  simpa [gt', List.getD_eq_getElem?_getD, List.getElem?_eq_getElem h1, List.getElem?_eq_getElem h2] using this
end Go.FE
namespace Go.FE
open Go.Proofs
def rotI (a m b k : Nat) : Nat := if k < a ∨ b ≤ k then k else if k < a + (b - m) then k + (m - a) else k - (b - m)
def rot (l : List Row) (a m b : Nat) : List Row := l.take a ++ ((l.take b).drop m ++ (l.take m).drop a) ++ l.drop b
theorem rot_len {l : List Row} {a m b : Nat} (h1 : a ≤ m) (h2 : m ≤ b) (h3 : b ≤ l.length) : (rot l a m b).length = l.length := by simp [rot]; omega
theorem gt_rot {l : List Row} {a m b : Nat} (h1 : a ≤ m) (h2 : m ≤ b) (h3 : b ≤ l.length) (k : Nat) : gt' (rot l a m b) k = gt' l (rotI a m b k) := by
  simp only [gt', rot, rotI, List.getD_eq_getElem?_getD, List.append_assoc]
  congr 1
  simp only [List.getElem?_append, List.length_take, List.length_drop, List.getElem?_drop, List.getElem?_take, Nat.min_eq_left (show a ≤ l.length by omega), Nat.min_eq_left h3, Nat.min_eq_left (show m ≤ l.length by omega)]
  by_cases c1 : k < a
  · simp [c1]
  · by_cases c2 : b ≤ k
    · simp only [c1, c2, or_true, if_true, if_false, show ¬ k - a < b - m by omega, show ¬ k - a - (b - m) < m - a by omega]
      congr 1; omega
    · by_cases c3 : k < a + (b - m)
      · simp only [c1, c2, c3, or_self, if_false, if_true, show k - a < b - m by omega, show m + (k - a) < b by omega]
        congr 1; omega
      · simp only [c1, c2, c3, or_self, if_false, show ¬ k - a < b - m by omega, show k - a - (b - m) < m - a by omega, show a + (k - a - (b - m)) < m by omega, if_true]
        congr 1; omega
theorem rot_is {l : List Row} {a m b : Nat} (h1 : a ≤ m) (h2 : m ≤ b) (h3 : b ≤ l.length) : IsSeg l (rot l a m b) a b := by
  have h0 := rot_len h1 h2 h3
  refine ⟨?_, ?_, ?_⟩
  · apply ext_gt (by simp [h0])
    intro k hk
    simp only [List.length_take] at hk
    have := gt_rot h1 h2 h3 k
    rw [rotI, if_pos (by omega)] at this
    simp only [gt', List.getD_eq_getElem?_getD, List.getElem?_take, show k < a by omega, if_true]
    simpa only [gt', List.getD_eq_getElem?_getD] using this
  · apply ext_gt (by simp [h0])
    intro k hk
    have := gt_rot h1 h2 h3 (b + k)
    rw [rotI, if_pos (by omega)] at this
    simp only [gt', List.getD_eq_getElem?_getD, List.getElem?_drop]
    simpa only [gt', List.getD_eq_getElem?_getD] using this
  · have e : l = l.take a ++ ((l.take m).drop a ++ (l.take b).drop m) ++ l.drop b := by
      have e1 := List.take_append_drop m (l.take b)
      rw [List.take_take, Nat.min_eq_left h2] at e1
      have e2 := List.take_append_drop a (l.take m)
      rw [List.take_take, Nat.min_eq_left h1] at e2
      rw [← List.append_assoc (l.take a), e2, e1, List.take_append_drop]
    refine List.Perm.trans ?_ (.of_eq e.symm)
    unfold rot
    exact (List.perm_append_comm.append_left _).append_right _
theorem rot_nil1 {l : List Row} {a b : Nat} (h1 : a ≤ b) (h3 : b ≤ l.length) : rot l a a b = l := by
  apply ext_gt (rot_len (Nat.le_refl _) h1 h3)
  intro k hk
  rw [gt_rot (Nat.le_refl _) h1 h3, rotI]
  congr 1; (repeat' split) <;> omega
theorem rot_nil2 {l : List Row} {a b : Nat} (h1 : a ≤ b) (h3 : b ≤ l.length) : rot l a b b = l := by
  apply ext_gt (rot_len h1 (Nat.le_refl _) h3)
  intro k hk
  rw [gt_rot h1 (Nat.le_refl _) h3, rotI]
  congr 1; (repeat' split) <;> omega
theorem swp_up {l : List Row} {a k : Nat} (h1 : a ≤ k) (h3 : k + 1 < l.length) : swp (rot l a (a + 1) (k + 1)) k (k + 1) = rot l a (a + 1) (k + 2) := by
  have hl := rot_len (l := l) (show a ≤ a + 1 by omega) (show a + 1 ≤ k + 1 by omega) (by omega)
  have hl' := rot_len (l := l) (show a ≤ a + 1 by omega) (show a + 1 ≤ k + 2 by omega) (by omega)
  apply ext_gt (by rw [swp_len, hl, hl'])
  intro i hi
  rw [gt_swp (by omega) (by omega), gt_rot (by omega) (by omega) (by omega), gt_rot (by omega) (by omega) (by omega), gt_rot (by omega) (by omega) (by omega), gt_rot (by omega) (by omega) (by omega)]
  simp only [rotI]
  (repeat' split) <;> first | omega | (congr 1; done) | (congr 1; omega)
theorem swp_dn {l : List Row} {k m : Nat} (h0 : 0 < k) (h1 : k ≤ m) (h3 : m < l.length) : swp (rot l k m (m + 1)) k (k - 1) = rot l (k - 1) m (m + 1) := by
  have hl := rot_len (l := l) h1 (show m ≤ m + 1 by omega) (by omega)
  have hl' := rot_len (l := l) (show k - 1 ≤ m by omega) (show m ≤ m + 1 by omega) (by omega)
  apply ext_gt (by rw [swp_len, hl, hl'])
  intro i hi
  rw [gt_swp (by omega) (by omega), gt_rot (by omega) (by omega) (by omega), gt_rot (by omega) (by omega) (by omega), gt_rot (by omega) (by omega) (by omega), gt_rot (by omega) (by omega) (by omega)]
  simp only [rotI]
  (repeat' split) <;> first | omega | (congr 1; done) | (congr 1; omega)
theorem ins_dn {l : List Row} {a i m : Nat} (hs : SdSeg l a m) (h1 : a ≤ i) (h2 : i ≤ m) (h3 : m < l.length) (hlo : ∀ p, a ≤ p → p < i → cmpR (gt' l p) (gt' l m) ≤ 0) (hhi : ∀ p, i ≤ p → p < m → cmpR (gt' l m) (gt' l p) ≤ 0) : rot l i m (m + 1) = srtSeg l a (m + 1) := by
  have h := rot_is h2 (show m ≤ m + 1 by omega) (show m + 1 ≤ l.length by omega)
  refine IsSeg.eq (by omega) (by omega) ((IsSeg.refl l a (m + 1)).trans h (by omega) (by omega)) ?_
  intro p q hp hpq hq
  rw [gt_rot h2 (by omega) (by omega), gt_rot h2 (by omega) (by omega)]
  simp only [rotI]
  (repeat' split) <;> first
    | omega
    | exact hs _ _ (by omega) (by omega) (by omega)
    | (rw [show q + (m - i) = m by omega]; exact hlo _ (by omega) (by omega))
    | (rw [show p + (m - i) = m by omega]; exact hhi _ (by omega) (by omega))
theorem ins_up {l : List Row} {a i b : Nat} (hs : SdSeg l (a + 1) b) (h1 : a + 1 ≤ i) (h2 : i ≤ b) (h3 : b ≤ l.length) (hlo : ∀ p, a + 1 ≤ p → p < i → cmpR (gt' l p) (gt' l a) ≤ 0) (hhi : ∀ p, i ≤ p → p < b → cmpR (gt' l a) (gt' l p) ≤ 0) : rot l a (a + 1) i = srtSeg l a b := by
  have h := rot_is (show a ≤ a + 1 by omega) h1 (show i ≤ l.length by omega)
  refine IsSeg.eq (by omega) (by omega) ((IsSeg.refl l a b).trans h (by omega) (by omega)) ?_
  intro p q hp hpq hq
  rw [gt_rot (by omega) h1 (by omega), gt_rot (by omega) h1 (by omega)]
  simp only [rotI]
  (repeat' split) <;> first
    | omega
    | exact hs _ _ (by omega) (by omega) (by omega)
    | (rw [show p - (i - (a + 1)) = a by omega]; exact hhi _ (by omega) (by omega))
    | (rw [show q - (i - (a + 1)) = a by omega]; exact hlo _ (by omega) (by omega))
theorem srtSeg_srtSeg {l : List Row} {a b a' b' : Nat} (h1 : a' ≤ a) (h2 : a ≤ b) (h3 : b ≤ b') (h4 : b' ≤ l.length) : srtSeg (srtSeg l a b) a' b' = srtSeg l a' b' := by
  have h := (srtSeg_is h2 (by omega : b ≤ l.length)).1
  have h' := srtSeg_is (l := srtSeg l a b) (show a' ≤ b' by omega) (by rw [h.len]; omega)
  exact IsSeg.eq (by omega) h4 (((IsSeg.refl l a' b').trans h (by omega) (by omega)).trans h'.1 (Nat.le_refl _) (Nat.le_refl _)) h'.2
theorem srtSeg_one {l : List Row} {a b : Nat} (h1 : a ≤ b) (h : b ≤ a + 1) (hb : b ≤ l.length) : srtSeg l a b = l :=
  (IsSeg.eq h1 hb (IsSeg.refl l a b) (fun p q _ _ _ => by omega)).symm
theorem srtSeg_all (l : List Row) : srtSeg l 0 l.length = srt l := by simp [srtSeg]
/-- One round of a merge by rotation. -/
theorem sym_fin {l x y z : List Row} {a m b st en mid : Nat} (hb : b ≤ l.length) (hA : SdSeg l a m) (hB : SdSeg l m b) (h1 : a ≤ st) (h2 : st ≤ m) (h3 : m ≤ en) (h4 : en ≤ b) (hmid : mid + m = st + en)
    (hlo : st = a ∨ en = b ∨ cmpR (gt' l (st - 1)) (gt' l en) ≤ 0) (hhi : st = m ∨ en = m ∨ cmpR (gt' l (en - 1)) (gt' l st) ≤ 0)
    (hx : x = rot l st m en ∨ (x = l ∧ ¬ (st < m ∧ m < en))) (hy : y = srtSeg x a mid ∨ (y = x ∧ ¬ (a < st ∧ st < mid))) (hz : z = srtSeg y mid b ∨ (z = y ∧ ¬ (mid < en ∧ en < b))) : z = srtSeg l a b := by
  have hx' : x = rot l st m en := by
    rcases hx with h | ⟨rfl, h⟩
    · exact h
    · rcases Nat.lt_or_ge st m with h5 | h5
      · have : en = m := by omega
        subst this; exact (rot_nil2 (by omega) (by omega)).symm
      · have : st = m := by omega
        subst this; exact (rot_nil1 (by omega) (by omega)).symm
  subst hx'
  have isx := rot_is h2 h3 (show en ≤ l.length by omega)
  have gx := gt_rot h2 h3 (show en ≤ l.length by omega)
  have lx := isx.len
  -- both halves are runs
  have lo1 : ∀ p, a ≤ p → p < st → gt' (rot l st m en) p = gt' l p := fun p hp hq => by rw [gx, rotI, if_pos (by omega)]
  have lo2 : ∀ p, st ≤ p → p < mid → gt' (rot l st m en) p = gt' l (p + (m - st)) := fun p hp hq => by rw [gx, rotI, if_neg (by omega), if_pos (by omega)]
  have hi1 : ∀ p, mid ≤ p → p < en → gt' (rot l st m en) p = gt' l (p - (en - m)) := fun p hp hq => by rw [gx, rotI, if_neg (by omega), if_neg (by omega)]
  have hi2 : ∀ p, en ≤ p → p < b → gt' (rot l st m en) p = gt' l p := fun p hp hq => by rw [gx, rotI, if_pos (by omega)]
  have cross : ∀ p q, a ≤ p → p < mid → mid ≤ q → q < b → cmpR (gt' (rot l st m en) p) (gt' (rot l st m en) q) ≤ 0 := by
    intro p q hp1 hp2 hq1 hq2
    rcases Nat.lt_or_ge p st with hp | hp
    · rw [lo1 p hp1 hp]
      rcases Nat.lt_or_ge q en with hq | hq
      · rw [hi1 q hq1 hq]; exact hA _ _ hp1 (by omega) (by omega)
      · rw [hi2 q hq hq2]
        have e := hlo.resolve_left (by omega) |>.resolve_left (by omega)
        have e1 : cmpR (gt' l p) (gt' l (st - 1)) ≤ 0 := by
          rcases Nat.lt_or_ge p (st - 1) with h | h
          · exact hA _ _ hp1 h (by omega)
          · rw [show p = st - 1 by omega]; exact Int.le_of_eq (preR.refl _)
        have e2 : cmpR (gt' l en) (gt' l q) ≤ 0 := by
          rcases Nat.lt_or_ge en q with h | h
          · exact hB _ _ h3 h hq2
          · rw [show q = en by omega]; exact Int.le_of_eq (preR.refl _)
        exact preR.tr _ _ _ (preR.tr _ _ _ e1 e) e2
    · rw [lo2 p hp hp2]
      rcases Nat.lt_or_ge q en with hq | hq
      · rw [hi1 q hq1 hq]
        have e := hhi.resolve_left (by omega) |>.resolve_left (by omega)
        have e1 : cmpR (gt' l (p + (m - st))) (gt' l (en - 1)) ≤ 0 := by
          rcases Nat.lt_or_ge (p + (m - st)) (en - 1) with h | h
          · exact hB _ _ (by omega) h (by omega)
          · rw [show p + (m - st) = en - 1 by omega]; exact Int.le_of_eq (preR.refl _)
        have e2 : cmpR (gt' l st) (gt' l (q - (en - m))) ≤ 0 := by
          rcases Nat.lt_or_ge st (q - (en - m)) with h | h
          · exact hA _ _ h1 h (by omega)
          · rw [show q - (en - m) = st by omega]; exact Int.le_of_eq (preR.refl _)
        exact preR.tr _ _ _ (preR.tr _ _ _ e1 e) e2
      · rw [hi2 q hq hq2]; exact hB _ _ (by omega) (by omega) hq2
  have hY : IsSeg (rot l st m en) y a mid ∧ SdSeg y a mid := by
    rcases hy with rfl | ⟨rfl, hn⟩
    · exact srtSeg_is (by omega) (by omega)
    · refine ⟨IsSeg.refl _ _ _, fun p q hp hpq hq => ?_⟩
      rcases Nat.lt_or_ge a st with h | h
      · rw [lo1 p hp (by omega), lo1 q (by omega) (by omega)]; exact hA _ _ hp hpq (by omega)
      · rw [lo2 p (by omega) (by omega), lo2 q (by omega) (by omega)]; exact hB _ _ (by omega) (by omega) (by omega)
  have ly := hY.1.len
  have hZ : IsSeg y z mid b ∧ SdSeg z mid b := by
    rcases hz with rfl | ⟨rfl, hn⟩
    · exact srtSeg_is (by omega) (by omega)
    · refine ⟨IsSeg.refl _ _ _, fun p q hp hpq hq => ?_⟩
      rw [hY.1.hi hp, hY.1.hi (show mid ≤ q by omega)]
      rcases Nat.lt_or_ge mid en with h | h
      · rw [hi1 p hp (by omega), hi1 q (by omega) (by omega)]; exact hA _ _ (by omega) (by omega) (by omega)
      · rw [hi2 p (by omega) (by omega), hi2 q (by omega) (by omega)]; exact hB _ _ (by omega) (by omega) (by omega)
  refine IsSeg.eq (by omega) hb ((((IsSeg.refl l a b).trans isx (by omega) (by omega)).trans hY.1 (Nat.le_refl _) (by omega)).trans hZ.1 (by omega) (Nat.le_refl _)) ?_
  intro p q hp hpq hq
  rcases Nat.lt_or_ge q mid with hqm | hqm
  · rw [hZ.1.lo (show p < mid by omega), hZ.1.lo hqm]; exact hY.2 _ _ hp hpq hqm
  · rcases Nat.lt_or_ge p mid with hpm | hpm
    · rw [hZ.1.lo hpm]
      obtain ⟨q', hq1, hq2, e⟩ := hZ.1.mem (by omega) (by omega) hqm hq
      obtain ⟨p', hp1, hp2, e'⟩ := hY.1.mem (by omega) (by omega) hp hpm
      rw [e, e', hY.1.hi hq1]
      exact cross _ _ hp1 hp2 hq1 hq2
    · exact hZ.2 _ _ hpm hpq hq
/-- A run of swaps. -/
def swapN (l : List Row) (a b : Nat) : Nat → List Row
  | 0 => l
  | n + 1 => swp (swapN l a b n) (a + n) (b + n)
theorem swapN_len (l : List Row) (a b : Nat) : ∀ n, (swapN l a b n).length = l.length
  | 0 => rfl
  | n + 1 => by rw [swapN, swp_len, swapN_len]
theorem gt_swapN {l : List Row} {a b : Nat} : ∀ {n : Nat}, a + n ≤ b → b + n ≤ l.length → ∀ k, gt' (swapN l a b n) k = if a ≤ k ∧ k < a + n then gt' l (k - a + b) else if b ≤ k ∧ k < b + n then gt' l (k - b + a) else gt' l k
  | 0, _, _, k => by rw [swapN, if_neg (by omega), if_neg (by omega)]
  | n + 1, h1, h2, k => by
    have ih := gt_swapN (l := l) (a := a) (b := b) (n := n) (by omega) (by omega)
    rw [swapN, gt_swp (by rw [swapN_len]; omega) (by rw [swapN_len]; omega), ih, ih, ih]
    (repeat' split) <;> first | omega | (congr 1; done) | (congr 1; omega)
theorem rot_gt {l : List Row} {i j m : Nat} (h1 : j < i) (h2 : i ≤ m) (h3 : m + j ≤ l.length) : rot (swapN l (m - i) m j) (m - (i - j)) m (m + j) = rot l (m - i) m (m + j) := by
  have hl := swapN_len l (m - i) m j
  apply ext_gt (by rw [rot_len (by omega) (by omega) (by omega), rot_len (by omega) (by omega) (by omega), hl])
  intro k hk
  rw [gt_rot (by omega) (by omega) (by omega), gt_rot (by omega) (by omega) (by omega), gt_swapN (by omega) (by omega)]
  simp only [rotI]
  (repeat' split) <;> first | omega | (congr 1; done) | (congr 1; omega)
theorem rot_lt {l : List Row} {i j m : Nat} (h1 : i < j) (h2 : i ≤ m) (h3 : m + j ≤ l.length) : rot (swapN l (m - i) (m + j - i) i) (m - i) m (m + (j - i)) = rot l (m - i) m (m + j) := by
  have hl := swapN_len l (m - i) (m + j - i) i
  apply ext_gt (by rw [rot_len (by omega) (by omega) (by omega), rot_len (by omega) (by omega) (by omega), hl])
  intro k hk
  rw [gt_rot (by omega) (by omega) (by omega), gt_rot (by omega) (by omega) (by omega), gt_swapN (by omega) (by omega)]
  simp only [rotI]
  (repeat' split) <;> first | omega | (congr 1; done) | (congr 1; omega)
theorem rot_eq {l : List Row} {i m : Nat} (h2 : i ≤ m) (h3 : m + i ≤ l.length) : swapN l (m - i) m i = rot l (m - i) m (m + i) := by
  apply ext_gt (by rw [swapN_len, rot_len (by omega) (by omega) (by omega)])
  intro k hk
  rw [gt_rot (by omega) (by omega) (by omega), gt_swapN (by omega) (by omega)]
  simp only [rotI]
  (repeat' split) <;> first | omega | (congr 1; done) | (congr 1; omega)
/-- Runs of n from a on. -/
inductive Blocks (x : List Row) (s : Nat) : Nat → Prop
  | done {a : Nat} : x.length ≤ a → Blocks x s a
  | last {a : Nat} : a ≤ x.length → x.length ≤ a + s → SdSeg x a x.length → Blocks x s a
  | step {a : Nat} : a + s ≤ x.length → SdSeg x a (a + s) → Blocks x s (a + s) → Blocks x s a
inductive Done (x : List Row) (s : Nat) : Nat → Prop
  | zero : Done x s 0
  | step {a : Nat} : Done x s a → SdSeg x a (a + s) → a + s ≤ x.length → Done x s (a + s)
theorem Done.blocks {x : List Row} {s a : Nat} (h : Done x s a) : Blocks x s a → Blocks x s 0 := by
  induction h with
  | zero => exact id
  | step _ hs hl ih => exact fun hb => ih (.step hl hs hb)
theorem sd_congr {x y : List Row} {a b : Nat} (h : ∀ p, a ≤ p → p < b → gt' y p = gt' x p) (hs : SdSeg x a b) : SdSeg y a b := fun p q hp hpq hq => by
  rw [h p hp (by omega), h q (by omega) hq]; exact hs p q hp hpq hq
theorem Done.le {x : List Row} {s a : Nat} (h : Done x s a) : a ≤ x.length := by cases h <;> omega
theorem Done.seg {x y : List Row} {s a a' b' : Nat} (h : Done x s a) (hy : IsSeg x y a' b') (ha : a ≤ a') : Done y s a := by
  induction h with
  | zero => exact .zero
  | step _ hs hl ih => exact .step (ih (by omega)) (sd_congr (fun p _ hp => hy.lo (by omega)) hs) (by rw [hy.len]; exact hl)
theorem Blocks.seg {x y : List Row} {s a a' b' : Nat} (h : Blocks x s a) (hy : IsSeg x y a' b') (ha : b' ≤ a) : Blocks y s a := by
  have hl := hy.len
  induction h with
  | done h => exact .done (by omega)
  | last h1 h2 hs => exact .last (by omega) (by omega) (by rw [hl]; exact sd_congr (fun p hp _ => hy.hi (by omega)) hs)
  | step h hs _ ih => exact .step (by omega) (sd_congr (fun p hp _ => hy.hi (by omega)) hs) (ih (by omega))
theorem Blocks.hd {x : List Row} {s a : Nat} (h : Blocks x s a) (hs : a + s ≤ x.length) : SdSeg x a (a + s) := by
  cases h with
  | done h => exact fun p q _ _ _ => by omega
  | last h1 h2 hs => rwa [show a + s = x.length by omega]
  | step h hs _ => exact hs
theorem Blocks.tl {x : List Row} {s a : Nat} (h : Blocks x s a) (hs : a + s ≤ x.length) : Blocks x s (a + s) := by
  cases h with
  | done h => exact .done (by omega)
  | last h1 h2 hs => exact .done (by omega)
  | step h hs t => exact t
theorem Blocks.all {x : List Row} {s a : Nat} (h : Blocks x s a) (hs : x.length ≤ a + s) : SdSeg x a x.length := by
  cases h with
  | done h => exact fun p q _ _ _ => by omega
  | last h1 h2 hs => exact hs
  | step h hs t => rwa [← show a + s = x.length by omega]
end Go.FE
namespace Go.FE
open Go.Proofs
theorem nf6 {α : Type} {a b : α} (h : a = b := by simp only [goP, goN, mrk, Nat.reduceMul, Nat.one_mul, Nat.mul_one, eq_self, false_implies, implies_true, Nat.reduceLT, List.getElem?_toArray, isCall, List.contains_nil, List.contains_cons, Nat.reduceBEq, Bool.or_false, Bool.or_self, List.length_map, gOf, step, stepM, stepP, ev, okV, if_true, if_false, allocA, storeA, boxA, one1, tokN, tok1, buildA, rowA, nrmP, partV, partA, fieldA, fieldV, elemA, lenA, bltA, asSl, appA, makeA, makeR, cutA, bndA, binV, intOp, strOp, unV, eqB, nilB, sameT, List.all_cons, List.all_nil, Bool.and_self, Bool.and_true, Bool.true_and, List.map_cons, List.map_nil, List.nil_append, List.cons_append, List.append_nil, AV.bare, AV.content, AV.clean, AV.one, putD, List.set_cons_zero, List.set_cons_succ, List.reverse_cons, List.reverse_nil, List.getD_cons_zero, List.getD_cons_succ, List.getElem?_cons_zero, List.getElem?_cons_succ, Option.getD_some, Option.map_some, Option.map_none, Option.bind_some, List.length_cons, List.length_nil, lk, cellsA, fillA, fillS, isAggD, spl, nrm, nrmA, List.take_succ_cons, List.take_zero, List.drop_succ_cons, List.drop_zero, List.drop_nil, List.take_nil, Nat.reduceAdd, Nat.zero_add, Nat.add_zero, Nat.add_assoc, Nat.add_left_cancel_iff, reduceCtorEq, Prod.mk.injEq, List.cons.injEq, and_self, and_true, true_and, Nat.le_refl, Nat.reduceLeDiff, Nat.reduceEqDiff, List.getElem?_nil, Int.reduceToNat, Int.reduceLE, Int.reduceLT, ite_self, List.forall_mem_cons, List.not_mem_nil, false_and, and_false, Bool.false_eq_true, List.replicate_zero, List.replicate_succ, Int.toNat_natCast, neJ2, neJ2', neJ3, neJ3', callOf, callOf2, fnOf, argsA, args2, Array.isEmpty_empty, resLL, resVL, beq_self_eq_true, appR, newR, storeP, st3, zt3, it3, ct3, se3, Tryz.underlying3, st4, zt4, it4, ct4, se4, Tryz.underlying4, st9, zt9, it9, ct9, se9, Tryz.underlying9, st23, zt23, it23, ct23, se23, Tryz.underlying23, st25, zt25, it25, ct25, pt25, eqs25, se25, Tryz.underlying25, st49, zt49, it49, ct49, se49, Tryz.underlying49, Tryz.results216, Int.natCast_nonneg, st122, Tryz.underlying122, Tryz.results215, U.out] <;> rfl) : a = b := h
theorem rws_at {l : List Row} {i : Nat} (h : i < l.length) : (l.map fun r => [aRow r])[i]? = some [aRow (gt' l i)] := by simp [h, gt', List.getD_eq_getElem?_getD]
theorem wN {x y : Int} {n : Nat} (h : x = n) (hn : n ≤ maxLen) : IntKind.i64.wrap x = n := by
  subst h; unfold maxLen at hn; exact w64 (by omega) (by omega)
theorem rg216v6 {T : List Rid} {p : Path} {Q : Exit → SL → Prop} {tm : List AV} {L : RL} {n : Nat} {c : Code} {l : List Oper} (n' : Nat) (Qs : List Nat) (h : ∀ all, (ro c).toList = all → GoI Tryz.prog T p all false Qs n 0 l tm L fun tm' L' => Q .normal ⟨tm', L', n'⟩) (hk : kd c = 0 := by kernel_rfl) (hr : rd c = false := by kernel_rfl) (hl : (ro c).toList = l := by dsimp only [ro, s1, s2, c1, c2, bc, bod, Tryz.f216, Option.getD_some] <;> exact rfl) (hn : n + (ro c).size = n' := by kernel_rfl) : PI Tryz.prog T p c Q ⟨tm, L, n⟩ := PI.rg n' Qs hk hr hl (fun h => by cases h) hn (h _ rfl)
theorem rd216v6 {T : List Rid} {p : Path} {Q : Exit → SL → Prop} {tm : List AV} {L : RL} {n : Nat} {c : Code} {l : List Oper} (n' : Nat) (Qs : List Nat) (h : ∀ all, (ro c).toList = all → GoI Tryz.prog T p all true Qs n 0 l tm L fun tm' L' => Q .normal ⟨tm', L', n'⟩) (hk : kd c = 0 := by kernel_rfl) (hr : rd c = true := by kernel_rfl) (hl : (ro c).toList = l := by dsimp only [ro, s1, s2, c1, c2, bc, bod, Tryz.f216, Option.getD_some] <;> exact rfl) (hn : n + (ro c).size = n' := by kernel_rfl) (hd : drawOK (ro c) Qs = true := by kernel_rfl) : PI Tryz.prog T p c Q ⟨tm, L, n⟩ := PI.rg n' Qs hk hr hl (fun _ => hd) hn (h _ rfl)
set_option maxHeartbeats 1000000 in
set_option maxRecDepth 100000 in
theorem okSwapR {id : Rid} {rs : Rid → Res} {p : Path} {s : Nat} (l : List Row) (a b n : Nat) (hid : ¬ Under p id) (hrs : rs id = .arr s 49 1 (l.map fun r => [aRow r])) (hl : l.length ≤ maxLen) (h1 : a + n ≤ b) (h2 : b + n ≤ l.length) :
    Calls2 Tryz.prog 216 [.ar id s 1 0 l.length, aI a, aI b, aI n, aFn 134] [id] rs p (.tup []) [(id, .arr s 49 1 ((swapN l a b n).map fun r => [aRow r]))] := by
  have U : Hid True := ⟨trivial⟩
  replace U := U.cons (And.intro (nu1 hid) (nu2 hid))
  refine Calls2.of_pi ([(id, .arr s 49 1 (l.map fun r => [aRow r]))]) mixed Tryz.func216 (by kernel_rfl) (by kernel_rfl) (by simp [lk, hrs, hid]) (by simp [lk, hrs, hid]) (by simp [lk, hrs, hid]) (by simp [lk, hrs, hid]) (by simp [lk, hrs, hid]) (?_ : PI _ _ _ _ _ ⟨[.ar id s 1 0 l.length, aI a, aI b, aI n, aFn 134, .und, .und, .und, .und, .und, .und, .und, .und, .und, .und, .und, .und, .und, .und, .und, .und, .und, .und, .und, .und, .und, .und, .und, .und, .und, .und, .und, .und, .und, .und, .und, .und, .und], [(id, .arr s 49 1 (l.map fun r => [aRow r]))], 0⟩)
  refine PI.q ?_
  refine rg216v6 (1) [] fun all1 _ => ?_
  refine GoI.z nf6 ?_
  refine PI.b 0 ?_
  refine PI.lo (by kernel_rfl) (X := Nat) (fun i => (10, aI i) :: uk [11, 12, 13, 14, 15, 16, 17, 18, 19, 20, 21, 22, 23, 24, 25, 26, 27, 28, 29, 30, 31, 32, 33, 34, 35, 36, 37]) (fun i => [(id, .arr s 49 1 ((swapN l a b i).map fun r => [aRow r]))]) (fun k i => k = n - i ∧ i ≤ n) (n) (0) (GhI.of_wk ⟨by simp [ovr, uk, lessT], by simp [lessR, lk, nu1 hid, nu2 hid, neJ2, neJ2', neJ3, neJ3', swapN, swp], by (try dsimp only); omega, by simp [keepR, lk, under_self, nu1 hid, nu2 hid, neJ2, neJ2', neJ3, neJ3', swapN, swp]⟩) (by simp) ?_
  intro k1 x1 j1 hr1
  obtain ⟨rfl, hi1⟩ := hr1
  simp only [ovr, uk, List.set_cons_zero, List.set_cons_succ]
  refine PI.q ?_
  refine PI.q ?_
  refine rg216v6 (j1 + 4) [] fun all2 _ => ?_
  refine GoI.runN 2 nf6 ?_
  refine GoI.z nf6 ?_
  refine PI.d 13 nf6 (fun hb1 => ?_) (fun hb1 => ?_)
  ·
   try simp only [hb1]
   obtain ⟨hlt, hw⟩ := up hb1 (by omega)
   have hL := swapN_len l a b x1
   have ha : IntKind.i64.wrap ((a : Int) + x1) = ((a + x1 : Nat) : Int) := wN (y := 0) (by omega) (by omega)
   have hb : IntKind.i64.wrap ((b : Int) + x1) = ((b + x1 : Nat) : Int) := wN (y := 0) (by omega) (by omega)
   have hc := show a + x1 < l.length by omega
   have hd := show b + x1 < l.length by omega
   have hx := rws_at (l := swapN l a b x1) (i := a + x1) (by omega)
   have hy := rws_at (l := swapN l a b x1) (i := b + x1) (by omega)
   have hz : ((((swapN l a b x1).map fun r => [aRow r]).set (a + x1) [aRow (gt' (swapN l a b x1) (b + x1))]))[b + x1]? = some [aRow (gt' (swapN l a b x1) (b + x1))] := by rw [List.getElem?_set, if_neg (by omega), hy]
   replace U := U.cons (And.intro (hw) (And.intro (ha) (And.intro (hb) (And.intro (hc) (And.intro (hd) (And.intro (hx) (And.intro (hy) (And.intro (hz) (@Int.ofNat_lt)))))))))
   refine PI.s ?_
   refine PI.q ?_
   refine PI.b 1 ?_
   refine rd216v6 (j1 + 28) [] fun all3 _ => ?_
   refine GoI.runN 2 nf6 ?_
   refine GoI.runN 2 nf6 ?_
   refine GoI.runN 2 nf6 ?_
   refine GoI.runN 2 nf6 ?_
   refine GoI.runN 2 nf6 ?_
   refine GoI.runN 2 nf6 ?_
   refine GoI.runN 2 nf6 ?_
   refine GoI.runN 2 nf6 ?_
   refine GoI.runN 2 nf6 ?_
   refine GoI.runN 2 nf6 ?_
   refine GoI.runN 2 nf6 ?_
   refine GoI.z nf6 ?_
   refine rg216v6 (j1 + 31) [] fun all4 _ => ?_
   refine GoI.runN 2 nf6 ?_
   refine GoI.z nf6 ?_
   refine ⟨n - (x1 + 1), x1 + 1, j1 + 30, by omega, ⟨rfl, by omega⟩, GhI.of_wk ⟨by simp [ovr, uk, lessT], by simp [lessR, lk, nu1 hid, nu2 hid, neJ2, neJ2', neJ3, neJ3', swapN, swp], by (try dsimp only); omega, by simp [keepR, lk, under_self, nu1 hid, nu2 hid, neJ2, neJ2', neJ3, neJ3', swapN, swp]⟩⟩
  try simp only [hb1]
  have hx := dn hb1
  have hx' : x1 = n := by omega
  subst hx'
  refine PI.e 0 ?_
  exact FinI.mk _ nf6 ⟨by clear U; rfl, fin_keys (by simp [lk, under_self, nu1 hid, nu2 hid]) (by simp [lk, under_self, nu1 hid, nu2 hid])⟩
abbrev arrR (s : Nat) (l : List Row) : Res := .arr s 49 1 (l.map fun r => [aRow r])
abbrev aArr (id : Rid) (s n : Nat) : AV := .ar id s 1 0 n
abbrev aCmp : AV := aFn 134
theorem okSwapR' {id : Rid} {rs : Rid → Res} {p : Path} {s : Nat} {l : List Row} {N a b n : Nat} (hid : ¬ Under p id) (hrs : rs id = arrR s l) (hN : N = l.length) (hl : N ≤ maxLen) (h1 : a + n ≤ b) (h2 : b + n ≤ N) :
    Calls2 Tryz.prog 216 [aArr id s N, aI a, aI b, aI n, aCmp] [id] rs p (.tup []) [(id, arrR s (swapN l a b n))] := by
  subst hN; exact okSwapR l a b n hid hrs hl h1 h2
structure RX where
  i : Nat
  j : Nat
  x : List Row
theorem rg215v6 {T : List Rid} {p : Path} {Q : Exit → SL → Prop} {tm : List AV} {L : RL} {n : Nat} {c : Code} {l : List Oper} (n' : Nat) (Qs : List Nat) (h : ∀ all, (ro c).toList = all → GoI Tryz.prog T p all false Qs n 0 l tm L fun tm' L' => Q .normal ⟨tm', L', n'⟩) (hk : kd c = 0 := by kernel_rfl) (hr : rd c = false := by kernel_rfl) (hl : (ro c).toList = l := by dsimp only [ro, s1, s2, c1, c2, bc, bod, Tryz.f215, Option.getD_some] <;> exact rfl) (hn : n + (ro c).size = n' := by kernel_rfl) : PI Tryz.prog T p c Q ⟨tm, L, n⟩ := PI.rg n' Qs hk hr hl (fun h => by cases h) hn (h _ rfl)
set_option maxHeartbeats 1000000 in
set_option maxRecDepth 100000 in
theorem okRot {id : Rid} {rs : Rid → Res} {p : Path} {s : Nat} (l : List Row) (N a m b : Nat) (hid : ¬ Under p id) (hrs : rs id = arrR s l) (hN : N = l.length) (hl : N ≤ maxLen) (h1 : a < m) (h2 : m < b) (h3 : b ≤ N) :
    Calls2 Tryz.prog 215 [aArr id s N, aI a, aI m, aI b, aCmp] [id] rs p (.tup []) [(id, arrR s (rot l a m b))] := by
  have w1 : IntKind.i64.wrap ((m : Int) - a) = ((m - a : Nat) : Int) := wN (y := 0) (by omega) (by omega)
  have w2 : IntKind.i64.wrap ((b : Int) - m) = ((b - m : Nat) : Int) := wN (y := 0) (by omega) (by omega)
  have U : Hid True := ⟨trivial⟩
  replace U := U.cons (And.intro (nu1 hid) (And.intro (nu2 hid) (And.intro (w1) (w2))))
  refine Calls2.of_pi ([(id, arrR s l)]) mixed Tryz.func215 (by kernel_rfl) (by kernel_rfl) (by simp [lk, hrs, hid]) (by simp [lk, hrs, hid]) (by simp [lk, hrs, hid]) (by simp [lk, hrs, hid]) (by simp [lk, hrs, hid]) (?_ : PI _ _ _ _ _ ⟨[aArr id s N, aI a, aI m, aI b, aCmp, .und, .und, .und, .und, .und, .und, .und, .und, .und, .und, .und, .und, .und, .und, .und, .und, .und, .und, .und, .und, .und, .und, .und, .und, .und, .und, .und, .und, .und, .und, .und, .und, .und, .und, .und, .und, .und, .und, .und, .und, .und, .und, .und, .und, .und, .und, .und, .und, .und, .und, .und, .und, .und], [(id, arrR s l)], 0⟩)
  refine PI.q ?_
  refine rg215v6 (4) [] fun all1 _ => ?_
  refine GoI.runN 2 nf6 ?_
  refine GoI.z nf6 ?_
  refine PI.q ?_
  refine rg215v6 (8) [] fun all2 _ => ?_
  refine GoI.runN 2 nf6 ?_
  refine GoI.z nf6 ?_
  refine PI.q ?_
  refine PI.b 0 ?_
  refine PI.lo (by kernel_rfl) (X := RX) (fun x => (10, aI x.i) :: (11, aI x.j) :: uk [18, 19, 20, 21, 22, 23, 24, 25, 26, 27, 28, 29, 30, 31, 32, 33, 34, 35, 36, 37, 38, 39, 40, 41, 42, 43, 44, 45, 46, 47, 48, 49]) (fun x => [(id, arrR s x.x)]) (fun k x => k = x.i + x.j ∧ 0 < x.i ∧ 0 < x.j ∧ x.i ≤ m - a ∧ x.j ≤ b - m ∧ x.x.length = N ∧ rot x.x (m - x.i) m (m + x.j) = rot l a m b) (m - a + (b - m)) (⟨m - a, b - m, l⟩) (GhI.of_wk ⟨by simp [ovr, uk, lessT], by simp [lessR, lk, nu1 hid, nu2 hid, w1, w2, neJ2, neJ2', neJ3, neJ3'], by (try dsimp only); omega, by simp [keepR, lk, under_self, nu1 hid, nu2 hid, w1, w2, neJ2, neJ2', neJ3, neJ3']⟩) (⟨rfl, by show 0 < m - a; omega, by show 0 < b - m; omega, Nat.le_refl _, Nat.le_refl _, hN.symm, by show rot l (m - (m - a)) m (m + (b - m)) = _; rw [show m - (m - a) = a by omega, show m + (b - m) = b by omega]⟩) ?_
  intro k1 x1 j1 hr1
  obtain ⟨rfl, hi0, hj0, hi1, hj1, hxl, hrot⟩ := hr1
  simp only [ovr, uk, List.set_cons_zero, List.set_cons_succ]
  refine PI.q ?_
  refine PI.q ?_
  refine rg215v6 (j1 + 11) [] fun all3 _ => ?_
  refine GoI.runN 2 nf6 ?_
  refine GoI.z nf6 ?_
  refine PI.d 20 nf6 (fun hb1 => ?_) (fun hb1 => ?_)
  ·
   try simp only [hb1]
   have w3 : IntKind.i64.wrap ((m : Int) - x1.i) = ((m - x1.i : Nat) : Int) := wN (y := 0) (by omega) (by omega)
   have w4 : IntKind.i64.wrap ((m : Int) + x1.j) = ((m + x1.j : Nat) : Int) := wN (y := 0) (by omega) (by omega)
   have w5 : IntKind.i64.wrap (((m + x1.j : Nat) : Int) - x1.i) = ((m + x1.j - x1.i : Nat) : Int) := wN (y := 0) (by omega) (by omega)
   replace U := U.cons (And.intro (w3) (And.intro (w4) (w5)))
   refine PI.s ?_
   refine PI.b 1 ?_
   refine PI.q ?_
   refine rg215v6 (j1 + 14) [] fun all4 _ => ?_
   refine GoI.runN 2 nf6 ?_
   refine GoI.z nf6 ?_
   refine PI.d 23 nf6 (fun hb2 => ?_) (fun hb2 => ?_)
   ·
    try simp only [hb2]
    have hgt : x1.j < x1.i := by simp at hb2; omega
    have w6 : IntKind.i64.wrap ((x1.i : Int) - x1.j) = ((x1.i - x1.j : Nat) : Int) := wN (y := 0) (by omega) (by omega)
    replace U := U.cons (w6)
    refine PI.q ?_
    refine rg215v6 (j1 + 22) [7] fun all5 _ => ?_
    refine GoI.runN 2 nf6 ?_
    refine GoI.runN 2 nf6 ?_
    refine GoI.runN 2 nf6 ?_
    refine GoI.run nf6 ?_
    refine GoI.call2e nf6 nf6 (by exact okSwapR' (fun h => hid h.tail) (by repeat (first | exact lk_hd | refine lk_tl (by simp <;> omega) ?_)) (by omega) (by omega) (by omega) (by omega)) (by first | exact .inr rfl | exact .inl rfl) (by exact fun h => by cases h) ?_
    try simp only [List.reverse_cons, List.reverse_nil, List.nil_append, List.cons_append, List.append_assoc]
    refine GoI.z nf6 ?_
    refine rg215v6 (j1 + 26) [] fun all6 _ => ?_
    refine GoI.runN 2 nf6 ?_
    refine GoI.z nf6 ?_
    refine ⟨x1.i - x1.j + x1.j, ⟨x1.i - x1.j, x1.j, swapN x1.x (m - x1.i) m x1.j⟩, j1 + 18, by omega, ⟨rfl, by dsimp only; omega, hj0, by dsimp only; omega, hj1, by dsimp only; rw [swapN_len]; exact hxl, by dsimp only; rw [rot_gt hgt (by omega) (by omega)]; exact hrot⟩, GhI.of_wk ⟨by simp [ovr, uk, lessT], by simp [lessR, lk, nu1 hid, nu2 hid, w1, w2, neJ2, neJ2', neJ3, neJ3'], by (try dsimp only); omega, by simp [keepR, lk, under_self, nu1 hid, nu2 hid, w1, w2, neJ2, neJ2', neJ3, neJ3']⟩⟩
   try simp only [hb2]
   have hgt : x1.i < x1.j := by simp at hb1 hb2; omega
   have w6 : IntKind.i64.wrap ((x1.j : Int) - x1.i) = ((x1.j - x1.i : Nat) : Int) := wN (y := 0) (by omega) (by omega)
   replace U := U.cons (w6)
   refine PI.q ?_
   refine rg215v6 (j1 + 26) [11] fun all7 _ => ?_
   refine GoI.runN 2 nf6 ?_
   refine GoI.runN 2 nf6 ?_
   refine GoI.runN 2 nf6 ?_
   refine GoI.runN 2 nf6 ?_
   refine GoI.runN 2 nf6 ?_
   refine GoI.run nf6 ?_
   refine GoI.call2e nf6 nf6 (by exact okSwapR' (fun h => hid h.tail) (by repeat (first | exact lk_hd | refine lk_tl (by simp <;> omega) ?_)) (by omega) (by omega) (by omega) (by omega)) (by first | exact .inr rfl | exact .inl rfl) (by exact fun h => by cases h) ?_
   try simp only [List.reverse_cons, List.reverse_nil, List.nil_append, List.cons_append, List.append_assoc]
   refine GoI.z nf6 ?_
   refine rg215v6 (j1 + 30) [] fun all8 _ => ?_
   refine GoI.runN 2 nf6 ?_
   refine GoI.z nf6 ?_
   refine ⟨x1.i + (x1.j - x1.i), ⟨x1.i, x1.j - x1.i, swapN x1.x (m - x1.i) (m + x1.j - x1.i) x1.i⟩, j1 + 22, by omega, ⟨rfl, hi0, by dsimp only; omega, hi1, by dsimp only; omega, by dsimp only; rw [swapN_len]; exact hxl, by dsimp only; rw [rot_lt hgt (by omega) (by omega)]; exact hrot⟩, GhI.of_wk ⟨by simp [ovr, uk, lessT], by simp [lessR, lk, nu1 hid, nu2 hid, w1, w2, neJ2, neJ2', neJ3, neJ3'], by (try dsimp only); omega, by simp [keepR, lk, under_self, nu1 hid, nu2 hid, w1, w2, neJ2, neJ2', neJ3, neJ3']⟩⟩
  try simp only [hb1]
  have w3 : IntKind.i64.wrap ((m : Int) - x1.i) = ((m - x1.i : Nat) : Int) := wN (y := 0) (by omega) (by omega)
  have he : x1.i = x1.j := by simp at hb1; omega
  have hfin := rot_eq (l := x1.x) (i := x1.i) (m := m) (by omega) (by omega)
  rw [← he, ← hfin] at hrot
  rw [← hrot]
  replace U := U.cons (w3)
  refine PI.e 0 ?_
  refine rg215v6 (j1 + 19) [7] fun all9 _ => ?_
  refine GoI.runN 2 nf6 ?_
  refine GoI.runN 2 nf6 ?_
  refine GoI.runN 2 nf6 ?_
  refine GoI.run nf6 ?_
  refine GoI.call2e nf6 nf6 (by exact okSwapR' (fun h => hid h.tail) (by repeat (first | exact lk_hd | refine lk_tl (by simp <;> omega) ?_)) (by omega) (by omega) (by omega) (by omega)) (by first | exact .inr rfl | exact .inl rfl) (by exact fun h => by cases h) ?_
  try simp only [List.reverse_cons, List.reverse_nil, List.nil_append, List.cons_append, List.append_assoc]
  refine GoI.z nf6 ?_
  exact FinI.mk _ nf6 ⟨by clear U; rfl, fin_keys (by simp [lk, under_self, nu1 hid, nu2 hid, w1, w2]) (by simp [lk, under_self, nu1 hid, nu2 hid, w1, w2])⟩
end Go.FE
