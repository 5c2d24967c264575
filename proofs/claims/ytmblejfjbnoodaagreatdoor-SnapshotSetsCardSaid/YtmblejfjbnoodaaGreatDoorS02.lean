/- The same, operation by operation: the step of an operation that neither writes nor reads variables. Fields, lengths, cuts, struct values: by content. Struct values and rows that are written out: by content. The step of an operation that neither writes nor reads variables. Rows of the call's own: what they read as; appending; rows written out. The operations that make, read or write variables and rows of the call's own. -/
import Derived.Great.BuildSlice
import Derived.Test.YtmblejfjbnoodaaGreatDoorS01
set_option linter.unusedVariables false
set_option linter.unusedSimpArgs false
namespace Go.FE
open Go.RowKit
def sizeT (P : Program) (t : TypeId) : Option Nat := (P.info? t).map (·.size)
def isAggD : TypeDesc → Bool
  | .struct _ | .array _ _ => true
  | _ => false
theorem run_sizeOf {P : Program} {w : World} {t : TypeId} {n : Nat} (h : sizeT P t = some n) : (sizeOf t).run P w = .ok n w := by
  unfold sizeT at h
  obtain ⟨i, hi, rfl⟩ := Option.map_eq_some_iff.1 h
  simp [sizeOf, typeInfo, hi]
theorem run_isAgg {P : Program} {w : World} {t : TypeId} {d : TypeDesc} (h : P.underlying t = some d) : (isAgg t).run P w = .ok (isAggD d) w := by
  simp only [isAgg, Sem.run_bind, run_underlying h, Result.andThen_ok]
  cases d <;> rfl
/-- A part of cells by content. -/
def partA (P : Program) (t : TypeId) (n : Nat) (cs : List AV) (off : Nat) : Option AV :=
  match P.underlying t, sizeT P t with
  | some d, some sz =>
    if isAggD d = true then (if off = 0 ∧ sz = n then some (.agg n cs) else if off + sz ≤ n then some (.agg sz ((cs.drop off).take sz)) else none)
    else if off < n then some (cs.getD off .unk).bare else none
  | _, _ => none
theorem partA_CR {P : Program} {m w t n cs off q} {vs : Array Value} (h : CR m w (.agg n cs) (.agg vs)) (hp : partA P t n cs off = some q) :
    ∃ x, (∀ w', (part t vs off).run P w' = .ok x w') ∧ CR m w q x ∧ ∀ xs p, q ≠ .sl xs (some p) := by
  obtain ⟨vs', e, hn, hv, h1, hq⟩ := h.agg_inv
  injection e with e
  subst e
  unfold partA at hp
  split at hp
  · rename_i d sz hd hs
    split at hp
    · rename_i ha
      split at hp
      · rename_i h0
        obtain ⟨rfl, rfl⟩ := h0
        injection hp with hp
        subst hp
        refine ⟨.agg vs, fun w' => ?_, .agg hn hv h1 hq, fun _ _ e => by cases e⟩
        simp only [part, Sem.run_bind, run_isAgg hd, Result.andThen_ok, ha, if_true, run_sizeOf hs, Sem.run_pure, Nat.zero_add]
        rw [← hv]
        simp
      · split at hp
        · rename_i hle
          injection hp with hp
          subst hp
          refine ⟨.agg (vs.extract off (off + sz)), fun w' => ?_, .agg (by simp; omega) (by simp; omega) (fun i hi => ?_) (fun i q hi => ?_), fun _ _ e => by cases e⟩
          · simp [part, run_isAgg hd, ha, run_sizeOf hs]
          · rw [Array.getD_eq_getD_getElem?, Array.getElem?_extract, if_pos (by omega), ← Array.getD_eq_getD_getElem?]
            exact h1 _ (by omega)
          · have hi2 : i < sz := by
              have := (List.getElem?_eq_some_iff.1 hi).1
              simp at this
              omega
            rw [List.getElem?_take_of_lt hi2, List.getElem?_drop] at hi
            rw [Array.getD_eq_getD_getElem?, Array.getElem?_extract, if_pos (by omega), ← Array.getD_eq_getD_getElem?]
            exact hq _ q hi
        · cases hp
    · rename_i ha
      split at hp
      · rename_i hlt
        injection hp with hp
        subst hp
        refine ⟨vs.getD off undef, fun w' => ?_, ?_, fun xs p e => ?_⟩
        · have : isAggD d = false := by simpa using ha
          simp only [part, Sem.run_bind, run_isAgg hd, Result.andThen_ok, this]
          have hvs : off < vs.size := by omega
          simp [hvs]
        · have hq := hq off (cs.getD off .unk) (by rw [List.getD_eq_getElem?_getD, List.getElem?_eq_getElem (by omega)]; rfl)
          revert hq
          cases cs.getD off .unk <;> intro hq <;> first | exact hq | exact hq.tok
        · revert e
          cases cs.getD off .unk <;> simp [AV.bare]
      · cases hp
  · cases hp
/-- A slice's element by content. -/
def elemA (P : Program) (t : TypeId) (q i : AV) : Option AV :=
  match P.underlying t with
  | some (.slice e) => match q with
   | .ar id s z off n => match sizeT P e, i with
    | some sz, .v (.int _ j) => if 0 ≤ j ∧ j < n ∧ sz = z then some (.ap id s (off + j.toNat) 0) else none
    | _, _ => none
   | _ => match sizeT P e, asSl q, i with
    | some sz, some xs, .v (.int _ n) => if 0 ≤ n then (match xs[n.toNat]? with
        | some cs => if cs.length = sz then some (.ep sz cs 0) else none
        | none => none) else none
    | _, _, _ => none
  | _ => none
theorem elemA_sound {P : Program} {E : Env} {t : TypeId} {q i : AV} {x y : Value} {r : AV} (hx : VR E q x) (hy : VR E i y) (h : elemA P t q i = some r) :
    ∃ z, (Instr.indexAt t x y).run P E.w = .ok z E.w ∧ VR E r z := by
  unfold elemA at h
  split at h
  · rename_i e he
    split at h
    · rename_i id s z off n
      split at h
      · rename_i sz k j hs
        obtain ⟨rfl, _⟩ := CR.v_inv hy
        split at h
        · rename_i hc
          obtain ⟨hj0, hjn, rfl⟩ := hc
          injection h with h
          subst h
          obtain ⟨hU, ⟨A, c, rfl, hnc, hnm, hA⟩, hv⟩ := hx
          obtain ⟨ad, rfl⟩ := hA (by omega)
          refine ⟨.pointer (some (ad.add (j.toNat * sz))), ?_, hU, ⟨_, rfl⟩, fun s' e' sz' b h => ?_⟩
          · have hb : 0 ≤ j ∧ j < (n : Int) := ⟨hj0, hjn⟩
            simp only [Instr.indexAt, asIntOf, Sem.run_bind, Sem.run_pure, Result.andThen_ok, run_underlying he]
            rw [if_pos hb]
            simp only [Sem.run_bind, run_sizeOf hs, Result.andThen_ok, Sem.run_pure]
          · obtain ⟨h1, h2⟩ := hv s' e' sz' b h
            refine ⟨h1, fun hss => ?_⟩
            obtain ⟨h3, rfl, ⟨A, N, c', h4, h5⟩, h6⟩ := h2 hss
            refine ⟨h3, ?_⟩
            have h7 := h6 (.inr (by omega))
            rw [h4] at h7
            simp only [viewOf, Value.slice.injEq] at h7
            obtain ⟨h7, _, _⟩ := h7
            cases A with
            | none => cases h7
            | some A =>
              simp only [Option.map_some, Option.some.injEq] at h7
              refine ⟨A, N, c', h4, ?_⟩
              rw [h7, add_add, Nat.add_mul, Nat.add_zero]
        · cases h
      · cases h
    split at h
    · rename_i sz xs k n hs hq
      obtain ⟨rfl, _⟩ := CR.v_inv hy
      obtain ⟨A, c, sz', f, rfl, hc, hm, hls, ha, hr⟩ := (asSl_CR hx hq).sl_inv
      split at h
      · rename_i hn
        split at h
        · rename_i cs hcs
          split at h
          · rename_i hl
            injection h with h
            subst h
            have hlt : n.toNat < xs.length := (List.getElem?_eq_some_iff.1 hcs).1
            have hne : xs ≠ [] := fun e => by rw [e] at hlt; simp at hlt
            obtain ⟨ad, rfl, ha2⟩ := ha hne
            have hsz : sz' = sz := by rw [← hl]; exact (hls cs (List.mem_of_getElem? hcs)).symm
            subst hsz
            refine ⟨.pointer (some (ad.add (n.toNat * sz'))), ?_, hl, ad.add (n.toNat * sz'), f n.toNat, by rw [add_zero], fun i q hi => ?_⟩
            · have hb : 0 ≤ n ∧ n < (xs.length : Int) := ⟨hn, by omega⟩
              simp only [Instr.indexAt, asIntOf, Sem.run_bind, Sem.run_pure, Result.andThen_ok, run_underlying he]
              rw [if_pos hb]
              simp only [Sem.run_bind, run_sizeOf hs, Result.andThen_ok, Sem.run_pure]
            · rw [add_add]
              exact ⟨(ha2 _ cs i q hcs hi).1, (ha2 _ cs i q hcs hi).2, hr _ cs i q hcs hi⟩
          · cases h
        · cases h
      · cases h
    · cases h
  · cases h
/-- A load out of cells that nobody writes. -/
theorem load_ep {P : Program} {E : Env} {t : TypeId} {n off : Nat} {cs : List AV} {x : Value} {r : AV} (hx : VR E (.ep n cs off) x) (h : partA P t n cs off = some r) :
    ∃ z, (Instr.loadAt t x).run P E.w = .ok z E.w ∧ VR E r z := by
  obtain ⟨hn, ad, f, rfl, hf⟩ := hx
  have hagg : CR E.m E.w (.agg n cs) (.agg ((List.range n).map f).toArray) := by
    refine .agg hn (by simp) (fun i hi => ?_) (fun i q hi => ?_)
    · have hil : i < cs.length := by omega
      have := (hf i cs[i] (List.getElem?_eq_getElem hil)).2.1
      simpa [Array.getD_eq_getD_getElem?, hi] using this
    · have hil : i < n := by have := (List.getElem?_eq_some_iff.1 hi).1; omega
      have := (hf i q hi).2.2
      simpa [Array.getD_eq_getD_getElem?, hil] using this
  obtain ⟨z, hz, hcr, hnt⟩ := partA_CR hagg h
  refine ⟨z, ?_, VR.of_CR hcr hnt⟩
  have hz' := hz E.w
  unfold partA at h
  split at h
  · rename_i d sz hd hs
    simp only [part, Sem.run_bind, run_isAgg hd, Result.andThen_ok] at hz'
    simp only [Instr.loadAt, Instr.sureAddr, loadVar, Sem.run_bind, Sem.run_pure, Result.andThen_ok, run_isAgg hd]
    split at h
    · rename_i ha
      simp only [ha, if_true, Sem.run_bind, run_sizeOf hs, Result.andThen_ok, Sem.run_pure] at hz' ⊢
      have hle : off + sz ≤ n := by
        split at h
        · omega
        · split at h
          · assumption
          · cases h
      have hl := run_loadCells (P := P) E.w (ad.add off) sz (fun j => f (off + j)) (fun j hj => by
        have hjl : off + j < cs.length := by omega
        have := (hf (off + j) cs[off + j] (List.getElem?_eq_getElem hjl)).1.1
        rw [add_add]
        exact this)
      rw [hl]
      simp only [Result.andThen_ok, Sem.run_pure]
      rw [← hz']
      congr 2
      apply Array.ext'
      apply List.ext_getElem?
      intro j
      by_cases hj : j < sz
      · have h2 : off + j < n := by omega
        simp [hj, h2]
      · have h2 : ¬ (j < min (off + sz) n - off) := by omega
        simp [hj]
        omega
    · rename_i ha
      have hb : isAggD d = false := by simpa using ha
      split at h
      · rename_i hlt
        simp only [hb, Bool.false_eq_true, if_false] at hz' ⊢
        have hil : off < cs.length := by omega
        have hc := (hf off cs[off] (List.getElem?_eq_getElem hil)).1.1
        simp [hlt] at hz'
        rw [run_load, hc]
        simp [hz']
      · cases h
  · cases h
end Go.FE
namespace Go.FE
open Go.RowKit
/-- A field's address. -/
def fieldA (P : Program) (s : TypeId) (f : Nat) (q : AV) : Option AV :=
  match P.underlying s with
  | some (.struct fs) => match fs[f]? with
    | some fd => match sizeT P fd.type with
      | some (_ + 1) => match q with
        | .vp id off => some (.vp id (off + fd.offset))
        | .ep n cs off => some (.ep n cs (off + fd.offset))
        | .ap id s j k => some (.ap id s j (k + fd.offset))
        | _ => none
      | _ => none
    | none => none
  | _ => none
theorem addr_add (g off k : Nat) : (⟨g, off, none⟩ : Addr).add k = ⟨g, off + k, none⟩ := by unfold Addr.add; split <;> simp_all
theorem fieldA_sound {P : Program} {E : Env} {s : TypeId} {f : Nat} {q r : AV} {x : Value} (hx : VR E q x) (h : fieldA P s f q = some r) :
    ∃ z, (Instr.fieldAt s x f).run P E.w = .ok z E.w ∧ VR E r z := by
  unfold fieldA at h
  split at h
  · rename_i fs hu
    split at h
    · rename_i fd hf
      split at h
      · rename_i k hs
        have hrun : ∀ ad : Addr, (Instr.fieldAt s (.pointer (some ad)) f).run P E.w = .ok (.pointer (some (ad.add fd.offset))) E.w := fun ad => by
          simp [Instr.fieldAt, run_underlying hu, hf, Instr.sureAddr, fieldPlace, run_sizeOf hs]
        split at h
        · rename_i id off
          injection h with h
          subst h
          obtain ⟨h1, rfl⟩ := hx
          exact ⟨_, hrun _, h1, by rw [addr_add]⟩
        · rename_i n cs off
          injection h with h
          subst h
          obtain ⟨hn, ad, g, rfl, h1⟩ := hx
          exact ⟨_, hrun _, hn, ad, g, by rw [add_add], h1⟩
        · rename_i id s j k
          injection h with h
          subst h
          obtain ⟨hU, ⟨A, rfl⟩, hv⟩ := hx
          refine ⟨_, hrun _, hU, ⟨_, rfl⟩, fun s' e' sz' b h => ⟨(hv s' e' sz' b h).1, fun hss => ?_⟩⟩
          obtain ⟨h1, A', N, c, h2, h3⟩ := (hv s' e' sz' b h).2 hss
          refine ⟨h1, A', N, c, h2, ?_⟩
          injection h3 with h3
          injection h3 with h3
          rw [h3, add_add, Nat.add_assoc]
        · cases h
      · cases h
    · cases h
  · cases h
/-- A field of a struct value. -/
def fieldV (P : Program) (s : TypeId) (f : Nat) (q : AV) : Option AV :=
  match P.underlying s, q with
  | some (.struct fs), .agg n cs => match fs[f]? with
    | some fd => partA P fd.type n cs fd.offset
    | none => none
  | _, _ => none
theorem fieldV_sound {P : Program} {E : Env} {s : TypeId} {f : Nat} {q r : AV} {x : Value} (hx : VR E q x) (h : fieldV P s f q = some r) :
    ∃ z, (Instr.field s x f).run P E.w = .ok z E.w ∧ VR E r z := by
  unfold fieldV at h
  split at h
  · rename_i fs n cs hu
    split at h
    · rename_i fd hf
      obtain ⟨vs, rfl, _⟩ := CR.agg_inv hx
      obtain ⟨z, h1, h2, h3⟩ := partA_CR hx h
      refine ⟨z, ?_, VR.of_CR h2 h3⟩
      simp [Instr.field, run_underlying hu, hf, asAgg, h1]
    · cases h
  · cases h
/-- len -/
def lenA (P : Program) (t : TypeId) (q : AV) : Option AV :=
  match P.underlying t, q with
  | some .string, .v (.string s) => some (.v (.int .i64 s.size))
  | some (.slice _), .ar _ _ _ _ n => some (.v (.int .i64 n))
  | some (.slice _), q => (asSl q).map fun xs => .v (.int .i64 xs.length)
  | _, _ => none
theorem lenA_sound {P : Program} {E : Env} {t ty : TypeId} {q r : AV} {x : Value} (hx : VR E q x) (h : lenA P t q = some r) :
    ∃ z, (Builtin.len_ #[t] ty #[x]).run P E.w = .ok z E.w ∧ VR E r z := by
  unfold lenA at h
  split at h
  · rename_i s hu
    injection h with h
    subst h
    obtain ⟨rfl, _⟩ := CR.v_inv hx
    exact ⟨_, by simp [Builtin.len_, run_underlying hu, goInt], VR.v rfl⟩
  · rename_i e id s z off n hu
    injection h with h
    subst h
    obtain ⟨_, ⟨A, c, rfl, _⟩, _⟩ := hx
    exact ⟨_, by simp [Builtin.len_, run_underlying hu, goInt], VR.v rfl⟩
  · rename_i _ q' e hu _
    obtain ⟨xs, hq, rfl⟩ := Option.map_eq_some_iff.1 h
    obtain ⟨A, c, sz, f, rfl, _⟩ := (asSl_CR hx hq).sl_inv
    exact ⟨_, by simp [Builtin.len_, run_underlying hu, goInt], VR.v rfl⟩
  · cases h
/-- s[lo:hi] of a slice or a string, hi at most the length. -/
def bndA (tm : List AV) (d : Nat) : Option Operand → Option Nat
  | none => some d
  | some x => match ev tm x with
    | .v (.int _ n) => if 0 ≤ n then some n.toNat else none
    | _ => none
def cutA (P : Program) (t : TypeId) (q : AV) (lo hi : Nat → Option Nat) : Option AV :=
  match P.underlying t, q with
  | some .string, .v (.string s) => match lo 0, hi s.size with
    | some l, some h => if l ≤ h ∧ h ≤ s.size then some (.v (.string (s.extract l h))) else none
    | _, _ => none
  | some (.slice e), .ar id s z off n => match sizeT P e, lo 0, hi n with
    | some sz, some l, some h => if sz = z ∧ l ≤ h ∧ h ≤ n then some (.ar id s z (off + l) (h - l)) else none
    | _, _, _ => none
  | some (.slice e), q => match sizeT P e, asSl q with
    | some sz, some xs => match lo 0, hi xs.length with
      | some l, some h => if l ≤ h ∧ h ≤ xs.length ∧ ∀ cs ∈ xs, cs.length = sz then some (.sl ((xs.drop l).take (h - l)) none) else none
      | _, _ => none
    | _, _ => none
  | _, _ => none
theorem bound_run {P : Program} {w : World} (n : Int) (k : IntKind) (y : Nat) (code : BoundsCode) (h0 : 0 ≤ n) (h1 : n.toNat ≤ y) : (Instr.sliceBound (.int k n) y code).run P w = .ok n.toNat w := by
  simp only [Instr.sliceBound, asIntOf, Sem.run_bind, Sem.run_pure, Result.andThen_ok]
  rw [if_pos ⟨h0, by omega⟩]
  rfl
theorem bnd_run {P : Program} {B w0 tm E a} (S : Sim B w0 tm E a) {x : Option Operand} {d r y : Nat} {code : BoundsCode} (h : bndA tm d x = some r) (hy : r ≤ y) :
    (match x.map a.eval with | some v => Instr.sliceBound v y code | none => (pure d : Sem Nat)).run P E.w = .ok r E.w := by
  cases x with
  | none =>
    injection h with h
    subst h
    rfl
  | some x =>
    simp only [bndA] at h
    split at h
    · rename_i k n he
      split at h
      · rename_i h0
        injection h with h
        subst h
        have := ev_sound S x
        rw [he] at this
        obtain ⟨hv, _⟩ := CR.v_inv this
        simp only [Option.map_some, hv]
        exact bound_run n k y code h0 hy
      · cases h
    · cases h
theorem bounds_run {P : Program} {B w0 tm E a} (S : Sim B w0 tm E a) (isS : Bool) {len cap : Nat} {lo hi : Option Operand} {l h : Nat} (hl : bndA tm 0 lo = some l) (hh : bndA tm len hi = some h) (h1 : l ≤ h) (h2 : h ≤ cap) :
    (Instr.sliceBounds isS len cap (lo.map a.eval) (hi.map a.eval) none).run P E.w = .ok (l, h, cap) E.w := by
  have e1 : ∀ code, (match hi.map a.eval with | some v => Instr.sliceBound v cap code | none => (pure len : Sem Nat)).run P E.w = .ok h E.w := fun code => bnd_run S hh h2
  have e2 : ∀ code, (match lo.map a.eval with | some v => Instr.sliceBound v h code | none => (pure 0 : Sem Nat)).run P E.w = .ok l E.w := fun code => bnd_run S hl h1
  unfold Instr.sliceBounds
  cases hi with
  | none =>
    injection hh with hh
    subst hh
    cases lo with
    | none =>
      injection hl with hl
      subst hl
      simp
    | some x =>
      have e2' := e2 .sliceB
      simp only [Option.map_some] at e2'
      simp [e2']
  | some y =>
    have e1' := e1 (if isS then .sliceAcap else .sliceAlen)
    simp only [Option.map_some] at e1'
    cases lo with
    | none =>
      injection hl with hl
      subst hl
      simp [e1']
    | some x =>
      have e2' := e2 .sliceB
      simp only [Option.map_some] at e2'
      simp [e1', e2']
theorem cutA_sound {P : Program} {B w0 tm E a} (S : Sim B w0 tm E a) {t : TypeId} {q r : AV} {x : Value} {lo hi : Option Operand} (hx : VR E q x) (h : cutA P t q (fun d => bndA tm d lo) (fun d => bndA tm d hi) = some r) :
    ∃ z, (Instr.sliceAt t x (lo.map a.eval) (hi.map a.eval) none).run P E.w = .ok z E.w ∧ VR E r z := by
  unfold cutA at h
  split at h
  · rename_i s hu
    obtain ⟨rfl, _⟩ := CR.v_inv hx
    split at h
    · rename_i l h' hl hh
      split at h
      · rename_i hb
        injection h with h
        subst h
        refine ⟨_, ?_, VR.v rfl⟩
        simp only [Instr.sliceAt, Sem.run_bind, run_underlying hu, Result.andThen_ok, Instr.slice, Option.isSome_none, Bool.false_eq_true, if_false]
        simp [bounds_run S false hl hh hb.1 hb.2]
      · cases h
    · cases h
  · rename_i e id s z off n hu
    split at h
    · rename_i sz l h' hs hl hh
      split at h
      · rename_i hb
        obtain ⟨rfl, h1, h2⟩ := hb
        injection h with h
        subst h
        obtain ⟨hU, ⟨A, c, rfl, hnc, hnm, hA⟩, hv⟩ := hx
        refine ⟨.slice (if c = l then A else A.map (·.add (l * sz))) (h' - l) (c - l), ?_, hU, ⟨_, _, rfl, by omega, by omega, fun hn => ?_⟩, fun s' e' sz' b h => ⟨(hv s' e' sz' b h).1, fun hss => ?_⟩⟩
        · simp only [Instr.sliceAt, Sem.run_bind, run_underlying hu, Result.andThen_ok, Instr.slice]
          simp only [Sem.run_bind, bounds_run S true hl hh h1 (Nat.le_trans h2 hnc), Result.andThen_ok, run_sizeOf hs]
          rfl
        · obtain ⟨ad, rfl⟩ := hA (by omega)
          rw [if_neg (by omega)]
          exact ⟨_, rfl⟩
        · obtain ⟨h3, rfl, ⟨A', N, c', h4, h5⟩, h6⟩ := (hv s' e' sz' b h).2 hss
          refine ⟨h3, rfl, ⟨A', N, c', h4, by omega⟩, fun ho => ?_⟩
          have h7 := h6 (by omega)
          rw [h4] at h7 ⊢
          simp only [viewOf, Value.slice.injEq] at h7 ⊢
          obtain ⟨rfl, _, rfl⟩ := h7
          refine ⟨?_, by simp; omega⟩
          split
          · rename_i hcl
            have hl0 : l = 0 ∧ off = 0 := by omega
            obtain ⟨rfl, rfl⟩ := hl0
            simp [add_zero]
          · cases A' with
            | none => rfl
            | some ad => simp [add_add, Nat.add_mul]
      · cases h
    · cases h
  · rename_i _ q' e hu _
    split at h
    · rename_i sz xs hs hq
      split at h
      · rename_i l h' hl hh
        split at h
        · rename_i hb
          injection h with h
          subst h
          obtain ⟨A, c, sz', f, rfl, hc, hm, hls, ha, hr⟩ := (asSl_CR hx hq).sl_inv
          have hlen : ((xs.drop l).take (h' - l)).length = h' - l := by simp; omega
          refine ⟨.slice (if c = l then A else A.map (·.add (l * sz))) (h' - l) (c - l), ?_, ?_⟩
          · simp only [Instr.sliceAt, Sem.run_bind, run_underlying hu, Result.andThen_ok, Instr.slice]
            simp only [Sem.run_bind, bounds_run S true hl hh hb.1 (Nat.le_trans hb.2.1 hc), Result.andThen_ok, run_sizeOf hs]
            rfl
          · have key : CR E.m E.w (.sl ((xs.drop l).take (h' - l)) none) (.slice (if c = l then A else A.map (·.add (l * sz))) ((xs.drop l).take (h' - l)).length (c - l)) := ?_
            · rw [hlen] at key
              exact key
            refine CR.sl sz' (fun j i => f (l + j) i) (by rw [hlen]; omega) (by rw [hlen]; omega) (fun cs hcs => hls cs (List.mem_of_mem_drop (List.mem_of_mem_take hcs))) (fun hne => ?_) (fun j cs i q hj hi => ?_)
            · have hlt : l < h' := by
                rcases Nat.lt_or_ge l h' with hlt | hge
                · exact hlt
                · exact absurd (List.eq_nil_of_length_eq_zero (by rw [hlen]; omega)) hne
              have hxs : xs ≠ [] := fun e => by rw [e] at hb; simp at hb; omega
              obtain ⟨ad, rfl, ha2⟩ := ha hxs
              have hsz : sz' = sz := by
                obtain ⟨c0, hc0⟩ := List.exists_mem_of_ne_nil _ hxs
                rw [← hls c0 hc0, hb.2.2 c0 hc0]
              subst hsz
              rw [if_neg (by omega)]
              refine ⟨_, rfl, fun j cs i q hj hi => ?_⟩
              have hj2 : j < h' - l := hlen ▸ (List.getElem?_eq_some_iff.1 hj).1
              rw [List.getElem?_take_of_lt hj2, List.getElem?_drop] at hj
              have e1 : (ad.add (l * sz')).add (j * sz' + i) = ad.add ((l + j) * sz' + i) := by
                rw [add_add, Nat.add_mul, Nat.add_assoc]
              rw [e1]
              exact ha2 _ cs i q hj hi
            · have hj2 : j < h' - l := hlen ▸ (List.getElem?_eq_some_iff.1 hj).1
              rw [List.getElem?_take_of_lt hj2, List.getElem?_drop] at hj
              exact hr _ cs i q hj hi
        · cases h
      · cases h
    · cases h
  · cases h
end Go.FE
namespace Go.FE
open Go.RowKit
/-- Cells by content. -/
def CL (m : Nat → Nat) (w : World) (qs : List AV) (vs : Array Value) : Prop :=
  qs.length = vs.size ∧ ∀ i q, qs[i]? = some q → CR m w q (vs.getD i undef) ∧ (vs.getD i undef).oneCell' = true
/-- A part: how many cells it has, and they. -/
def cellsA : AV → Option (Nat × List AV)
  | .agg n cs => some (n, cs)
  | .v x => some (1, [.v x])
  | .sl xs tok => some (1, [.sl xs tok])
  | _ => none
theorem cellsA_CL {m w q x n cs} (h : CR m w q x) (hq : cellsA q = some (n, cs)) : CL m w cs x.cells ∧ cs.length = n := by
  cases h with
  | v h =>
    simp only [cellsA, Option.some.injEq, Prod.mk.injEq] at hq
    obtain ⟨rfl, rfl⟩ := hq
    have hc : x.cells = #[x] := by cases x <;> first | rfl | simp [okV] at h
    rw [hc]
    exact ⟨⟨rfl, fun i q hi => by
      match i, hi with
      | 0, hi => simp at hi; subst hi; exact ⟨.v h, okV_one h⟩⟩, rfl⟩
  | sl sz f hc hm hs ha hr =>
    simp only [cellsA, Option.some.injEq, Prod.mk.injEq] at hq
    obtain ⟨rfl, rfl⟩ := hq
    exact ⟨⟨rfl, fun i q hi => by
      match i, hi with
      | 0, hi => simp at hi; subst hi; exact ⟨.sl sz f hc hm hs ha hr, rfl⟩⟩, rfl⟩
  | agg hn hv h1 h =>
    simp only [cellsA, Option.some.injEq, Prod.mk.injEq] at hq
    obtain ⟨rfl, rfl⟩ := hq
    exact ⟨⟨hn.trans hv.symm, fun i q hi => ⟨h i q hi, h1 i (by have := (List.getElem?_eq_some_iff.1 hi).1; omega)⟩⟩, hn⟩
  | unk x => simp [cellsA] at hq
def spl (cells : List AV) (off n : Nat) (qs : List AV) : List AV := cells.take off ++ qs ++ cells.drop (off + n)
def fillA (pl : Nat → Option (Nat × Nat)) (len : Nat) (cells : List AV) : List (Nat × AV) → Option (List AV)
  | [] => some cells
  | (i, q) :: rest => match pl i, cellsA q with
    | some (off, size), some (n, qs) => if n = size ∧ off + n ≤ len then fillA pl len (spl cells off n qs) rest else none
    | _, _ => none
theorem fold_set (off : Nat) : ∀ (l : List Value) (k : Nat) (cells : Array Value), ∀ i, i < cells.size →
    (((l.zipIdx k).foldl (fun cs (x : Value × Nat) => cs.setIfInBounds (off + x.2) x.1) cells).size = cells.size ∧
     ((l.zipIdx k).foldl (fun cs (x : Value × Nat) => cs.setIfInBounds (off + x.2) x.1) cells).getD i undef = if off + k ≤ i ∧ i < off + k + l.length then l.getD (i - off - k) undef else cells.getD i undef)
  | [], k, cells, i, hi => by simp; intro h1 h2; omega
  | v :: l, k, cells, i, hi => by
    have ih := fold_set off l (k + 1) (cells.setIfInBounds (off + k) v) i (by simpa using hi)
    simp only [List.zipIdx_cons, List.foldl_cons]
    refine ⟨by rw [ih.1]; simp, ?_⟩
    rw [ih.2, getD_set]
    by_cases h1 : off + k = i
    · rw [if_neg (by omega), if_pos ⟨h1, by omega⟩, if_pos ⟨by omega, by simp; omega⟩]
      have : i - off - k = 0 := by omega
      rw [this]; rfl
    · by_cases h2 : off + (k + 1) ≤ i ∧ i < off + (k + 1) + l.length
      · rw [if_pos h2, if_pos ⟨by omega, by simp; omega⟩]
        have : i - off - k = (i - off - (k + 1)) + 1 := by omega
        rw [this]; rfl
      · rw [if_neg h2, if_neg (fun e => h1 e.1), if_neg (fun e => h2 ⟨by omega, by simp at e; omega⟩)]
theorem fillA_sound {m w} (pl : Nat → Option (Nat × Nat)) (len : Nat) : ∀ (pa : List (Nat × AV)) (ps : List (Nat × Value)) (qs : List AV) (cells : Array Value) (out : List AV),
    ps.length = pa.length → (∀ (j i : Nat) (q : AV) (i' : Nat) (x : Value), pa[j]? = some (i, q) → ps[j]? = some (i', x) → i' = i ∧ CR m w q x) →
    CL m w qs cells → cells.size = len → fillA pl len qs pa = some out → ∃ res, Instr.fill pl cells ps = some res ∧ CL m w out res ∧ res.size = len
  | [], ps, qs, cells, out, hl, _, hc, hlen, h => by
    have : ps = [] := List.eq_nil_of_length_eq_zero (by simpa using hl)
    subst this
    injection h with h
    subst h
    exact ⟨cells, rfl, hc, hlen⟩
  | (i, q) :: pa, [], qs, cells, out, hl, _, hc, hlen, h => by simp at hl
  | (i, q) :: pa, (i', x) :: ps, qs, cells, out, hl, hr, hc, hlen, h => by
    obtain ⟨rfl, hcr⟩ := hr 0 i q i' x rfl rfl
    unfold fillA at h
    split at h
    · rename_i off size n qs' hp hq
      split at h
      · rename_i hcond
        obtain ⟨rfl, hle⟩ := hcond
        obtain ⟨hcl, hn⟩ := cellsA_CL hcr hq
        have hxs : x.cells.size = n := by rw [← hcl.1]; exact hn
        have hfold : ∀ j, j < cells.size → _ := fun j hj => fold_set off x.cells.toList 0 cells j hj
        have hF : x.cells.zipIdx.foldl (fun cs (c, j) => cs.setIfInBounds (off + j) c) cells = (x.cells.toList.zipIdx 0).foldl (fun cs (x : Value × Nat) => cs.setIfInBounds (off + x.2) x.1) cells := by
          rw [← Array.foldl_toList]
          simp
        have hsz : ((x.cells.toList.zipIdx 0).foldl (fun cs (x : Value × Nat) => cs.setIfInBounds (off + x.2) x.1) cells).size = cells.size := by
          rcases Nat.eq_zero_or_pos cells.size with h0 | h0
          · have hn0 : n = 0 := by omega
            have : x.cells.toList = [] := List.eq_nil_of_length_eq_zero (by rw [Array.length_toList, hxs]; omega)
            rw [this]; rfl
          · exact (hfold 0 h0).1
        have hcl2 : CL m w (spl qs off n qs') ((x.cells.toList.zipIdx 0).foldl (fun cs (x : Value × Nat) => cs.setIfInBounds (off + x.2) x.1) cells) := by
          have hql := hc.1
          refine ⟨by rw [hsz]; simp [spl, hn]; omega, fun j q' hj => ?_⟩
          have hjl : j < cells.size := by
            have := (List.getElem?_eq_some_iff.1 hj).1
            simp [spl, hn] at this
            omega
          rw [(hfold j hjl).2]
          have hg := splice_get (xs := qs) (off := off) (ys := qs') (by omega) j
          unfold splice at hg
          rw [hn] at hg
          unfold spl at hj
          rw [hg] at hj
          simp only [Nat.add_zero, Array.length_toList, hxs, Nat.sub_zero]
          split at hj
          · rename_i hin
            rw [if_pos hin]
            have := hcl.2 _ q' hj
            simpa [Array.getD_eq_getD_getElem?, List.getD_eq_getElem?_getD] using this
          · rename_i hin
            rw [if_neg hin]
            exact hc.2 j q' hj
        obtain ⟨res, h1, h2, h3⟩ := fillA_sound pl len pa ps _ _ out (by simpa using hl) (fun j i q i' x hj hp => hr (j + 1) i q i' x hj hp) hcl2 (by rw [hsz]; exact hlen) h
        refine ⟨res, ?_, h2, h3⟩
        unfold Instr.fill
        simp only [hp]
        rw [if_neg (by simp; omega)]
        rw [hF]
        exact h1
      · cases h
    · cases h
end Go.FE
namespace Go.FE
open Go.RowKit
def zeroT (P : Program) (t : TypeId) : Option (List Value) := (P.info? t).bind fun i => i.zero.map fun z => z.cells.toList
def placesT (P : Program) (t : TypeId) : Option (List (Nat × Nat)) := match P.underlying t with
  | some (.struct fs) => fs.toList.mapM (fun f => (P.info? f.type).map fun i => (f.offset, i.size))
  | _ => none
def buildA (P : Program) (t : TypeId) (parts : List (Nat × AV)) : Option AV :=
  match zeroT P t, placesT P t with
  | some zs, some pl => if zs.all okV = true then (fillA (pl.toArray[·]?) zs.length (zs.map .v) parts).map (.agg zs.length ·) else none
  | _, _ => none
theorem zeros_CL {m w} {zs : List Value} (h : zs.all okV = true) : CL m w (zs.map .v) zs.toArray := by
  refine ⟨by simp, fun i q hi => ?_⟩
  rw [List.getElem?_map] at hi
  obtain ⟨x, hx, rfl⟩ := Option.map_eq_some_iff.1 hi
  have hok : okV x = true := List.all_eq_true.1 h x (List.mem_of_getElem? hx)
  have : zs.toArray.getD i undef = x := by simp [Array.getD_eq_getD_getElem?, hx]
  rw [this]
  exact ⟨.v hok, okV_one hok⟩
theorem buildA_sound {P : Program} {E : Env} {t : TypeId} {parts : List (Nat × AV)} {ps : Array (Nat × Value)} {r : AV} (hl : ps.size = parts.length)
    (hp : ∀ (j i : Nat) (q : AV) (i' : Nat) (x : Value), parts[j]? = some (i, q) → ps.toList[j]? = some (i', x) → i' = i ∧ CR E.m E.w q x) (h : buildA P t parts = some r) :
    ∃ z, (Instr.build t ps).run P E.w = .ok z E.w ∧ VR E r z := by
  unfold buildA at h
  split at h
  · rename_i zs pl hz hpl
    split at h
    · rename_i hok
      obtain ⟨out, ho, rfl⟩ := Option.map_eq_some_iff.1 h
      unfold zeroT at hz
      obtain ⟨it, hit, hz⟩ := Option.bind_eq_some_iff.1 hz
      obtain ⟨z, hz2, rfl⟩ := Option.map_eq_some_iff.1 hz
      obtain ⟨res, h1, h2, h3⟩ := fillA_sound (m := E.m) (w := E.w) (pl.toArray[·]?) _ parts ps.toList _ _ out (by simpa using hl) hp (zeros_CL hok) (by simp) ho
      have hb : P.built t ps.toList = some res := by
        unfold placesT at hpl
        split at hpl
        · rename_i fs hu
          unfold Program.built
          simp only [hit, hu]
          rw [hz2, hpl]
          simpa using h1
        · cases hpl
      refine ⟨.agg res, run_build E.w t ps res hb, ?_⟩
      refine CR.agg ?_ h3 (fun i hi => ?_) (fun i q hi => (h2.2 i q hi).1)
      · rw [h2.1]; exact h3
      · have hi' : i < out.length := by rw [h2.1, h3]; exact hi
        exact (h2.2 i out[i] (List.getElem?_eq_getElem hi')).2
    · cases h
  · cases h
/-- What may lie in memory that nobody writes; of anything else nothing is said. -/
def AV.content : AV → AV
  | .v x => .v x
  | .sl xs tok => .sl xs tok
  | .agg n cs => .agg n cs
  | .e0 => .sl [] none
  | .fn f [] => .v (.func (.func f) #[] #[])
  | _ => .unk
theorem content_CR {E : Env} {q : AV} {x : Value} (h : VR E q x) : CR E.m E.w q.content x := by
  cases q with
  | v y => exact h
  | sl xs tok => exact VR.toCR h rfl
  | agg n cs => exact h
  | e0 => obtain ⟨A, rfl⟩ := h; exact CR.nilS A
  | fn f caps =>
    cases caps with
    | nil => obtain ⟨_, rfl⟩ := h; exact .v rfl
    | cons c cs => exact .unk x
  | _ => exact .unk x
def capsA (tm : List AV) : List Operand → Option (List Rid)
  | [] => some []
  | x :: r => match ev tm x, capsA tm r with
    | .vp id 0, some l => some (id :: l)
    | _, _ => none
theorem capsA_sound {B w0 tm E a} (S : Sim B w0 tm E a) : ∀ (l : List Operand) (ids : List Rid), capsA tm l = some ids → (∀ id ∈ ids, E.U id) ∧ l.map a.eval = ids.map fun id => Value.pointer (some ⟨E.gs id, 0, none⟩)
  | [], ids, h => by injection h with h; subst h; exact ⟨fun _ h => by (cases h), rfl⟩
  | x :: r, ids, h => by
    unfold capsA at h
    split at h
    · rename_i id l he hl
      injection h with h
      subst h
      obtain ⟨h1, h2⟩ := capsA_sound S r l hl
      have hx := ev_sound S x
      rw [he] at hx
      refine ⟨fun j hj => ?_, by rw [List.map_cons, List.map_cons, h2, hx.2]⟩
      rcases List.mem_cons.1 hj with rfl | hj
      · exact hx.1
      · exact h1 j hj
    · cases h
/-- len, max, min -/
def bltA (P : Program) (b : Builtin) (xs : List AV) (ts : List TypeId) : Option AV :=
  match b, xs, ts with
  | .len, [q], [t] => lenA P t q
  | .max, [.v (.int k p), .v (.int _ q)], _ => some (.v (.int k (if q > p then q else p)))
  | .min, [.v (.int k p), .v (.int _ q)], _ => some (.v (.int k (if q < p then q else p)))
  | _, _, _ => none
theorem bltA_sound {P : Program} {B w0 tm E a} (S : Sim B w0 tm E a) {b : Builtin} {args : Array Operand} {ts : Array TypeId} {ty : TypeId} {cs : Array Bool} {r : AV} (h : bltA P b (args.toList.map (ev tm)) ts.toList = some r) :
    ∃ z, (builtin b ts ty cs (args.map a.eval)).run P E.w = .ok (.value z) E.w ∧ VR E r z := by
  obtain ⟨args⟩ := args
  obtain ⟨ts⟩ := ts
  unfold bltA at h
  split at h
  · rename_i q t ex et
    rcases args with _ | ⟨x, _ | ⟨y, r'⟩⟩
    · cases ex
    · simp only [List.map_cons, List.map_nil, List.cons.injEq, and_true] at ex
      simp only at et
      subst et
      have hx := ev_sound S x
      rw [ex] at hx
      obtain ⟨z, h1, h2⟩ := lenA_sound (ty := ty) hx h
      exact ⟨z, by simp [builtin, h1], h2⟩
    · simp at ex
  · rename_i k p k' q ex
    rcases args with _ | ⟨x, _ | ⟨y, _ | ⟨z, r'⟩⟩⟩
    · cases ex
    · simp at ex
    · simp only [List.map_cons, List.map_nil, List.cons.injEq, and_true] at ex
      have hx := ev_sound S x
      have hy := ev_sound S y
      rw [ex.1] at hx
      rw [ex.2] at hy
      obtain ⟨hx, _⟩ := CR.v_inv hx
      obtain ⟨hy, _⟩ := CR.v_inv hy
      injection h with h
      subst h
      exact ⟨_, by simp [builtin, Builtin.max_, Builtin.max2, hx, hy], VR.v rfl⟩
    · simp at ex
  · rename_i k p k' q ex
    rcases args with _ | ⟨x, _ | ⟨y, _ | ⟨z, r'⟩⟩⟩
    · cases ex
    · simp at ex
    · simp only [List.map_cons, List.map_nil, List.cons.injEq, and_true] at ex
      have hx := ev_sound S x
      have hy := ev_sound S y
      rw [ex.1] at hx
      rw [ex.2] at hy
      obtain ⟨hx, _⟩ := CR.v_inv hx
      obtain ⟨hy, _⟩ := CR.v_inv hy
      injection h with h
      subst h
      exact ⟨_, by simp [builtin, Builtin.min_, Builtin.min2, hx, hy], VR.v rfl⟩
    · simp at ex
  · cases h
def stepP (P : Program) (tm : List AV) (o : Oper) : Option AV :=
  match o.op with
  | .move x | .assign x => some (ev tm x)
  | .pick c x y => match ev tm c with
    | .v (.bool b) => some (if b then ev tm x else ev tm y)
    | _ => none
  | .binOp op t x y _ => match ev tm x, ev tm y with
    | .v (.bool p), .v (.bool q) => match P.underlying t, op with
      | some .bool, .eql => some (.v (.bool (p == q)))
      | some .bool, .neq => some (.v (.bool (!(p == q))))
      | _, _ => none
    | .v p, .v q => (binV op p q).map .v
    | _, _ => none
  | .unOp op _ x => match ev tm x with
    | .v p => (unV op p).map .v
    | _ => none
  | .convert s d x => match P.underlying s, P.underlying d, ev tm x with
    | some (.int _), some (.int k), .v (.int _ n) => some (.v (.int k (k.wrap n)))
    | _, _, _ => none
  | .extract x i => match ev tm x with
    | .tup vs => (vs[i]?).map AV.bare
    | _ => none
  | .field s x f => fieldV P s f (ev tm x)
  | .fieldAddr s x f => fieldA P s f (ev tm x)
  | .indexAddr t x i => elemA P t (ev tm x) (ev tm i)
  | .index t x i => match P.underlying t, ev tm x, ev tm i with
    | some .string, .v (.string s), .v (.int _ n) => if 0 ≤ n then (s[n.toNat]?).map fun b => .v (.int .u8 b.toNat) else none
    | _, _, _ => none
  | .load t x => match ev tm x with
    | .ep n cs off => partA P t n cs off
    | _ => none
  | .slice t x lo hi none => cutA P t (ev tm x) (fun d => bndA tm d lo) (fun d => bndA tm d hi)
  | .build t ps => buildA P t (ps.toList.map fun p => (p.1, (ev tm p.2).content))
  | .makeFunc fn first caps => match fn, first.toList with
    | .func f, [] => (capsA tm caps.toList).map (.fn f)
    | _, _ => none
  | .nilCheck x => match ev tm x with
    | .fn f caps => some (.fn f caps)
    | _ => none
  | .call c => match c.callee with
    | .builtin b => bltA P b (c.args.toList.map (ev tm)) c.argTypes.toList
    | _ => none
  | _ => none
theorem bool_eq_run {P : Program} {w : World} {t : TypeId} (h : P.underlying t = some .bool) (p q : Bool) : (Op.equal t (.bool p) (.bool q)).run P w = .ok (p == q) w := by
  unfold Op.equal Op.maxDepth
  show (Op.equalIn (9999 + 1) t _ _).run P w = _
  unfold Op.equalIn
  simp [run_underlying h]
theorem stepP_sound {P : Program} {B w0 tm E a} (S : Sim B w0 tm E a) {o : Oper} {r : AV} (h : stepP P tm o = some r) :
    ∃ z, (execOp a.eval o).run P E.w = .ok (.value z) E.w ∧ VR E r z := by
  have H := fun x => ev_sound S x
  obtain ⟨dst, op, type, pos, after, guard⟩ := o
  unfold stepP at h
  cases op <;> simp only at h <;> try (cases h; done)
  case move x => injection h with h; subst h; exact ⟨_, by simp [execOp], H x⟩
  case assign x => injection h with h; subst h; exact ⟨_, by simp [execOp], H x⟩
  case pick c x y =>
    split at h
    · rename_i b he
      injection h with h
      subst h
      have hc := H c
      rw [he] at hc
      obtain ⟨hc, _⟩ := CR.v_inv hc
      refine ⟨if b then a.eval x else a.eval y, by simp [execOp, hc, asBool], ?_⟩
      cases b
      · exact H y
      · exact H x
    · cases h
  case binOp op t x y yt =>
    have hx := H x
    have hy := H y
    split at h
    · rename_i p q ex ey
      rw [ex] at hx
      rw [ey] at hy
      obtain ⟨hx, _⟩ := CR.v_inv hx
      obtain ⟨hy, _⟩ := CR.v_inv hy
      split at h
      · rename_i hu
        injection h with h
        subst h
        refine ⟨.bool (p == q), ?_, VR.v rfl⟩
        simp [execOp, hx, hy, eqGuard, binOp, bool_eq_run hu]
      · rename_i hu
        injection h with h
        subst h
        refine ⟨.bool (!(p == q)), ?_, VR.v rfl⟩
        simp [execOp, hx, hy, eqGuard, binOp, bool_eq_run hu]
      · cases h
    · rename_i p q _ ex ey
      rw [ex] at hx
      rw [ey] at hy
      obtain ⟨hx, _⟩ := CR.v_inv hx
      obtain ⟨hy, _⟩ := CR.v_inv hy
      obtain ⟨c, hc, rfl⟩ := Option.map_eq_some_iff.1 h
      obtain ⟨h1, h2⟩ := binV_run (P := P) (w := E.w) t x y hc
      refine ⟨c, ?_, VR.v h2⟩
      simp only [execOp, hx, hy, Sem.run_bind]
      simp only [Sem.run_bind] at h1
      rw [h1]
      rfl
    · cases h
  case unOp op t x =>
    have hx := H x
    split at h
    · rename_i p ex
      rw [ex] at hx
      obtain ⟨hx, _⟩ := CR.v_inv hx
      obtain ⟨c, hc, rfl⟩ := Option.map_eq_some_iff.1 h
      obtain ⟨h1, h2⟩ := unV_run (P := P) (w := E.w) hc
      exact ⟨c, by simp [execOp, hx, h1], VR.v h2⟩
    · cases h
  case convert s d x =>
    have hx := H x
    split at h
    · rename_i k0 k k1 n hs hd ex
      rw [ex] at hx
      obtain ⟨hx, _⟩ := CR.v_inv hx
      injection h with h
      subst h
      exact ⟨_, by simp [execOp, hx, convert, run_underlying hs, run_underlying hd, Conv.intToInt], VR.v rfl⟩
    · cases h
  case extract x i =>
    have hx := H x
    split at h
    · rename_i vs ex
      rw [ex] at hx
      obtain ⟨ys, hy, hn, hc⟩ := hx
      obtain ⟨q, hq, rfl⟩ := Option.map_eq_some_iff.1 h
      have hil : i < ys.size := by rw [hn]; exact (List.getElem?_eq_some_iff.1 hq).1
      refine ⟨ys.getD i undef, ?_, VR.of_CR_bare (hc i q hq)⟩
      simp [execOp, hy, Instr.extract, hil]
    · cases h
  case field s x f =>
    obtain ⟨z, h1, h2⟩ := fieldV_sound (H x) h
    exact ⟨z, by simp [execOp, h1], h2⟩
  case fieldAddr s x f =>
    obtain ⟨z, h1, h2⟩ := fieldA_sound (H x) h
    exact ⟨z, by simp [execOp, h1], h2⟩
  case indexAddr t x i =>
    obtain ⟨z, h1, h2⟩ := elemA_sound (H x) (H i) h
    exact ⟨z, by simp [execOp, h1], h2⟩
  case index t x i =>
    have hx := H x
    have hi := H i
    split at h
    · rename_i s k n hu ex ei
      rw [ex] at hx
      rw [ei] at hi
      obtain ⟨hx, _⟩ := CR.v_inv hx
      obtain ⟨hi, _⟩ := CR.v_inv hi
      split at h
      · rename_i h0
        obtain ⟨b, hb, rfl⟩ := Option.map_eq_some_iff.1 h
        refine ⟨.int .u8 b.toNat, ?_, VR.v rfl⟩
        simp [execOp, hx, hi, Instr.index, asIntOf, run_underlying hu, h0, hb]
      · cases h
    · cases h
  case load t x =>
    have hx := H x
    split at h
    · rename_i n cs off ex
      rw [ex] at hx
      obtain ⟨z, h1, h2⟩ := load_ep hx h
      exact ⟨z, by simp [execOp, h1], h2⟩
    · cases h
  case slice t x lo hi mx =>
    cases mx with
    | some y => simp at h
    | none =>
      simp only at h
      obtain ⟨z, h1, h2⟩ := cutA_sound S (H x) h
      exact ⟨z, by simp [execOp, h1], h2⟩
  case build t ps =>
    obtain ⟨z, h1, h2⟩ := buildA_sound (E := E) (ps := ps.map fun p => (p.1, a.eval p.2)) (by simp) (fun j i q i' x hj hp => by
      simp only [List.getElem?_map, Array.toList_map] at hj hp
      obtain ⟨p, hp1, hp2⟩ := Option.map_eq_some_iff.1 hj
      rw [hp1] at hp
      simp only [Option.map_some, Option.some.injEq, Prod.mk.injEq] at hp hp2
      obtain ⟨rfl, rfl⟩ := hp
      obtain ⟨rfl, rfl⟩ := hp2
      exact ⟨rfl, content_CR (H _)⟩) h
    exact ⟨z, by simp [execOp, h1], h2⟩
  case makeFunc fn first caps =>
    split at h
    · rename_i f hf
      obtain ⟨ids, h1, rfl⟩ := Option.map_eq_some_iff.1 h
      obtain ⟨h2, h3⟩ := capsA_sound S _ _ h1
      have hf' : first = #[] := by
        apply Array.ext'
        simpa using hf
      subst hf'
      refine ⟨_, by simp [execOp, Instr.makeFunc]; rfl, h2, ?_⟩
      congr 1
      apply Array.ext'
      simp [h3]
    · cases h
  case nilCheck x =>
    have hx := H x
    split at h
    · rename_i f caps ex
      rw [ex] at hx
      injection h with h
      subst h
      obtain ⟨h1, h2⟩ := hx
      exact ⟨_, by simp [execOp, h2], h1, rfl⟩
    · cases h
  case call c =>
    obtain ⟨callee, args, ts⟩ := c
    simp only at h
    split at h
    · rename_i b
      obtain ⟨z, h1, h2⟩ := bltA_sound S (ty := type) (cs := args.map fun | .const _ => true | _ => false) h
      exact ⟨z, by simp only [execOp, resolve, invoke, Sem.run_bind, Sem.run_pure, Result.andThen_ok]; exact h1, h2⟩
    · cases h
end Go.FE
namespace Go.FE
open Go.RowKit
/-- A row of the call's own reads as its content. -/
theorem row_CR {m : Nat → Nat} {W : World} {base e sz N : Nat} {v : Value} {cells : List Value} (ho : W.ownsRow base e sz v N cells) (hm : ∀ k, v.ownBlock = some k → m k = N * sz) (zs : List (List AV)) (hN : zs.length = N) (hs : ∀ cs ∈ zs, cs.length = sz)
    (h : ∀ j cs i q, zs[j]? = some cs → cs[i]? = some q → ∃ u, cells[j * sz + i]? = some u ∧ u.oneCell' = true ∧ CR m W q u) : CR m W (.sl zs none) v := by
  rcases ho.2 with ⟨rfl, rfl⟩ | ⟨g, cap, cur, rfl, hg, hh, hnc, hcm, hcs, ht⟩
  · have : zs = [] := List.eq_nil_of_length_eq_zero hN
    subst this
    exact .sl (xs := []) 0 (fun _ _ => undef) (Nat.zero_le _) (Nat.zero_le _) (fun _ h => by cases h) (fun h => absurd rfl h) (fun _ _ _ _ h => by simp at h)
  · subst hN
    refine .sl sz (fun j i => cells.getD (j * sz + i) undef) hnc (by omega) hs (fun hne => ⟨⟨g, 0, none⟩, rfl, fun j cs i q hj hi => ?_⟩) (fun j cs i q hj hi => ?_)
    · obtain ⟨u, hu, h1, _⟩ := h j cs i q hj hi
      have hlt : j * sz + i < zs.length * sz := by
        have h2 := (List.getElem?_eq_some_iff.1 hu).1
        rw [ho.1] at h2
        exact h2
      have hcell := ho.cells (g := g) rfl (j * sz + i) u hu
      rw [List.getD_eq_getElem?_getD, hu]
      refine ⟨⟨hcell, ?_⟩, h1⟩
      rw [add_block, add_off, hm g rfl]
      simpa using hlt
    · obtain ⟨u, hu, _, h2⟩ := h j cs i q hj hi
      rw [List.getD_eq_getElem?_getD, hu]
      exact h2
/-- Reading a slice's cells one by one. -/
theorem CR.cells {m w xs tok x} (h : CR m w (.sl xs tok) x) (sz : Nat) (hs : ∀ cs ∈ xs, cs.length = sz) : ∃ A c, ∃ vs : List Value, x = .slice A xs.length c ∧ xs.length ≤ c ∧ xs.length ≤ maxLen ∧ vs.length = xs.length * sz ∧
    (xs ≠ [] → ∃ ad, A = some ad ∧ ∀ p u, vs[p]? = some u → w.cell? (ad.add p) = some u) ∧ (∀ u ∈ vs, u.oneCell' = true) ∧
    (∀ j cs i q, xs[j]? = some cs → cs[i]? = some q → ∃ u, vs[j * sz + i]? = some u ∧ u.oneCell' = true ∧ CR m w q u) := by
  obtain ⟨A, c, sz', f, rfl, hc, hm, hls, ha, hr⟩ := h.sl_inv
  have hidx : ∀ p, p < xs.length * sz → 0 < sz ∧ p / sz < xs.length ∧ p % sz < sz ∧ p / sz * sz + p % sz = p := by
    intro p hp
    have h0 : 0 < sz := by
      rcases Nat.eq_zero_or_pos sz with h0 | h0
      · rw [h0] at hp; simp at hp
      · exact h0
    exact ⟨h0, (Nat.div_lt_iff_lt_mul h0).2 hp, Nat.mod_lt _ h0, Nat.div_add_mod' p sz⟩
  have hel : ∀ j i, j < xs.length → i < sz → ∃ cs q, xs[j]? = some cs ∧ cs[i]? = some q := by
    intro j i hj hi
    have h1 := hs xs[j] (List.getElem_mem hj)
    exact ⟨xs[j], xs[j][i], List.getElem?_eq_getElem hj, List.getElem?_eq_getElem (by omega)⟩
  have hsz : xs ≠ [] → sz' = sz := fun hne => by
    obtain ⟨c0, hc0⟩ := List.exists_mem_of_ne_nil _ hne
    rw [← hls c0 hc0, hs c0 hc0]
  have hne_of : ∀ {p}, p < xs.length * sz → xs ≠ [] := fun hp e => by rw [e] at hp; simp at hp
  refine ⟨A, c, (List.range (xs.length * sz)).map fun p => f (p / sz) (p % sz), rfl, hc, hm, by simp, fun hne => ?_, fun u hu => ?_, fun j cs i q hj hi => ?_⟩
  · obtain ⟨ad, e, h1⟩ := ha hne
    refine ⟨ad, e, fun p u hu => ?_⟩
    rw [List.getElem?_map] at hu
    obtain ⟨p', hp', rfl⟩ := Option.map_eq_some_iff.1 hu
    obtain ⟨hlt, rfl⟩ : p < xs.length * sz ∧ p = p' := by
      have h2 := List.getElem?_eq_some_iff.1 hp'
      obtain ⟨h3, h4⟩ := h2
      simp at h3 h4
      exact ⟨h3, h4⟩
    obtain ⟨h5, h6, h7, h8⟩ := hidx p hlt
    obtain ⟨cs, q, h9, h10⟩ := hel _ _ h6 h7
    have := (h1 _ cs _ q h9 h10).1.1
    rw [hsz hne, h8] at this
    exact this
  · obtain ⟨p, hp, rfl⟩ := List.mem_map.1 hu
    rw [List.mem_range] at hp
    obtain ⟨h5, h6, h7, h8⟩ := hidx p hp
    obtain ⟨cs, q, h9, h10⟩ := hel _ _ h6 h7
    obtain ⟨ad, e, h1⟩ := ha (hne_of hp)
    exact (h1 _ cs _ q h9 h10).2
  · have hjl := (List.getElem?_eq_some_iff.1 hj).1
    have hil : i < sz := by
      have := (List.getElem?_eq_some_iff.1 hi).1
      rw [hs cs (List.mem_of_getElem? hj)] at this
      exact this
    have hlt : j * sz + i < xs.length * sz := by
      have h1 : (j + 1) * sz ≤ xs.length * sz := Nat.mul_le_mul_right _ hjl
      rw [Nat.add_mul] at h1
      omega
    have h0 : 0 < sz := by omega
    have e1 : (j * sz + i) / sz = j := by
      rw [Nat.mul_comm, Nat.mul_add_div h0, Nat.div_eq_of_lt hil]; rfl
    have e2 : (j * sz + i) % sz = i := by
      rw [Nat.mul_comm, Nat.mul_add_mod, Nat.mod_eq_of_lt hil]
    refine ⟨f j i, ?_, ?_, hr j cs i q hj hi⟩
    · rw [List.getElem?_map, List.getElem?_range hlt, Option.map_some, e1, e2]
    · obtain ⟨ad, e, h1⟩ := ha (hne_of hlt)
      exact (h1 j cs i q hj hi).2
/-- An append onto a row of the call's own: at the machine. -/
theorem append_sound {P : Program} {B w0 tm E a} (S : Sim B w0 tm E a) (t : Rid) (s : Nat) (e sz ty T bytes : Nat) (xs ys : List (List AV)) (x y : Value) (hrs : E.rs t = .tok s e sz)
    (hx : VR E (.sl xs (some (t, s))) x) (hy : CR E.m E.w (.sl ys none) y) (hys : ∀ cs ∈ ys, cs.length = sz) (hsz : 0 < sz)
    (hu : P.underlying T = some (.slice e)) (hi : (P.info? e).map (fun i => (i.size, i.bytes, (i.zero.map fun z => z.cells.size))) = some (sz, bytes, some sz)) (hb : (xs.length + ys.length) * bytes ≤ 140737488355328) (hb0 : 0 < bytes) :
    ∃ z E', (Builtin.append_ #[T, T] ty #[x, y]).run P E.w = .ok z E'.w ∧ Sim B w0 tm E' a ∧ VR E' (.sl (xs ++ ys) (some (t, s + 1))) z ∧ E'.rs = fup E.rs t (.tok (s + 1) e sz) ∧ E'.U = E.U := by
  obtain ⟨hcx, hU, htok⟩ := hx
  obtain ⟨h1, h2⟩ := htok s e sz false (by rw [hrs]; rfl)
  obtain ⟨_, rfl, hxs⟩ := h2 rfl
  have hr := S.res t
  unfold RF at hr
  rw [hrs] at hr
  obtain ⟨n, xc, hown, hm⟩ := hr
  obtain ⟨A, c, vs, ex, hc, hml, hvl, hva, hv1, hvr⟩ := CR.cells hcx sz hxs
  have hn : n = xs.length := by
    rcases hown.2 with ⟨e1, rfl⟩ | ⟨g, cap, cur, e1, _⟩
    · rw [ex] at e1; injection e1 with _ e1 _; exact e1.symm
    · rw [ex] at e1; injection e1 with _ e1 _; exact e1.symm
  subst hn
  obtain ⟨A2, c2, ws, ey, hc2, hml2, hwl, hwa, hw1, hwr⟩ := CR.cells hy sz hys
  obtain ⟨it, hit, hii⟩ := Option.map_eq_some_iff.1 hi
  simp only [Prod.mk.injEq] at hii
  obtain ⟨hi1, hi2, hi3⟩ := hii
  obtain ⟨z, hz, hzs⟩ := Option.map_eq_some_iff.1 hi3
  have hlen : xs.length + ys.length ≤ maxLen := by
    have : xs.length + ys.length ≤ (xs.length + ys.length) * bytes := Nat.le_mul_of_pos_right _ hb0
    unfold maxLen; omega
  -- the run
  have hrun : ∃ v' w', (Builtin.append_ #[T, T] ty #[E.tv t, y]).run P E.w = .ok v' w' ∧ w'.ownsRow B e sz v' (xs.length + ys.length) (xc ++ ws) ∧
      ((v'.ownBlock = (E.tv t).ownBlock ∧ E.w.grownBy w' (E.tv t).ownBlock) ∨ (v'.ownBlock = some E.w.heap.size ∧ E.w.grownBy w' none)) := by
    by_cases hne : ys = []
    · subst hne
      have hws : ws = [] := List.eq_nil_of_length_eq_zero (by simpa using hwl)
      subst hws
      cases hA : A2 with
      | none =>
        refine ⟨E.tv t, E.w, ?_, by simpa using hown, .inl ⟨rfl, ⟨rfl, rfl, rfl, Nat.le_refl _, fun _ _ _ => rfl⟩⟩⟩
        rw [ey, hA]
        have hcl := S.below
        rcases hown.2 with ⟨e1, e2⟩ | ⟨g, cap, cur, e1, _, _, hnc, _⟩
        · rw [e1]; simp [Builtin.append_, run_underlying hu, sizeOf, typeInfo, hit, Builtin.lenOf, Builtin.firstCells]
        · rw [e1]; simp [Builtin.append_, run_underlying hu, sizeOf, typeInfo, hit, Builtin.lenOf, Builtin.firstCells, hnc, storeCells]
      | some ad =>
        rw [ey, hA]
        exact append_at B T ty e it z sz bytes hu hit hz hi1 hi2 hzs hsz (E.tv t) xs.length xc hown ad 0 c2 [] (by simp) (fun j u h => by simp at h) (fun u h => by cases h) (by simpa using hlen) (by simpa using hb) S.hB
    · obtain ⟨ad, rfl, hcell⟩ := hwa hne
      rw [ey]
      exact append_at B T ty e it z sz bytes hu hit hz hi1 hi2 hzs hsz (E.tv t) xs.length xc hown ad ys.length c2 ws hwl hcell hw1 hlen hb S.hB
  obtain ⟨v', w', hr1, hr2, hr3⟩ := hrun
  obtain ⟨m', hm1, hS, hrc⟩ := S.append t s e sz xs.length ys.length xc ws v' w' hrs hown hm hwl hr2 hr3
  refine ⟨v', _, hr1, hS, ⟨?_, hU, fun s' e' sz' b h => ?_⟩, rfl, rfl⟩
  · refine row_CR hr2 hm1 (xs ++ ys) (by simp) (fun cs hcs => (List.mem_append.1 hcs).elim (hxs cs) (hys cs)) (fun j cs i q hj hi => ?_)
    rcases Nat.lt_or_ge j xs.length with hjl | hjl
    · rw [List.getElem?_append_left hjl] at hj
      obtain ⟨u, hu1, hu2, hu3⟩ := hvr j cs i q hj hi
      refine ⟨u, ?_, hu2, hu3.mono hrc⟩
      have hne : xs ≠ [] := fun e => by rw [e] at hjl; simp at hjl
      obtain ⟨ad, hA, hcell⟩ := hva hne
      have h3 := hcell _ u hu1
      have hlt : j * sz + i < xs.length * sz := by rw [← hvl]; exact (List.getElem?_eq_some_iff.1 hu1).1
      have hlt2 : j * sz + i < xc.length := by rw [hown.1]; exact hlt
      rw [List.getElem?_append_left hlt2]
      rcases hown.2 with ⟨e1, e2⟩ | ⟨g, cap, cur, e1, _⟩
      · rw [e2] at hjl; omega
      · have h4 := hown.cells (g := g) (by rw [e1]; rfl) (j * sz + i) _ (List.getElem?_eq_getElem hlt2)
        rw [ex] at e1
        injection e1 with e1 _ _
        rw [hA] at e1
        injection e1 with e1
        rw [e1] at h3
        rw [h4] at h3
        rw [List.getElem?_eq_getElem hlt2]
        exact h3
    · rw [List.getElem?_append_right hjl] at hj
      obtain ⟨u, hu1, hu2, hu3⟩ := hwr _ cs i q hj hi
      refine ⟨u, ?_, hu2, hu3.mono hrc⟩
      rw [List.getElem?_append_right (by rw [hown.1]; have := Nat.mul_le_mul_right sz hjl; omega), hown.1, ← hu1]
      congr 1
      rw [Nat.sub_mul]
      have := Nat.mul_le_mul_right sz hjl
      omega
  · simp only [fup_self, ver, Option.some.injEq, Prod.mk.injEq] at h
    obtain ⟨rfl, rfl, rfl, rfl⟩ := h
    exact ⟨Nat.le_refl _, fun _ => ⟨rfl, by simp [fup_self], fun cs hcs => (List.mem_append.1 hcs).elim (hxs cs) (hys cs)⟩⟩
end Go.FE
namespace Go.FE
open Go.RowKit
structure Eff where
  val : AV
  wr : List (Rid × Res) := []
  tch : List Rid := []
def wrs (rs : Rid → Res) : List (Rid × Res) → Rid → Res
  | [] => rs
  | (id, r) :: l => wrs (fup rs id r) l
/-- The types of a type's cells that are slices: their elements' types and sizes. -/
def cellTys (P : Program) : Nat → TypeId → List (Option (TypeId × Nat))
  | 0, _ => []
  | k + 1, t => match P.underlying t with
    | some (.struct fs) => fs.toList.flatMap fun f => cellTys P k f.type
    | some (.slice e) => match sizeT P e with
      | some n => [some (e, n)]
      | none => [none]
    | _ => [none]
/-- A cell as a new variable has it: a nil slice is a row of the call's own. -/
def tok1 (r : Rid) (ty : Option (TypeId × Nat)) (q : AV) : AV × List (Rid × Res) :=
  match ty, q with
  | some (e, sz), .v (.slice none 0 0) => (.sl [] (some (r, 0)), [(r, .tok 0 e sz)])
  | _, q => (q.bare, [])
def tokN (id : Path) : Nat → List (Option (TypeId × Nat)) → List AV → List AV × List (Rid × Res)
  | k, ty :: tys, q :: qs => ((tok1 (id, k) ty q).1 :: (tokN id (k + 1) tys qs).1, (tok1 (id, k) ty q).2 ++ (tokN id (k + 1) tys qs).2)
  | _, [], qs => (qs.map AV.bare, [])
  | _, _ :: _, [] => ([], [])
theorem wrs_append (rs : Rid → Res) (l l' : List (Rid × Res)) : wrs rs (l ++ l') = wrs (wrs rs l) l' := by
  induction l generalizing rs with
  | nil => rfl
  | cons x l ih => obtain ⟨id, r⟩ := x; exact ih _
theorem Le.newnil {E : Env} (id : Rid) (hid : ¬ E.U id) (e : TypeId) (sz : Nat) : Le E { E with tv := fup E.tv id (.slice none 0 0), rs := fup E.rs id (.tok 0 e sz), U := fun i => E.U i ∨ i = id } := by
  refine ⟨fun a x h => h, fun i h => .inl h, fun j hj => rfl, fun t ht s' e' sz' b h => .inl ?_⟩
  have hne : t ≠ id := fun et => hid (et ▸ ht)
  simpa [fup, hne] using h
theorem VR.bare {E : Env} {q : AV} {x : Value} (h : VR E q x) : VR E q.bare x := by
  cases q with
  | sl xs tok => cases tok with | none => exact h | some p => exact h.1
  | _ => exact h
/-- What a new operation may have used: numbers (id, k), k from k0 on. -/
def Fresh (U : Rid → Prop) (id : Path) (k0 : Nat) : Prop := ∀ k, k0 ≤ k → ¬ U (id, k)
theorem tok1_sound {B w0 tm a E} (S : Sim B w0 tm E a) (r : Rid) (hr : ¬ E.U r) (ty : Option (TypeId × Nat)) (q : AV) (v : Value) (hc : CR E.m E.w q v) :
    ∃ E', Sim B w0 tm E' a ∧ Le E E' ∧ E'.w = E.w ∧ E'.m = E.m ∧ E'.gs = E.gs ∧ E'.rs = wrs E.rs (tok1 r ty q).2 ∧ (∀ i, E'.U i → E.U i ∨ i = r) ∧ VR E' (tok1 r ty q).1 v := by
  unfold tok1
  split
  · rename_i e sz
    obtain ⟨rfl, _⟩ := CR.v_inv hc
    refine ⟨_, S.newnil r hr e sz, Le.newnil r hr e sz, rfl, rfl, rfl, rfl, fun i h => h, ?_, .inr rfl, fun s' e' sz' b h => ?_⟩
    · exact .sl (xs := []) 0 (fun _ _ => undef) (Nat.zero_le _) (Nat.zero_le _) (fun _ h => by cases h) (fun h => absurd rfl h) (fun _ _ _ _ h => by simp at h)
    · simp only [fup_self, ver, Option.some.injEq, Prod.mk.injEq] at h
      obtain ⟨rfl, rfl, rfl, rfl⟩ := h
      exact ⟨Nat.le_refl _, fun _ => ⟨rfl, by simp [fup_self], fun _ h => by cases h⟩⟩
  · exact ⟨E, S, Le.refl E, rfl, rfl, rfl, rfl, fun i h => .inl h, VR.of_CR_bare hc⟩
theorem tokN_sound {B w0 tm a} (id : Path) : ∀ (tys : List (Option (TypeId × Nat))) (qs : List AV) (k : Nat) (vs : List Value) (E : Env), Sim B w0 tm E a → Fresh E.U id k →
    vs.length = qs.length → (∀ i q, qs[i]? = some q → CR E.m E.w q (vs.getD i undef)) →
    ∃ E', Sim B w0 tm E' a ∧ Le E E' ∧ E'.w = E.w ∧ E'.m = E.m ∧ E'.gs = E.gs ∧ E'.rs = wrs E.rs (tokN id k tys qs).2 ∧ (∀ r, E'.U r → E.U r ∨ (r.1 = id ∧ k ≤ r.2)) ∧
      (∀ i q, (tokN id k tys qs).1[i]? = some q → VR E' q (vs.getD i undef)) ∧ (tokN id k tys qs).1.length = qs.length
  | [], qs, k, vs, E, S, hf, hl, hc => by
    refine ⟨E, S, Le.refl E, rfl, rfl, rfl, by simp [tokN, wrs], fun _ h => .inl h, fun i q hi => ?_, by simp [tokN]⟩
    simp only [tokN, List.getElem?_map] at hi
    obtain ⟨q0, h0, rfl⟩ := Option.map_eq_some_iff.1 hi
    exact VR.of_CR_bare (hc i q0 h0)
  | ty :: tys, [], k, vs, E, S, hf, hl, hc => ⟨E, S, Le.refl E, rfl, rfl, rfl, by simp [tokN, wrs], fun _ h => .inl h, fun i q hi => by simp [tokN] at hi, by simp [tokN]⟩
  | ty :: tys, q :: qs, k, [], E, S, hf, hl, hc => by simp at hl
  | ty :: tys, q :: qs, k, v :: vs, E, S, hf, hl, hc => by
    have hq : CR E.m E.w q v := hc 0 q rfl
    obtain ⟨E1, S1, L1, hw1, hm1, hg1, hr1, hU1, hv1⟩ := tok1_sound S (id, k) (hf k (Nat.le_refl _)) ty q v hq
    obtain ⟨E', h1, L', h2, h3, h4, h5, h7, h8, h9⟩ := tokN_sound id tys qs (k + 1) vs E1 S1 (fun k' hk' h => by
        rcases hU1 _ h with h | h
        · exact hf k' (by omega) h
        · injection h with _ h; omega) (by simpa using hl) (fun i q hi => by rw [hm1, hw1]; exact hc (i + 1) q hi)
    refine ⟨E', h1, L1.trans L', h2.trans hw1, h3.trans hm1, h4.trans hg1, by rw [h5, hr1, ← wrs_append]; rfl, fun r h => ?_, fun i q hi => ?_, by simp [tokN, h9]⟩
    · rcases h7 r h with h | h
      · rcases hU1 r h with h | rfl
        · exact .inl h
        · exact .inr ⟨rfl, Nat.le_refl _⟩
      · exact .inr ⟨h.1, by omega⟩
    · cases i with
      | zero =>
        simp only [tokN, List.getElem?_cons_zero, Option.some.injEq] at hi
        subst hi
        exact hv1.mono L'
      | succ i => exact h8 i q hi
end Go.FE
