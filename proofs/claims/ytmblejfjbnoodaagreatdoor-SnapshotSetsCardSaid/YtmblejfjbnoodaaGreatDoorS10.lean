/- What a call is given, read as content. The data of the statements, and how they are read. Contracts of Go's library at this program (strings.Compare, strconv.Itoa, strings.Builder), laid from the shelf in plain words. -/
import Derived.ProofKit
import Derived.Lib.LaidTab
import Derived.Shelf.Strings.Builder1
import Derived.Shelf.Small.Strs
import Derived.Shelf.LaysM
import Derived.Shelf.Strconv.Itoa3
import Derived.Test.YtmblejfjbnoodaaGreatDoorProg
import Derived.Test.YtmblejfjbnoodaaGreatDoorS09
set_option linter.unusedVariables false
set_option linter.unusedSimpArgs false
namespace Go.FE
/-- Everything that is there stays as it is. -/
def mAll (w : World) : Nat → Nat := fun g => match w.heap[g]? with
  | some (.cells c _ _) => c.size
  | _ => 0
theorem mAll_fresh (w : World) : ∀ g, w.heap.size ≤ g → mAll w g = 0 := fun g hg => by
  unfold mAll
  rw [Array.getElem?_eq_none hg]
theorem rc_all {w : World} {a : Addr} {x : Value} (h : w.cell? a = some x) : RC (mAll w) w a x := by
  refine ⟨h, ?_⟩
  unfold World.cell? at h
  unfold mAll
  split at h
  · rename_i c _ _ hc
    rw [hc]
    split at h
    · cases h
    · exact (Array.getElem?_eq_some_iff.1 h).1
  · cases h
/-- Cells by content. -/
def RCells (w : World) (qs : List AV) (cs : List Value) : Prop := qs.length = cs.length ∧ ∀ (i : Nat) (q : AV) (x : Value), qs[i]? = some q → cs[i]? = some x → CR (mAll w) w q x ∧ x.oneCell' = true
theorem RCells.append {w : World} {qs qs' : List AV} {cs cs' : List Value} (h : RCells w qs cs) (h' : RCells w qs' cs') : RCells w (qs ++ qs') (cs ++ cs') := by
  refine ⟨by simp [h.1, h'.1], fun i q x hi hx => ?_⟩
  rcases Nat.lt_or_ge i qs.length with hl | hl
  · rw [List.getElem?_append_left hl] at hi
    rw [List.getElem?_append_left (by rw [← h.1]; exact hl)] at hx
    exact h.2 i q x hi hx
  · rw [List.getElem?_append_right hl] at hi
    rw [List.getElem?_append_right (by rw [← h.1]; exact hl), ← h.1] at hx
    exact h'.2 _ q x hi hx
theorem RCells.one {w : World} {q : AV} {x : Value} (h : CR (mAll w) w q x) (h1 : x.oneCell' = true) : RCells w [q] [x] := by
  refine ⟨rfl, fun i q' x' hi hx => ?_⟩
  cases i with
  | zero =>
    simp at hi hx
    subst hi hx
    exact ⟨h, h1⟩
  | succ i => simp at hi
section
variable {H : Type} {enc : TypeId × Value → H} {P : Program} {w : World} {base : Nat} {sp : Nat → Bool} {held : Bool}
/-- What reads as a datum of type t is some x by content. -/
def RdF (enc : TypeId × Value → H) (P : Program) (w : World) (base : Nat) (sp : Nat → Bool) (held : Bool) {α : Type} (n : Nat) (t : TypeId) (en : α → List AV) (ok : α → Prop) : Prop :=
  ∀ cs d ps, DataW.trod enc P w base sp held n t cs = some (d, ps) → ∃ x, ok x ∧ RCells w (en x) cs
theorem rd_int {n : Nat} {t : TypeId} (ht : P.underlying t = some (.int .i64)) : RdF enc P w base sp held n t (fun k : Int => [aI k]) (fun k => -9223372036854775808 ≤ k ∧ k ≤ 9223372036854775807) := by
  intro cs d ps h
  obtain ⟨k, rfl, _, hw⟩ := DataW.trod_int ht h
  refine ⟨k, ?_, .one (.v rfl) rfl⟩
  simpa [Lit.wf, IntKind.min, IntKind.max, IntKind.signed, IntKind.bits] using hw
theorem rd_string {n : Nat} {t : TypeId} (ht : P.underlying t = some .string) : RdF enc P w base sp held n t (fun s : ByteArray => [.v (.string s)]) (fun s => s.size ≤ maxLen) := by
  intro cs d ps h
  obtain ⟨s, rfl, _, hw⟩ := DataW.trod_string ht h
  exact ⟨s, hw, .one (.v rfl) rfl⟩
theorem mk_list {α : Type} {n : Nat} {R : Nat → α → Prop} (h : ∀ i, i < n → ∃ x, R i x) : ∃ l : List α, l.length = n ∧ ∀ i x, l[i]? = some x → R i x := by
  induction n with
  | zero => exact ⟨[], rfl, fun i x h => by simp at h⟩
  | succ n ih =>
    obtain ⟨l, h1, h2⟩ := ih fun i hi => h i (by omega)
    obtain ⟨x, hx⟩ := h n (by omega)
    refine ⟨l ++ [x], by simp [h1], fun i y hy => ?_⟩
    rcases Nat.lt_or_ge i l.length with hl | hl
    · rw [List.getElem?_append_left hl] at hy; exact h2 i y hy
    · rw [List.getElem?_append_right hl] at hy
      have : i = n := by
        have := (List.getElem?_eq_some_iff.1 hy).1
        simp at this
        omega
      subst this
      rw [h1] at hy
      simp at hy
      subst hy
      exact hx
/-- A slice: elements of type e, n deep. -/
theorem rd_slice {α : Type} {n : Nat} {t e : TypeId} {en : α → List AV} {ok : α → Prop} (ht : P.underlying t = some (.slice e)) (he : ∀ m, m < n → RdF enc P w base sp held m e en ok) :
    RdF enc P w base sp held n t (fun l : List α => [.sl (l.map en) none]) (fun l => l.length ≤ maxLen ∧ ∀ x ∈ l, ok x) := by
  intro cs d ps h
  rcases DataW.trod_slice ht h with ⟨rfl, _⟩ | ⟨a, len, cap, elems, rest, m, rfl, rfl, _, _, hlc, hcm, hel, hea, _⟩
  · refine ⟨[], ⟨Nat.zero_le _, fun x hx => by cases hx⟩, .one ?_ rfl⟩
    exact .sl (xs := []) 0 (fun _ _ => undef) (Nat.zero_le _) (Nat.zero_le _) (fun _ h => by cases h) (fun h => absurd rfl h) (fun _ _ _ _ h => by simp at h)
  · have hx : ∀ i, i < len → ∃ x, ok x ∧ ∃ cs', w.cells? base (a.add (i * P.cellsOf e)) (P.cellsOf e) = some cs' ∧ RCells w (en x) cs' := fun i hi => by
      have h1 := hea i hi
      rw [List.getElem?_eq_getElem (by omega)] at h1
      obtain ⟨cs', h2, h3⟩ := Option.bind_eq_some_iff.1 h1
      obtain ⟨x, h4, h5⟩ := he m (Nat.lt_succ_self m) cs' _ _ h3
      exact ⟨x, h4, cs', h2, h5⟩
    obtain ⟨l, hl, hr⟩ := mk_list hx
    have hcell : ∀ j x, l[j]? = some x → ∀ i q, (en x)[i]? = some q → ∃ v, w.cell? (a.add (j * P.cellsOf e + i)) = some v ∧ CR (mAll w) w q v ∧ v.oneCell' = true := fun j x hj i q hi => by
      obtain ⟨_, cs', h1, h2⟩ := hr j x hj
      obtain ⟨_, h3, h4⟩ := World.cells?_some h1
      have hil : i < cs'.length := by rw [← h2.1]; exact (List.getElem?_eq_some_iff.1 hi).1
      have h5 := h4 i (by omega)
      rw [add_add, List.getElem?_eq_getElem hil] at h5
      exact ⟨cs'[i], h5, h2.2 i q _ hi (List.getElem?_eq_getElem hil)⟩
    refine ⟨l, ⟨by omega, fun x hx => ?_⟩, .one ?_ rfl⟩
    · obtain ⟨i, hi⟩ := List.getElem?_of_mem hx
      exact (hr i x hi).1
    · rw [← hl, show l.length = (l.map en).length by simp]
      refine .sl (P.cellsOf e) (fun j i => (w.cell? (a.add (j * P.cellsOf e + i))).getD undef) (by simp; omega) (by simp; omega) (fun cs hcs => ?_) (fun _ => ⟨a, rfl, fun j cs i q hj hi => ?_⟩) (fun j cs i q hj hi => ?_)
      · obtain ⟨x, hx, rfl⟩ := List.mem_map.1 hcs
        obtain ⟨i, hi⟩ := List.getElem?_of_mem hx
        obtain ⟨_, cs', h1, h2⟩ := hr i x hi
        rw [h2.1]
        exact (World.cells?_some h1).2.1
      · rw [List.getElem?_map] at hj
        obtain ⟨x, hx, rfl⟩ := Option.map_eq_some_iff.1 hj
        obtain ⟨v, h1, h2, h3⟩ := hcell j x hx i q hi
        rw [h1]
        exact ⟨rc_all h1, h3⟩
      · rw [List.getElem?_map] at hj
        obtain ⟨x, hx, rfl⟩ := Option.map_eq_some_iff.1 hj
        obtain ⟨v, h1, h2, h3⟩ := hcell j x hx i q hi
        rw [h1]
        exact h2
/-- A field's cells. -/
theorem rd_field {α : Type} {n : Nat} {t : TypeId} {fs : Array Field} {cs : List Value} {x : DataW H × List MemPlace} (ht : P.underlying t = some (.struct fs)) (h : DataW.trod enc P w base sp held n t cs = some x) {en : α → List AV} {ok : α → Prop}
    (i : Nat) {f : Field} (hf : fs[i]? = some f) (hr : ∀ m, m < n → RdF enc P w base sp held m f.type en ok) : ∃ y, ok y ∧ RCells w (en y) ((cs.drop f.offset).take (P.cellsOf f.type)) := by
  obtain ⟨xs, m, rfl, _, _, hl, hx⟩ := DataW.trod_struct ht h
  have h1 := hx i f hf
  have hil : i < xs.length := by rw [hl]; exact (Array.getElem?_eq_some_iff.1 hf).1
  rw [List.getElem?_eq_getElem hil] at h1
  exact hr m (Nat.lt_succ_self m) _ _ _ h1
theorem rd_fieldAt {α : Type} {n : Nat} {t : TypeId} {fs : Array Field} {cs : List Value} {x : DataW H × List MemPlace} (ht : P.underlying t = some (.struct fs)) (h : DataW.trod enc P w base sp held n t cs = some x) {en : α → List AV} {ok : α → Prop}
    (i : Nat) (ft off sz : Nat) (hf : (fs[i]?).map (fun f => (f.type, f.offset)) = some (ft, off)) (hs : P.cellsOf ft = sz) (hr : ∀ m, m < n → RdF enc P w base sp held m ft en ok) : ∃ y, ok y ∧ RCells w (en y) ((cs.drop off).take sz) := by
  obtain ⟨f, h1, h2⟩ := Option.map_eq_some_iff.1 hf
  injection h2 with h2 h3
  subst h2 h3 hs
  exact rd_field ht h i h1 hr
theorem cells_len {n : Nat} {t : TypeId} {fs : Array Field} {cs : List Value} {x : DataW H × List MemPlace} (ht : P.underlying t = some (.struct fs)) (h : DataW.trod enc P w base sp held n t cs = some x) : cs.length = P.cellsOf t := by
  obtain ⟨xs, m, rfl, _, h1, _⟩ := DataW.trod_struct ht h
  exact h1
/-- Cells in pieces. -/
theorem RCells.piece {qs : List AV} {cs : List Value} {k : Nat} {q1 : List AV} (h : RCells w q1 ((cs.drop k).take q1.length)) (hr : RCells w qs (cs.drop (k + q1.length))) : RCells w (q1 ++ qs) (cs.drop k) := by
  have := h.append hr
  rwa [← List.drop_drop, List.take_append_drop] at this
theorem RCells.nil {cs : List Value} {k : Nat} (h : cs.length ≤ k) : RCells w [] (cs.drop k) := by
  rw [List.drop_of_length_le h]
  exact ⟨rfl, fun i q x hi => by simp at hi⟩
end
end Go.FE
namespace Go.FE
open Go.Proofs
def i64ok (k : Int) : Prop := -9223372036854775808 ≤ k ∧ k ≤ 9223372036854775807
abbrev aS (s : ByteArray) : AV := .v (.string s)
structure Vl where
  k : Int
  i : Int
  s : ByteArray
abbrev Row := List Vl
abbrev encV (v : Vl) : List AV := [aI v.k, aI v.i, aS v.s]
abbrev aRow (r : Row) : AV := .sl (r.map encV) none
abbrev aRows (l : List Row) : AV := .sl (l.map fun r => [aRow r]) none
structure OkV (v : Vl) : Prop where
  k : i64ok v.k
  i : i64ok v.i
  s : v.s.size ≤ maxLen
def OkRow (r : Row) : Prop := r.length ≤ maxLen ∧ ∀ v ∈ r, OkV v
def OkRows (l : List Row) : Prop := l.length ≤ maxLen ∧ ∀ r ∈ l, OkRow r
def OkInts (l : List Int) : Prop := l.length ≤ maxLen ∧ ∀ k ∈ l, i64ok k
structure Bag where
  kinds : List Int
  rows : List Row
abbrev encB (b : Bag) : List AV := [ints b.kinds, aRows b.rows]
structure OkB (b : Bag) : Prop where
  kinds : OkInts b.kinds
  rows : OkRows b.rows
structure Ag where
  op : Int
  arg : Int
abbrev encA (a : Ag) : List AV := [aI a.op, aI a.arg]
structure OkA (a : Ag) : Prop where
  op : i64ok a.op
  arg : i64ok a.arg
abbrev aAggs (l : List Ag) : AV := .sl (l.map encA) none
inductive Ex where
  | mk (op int : Int) (v : Vl) (name : ByteArray) (args : List Ex)
mutual
def encE : Ex → List AV
  | .mk op int v name args => [aI op, aI int, aI v.k, aI v.i, aS v.s, aS name, .sl (encEs args) none]
def encEs : List Ex → List (List AV)
  | [] => []
  | e :: l => encE e :: encEs l
end
theorem encEs_map : ∀ l : List Ex, encEs l = l.map encE
  | [] => by simp [encEs]
  | e :: l => by rw [encEs, encEs_map l]; rfl
theorem encE_mk (op int : Int) (v : Vl) (name : ByteArray) (args : List Ex) : encE (.mk op int v name args) = [aI op, aI int, aI v.k, aI v.i, aS v.s, aS name, .sl (args.map encE) none] := by rw [encE, encEs_map]
abbrev aExs (l : List Ex) : AV := .sl (l.map encE) none
inductive OkE : Ex → Prop
  | mk {op int v name args} (h1 : i64ok op) (h2 : i64ok int) (h3 : OkV v) (h4 : name.size ≤ maxLen) (h5 : args.length ≤ maxLen) (h6 : ∀ a ∈ args, OkE a) : OkE (.mk op int v name args)
inductive Pl where
  | mk (op int : Int) (kinds : List Int) (rows : List Row) (pred : Ex) (exprs : List Ex) (keys : List Int) (aggs : List Ag) (inputs : List Pl)
mutual
def encP : Pl → List AV
  | .mk op int kinds rows pred exprs keys aggs inputs => [aI op, aI int, ints kinds, aRows rows] ++ (encE pred ++ [aExs exprs, ints keys, aAggs aggs, .sl (encPs inputs) none])
def encPs : List Pl → List (List AV)
  | [] => []
  | e :: l => encP e :: encPs l
end
theorem encPs_map : ∀ l : List Pl, encPs l = l.map encP
  | [] => by simp [encPs]
  | e :: l => by rw [encPs, encPs_map l]; rfl
theorem encP_mk (op int : Int) (kinds : List Int) (rows : List Row) (pred : Ex) (exprs : List Ex) (keys : List Int) (aggs : List Ag) (inputs : List Pl) :
    encP (.mk op int kinds rows pred exprs keys aggs inputs) = [aI op, aI int, ints kinds, aRows rows] ++ (encE pred ++ [aExs exprs, ints keys, aAggs aggs, .sl (inputs.map encP) none]) := by rw [encP, encPs_map]
inductive OkP : Pl → Prop
  | mk {op int kinds rows pred exprs keys aggs inputs} (h1 : i64ok op) (h2 : i64ok int) (h3 : OkInts kinds) (h4 : OkRows rows) (h5 : OkE pred) (h6 : exprs.length ≤ maxLen ∧ ∀ e ∈ exprs, OkE e) (h7 : OkInts keys)
      (h8 : aggs.length ≤ maxLen ∧ ∀ a ∈ aggs, OkA a) (h9 : inputs.length ≤ maxLen) (h10 : ∀ q ∈ inputs, OkP q) : OkP (.mk op int kinds rows pred exprs keys aggs inputs)
theorem co3 : Tryz.prog.cellsOf 3 = 1 := by kernel_rfl
theorem co9 : Tryz.prog.cellsOf 9 = 1 := by kernel_rfl
theorem co22 : Tryz.prog.cellsOf 22 = 1 := by kernel_rfl
theorem co23 : Tryz.prog.cellsOf 23 = 1 := by kernel_rfl
theorem co25 : Tryz.prog.cellsOf 25 = 3 := by kernel_rfl
theorem co42 : Tryz.prog.cellsOf 42 = 2 := by kernel_rfl
section
variable {H : Type} {enc : TypeId × Value → H} {w : World} {base : Nat} {sp : Nat → Bool} {held : Bool}
theorem rd_ints {n : Nat} : RdF enc Tryz.prog w base sp held n 22 (fun l : List Int => [ints l]) OkInts := rd_slice Tryz.underlying22 fun m _ => rd_int Tryz.underlying3
theorem rd_V {n : Nat} : RdF enc Tryz.prog w base sp held n 25 encV OkV := by
  intro cs d ps h
  obtain ⟨a, ha, r1⟩ := rd_fieldAt Tryz.underlying25 h 0 3 0 1 rfl co3 (fun m _ => rd_int Tryz.underlying3)
  obtain ⟨b, hb, r2⟩ := rd_fieldAt Tryz.underlying25 h 1 3 1 1 rfl co3 (fun m _ => rd_int Tryz.underlying3)
  obtain ⟨c, hc, r3⟩ := rd_fieldAt Tryz.underlying25 h 2 9 2 1 rfl co9 (fun m _ => rd_string Tryz.underlying9)
  have hl := cells_len Tryz.underlying25 h
  exact ⟨⟨a, b, c⟩, ⟨ha, hb, hc⟩, RCells.piece (k := 0) r1 (RCells.piece r2 (RCells.piece r3 (RCells.nil (by rw [hl, co25]; exact Nat.le_refl _))))⟩
theorem rd_row {n : Nat} : RdF enc Tryz.prog w base sp held n 49 (fun r : Row => [aRow r]) OkRow := rd_slice Tryz.underlying49 fun m _ => rd_V
theorem rd_rows {n : Nat} : RdF enc Tryz.prog w base sp held n 23 (fun l : List Row => [aRows l]) OkRows := rd_slice Tryz.underlying23 fun m _ => rd_row
theorem rd_B {n : Nat} : RdF enc Tryz.prog w base sp held n 42 encB OkB := by
  intro cs d ps h
  obtain ⟨a, ha, r1⟩ := rd_fieldAt Tryz.underlying42 h 0 22 0 1 rfl co22 (fun m _ => rd_ints)
  obtain ⟨b, hb, r2⟩ := rd_fieldAt Tryz.underlying42 h 1 23 1 1 rfl co23 (fun m _ => rd_rows)
  have hl := cells_len Tryz.underlying42 h
  exact ⟨⟨a, b⟩, ⟨ha, hb⟩, RCells.piece (k := 0) r1 (RCells.piece r2 (RCells.nil (by rw [hl, co42]; exact Nat.le_refl _)))⟩
end
end Go.FE
namespace Go.Proofs
open Go.Shelf
def Tryz.lays169_ren : Go.Shelf.Ren := ⟨fun | 169 => 91 | n => n, fun | 70 => 108 | 9 => 9 | 0 => 0 | 72 => 111 | 37 => 109 | 127 => 137 | 3 => 3 | 5 => 5 | n => n, fun | n => n⟩
theorem Tryz.lays169 : Go.Proofs.Lays.n169 Tryz.prog Tryz.lays169_ren := {
  mixed := by kernel_rfl
  f169 := Tryz.func91.trans (congrArg some (by kernel_rfl))
  t0 := Tryz.underlying0
  a0 := Tryz.isAgg0
  z0 := Tryz.sizeOf0
  v0 := Tryz.zeroValue0
  t3 := Tryz.underlying3
  a3 := Tryz.isAgg3
  z3 := Tryz.sizeOf3
  v3 := Tryz.zeroValue3
  t9 := Tryz.underlying9
  a9 := Tryz.isAgg9
  z9 := Tryz.sizeOf9
  v9 := Tryz.zeroValue9
  t37 := Tryz.underlying109
  a37 := Tryz.isAgg109
  z37 := Tryz.sizeOf109
  v37 := Tryz.zeroValue109
  t70 := Tryz.underlying108
  a70 := Tryz.isAgg108
  z70 := Tryz.sizeOf108
  v70 := Tryz.zeroValue108
  t72 := Tryz.underlying111
  a72 := Tryz.isAgg111
  z72 := Tryz.sizeOf111
  v72 := Tryz.zeroValue111
  t127 := Tryz.underlying137
  a127 := Tryz.isAgg137
  z127 := Tryz.sizeOf137
  v127 := Tryz.zeroValue137 }
theorem Tryz.Builder_Extra_169 : Builder.Extra Tryz.prog Tryz.lays169_ren := {
  sizeBuilder := by kernel_rfl
  liesBuilder := by kernel_rfl
  t5 := Tryz.underlying5
  a5 := Tryz.isAgg5
  z5 := Tryz.sizeOf5
  v5 := Tryz.zeroValue5
  infoByte := by kernel_rfl
  cellsByte := by kernel_rfl
  sizeByte := by kernel_rfl
  neB5 := by decide }
def Tryz.lays106_ren : Go.Shelf.Ren := ⟨fun | 106 => 132 | 213 => 171 | 265 => 197 | n => n, fun | 9 => 9 | 3 => 3 | n => n, fun | n => n⟩
theorem Tryz.lays106 : Go.Proofs.Lays.n106 Tryz.prog Tryz.lays106_ren := {
  mixed := by kernel_rfl
  f106 := Tryz.func132.trans (congrArg some (by kernel_rfl))
  f213 := Tryz.func171.trans (congrArg some (by kernel_rfl))
  f265 := Tryz.func197.trans (congrArg some (by kernel_rfl))
  t3 := Tryz.underlying3
  a3 := Tryz.isAgg3
  z3 := Tryz.sizeOf3
  v3 := Tryz.zeroValue3
  t9 := Tryz.underlying9
  a9 := Tryz.isAgg9
  z9 := Tryz.sizeOf9
  v9 := Tryz.zeroValue9 }
open Go.RowKit in
/-- strings.Compare: "Compare returns an integer comparing two strings lexicographically. The result will be 0 if a == b, -1 if a < b, and +1 if a > b.": IT RETURNS 'Lib.compareBytes a b'; the world is as it was. (LAID: no walk: one application.) -/
theorem Tryz.strings_Compare (a b : ByteArray) (w : World) :
    Calls Tryz.prog 132 #[.string a, .string b] w fun e w' => e = .returned (.int .i64 (Lib.compareBytes a.data.toList b.data.toList)) ∧ w' = w := Any.strings_Compare Tryz.lays106 a b w
def Tryz.laysM171_ren : Go.Shelf.Ren := ⟨fun | 171 => 89 | 243 => 128 | 246 => 169 | 283 => 193 | 284 => 194 | 285 => 195 | 286 => 196 | 129 => 204 | 317 => 203 | 318 => 205 | 319 => 206 | 320 => 207 | 337 => 213 | 338 => 214 | n => n, fun | 3 => 3 | 9 => 9 | 2 => 2 | 4 => 4 | 171 => 174 | 0 => 0 | 53 => 175 | 37 => 109 | 5 => 5 | 173 => 178 | 212 => 186 | 51 => 187 | 20 => 20 | 213 => 188 | 46 => 139 | 232 => 194 | 233 => 195 | n => n, fun | 17 => 1 | 18 => 2 | 19 => 3 | n => n⟩
theorem Tryz.laysM171 : Go.Proofs.LaysM.n171 Tryz.prog Tryz.laysM171_ren := {
  mixed := by kernel_rfl
  f129 := Tryz.func204.trans (congrArg some (by kernel_rfl))
  f171 := Tryz.func89.trans (congrArg some (by kernel_rfl))
  f243 := Tryz.func128.trans (congrArg some (by kernel_rfl))
  f246 := Tryz.func169.trans (congrArg some (by kernel_rfl))
  f283 := Tryz.func193.trans (congrArg some (by kernel_rfl))
  f284 := Tryz.func194.trans (congrArg some (by kernel_rfl))
  f285 := Tryz.func195.trans (congrArg some (by kernel_rfl))
  f286 := Tryz.func196.trans (congrArg some (by kernel_rfl))
  f317 := Tryz.func203.trans (congrArg some (by kernel_rfl))
  f318 := Tryz.func205.trans (congrArg some (by kernel_rfl))
  f319 := Tryz.func206.trans (congrArg some (by kernel_rfl))
  f320 := Tryz.func207.trans (congrArg some (by kernel_rfl))
  f337 := Tryz.func213.trans (congrArg some (by kernel_rfl))
  f338 := Tryz.func214.trans (congrArg some (by kernel_rfl))
  t0 := Tryz.underlying0
  a0 := Tryz.isAgg0
  z0 := Tryz.sizeOf0
  v0 := Tryz.zeroValue0
  t2 := Tryz.underlying2
  a2 := Tryz.isAgg2
  z2 := Tryz.sizeOf2
  v2 := Tryz.zeroValue2
  t3 := Tryz.underlying3
  a3 := Tryz.isAgg3
  z3 := Tryz.sizeOf3
  v3 := Tryz.zeroValue3
  t4 := Tryz.underlying4
  a4 := Tryz.isAgg4
  z4 := Tryz.sizeOf4
  v4 := Tryz.zeroValue4
  t5 := Tryz.underlying5
  a5 := Tryz.isAgg5
  z5 := Tryz.sizeOf5
  v5 := Tryz.zeroValue5
  t9 := Tryz.underlying9
  a9 := Tryz.isAgg9
  z9 := Tryz.sizeOf9
  v9 := Tryz.zeroValue9
  t20 := Tryz.underlying20
  a20 := Tryz.isAgg20
  z20 := Tryz.sizeOf20
  v20 := Tryz.zeroValue20
  t37 := Tryz.underlying109
  a37 := Tryz.isAgg109
  z37 := Tryz.sizeOf109
  v37 := Tryz.zeroValue109
  t46 := Tryz.underlying139
  a46 := Tryz.isAgg139
  z46 := Tryz.sizeOf139
  v46 := Tryz.zeroValue139
  t51 := Tryz.underlying187
  a51 := Tryz.isAgg187
  z51 := Tryz.sizeOf187
  v51 := Tryz.zeroValue187
  t53 := Tryz.underlying175
  a53 := Tryz.isAgg175
  z53 := Tryz.sizeOf175
  v53 := Tryz.zeroValue175
  t171 := Tryz.underlying174
  a171 := Tryz.isAgg174
  z171 := Tryz.sizeOf174
  v171 := Tryz.zeroValue174
  t173 := Tryz.underlying178
  a173 := Tryz.isAgg178
  z173 := Tryz.sizeOf178
  v173 := Tryz.zeroValue178
  t212 := Tryz.underlying186
  a212 := Tryz.isAgg186
  z212 := Tryz.sizeOf186
  v212 := Tryz.zeroValue186
  t213 := Tryz.underlying188
  a213 := Tryz.isAgg188
  z213 := Tryz.sizeOf188
  t232 := Tryz.underlying194
  a232 := Tryz.isAgg194
  z232 := Tryz.sizeOf194
  v232 := Tryz.zeroValue194
  t233 := Tryz.underlying195
  a233 := Tryz.isAgg195
  z233 := Tryz.sizeOf195
  v233 := Tryz.zeroValue195
  g17 := by kernel_rfl
  g18 := by kernel_rfl
  g19 := by kernel_rfl
  i0 := by kernel_rfl
  i2 := by kernel_rfl
  i3 := by kernel_rfl
  i4 := by kernel_rfl
  i5 := by kernel_rfl
  i9 := by kernel_rfl
  i20 := by kernel_rfl
  i37 := by kernel_rfl
  i46 := by kernel_rfl
  i51 := by kernel_rfl
  i53 := by kernel_rfl
  i171 := by kernel_rfl
  i173 := by kernel_rfl
  i212 := by kernel_rfl
  i232 := by kernel_rfl
  i233 := by kernel_rfl
  m17 := by kernel_rfl
  m18 := by kernel_rfl
  m19 := by kernel_rfl }
open Go.RowKit Go.Sort Go.Lib in
/-- strconv.Itoa: "Itoa is equivalent to FormatInt(int64(i), 10).": i's DECIMAL NUMERAL ('Lib.itoa': a '-' where i is negative, then the digits), FOR EVERY int. The world behind the call: the world before it, new blocks behind the heap (the library's 'var a [24]byte'), draws. (LAID: no walk: one application.) -/
theorem Tryz.strconv_Itoa (n : Int) (h0 : -9223372036854775808 ≤ n) (h1 : n ≤ 9223372036854775807) (w : World) (htab : Lib.TabIs Tryz.prog w "internal/strconv.uint64pow10" .u64 Lib.pow10Tab) :
    Calls Tryz.prog 89 #[.int .i64 n] w fun e w' => e = .returned (.string ⟨(Lib.itoa n).toArray⟩) ∧ ∃ k os, w' = grow (w.drewN k) os := Any.strconv_Itoa Tryz.laysM171 n h0 h1 w htab
def Tryz.lays240_ren : Go.Shelf.Ren := ⟨fun | 166 => 88 | 167 => 90 | 240 => 127 | 276 => 168 | n => n, fun | 0 => 0 | 3 => 3 | 4 => 4 | 5 => 5 | 9 => 9 | 20 => 20 | 37 => 109 | 70 => 108 | 72 => 111 | 75 => 113 | 80 => 118 | 164 => 161 | n => n, fun | n => n⟩
theorem Tryz.lays240 : Go.Proofs.Lays.n240 Tryz.prog Tryz.lays240_ren := {
  mixed := by kernel_rfl
  f240 := Tryz.func127.trans (congrArg some (by kernel_rfl))
  f276 := Tryz.func168.trans (congrArg some (by kernel_rfl))
  t0 := Tryz.underlying0
  a0 := Tryz.isAgg0
  z0 := Tryz.sizeOf0
  v0 := Tryz.zeroValue0
  t4 := Tryz.underlying4
  a4 := Tryz.isAgg4
  z4 := Tryz.sizeOf4
  v4 := Tryz.zeroValue4
  t9 := Tryz.underlying9
  a9 := Tryz.isAgg9
  z9 := Tryz.sizeOf9
  v9 := Tryz.zeroValue9
  t20 := Tryz.underlying20
  a20 := Tryz.isAgg20
  z20 := Tryz.sizeOf20
  v20 := Tryz.zeroValue20
  t70 := Tryz.underlying108
  a70 := Tryz.isAgg108
  z70 := Tryz.sizeOf108
  v70 := Tryz.zeroValue108
  t72 := Tryz.underlying111
  a72 := Tryz.isAgg111
  z72 := Tryz.sizeOf111
  v72 := Tryz.zeroValue111
  t164 := Tryz.underlying161
  a164 := Tryz.isAgg161
  z164 := Tryz.sizeOf161
  v164 := Tryz.zeroValue161 }
theorem Tryz.Builder_X72_240 : Builder.X72 Tryz.prog Tryz.lays240_ren := {
  sizeBuilder := by kernel_rfl
  liesBuilder := by kernel_rfl }
end Go.Proofs
