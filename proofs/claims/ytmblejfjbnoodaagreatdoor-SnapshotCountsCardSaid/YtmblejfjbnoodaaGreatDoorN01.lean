/- The package-level tables that the rows lay: (the variable's block, its numbers' kind, its numbers). An abstract state of a call, by content: slices as lists, variables in memory as lists of cells; and the relation to the machine's state. The relation between an abstract state and the machine's, and what keeps it. Writing into a variable of the call's own, and appending to a row of its own, keep the relation. The operations that neither write nor read variables: what each makes of its operands by content. -/
import Derived.Below
import Derived.Orders
import Derived.Maps.AppendAt
import Derived.Tactics
import Derived.Laws.OwnMore
import Derived.Laws.CopyRow
import Derived.Laws.IdiomCopy
import Derived.Laws.Entries
import Derived.Laws.Cells
set_option linter.unusedVariables false
set_option linter.unusedSimpArgs false
namespace Go.FE
def tabs : List (Nat × IntKind × List Int) := [(1, .u64, [1, 10, 100, 1000, 10000, 100000, 1000000, 10000000, 100000000, 1000000000, 10000000000, 100000000000, 1000000000000, 10000000000000, 100000000000000, 1000000000000000, 10000000000000000, 100000000000000000, 1000000000000000000, 10000000000000000000]),
  (2, .u8, [0, 1, 28, 2, 29, 14, 24, 3, 30, 22, 20, 15, 25, 17, 4, 8, 31, 27, 13, 23, 21, 19, 16, 7, 26, 12, 18, 6, 11, 5, 10, 9]),
  (3, .u8, [0, 1, 56, 2, 57, 49, 28, 3, 61, 58, 42, 50, 38, 29, 17, 4, 62, 47, 59, 36, 45, 43, 51, 22, 53, 39, 33, 30, 24, 18, 12, 5, 63, 55, 48, 27, 60, 41, 37, 16, 46, 35, 44, 21, 52, 32, 23, 11, 54, 26, 40, 15, 34, 20, 31, 10, 25, 14, 19, 9, 13, 8, 7, 6])]
/-- The world holds the tables. -/
def TabW (w : World) : Prop := ∀ p ∈ tabs, ∃ t fr, w.heap[p.1]? = some (.cells (p.2.2.map fun z => Value.int p.2.1 z).toArray t fr)
theorem TabW.below {w w' : World} (h : TabW w) (hb : ∀ k, k < w.heap.size → w'.heap[k]? = w.heap[k]?) : TabW w' := fun p hp => by
  obtain ⟨t, fr, h1⟩ := h p hp
  exact ⟨t, fr, (hb _ (Array.getElem?_eq_some_iff.1 h1).1).trans h1⟩
end Go.FE
namespace Go.FE
open Go.RowKit
abbrev Path := List Nat
abbrev Rid := Path × Nat
/-- A value by content. ar: a slice of a row of the call's own whose elements may still be written; ap: an address in it; mp: a map of the call's own; e0: a slice of length and capacity 0; bl: true or false. sl: a slice, its elements each a list of cells; tok: whose row it is, and in which state. ep: an address inside cells that nobody writes. vp: an address inside a variable of the call's own. -/
inductive AV where
  | v (x : Value)
  | sl (xs : List (List AV)) (tok : Option (Rid × Nat))
  | agg (n : Nat) (cs : List AV)
  | tup (vs : List AV)
  | vp (id : Rid) (off : Nat)
  | ep (n : Nat) (cs : List AV) (off : Nat)
  | fn (f : FuncId) (caps : List Rid)
  | ar (id : Rid) (s z off n : Nat)
  | ap (id : Rid) (s j k : Nat)
  | mp (id : Rid)
  | e0
  | bl
  | und
  | unk
inductive Res where
  | dead
  | var (ty : TypeId) (cells : List AV)
  | tok (s : Nat) (e : TypeId) (sz : Nat)
  | arr (s : Nat) (e : TypeId) (sz : Nat) (rows : List (List AV))
  | map (k e : TypeId) (b : Bool) (f : ByteArray → Option Int)
/-- A row's state: its number, the elements' type and size, and whether its elements may still be written. -/
def ver : Res → Option (Nat × TypeId × Nat × Bool)
  | .tok s e sz => some (s, e, sz, false)
  | .arr s e sz _ => some (s, e, sz, true)
  | _ => none
/-- A part of a row. -/
def viewOf : Value → Nat → Nat → Nat → Value
  | .slice A _ c, sz, off, n => .slice (A.map (·.add (off * sz))) n (c - off)
  | x, _, _, _ => x
/-- Values without addresses. -/
def okV : Value → Bool
  | .bool _ | .int _ _ | .string _ | .nilFunc => true
  | .func (.func _) a b => a.isEmpty && b.isEmpty
  | .pointer none => true
  | .slice none 0 0 => true
  | _ => false
theorem okV_one {x : Value} (h : okV x = true) : x.oneCell' = true := by
  unfold okV at h
  split at h <;> first | rfl | cases h
/-- A cell that holds x, and that nobody writes. -/
def RC (m : Nat → Nat) (w : World) (a : Addr) (x : Value) : Prop := w.cell? a = some x ∧ a.off < m a.block
theorem add_block (a : Addr) (n : Nat) : (a.add n).block = a.block := by unfold Addr.add; split <;> rfl
theorem add_off (a : Addr) (n : Nat) : (a.add n).off = a.off + n := by unfold Addr.add; split <;> simp_all
theorem add_add (a : Addr) (i j : Nat) : (a.add i).add j = a.add (i + j) := by
  unfold Addr.add
  by_cases hi : i = 0
  · subst hi; simp
  · by_cases hj : j = 0
    · subst hj; simp
    · simp [hi, hj, Nat.add_assoc]
theorem add_zero (a : Addr) : a.add 0 = a := by simp [Addr.add]
theorem add_lit0 (g j : Nat) : (⟨g, 0, none⟩ : Addr).add j = ⟨g, j, none⟩ := by unfold Addr.add; split <;> simp_all
/-- A value's content in memory that nobody writes. -/
inductive CR (m : Nat → Nat) (w : World) : AV → Value → Prop
  | v {x} (h : okV x = true) : CR m w (.v x) x
  | sl {xs tok A c} (sz : Nat) (f : Nat → Nat → Value) (hc : xs.length ≤ c) (hm : xs.length ≤ maxLen)
      (hs : ∀ cs ∈ xs, cs.length = sz)
      (ha : xs ≠ [] → ∃ ad, A = some ad ∧ ∀ j cs i q, xs[j]? = some cs → cs[i]? = some q → RC m w (ad.add (j * sz + i)) (f j i) ∧ (f j i).oneCell' = true)
      (hr : ∀ j cs i q, xs[j]? = some cs → cs[i]? = some q → CR m w q (f j i)) : CR m w (.sl xs tok) (.slice A xs.length c)
  | agg {n cs vs} (hn : cs.length = n) (hv : vs.size = n) (h1 : ∀ i, i < n → (vs.getD i undef).oneCell' = true)
      (h : ∀ i q, cs[i]? = some q → CR m w q (vs.getD i undef)) : CR m w (.agg n cs) (.agg vs)
  | unk (x) : CR m w .unk x
theorem CR.mono {m m' : Nat → Nat} {w w' : World} (hk : ∀ a x, RC m w a x → RC m' w' a x) {q : AV} {x : Value} (h : CR m w q x) : CR m' w' q x := by
  induction h with
  | v h => exact .v h
  | sl sz f hc hm hs ha hr ih =>
    refine .sl sz f hc hm hs (fun hn => ?_) ih
    obtain ⟨ad, e, h⟩ := ha hn
    exact ⟨ad, e, fun j cs i q hj hi => ⟨hk _ _ (h j cs i q hj hi).1, (h j cs i q hj hi).2⟩⟩
  | agg hn hv h1 h ih => exact .agg hn hv h1 ih
  | unk x => exact .unk x
theorem CR.sl_inv {m w xs tok x} (h : CR m w (.sl xs tok) x) : ∃ A c sz, ∃ f : Nat → Nat → Value, x = .slice A xs.length c ∧ xs.length ≤ c ∧ xs.length ≤ maxLen ∧ (∀ cs ∈ xs, cs.length = sz) ∧
    (xs ≠ [] → ∃ ad, A = some ad ∧ ∀ j cs i q, xs[j]? = some cs → cs[i]? = some q → RC m w (ad.add (j * sz + i)) (f j i) ∧ (f j i).oneCell' = true) ∧
    (∀ j cs i q, xs[j]? = some cs → cs[i]? = some q → CR m w q (f j i)) := by
  cases h with
  | sl sz f hc hm hs ha hr => exact ⟨_, _, sz, f, rfl, hc, hm, hs, ha, hr⟩
theorem CR.agg_inv {m w n cs x} (h : CR m w (.agg n cs) x) : ∃ vs, x = .agg vs ∧ cs.length = n ∧ vs.size = n ∧ (∀ i, i < n → (vs.getD i undef).oneCell' = true) ∧ ∀ i q, cs[i]? = some q → CR m w q (vs.getD i undef) := by
  cases h with
  | agg hn hv h1 h => exact ⟨_, rfl, hn, hv, h1, h⟩
theorem CR.v_inv {m w y x} (h : CR m w (.v y) x) : x = y ∧ okV y = true := by
  cases h with
  | v h => exact ⟨rfl, h⟩
theorem CR.tok {m w xs tok tok' x} (h : CR m w (.sl xs tok) x) : CR m w (.sl xs tok') x := by
  cases h with
  | sl sz f hc hm hs ha hr => exact .sl sz f hc hm hs ha hr
structure Env where
  gs : Rid → Nat
  tv : Rid → Value
  rs : Rid → Res
  U : Rid → Prop
  m : Nat → Nat
  w : World
/-- A value as a slot or a variable's cell holds it. -/
def VR (E : Env) : AV → Value → Prop
  | .vp id off, x => E.U id ∧ x = .pointer (some ⟨E.gs id, off, none⟩)
  | .ep n cs off, x => cs.length = n ∧ ∃ (ad : Addr) (f : Nat → Value), x = .pointer (some (ad.add off)) ∧ ∀ i q, cs[i]? = some q → RC E.m E.w (ad.add i) (f i) ∧ (f i).oneCell' = true ∧ CR E.m E.w q (f i)
  | .fn f caps, x => (∀ id ∈ caps, E.U id) ∧ x = .func (.func f) #[] (caps.map fun id => Value.pointer (some ⟨E.gs id, 0, none⟩)).toArray
  | .tup vs, x => ∃ ys : Array Value, x = .tuple ys ∧ ys.size = vs.length ∧ ∀ i q, vs[i]? = some q → CR E.m E.w q (ys.getD i undef)
  | .sl xs (some (t, s)), x => CR E.m E.w (.sl xs none) x ∧ E.U t ∧ ∀ s' e sz b, ver (E.rs t) = some (s', e, sz, b) → s ≤ s' ∧ (s = s' → b = false ∧ x = E.tv t ∧ ∀ cs ∈ xs, cs.length = sz)
  | .ar t s z off n, x => E.U t ∧ (∃ A c, x = .slice A n c ∧ n ≤ c ∧ n ≤ maxLen ∧ (n ≠ 0 → ∃ ad, A = some ad)) ∧ ∀ s' e sz b, ver (E.rs t) = some (s', e, sz, b) → s ≤ s' ∧ (s = s' → b = true ∧ sz = z ∧ (∃ A N c, E.tv t = .slice A N c ∧ off + n ≤ c) ∧ (off = 0 ∨ n ≠ 0 → x = viewOf (E.tv t) z off n))
  | .ap t s j k, x => E.U t ∧ (∃ A, x = .pointer (some A)) ∧ ∀ s' e sz b, ver (E.rs t) = some (s', e, sz, b) → s ≤ s' ∧ (s = s' → b = true ∧ ∃ A N c, E.tv t = .slice (some A) N c ∧ x = .pointer (some (A.add (j * sz + k))))
  | .e0, x => ∃ A, x = .slice A 0 0
  | .bl, x => ∃ b, x = .bool b
  | .mp t, x => E.U t ∧ x = .map (some (E.gs t))
  | .und, x => x = undef
  | q, x => CR E.m E.w q x
/-- Whose variable, row or map a value leads to. -/
def AV.owner : AV → Option Rid
  | .vp r _ | .sl _ (some (r, _)) | .ar r _ _ _ _ | .ap r _ _ _ | .mp r => some r
  | _ => none
theorem VR.owned {E : Env} {q : AV} {x : Value} {r : Rid} (h : VR E q x) (hr : q.owner = some r) : E.U r := by
  unfold AV.owner at hr
  split at hr
  · injection hr with hr; subst hr; exact h.1
  · injection hr with hr; subst hr; exact h.2.1
  · injection hr with hr; subst hr; exact h.1
  · injection hr with hr; subst hr; exact h.1
  · injection hr with hr; subst hr; exact h.1
  · cases hr
/-- What a step may do to what is there. -/
structure Le (E E' : Env) : Prop where
  rc : ∀ a x, RC E.m E.w a x → RC E'.m E'.w a x
  U : ∀ i, E.U i → E'.U i
  gs : ∀ id : Rid, E.U id → E'.gs id = E.gs id
  rs : ∀ t : Rid, E.U t → ∀ s' e sz b, ver (E'.rs t) = some (s', e, sz, b) → (ver (E.rs t) = some (s', e, sz, b) ∧ E'.tv t = E.tv t) ∨ ∃ s0 b0, ver (E.rs t) = some (s0, e, sz, b0) ∧ s0 < s'
theorem VR.mono {E E' : Env} (L : Le E E') {q : AV} {x : Value} (h : VR E q x) : VR E' q x := by
  cases q with
  | vp id off => exact ⟨L.U _ h.1, by rw [L.gs _ h.1]; exact h.2⟩
  | ep n cs off =>
    obtain ⟨hn, ad, f, e, h⟩ := h
    exact ⟨hn, ad, f, e, fun i q hi => ⟨L.rc _ _ (h i q hi).1, (h i q hi).2.1, (h i q hi).2.2.mono L.rc⟩⟩
  | fn f caps =>
    refine ⟨fun id hid => L.U _ (h.1 id hid), h.2.trans ?_⟩
    congr 2
    exact List.map_congr_left fun id hid => by rw [L.gs id (h.1 id hid)]
  | tup vs =>
    obtain ⟨ys, e, hs, h⟩ := h
    exact ⟨ys, e, hs, fun i q hi => (h i q hi).mono L.rc⟩
  | sl xs tok =>
    cases tok with
    | none => exact CR.mono L.rc h
    | some p =>
      obtain ⟨t, s⟩ := p
      obtain ⟨h1, h2, h3⟩ := h
      refine ⟨h1.mono L.rc, L.U _ h2, fun s' e sz b hr => ?_⟩
      rcases L.rs t h2 s' e sz b hr with ⟨h4, h5⟩ | ⟨s0, b0, h4, h5⟩
      · obtain ⟨h6, h7⟩ := h3 s' e sz b h4
        exact ⟨h6, fun hss => ⟨(h7 hss).1, by rw [h5]; exact (h7 hss).2.1, (h7 hss).2.2⟩⟩
      · have := (h3 s0 e sz b0 h4).1
        exact ⟨by omega, fun hss => by omega⟩
  | ar t s z off n =>
    obtain ⟨h2, h0, h3⟩ := h
    refine ⟨L.U _ h2, h0, fun s' e sz b hr => ?_⟩
    rcases L.rs t h2 s' e sz b hr with ⟨h4, h5⟩ | ⟨s0, b0, h4, h5⟩
    · rw [h5]; exact h3 s' e sz b h4
    · have := (h3 s0 e sz b0 h4).1
      exact ⟨by omega, fun hss => by omega⟩
  | ap t s j k =>
    obtain ⟨h2, h0, h3⟩ := h
    refine ⟨L.U _ h2, h0, fun s' e sz b hr => ?_⟩
    rcases L.rs t h2 s' e sz b hr with ⟨h4, h5⟩ | ⟨s0, b0, h4, h5⟩
    · rw [h5]; exact h3 s' e sz b h4
    · have := (h3 s0 e sz b0 h4).1
      exact ⟨by omega, fun hss => by omega⟩
  | mp t => exact ⟨L.U _ h.1, by rw [L.gs _ h.1]; exact h.2⟩
  | e0 => exact h
  | bl => exact h
  | und => exact h
  | v x => exact CR.mono L.rc h
  | agg n cs => exact CR.mono L.rc h
  | unk => exact CR.mono L.rc h
theorem VR.of_CR {E : Env} {q : AV} {x : Value} (h : CR E.m E.w q x) (hq : ∀ xs p, q ≠ .sl xs (some p)) : VR E q x := by
  cases h with
  | v h => exact .v h
  | sl sz f hc hm hs ha hr =>
    rename_i xs tok A c
    cases tok with
    | none => exact .sl sz f hc hm hs ha hr
    | some p => exact absurd rfl (hq _ _)
  | agg hn hv h1 h => exact .agg hn hv h1 h
  | unk x => exact .unk x
/-- A content, without its row's name. -/
def AV.bare : AV → AV
  | .sl xs _ => .sl xs none
  | q => q
theorem VR.of_CR_bare {E : Env} {q : AV} {x : Value} (h : CR E.m E.w q x) : VR E q.bare x := by
  cases h with
  | v h => exact .v h
  | sl sz f hc hm hs ha hr => exact .sl sz f hc hm hs ha hr
  | agg hn hv h1 h => exact .agg hn hv h1 h
  | unk x => exact .unk x
/-- What may lie in memory that nobody writes. -/
def AV.plain : AV → Bool
  | .v _ | .sl _ _ | .agg _ _ => true
  | _ => false
theorem VR.toCR {E : Env} {q : AV} {x : Value} (h : VR E q x) (hp : q.plain = true) : CR E.m E.w q x := by
  cases q with
  | v y => exact h
  | agg n cs => exact h
  | sl xs tok =>
    cases tok with
    | none => exact h
    | some p => exact CR.tok h.1
  | _ => simp [AV.plain] at hp
/-- One cell's values. -/
def AV.one : AV → Bool
  | .v _ | .sl _ _ | .vp _ _ | .ep _ _ _ | .fn _ _ | .ar _ _ _ _ _ | .ap _ _ _ _ | .mp _ | .e0 | .bl => true
  | _ => false
theorem VR.one {E : Env} {q : AV} {x : Value} (h : VR E q x) (hp : q.one = true) : x.oneCell' = true := by
  cases q with
  | v y => obtain ⟨rfl, h⟩ := CR.v_inv h; exact okV_one h
  | sl xs tok =>
    have h' : CR E.m E.w (.sl xs none) x := by cases tok with | none => exact h | some p => exact h.1
    obtain ⟨A, c, sz, f, rfl, _⟩ := h'.sl_inv
    rfl
  | vp id off => obtain ⟨_, rfl⟩ := h; rfl
  | ep n cs off => obtain ⟨_, ad, f, rfl, _⟩ := h; rfl
  | fn f caps => obtain ⟨_, rfl⟩ := h; rfl
  | ar t s z off n => obtain ⟨_, ⟨A, c, rfl, _⟩, _⟩ := h; rfl
  | ap t s j k => obtain ⟨_, ⟨A, rfl⟩, _⟩ := h; rfl
  | e0 => obtain ⟨A, rfl⟩ := h; rfl
  | bl => obtain ⟨b, rfl⟩ := h; rfl
  | mp t => obtain ⟨_, rfl⟩ := h; rfl
  | _ => simp [AV.one] at hp
end Go.FE
namespace Go.FE
open Go.RowKit
theorem Le.refl (E : Env) : Le E E := ⟨fun _ _ h => h, fun _ h => h, fun _ _ => rfl, fun _ _ _ _ _ _ h => .inl ⟨h, rfl⟩⟩
theorem Le.trans {E E' E'' : Env} (L : Le E E') (M : Le E' E'') : Le E E'' :=
  ⟨fun a x h => M.rc _ _ (L.rc _ _ h), fun i h => M.U _ (L.U _ h), fun id h => (M.gs _ (L.U _ h)).trans (L.gs _ h), fun t ht s' e sz b h => by
    rcases M.rs t (L.U _ ht) s' e sz b h with ⟨h1, h2⟩ | ⟨s0, b0, h1, h2⟩
    · rcases L.rs t ht s' e sz b h1 with ⟨h3, h4⟩ | ⟨s1, b1, h3, h4⟩
      · exact .inl ⟨h3, h2.trans h4⟩
      · exact .inr ⟨s1, b1, h3, h4⟩
    · rcases L.rs t ht s0 e sz b0 h1 with ⟨h3, h4⟩ | ⟨s1, b1, h3, h4⟩
      · exact .inr ⟨s0, b0, h3, h2⟩
      · exact .inr ⟨s1, b1, h3, by omega⟩⟩
/-- A map's values: numbers or booleans. -/
def mkV (b : Bool) (n : Int) : Value := if b = true then .bool (n != 0) else .int .i64 n
/-- A map's entries: strings to numbers or booleans. -/
structure MapOK (es : Array MapEntry) (b : Bool) (f : ByteArray → Option Int) : Prop where
  all : ∀ x ∈ es.toList, ∃ s n, x.key = .string s ∧ f s = some n ∧ x.val = mkV b n
  nodup : (es.toList.map (·.key)).Nodup
  none : ∀ s, (∀ x ∈ es.toList, x.key ≠ .string s) → f s = none
def RF (B : Nat) (E : Env) (id : Rid) : Prop := match E.rs id with
  | .dead => True
  | .var ty cells => ∃ arr, B ≤ E.gs id ∧ E.w.heap[E.gs id]? = some (.cells arr ty (0, 0)) ∧ arr.size = cells.length ∧ E.m (E.gs id) = 0 ∧ ∀ i q, cells[i]? = some q → VR E q (arr.getD i undef) ∧ (arr.getD i undef).oneCell' = true
  | .tok s e sz => ∃ n xs, E.w.ownsRow B e sz (E.tv id) n xs ∧ ∀ k, (E.tv id).ownBlock = some k → E.m k = n * sz
  | .arr s e sz rows => ∃ xs, E.w.ownsRow B e sz (E.tv id) rows.length xs ∧ (∀ k, (E.tv id).ownBlock = some k → E.m k = 0) ∧ (∀ cs ∈ rows, cs.length = sz) ∧
      ∀ j cs i q, rows[j]? = some cs → cs[i]? = some q → VR E q (xs.getD (j * sz + i) undef) ∧ (xs.getD (j * sz + i) undef).oneCell' = true
  | .map k e b f => ∃ es clock, B ≤ E.gs id ∧ E.w.heap[E.gs id]? = some (.map es clock) ∧ E.m (E.gs id) = 0 ∧ MapOK es b f
def blk (E : Env) (id : Rid) : Option Nat := match E.rs id with
  | .dead => none
  | .var _ _ => some (E.gs id)
  | .tok _ _ _ => (E.tv id).ownBlock
  | .arr _ _ _ _ => (E.tv id).ownBlock
  | .map _ _ _ _ => some (E.gs id)
theorem ownsRow_kept {w w' : World} {B e sz n : Nat} {v : Value} {xs : List Value} (h : w.ownsRow B e sz v n xs) (hb : ∀ g, v.ownBlock = some g → w'.heap[g]? = w.heap[g]?) : w'.ownsRow B e sz v n xs := by
  obtain ⟨h7, h8⟩ := h
  refine ⟨h7, ?_⟩
  rcases h8 with h8 | ⟨g, cap, cur, hv, hg, hh, r⟩
  · exact .inl h8
  · exact .inr ⟨g, cap, cur, hv, hg, by rw [hb g (by simp [hv, Value.ownBlock])]; exact hh, r⟩
structure Sim (B : Nat) (E0 : Env) (tm : List AV) (E : Env) (a : Act) : Prop where
  below : Below B E0.w E.w
  le : Le E0 E
  low : ∀ g, g < B → E.m g = E0.m g
  tab : TabW E0.w ∧ ∀ p ∈ tabs, p.1 < B
  hB : B ≤ E.w.heap.size
  fresh : ∀ g, E.w.heap.size ≤ g → E.m g = 0
  defs : a.defers = []
  size : a.tmps.size = tm.length
  slots : ∀ i q, tm[i]? = some q → VR E q (a.tmps.getD i undef)
  res : ∀ id, RF B E id
  used : ∀ id : Rid, E.rs id ≠ .dead → E.U id
  apart : ∀ i j k, i ≠ j → blk E i = some k → blk E j ≠ some k
theorem blk_ge {B w0 tm E a} (S : Sim B w0 tm E a) {id : Rid} {k : Nat} (h : blk E id = some k) : B ≤ k ∧ k < E.w.heap.size := by
  have hr := S.res id
  unfold blk at h
  unfold RF at hr
  cases hrs : E.rs id with
  | dead => rw [hrs] at h; cases h
  | var ty cells =>
    rw [hrs] at h hr
    obtain ⟨arr, h1, h2, _⟩ := hr
    injection h with h
    subst h
    exact ⟨h1, (Array.getElem?_eq_some_iff.1 h2).1⟩
  | tok s e sz =>
    rw [hrs] at h hr
    obtain ⟨n, xs, h1, _⟩ := hr
    exact h1.lt k h
  | arr s e sz rows =>
    rw [hrs] at h hr
    obtain ⟨xs, h1, _⟩ := hr
    exact h1.lt k h
  | map kt et n f =>
    rw [hrs] at h hr
    obtain ⟨es, clock, h1, h2, _⟩ := hr
    injection h with h
    subst h
    exact ⟨h1, (Array.getElem?_eq_some_iff.1 h2).1⟩
theorem RC.lt {m w a x} (h : RC m w a x) : a.block < w.heap.size := World.block_lt_of_cell? w a h.1
theorem Sim.upd {B w0 tm E a} (S : Sim B w0 tm E a) {E' : Env} (hlow : ∀ g, g < B → E'.m g = E.m g) (L : Le E E') (hb : Below B w0.w E'.w) (hB : B ≤ E'.w.heap.size) (hf : ∀ g, E'.w.heap.size ≤ g → E'.m g = 0) (Ch : Rid → Prop)
    (hch : ∀ id, Ch id → RF B E' id)
    (hkeep : ∀ id, ¬ Ch id → E'.rs id = E.rs id ∧ (E.rs id ≠ .dead → E'.tv id = E.tv id ∧ ∀ k, blk E id = some k → E'.w.heap[k]? = E.w.heap[k]? ∧ E'.m k = E.m k))
    (hused : ∀ id, Ch id → E'.rs id ≠ .dead → E'.U id)
    (hap : ∀ i j k, i ≠ j → Ch i → blk E' i = some k → blk E' j ≠ some k) : Sim B w0 tm E' a := by
  have hblk : ∀ id, ¬ Ch id → blk E' id = blk E id := fun id hc => by
    obtain ⟨h1, h2⟩ := hkeep id hc
    unfold blk
    rw [h1]
    cases hrs : E.rs id with
    | dead => rfl
    | var ty cells => simp only; rw [L.gs id (S.used id (by rw [hrs]; simp))]
    | tok s e sz => simp only; rw [(h2 (by rw [hrs]; simp)).1]
    | arr s e sz rows => simp only; rw [(h2 (by rw [hrs]; simp)).1]
    | map kt et n f => simp only; rw [L.gs id (S.used id (by rw [hrs]; simp))]
  refine ⟨hb, S.le.trans L, fun g hg => (hlow g hg).trans (S.low g hg), S.tab, hB, hf, S.defs, S.size, fun i q hi => (S.slots i q hi).mono L, fun id => ?_, fun id hd => ?_, fun i j k hij hi hj => ?_⟩
  · by_cases hc : Ch id
    · exact hch id hc
    · obtain ⟨h1, h2⟩ := hkeep id hc
      have hr := S.res id
      unfold RF at hr ⊢
      rw [h1]
      cases hrs : E.rs id with
      | dead => trivial
      | var ty cells =>
        rw [hrs] at hr
        obtain ⟨arr, h3, h4, h5, h6, h7⟩ := hr
        have hg := L.gs id (S.used id (by rw [hrs]; simp))
        obtain ⟨h8, h9⟩ := (h2 (by rw [hrs]; simp)).2 (E.gs id) (by unfold blk; rw [hrs])
        exact ⟨arr, by rw [hg]; exact h3, by rw [hg, h8]; exact h4, h5, by rw [hg, h9]; exact h6, fun i q hi => ⟨(h7 i q hi).1.mono L, (h7 i q hi).2⟩⟩
      | tok s e sz =>
        rw [hrs] at hr
        obtain ⟨n, xs, h3, h4⟩ := hr
        obtain ⟨h5, h6⟩ := h2 (by rw [hrs]; simp)
        refine ⟨n, xs, ?_, fun k hk => ?_⟩
        · rw [h5]
          exact ownsRow_kept h3 fun g hg => (h6 g (by unfold blk; rw [hrs]; exact hg)).1
        · rw [h5] at hk
          rw [(h6 k (by unfold blk; rw [hrs]; exact hk)).2]
          exact h4 k hk
      | arr s e sz rows =>
        rw [hrs] at hr
        obtain ⟨xs, h3, h4, h7, h8⟩ := hr
        obtain ⟨h5, h6⟩ := h2 (by rw [hrs]; simp)
        refine ⟨xs, ?_, fun k hk => ?_, h7, fun j cs i q hj hi => ⟨(h8 j cs i q hj hi).1.mono L, (h8 j cs i q hj hi).2⟩⟩
        · rw [h5]
          exact ownsRow_kept h3 fun g hg => (h6 g (by unfold blk; rw [hrs]; exact hg)).1
        · rw [h5] at hk
          rw [(h6 k (by unfold blk; rw [hrs]; exact hk)).2]
          exact h4 k hk
      | map kt et n f =>
        rw [hrs] at hr
        obtain ⟨es, clock, h3, h4, h5, h8⟩ := hr
        have hg := L.gs id (S.used id (by rw [hrs]; simp))
        obtain ⟨h9, h10⟩ := (h2 (by rw [hrs]; simp)).2 (E.gs id) (by unfold blk; rw [hrs])
        exact ⟨es, clock, by rw [hg]; exact h3, by rw [hg, h9]; exact h4, by rw [hg, h10]; exact h5, h8⟩
  · by_cases hc : Ch id
    · exact hused id hc hd
    · rw [(hkeep id hc).1] at hd
      exact L.U _ (S.used id hd)
  · by_cases hci : Ch i
    · exact hap i j k hij hci hi hj
    · by_cases hcj : Ch j
      · exact hap j i k (Ne.symm hij) hcj hj hi
      · rw [hblk i hci] at hi
        rw [hblk j hcj] at hj
        exact S.apart i j k hij hi hj
theorem Sim.tabW {B w0 tm E a} (S : Sim B w0 tm E a) : TabW E.w := fun p hp => by
  obtain ⟨t, fr, h⟩ := S.tab.1 p hp
  exact ⟨t, fr, (S.below.block _ (S.tab.2 p hp)).trans h⟩
/-- What is there stays; there may be more. -/
theorem Le.below {E : Env} {w' : World} {m' : Nat → Nat} (hb : Below E.w.heap.size E.w w') (hm : ∀ g, g < E.w.heap.size → m' g = E.m g) : Le E { E with w := w', m := m' } :=
  ⟨fun a x h => ⟨(hb.cell h.lt).trans h.1, by show a.off < m' a.block; rw [hm _ h.lt]; exact h.2⟩, fun _ h => h, fun _ _ => rfl, fun _ _ _ _ _ _ h => .inl ⟨h, rfl⟩⟩
theorem below_trans {B : Nat} {w0 w w' : World} (h : Below B w0 w) (hB : B ≤ w.heap.size) (k : Below w.heap.size w w') : Below B w0 w' :=
  h.trans (k.mono hB)
theorem Sim.world {B w0 tm E a} (S : Sim B w0 tm E a) {w' : World} {m' : Nat → Nat} (hb : Below E.w.heap.size E.w w') (hm : ∀ g, g < E.w.heap.size → m' g = E.m g) (hf : ∀ g, w'.heap.size ≤ g → m' g = 0) :
    Sim B w0 tm { E with w := w', m := m' } a :=
  S.upd (fun g hg => hm g (Nat.lt_of_lt_of_le hg S.hB)) (Le.below hb hm) (below_trans S.below S.hB hb) (Nat.le_trans S.hB hb.size) hf (fun _ => False) (fun _ h => h.elim)
    (fun id _ => ⟨rfl, fun _ => ⟨rfl, fun k hk => ⟨hb.block k (blk_ge S hk).2, hm k (blk_ge S hk).2⟩⟩⟩) (fun _ h => h.elim) (fun _ _ _ _ h => h.elim)
theorem getD_set {α : Type} (xs : Array α) (d i : Nat) (x y : α) : (xs.setIfInBounds d x).getD i y = if d = i ∧ i < xs.size then x else xs.getD i y := by
  by_cases h : d = i
  · subst h
    by_cases hd : d < xs.size
    · simp [hd]
    · simp [hd, Array.getD_eq_getD_getElem?]
  · simp [h, Array.getD_eq_getD_getElem?, Array.getElem?_setIfInBounds_ne h]
theorem Sim.put {B w0 tm E a} (S : Sim B w0 tm E a) {q : AV} {x : Value} (h : VR E q x) (d : Nat) : Sim B w0 (tm.set d q) E (a.put (some d) x) := by
  refine ⟨S.below, S.le, S.low, S.tab, S.hB, S.fresh, S.defs, ?_, fun i p hi => ?_, S.res, S.used, S.apart⟩
  · simp [Act.put, S.size]
  · simp only [Act.put, getD_set]
    rw [List.getElem?_set] at hi
    by_cases hd : d = i
    · subst hd
      by_cases hl : d < tm.length
      · simp only [if_true, hl, Option.some.injEq] at hi
        rw [if_pos ⟨rfl, by rw [S.size]; exact hl⟩, ← hi]
        exact h
      · simp [hl] at hi
    · rw [if_neg hd] at hi
      rw [if_neg (fun e => hd e.1)]
      exact S.slots i p hi
/-- The destination of an operation. -/
def putD (tm : List AV) (d : Option Tmp) (q : AV) : List AV := match d with
  | some d => tm.set d q
  | none => tm
theorem Sim.putD {B w0 tm E a} (S : Sim B w0 tm E a) {q : AV} {x : Value} (h : VR E q x) (d : Option Tmp) : Sim B w0 (putD tm d q) E (a.put d x) := by
  cases d with
  | none => exact S
  | some d => exact S.put h d
/-- An operation that leaves no value. -/
theorem Sim.putSkip {B w0 tm E a} (S : Sim B w0 tm E a) (d : Option Tmp) : Sim B w0 (FE.putD tm d .und) E (a.put d undef) := S.putD (q := .und) rfl d
def fup {α : Type} (f : Rid → α) (id : Rid) (x : α) : Rid → α := fun j => if j = id then x else f j
theorem fup_self {α : Type} (f : Rid → α) (id : Rid) (x : α) : fup f id x id = x := by simp [fup]
theorem fup_ne {α : Type} (f : Rid → α) {id j : Rid} (x : α) (h : j ≠ id) : fup f id x j = f j := by simp [fup, h]
def nup (m : Nat → Nat) (g n : Nat) : Nat → Nat := fun j => if j = g then n else m j
/-- A new variable. -/
theorem Sim.newvar {B w0 tm E a} (S : Sim B w0 tm E a) (id : Rid) (hid : ¬ E.U id) (cells : List AV) (arr : Array Value) (e : TypeId) (hs : arr.size = cells.length)
    (hv : ∀ i q, cells[i]? = some q → VR E q (arr.getD i undef) ∧ (arr.getD i undef).oneCell' = true) :
    Sim B w0 tm { E with gs := fup E.gs id E.w.heap.size, rs := fup E.rs id (.var e cells), U := fun i => E.U i ∨ i = id, w := E.w.alloc (.cells arr e) } a := by
  have hL : Le E { E with gs := fup E.gs id E.w.heap.size, rs := fup E.rs id (.var e cells), U := fun i => E.U i ∨ i = id, w := E.w.alloc (.cells arr e) } := by
    refine ⟨fun a x h => ⟨?_, h.2⟩, fun i h => .inl h, fun j hj => fup_ne _ _ (fun ej => hid (ej ▸ hj)), fun t ht s' e' sz b h => .inl ⟨?_, rfl⟩⟩
    · exact (((Below.refl E.w.heap.size E.w).alloc (Nat.le_refl _) _).cell h.lt).trans h.1
    · have hne : t ≠ id := fun et => hid (et ▸ ht)
      simpa [fup, hne] using h
  have hdead : E.rs id = .dead := by
    by_cases hd : E.rs id = .dead
    · exact hd
    · exact absurd (S.used id hd) hid
  refine S.upd (fun _ _ => rfl) hL (S.below.alloc S.hB _) (by simp; have := S.hB; omega) (fun g hg => S.fresh g (by simp at hg; omega)) (fun j => j = id) ?_ (fun j hj => ⟨fup_ne _ _ hj, fun hd => ⟨rfl, fun k hk => ⟨?_, rfl⟩⟩⟩) (fun j hj _ => .inr (by rw [hj])) ?_
  · rintro j rfl
    unfold RF
    simp only [fup_self]
    refine ⟨arr, S.hB, ?_, hs, S.fresh _ (Nat.le_refl _), fun i q hi => ⟨(hv i q hi).1.mono hL, (hv i q hi).2⟩⟩
    exact heap_alloc_new E.w _
  · exact Below.heap_alloc _ _ _ (blk_ge S hk).2
  · rintro i j k hij rfl hi hj
    simp only [blk, fup_self] at hi
    injection hi with hi
    subst hi
    have : blk E j = some E.w.heap.size := by
      unfold blk at hj ⊢
      simp only [fup_ne _ _ (Ne.symm hij)] at hj
      cases hrs : E.rs j with
      | dead => rw [hrs] at hj; cases hj
      | var _ cs => rw [hrs] at hj; exact hj
      | tok s e' sz => rw [hrs] at hj; exact hj
      | arr s e' sz rows => rw [hrs] at hj; exact hj
      | map kt et n f => rw [hrs] at hj; exact hj
    have := (blk_ge S this).2
    omega
/-- A row of the call's own that is nil. -/
theorem Sim.newnil {B w0 tm E a} (S : Sim B w0 tm E a) (id : Rid) (hid : ¬ E.U id) (e : TypeId) (sz : Nat) :
    Sim B w0 tm { E with tv := fup E.tv id (.slice none 0 0), rs := fup E.rs id (.tok 0 e sz), U := fun i => E.U i ∨ i = id } a := by
  have hL : Le E { E with tv := fup E.tv id (.slice none 0 0), rs := fup E.rs id (.tok 0 e sz), U := fun i => E.U i ∨ i = id } := by
    refine ⟨fun a x h => h, fun i h => .inl h, fun j hj => rfl, fun t ht s' e' sz' b h => .inl ?_⟩
    have hne : t ≠ id := fun et => hid (et ▸ ht)
    simpa [fup, hne] using h
  refine S.upd (fun _ _ => rfl) hL S.below S.hB S.fresh (fun j => j = id) ?_ (fun j hj => ⟨fup_ne _ _ hj, fun hd => ⟨fup_ne _ _ hj, fun k hk => ⟨rfl, rfl⟩⟩⟩) (fun j hj _ => .inr (by rw [hj])) ?_
  · rintro j rfl
    unfold RF
    simp only [fup_self]
    exact ⟨0, [], World.ownsRow_nil _ _ _ _, fun k hk => by simp [Value.ownBlock] at hk⟩
  · rintro i j k hij rfl hi hj
    simp [blk, fup_self, Value.ownBlock] at hi
/-- A row of the call's own, just made. -/
theorem Sim.newrow {B w0 tm E a} (S : Sim B w0 tm E a) (id : Rid) (hid : ¬ E.U id) (e : TypeId) (sz n cap : Nat) (cur : Array Value) (hn : n ≤ cap) (hm : cap ≤ maxLen) (hc : cur.size = cap * sz) :
    Sim B w0 tm { E with tv := fup E.tv id (.slice (some ⟨E.w.heap.size, 0, none⟩) n cap), rs := fup E.rs id (.tok 0 e sz), U := fun i => E.U i ∨ i = id, w := E.w.alloc (.cells cur e), m := nup E.m E.w.heap.size (n * sz) } a := by
  have hL : Le E { E with tv := fup E.tv id (.slice (some ⟨E.w.heap.size, 0, none⟩) n cap), rs := fup E.rs id (.tok 0 e sz), U := fun i => E.U i ∨ i = id, w := E.w.alloc (.cells cur e), m := nup E.m E.w.heap.size (n * sz) } := by
    refine ⟨fun a x h => ⟨(((Below.refl E.w.heap.size E.w).alloc (Nat.le_refl _) _).cell h.lt).trans h.1, ?_⟩, fun i h => .inl h, fun j hj => rfl, fun t ht s' e' sz' b h => .inl ?_⟩
    · have := h.lt
      simp only [nup]
      rw [if_neg (by omega)]
      exact h.2
    · have hne : t ≠ id := fun et => hid (et ▸ ht)
      simpa [fup, hne] using h
  refine S.upd (fun g hg => by have := S.hB; simp only [nup]; rw [if_neg (by omega)]) hL (S.below.alloc S.hB _) (by simp; have := S.hB; omega) (fun g hg => ?_) (fun j => j = id) ?_ (fun j hj => ⟨fup_ne _ _ hj, fun hd => ⟨fup_ne _ _ hj, fun k hk => ⟨?_, ?_⟩⟩⟩) (fun j hj _ => .inr (by rw [hj])) ?_
  · simp at hg
    simp only [nup]
    rw [if_neg (by omega)]
    exact S.fresh g (by omega)
  · rintro j rfl
    unfold RF
    simp only [fup_self]
    refine ⟨n, cur.toList.take (n * sz), ⟨?_, .inr ⟨E.w.heap.size, cap, cur, rfl, S.hB, heap_alloc_new E.w _, hn, hm, hc, rfl⟩⟩, fun k hk => ?_⟩
    · rw [List.length_take, Array.length_toList, hc]
      exact Nat.min_eq_left (Nat.mul_le_mul_right _ hn)
    · simp [Value.ownBlock] at hk
      simp [nup, hk]
  · exact Below.heap_alloc _ _ _ (blk_ge S hk).2
  · simp only [nup]
    have := (blk_ge S hk).2
    rw [if_neg (by omega)]
  · rintro i j k hij rfl hi hj
    simp [blk, fup_self, Value.ownBlock] at hi
    subst hi
    have : blk E j = some E.w.heap.size := by
      unfold blk at hj ⊢
      simp only [fup_ne _ _ (Ne.symm hij)] at hj
      cases hrs : E.rs j with
      | dead => rw [hrs] at hj; cases hj
      | var _ cs => rw [hrs] at hj; exact hj
      | tok s e' sz => rw [hrs] at hj; exact hj
      | arr s e' sz rows => rw [hrs] at hj; exact hj
      | map kt et n f => rw [hrs] at hj; exact hj
    have := (blk_ge S this).2
    omega
end Go.FE
namespace Go.FE
open Go.RowKit
theorem setRow_size (w : World) (g : Nat) (cs : Array Value) : (w.setRow g cs).heap.size = w.heap.size := by simp [World.setRow]
theorem append_at {P : Program} {w : World} (base : Nat) (t ty e : TypeId) (i : TypeInfo) (z : Value) (size bytes : Nat) (ht : P.underlying t = some (.slice e)) (hi : P.info? e = some i) (hz : i.zero = some z)
    (hsize : i.size = size) (hby : i.bytes = bytes) (hzs : z.cells.size = size) (hsz : 0 < size)
    (v : Value) (n : Nat) (xs : List Value) (hown : w.ownsRow base e size v n xs)
    (a : Addr) (m c : Nat) (news : List Value) (hl : news.length = m * size) (hnews : ∀ j u, news[j]? = some u → w.cell? (a.add j) = some u) (h1 : ∀ u ∈ news, u.oneCell' = true)
    (h63 : n + m ≤ maxLen) (hbytes : (n + m) * bytes ≤ 140737488355328) (hbase : base ≤ w.heap.size) :
    ∃ v' w', (Builtin.append_ #[t, t] ty #[v, .slice (some a) m c]).run P w = .ok v' w' ∧ w'.ownsRow base e size v' (n + m) (xs ++ news) ∧
      ((v'.ownBlock = v.ownBlock ∧ w.grownBy w' v.ownBlock) ∨ (v'.ownBlock = some w.heap.size ∧ w.grownBy w' none)) := by
  obtain ⟨v', w', hr, h2, h3, h4, h5⟩ := run_append_own_at (P := P) w base t ty e i z size bytes ht hi hz hsize hby hzs hsz v n xs hown a m c news hl hnews h1 h63 hbytes hbase
  refine ⟨v', w', hr, h2, ?_⟩
  rcases hown.2 with ⟨rfl, rfl⟩ | ⟨g, cap, cur, rfl, hbg, hg, hnc, hcm, hcs, htake⟩
  · rcases h5 with h5 | h5
    · exact .inl ⟨h5, h3⟩
    · exact .inr ⟨h5, h3⟩
  · subst hsize
    subst hby
    by_cases hroom : n + m ≤ cap
    · have hfit : n * i.size + news.length ≤ cur.size := by rw [hl, hcs, ← Nat.add_mul]; exact Nat.mul_le_mul_right _ hroom
      have hr2 := run_append_room (P := P) w t ty e i ht hi g n cap cur hg a m c news hl hnews h1 hroom hfit
      rw [hr2] at hr
      injection hr with hr _
      subst hr
      exact .inl ⟨rfl, h3⟩
    · have holds : ∀ j u, xs[j]? = some u → w.cell? ((⟨g, 0, none⟩ : Addr).add j) = some u := hown.cells (g := g) rfl
      have h63' : n + m ≤ 9223372036854775807 := by simp only [maxLen] at h63; omega
      have hr2 := run_append_grow (P := P) w t ty e i z ht hi hz ⟨g, 0, none⟩ n cap xs hown.1 holds a m c news hl hnews (by omega) (by omega) (growslice_fits (by omega) hbytes)
      rw [hr2] at hr
      injection hr with hr hw
      subst hr
      subst hw
      exact .inr ⟨rfl, ⟨rfl, rfl, rfl, by simp, fun k hk _ => heap_alloc_old w.drew _ k hk⟩⟩
/-- What is written into a variable. -/
def splice {α : Type} (xs : List α) (off : Nat) (ys : List α) : List α := xs.take off ++ ys ++ xs.drop (off + ys.length)
theorem splice_length {α : Type} {xs : List α} {off : Nat} {ys : List α} (h : off + ys.length ≤ xs.length) : (splice xs off ys).length = xs.length := by
  simp [splice]; omega
theorem splice_get {α : Type} {xs : List α} {off : Nat} {ys : List α} (h : off + ys.length ≤ xs.length) (i : Nat) :
    (splice xs off ys)[i]? = if off ≤ i ∧ i < off + ys.length then ys[i - off]? else xs[i]? := by
  unfold splice
  by_cases h1 : i < off
  · rw [if_neg (by omega), List.append_assoc, List.getElem?_append_left (by simp; omega), List.getElem?_take_of_lt h1]
  · by_cases h2 : i < off + ys.length
    · rw [if_pos ⟨by omega, h2⟩, List.getElem?_append_left (by simp; omega), List.getElem?_append_right (by simp; omega)]
      congr 1
      simp; omega
    · rw [if_neg (by omega), List.getElem?_append_right (by simp; omega), List.getElem?_drop]
      congr 1
      simp; omega
theorem Sim.setvar {B w0 tm E a} (S : Sim B w0 tm E a) (id : Rid) (cells qs : List AV) (off : Nat) {ty : TypeId} (hrs : E.rs id = .var ty cells) (vs : List Value) (hl : vs.length = qs.length) (ho : off + qs.length ≤ cells.length)
    (hv : ∀ i q, qs[i]? = some q → VR E q (vs.getD i undef) ∧ (vs.getD i undef).oneCell' = true) :
    ∃ w', (∀ P : Program, (storeCells ⟨E.gs id, off, none⟩ vs).run P E.w = .ok () w') ∧ Sim B w0 tm { E with rs := fup E.rs id (.var ty (splice cells off qs)), w := w' } a := by
  have hr := S.res id
  unfold RF at hr
  rw [hrs] at hr
  obtain ⟨arr, h1, h2, h3, h4, h5⟩ := hr
  have hst := fun P : Program => run_storeCells_at P (E.gs id) off ty vs 0 arr E.w h2 (by omega) (fun u hu => by
    obtain ⟨i, hi, rfl⟩ := List.getElem_of_mem hu
    have := (hv i qs[i] (List.getElem?_eq_getElem (by omega))).2
    simpa [List.getD_eq_getElem?_getD, hi] using this)
  simp only [Nat.add_zero] at hst
  refine ⟨_, hst, ?_⟩
  have hne : ∀ k, k ≠ E.gs id → (E.w.setRow (E.gs id) (arr.toList.take off ++ vs ++ arr.toList.drop (off + vs.length)).toArray).heap[k]? = E.w.heap[k]? := fun k hk => setRow_other _ _ _ _ hk
  have hL : Le E { E with rs := fup E.rs id (.var ty (splice cells off qs)), w := E.w.setRow (E.gs id) (arr.toList.take off ++ vs ++ arr.toList.drop (off + vs.length)).toArray } := by
    refine ⟨fun b x h => ⟨?_, h.2⟩, fun i h => h, fun j hj => rfl, fun t ht s' e' sz b' h => .inl ⟨?_, rfl⟩⟩
    · have hb : b.block ≠ E.gs id := fun eb => by have := h.2; rw [eb, h4] at this; omega
      exact (World.cell?_of_block (hne _ hb)).trans h.1
    · by_cases hti : t = id
      · subst hti; simp [fup_self, ver] at h
      · simpa [fup, hti] using h
  refine S.upd (fun _ _ => rfl) hL ?_ (by simp only [setRow_size]; exact S.hB) (fun g hg => S.fresh g (by simpa only [setRow_size] using hg)) (fun j => j = id) ?_ (fun j hj => ⟨fup_ne _ _ hj, fun hd => ⟨rfl, fun k hk => ⟨?_, rfl⟩⟩⟩) (fun j hj _ => ?_) ?_
  · refine S.below.trans ⟨rfl, rfl, rfl, by simp only [setRow_size]; exact Nat.le_refl _, fun k hk => hne k (by omega)⟩
  · rintro j rfl
    unfold RF
    simp only [fup_self]
    refine ⟨_, h1, setRow_heap _ _ _ _ _ _ h2, ?_, h4, fun i q hi => ?_⟩
    · rw [List.size_toArray, splice_length ho]
      simp; omega
    · have hlen : (arr.toList.take off ++ vs ++ arr.toList.drop (off + vs.length)).length = cells.length := by simp; omega
      have hget : ((arr.toList.take off ++ vs ++ arr.toList.drop (off + vs.length)).toArray.getD i undef) = if off ≤ i ∧ i < off + qs.length then vs.getD (i - off) undef else arr.getD i undef := by
        have := splice_get (xs := arr.toList) (off := off) (ys := vs) (by simp; omega) i
        unfold splice at this
        rw [Array.getD_eq_getD_getElem?, List.getElem?_toArray, this, hl]
        split
        · rw [List.getD_eq_getElem?_getD]
        · rw [Array.getD_eq_getD_getElem?, Array.getElem?_toList]
      rw [hget]
      rw [splice_get ho] at hi
      split at hi
      · rename_i hin
        rw [if_pos hin]
        exact ⟨(hv _ q hi).1.mono hL, (hv _ q hi).2⟩
      · rename_i hin
        rw [if_neg hin]
        exact ⟨(h5 i q hi).1.mono hL, (h5 i q hi).2⟩
  · refine hne k (fun ek => ?_)
    exact S.apart j id k hj hk (by unfold blk; rw [hrs, ek])
  · subst hj; exact S.used _ (by rw [hrs]; simp)
  · rintro i j k hij rfl hi hj
    simp only [blk, fup_self] at hi
    have hj' : blk E j = some k := by
      unfold blk at hj ⊢
      simp only [fup_ne _ _ (Ne.symm hij)] at hj
      exact hj
    exact S.apart i j k hij (by unfold blk; rw [hrs]; exact hi) hj'
/-- An append: the row has grown; its values of before are no longer its newest. -/
theorem Sim.append {B w0 tm E a} (S : Sim B w0 tm E a) (t : Rid) (s : Nat) (e : TypeId) (sz n k : Nat) (xs news : List Value) (v' : Value) (w' : World) (hrs : E.rs t = .tok s e sz)
    (hown : E.w.ownsRow B e sz (E.tv t) n xs) (hm : ∀ g, (E.tv t).ownBlock = some g → E.m g = n * sz) (hl : news.length = k * sz)
    (hown' : w'.ownsRow B e sz v' (n + k) (xs ++ news))
    (hg : (v'.ownBlock = (E.tv t).ownBlock ∧ E.w.grownBy w' (E.tv t).ownBlock) ∨ (v'.ownBlock = some E.w.heap.size ∧ E.w.grownBy w' none)) :
    ∃ m', (∀ g, v'.ownBlock = some g → m' g = (n + k) * sz) ∧ Sim B w0 tm { E with rs := fup E.rs t (.tok (s + 1) e sz), tv := fup E.tv t v', w := w', m := m' } a ∧ (∀ a x, RC E.m E.w a x → RC m' w' a x) := by
  have hU : E.U t := S.used _ (by rw [hrs]; simp)
  -- the new bounds
  obtain ⟨m', hm1, hm2⟩ : ∃ m' : Nat → Nat, (∀ g, v'.ownBlock = some g → m' g = (n + k) * sz) ∧ (∀ g, v'.ownBlock ≠ some g → m' g = E.m g) := by
    cases hv : v'.ownBlock with
    | none => exact ⟨E.m, fun g h => by simp at h, fun g _ => rfl⟩
    | some g0 => exact ⟨nup E.m g0 ((n + k) * sz), fun g h => by simp at h; simp [nup, h], fun g h => by simp only [nup]; rw [if_neg (fun e => h (by rw [e]))]⟩
  have hgr : E.w.grownBy w' (E.tv t).ownBlock := by
    rcases hg with ⟨_, h⟩ | ⟨_, h⟩
    · exact h
    · exact ⟨h.os, h.tape, h.output, h.size, fun i hi _ => h.block i hi (by simp)⟩
  have hown_lt := hown.lt
  have hown_lt' := hown'.lt
  -- other blocks
  have hother : ∀ g, g < E.w.heap.size → (E.tv t).ownBlock ≠ some g → w'.heap[g]? = E.w.heap[g]? ∧ m' g = E.m g := by
    intro g hgl hne
    refine ⟨hgr.block g hgl (fun e => hne e.symm), hm2 g (fun e => ?_)⟩
    rcases hg with ⟨h1, _⟩ | ⟨h1, _⟩
    · exact hne (h1 ▸ e)
    · rw [h1] at e; injection e with e; omega
  have hrc : ∀ b x, RC E.m E.w b x → RC m' w' b x := by
    intro b x h
    by_cases hb : (E.tv t).ownBlock = some b.block
    · rcases hg with ⟨h1, h2⟩ | ⟨h1, h2⟩
      · refine ⟨?_, by rw [hm1 b.block (h1.trans hb)]; have h3 := h.2; rw [hm _ hb] at h3; exact Nat.lt_of_lt_of_le h3 (Nat.mul_le_mul_right _ (by omega))⟩
        have hoff : b.off < n * sz := by have h3 := h.2; rw [hm _ hb] at h3; exact h3
        have hsp : b.spot = none := by
          have h4 := h.1
          unfold World.cell? at h4
          split at h4
          · by_cases hs : b.spot.isSome = true
            · simp [hs] at h4
            · simpa using hs
          · cases h4
        have hcell : ∀ (W : World) (v : Value) (N : Nat) (X : List Value), W.ownsRow B e sz v N X → v.ownBlock = some b.block → b.off < N * sz → W.cell? b = X[b.off]? := by
          intro W v N X ho hv hlt
          rcases ho.2 with ⟨rfl, _⟩ | ⟨g, cap, cur, rfl, _, hh, hnc, _, hcs, ht⟩
          · simp [Value.ownBlock] at hv
          · have hgb : g = b.block := by simpa [Value.ownBlock] using hv
            unfold World.cell?
            rw [← hgb, hh, ← ht, List.getElem?_take_of_lt hlt]
            simp [hsp]
        have e1 := hcell E.w (E.tv t) n xs hown hb hoff
        have e2 := hcell w' v' (n + k) (xs ++ news) hown' (h1.trans hb) (Nat.lt_of_lt_of_le hoff (Nat.mul_le_mul_right _ (by omega)))
        rw [e2, List.getElem?_append_left (by rw [hown.1]; exact hoff), ← e1]
        exact h.1
      · refine ⟨(World.cell?_of_block (h2.block _ h.lt (by simp))).trans h.1, ?_⟩
        rw [hm2 b.block (fun e => by rw [h1] at e; injection e with e; have := h.lt; omega)]
        exact h.2
    · obtain ⟨h1, h2⟩ := hother b.block h.lt hb
      exact ⟨(World.cell?_of_block h1).trans h.1, by rw [h2]; exact h.2⟩
  refine ⟨m', hm1, ?_, hrc⟩
  have hL : Le E { E with rs := fup E.rs t (.tok (s + 1) e sz), tv := fup E.tv t v', w := w', m := m' } := by
    refine ⟨hrc, fun i h => h, fun j hj => rfl, fun t' ht' s' e' sz' b' h => ?_⟩
    by_cases hti : t' = t
    · subst hti
      simp only [fup_self, ver, Option.some.injEq, Prod.mk.injEq] at h
      obtain ⟨rfl, rfl, rfl, rfl⟩ := h
      exact .inr ⟨s, false, by rw [hrs]; rfl, by omega⟩
    · exact .inl ⟨by simpa [fup, hti] using h, fup_ne _ _ hti⟩
  have hB' : B ≤ w'.heap.size := Nat.le_trans S.hB hgr.size
  refine S.upd (fun g hg => hm2 g (fun e => by have := (hown_lt' g e).1; omega)) hL ?_ hB' (fun g hgl => ?_) (fun j => j = t) ?_ (fun j hj => ⟨fup_ne _ _ hj, fun hd => ⟨fup_ne _ _ hj, fun q hq => hother q (blk_ge S hq).2 (fun eq => ?_)⟩⟩) (fun j hj _ => ?_) ?_
  · exact S.below.grown hgr S.hB (fun g hg' => (hown_lt g hg').1)
  · show m' g = 0
    have hgl' : E.w.heap.size ≤ g := Nat.le_trans hgr.size hgl
    rw [hm2 g (fun e => by have := (hown_lt' g e).2; have h0 : w'.heap.size ≤ g := hgl; omega)]
    exact S.fresh g hgl'
  · rintro j rfl
    unfold RF
    simp only [fup_self]
    exact ⟨n + k, xs ++ news, hown', fun g hg' => hm1 g hg'⟩
  · exact S.apart j t q hj hq (by unfold blk; rw [hrs]; exact eq)
  · subst hj; exact hU
  · rintro i j q hij rfl hi hj
    simp only [blk, fup_self] at hi
    have hj' : blk E j = some q := by
      unfold blk at hj ⊢
      simp only [fup_ne _ _ (Ne.symm hij)] at hj
      exact hj
    rcases hg with ⟨h1, _⟩ | ⟨h1, _⟩
    · exact S.apart i j q hij (by unfold blk; rw [hrs]; exact h1 ▸ hi) hj'
    · have := (blk_ge S hj').2
      rw [h1] at hi
      injection hi with hi
      omega
end Go.FE
namespace Go.FE
open Go.RowKit
def ev (tm : List AV) : Operand → AV
  | .tmp t => tm.getD t .unk
  | .const x => if okV x then .v x else .unk
  | .func f => .fn f []
  | .global _ => .unk
theorem VR.unk {E : Env} (x : Value) : VR E .unk x := CR.unk x
theorem VR.v {E : Env} {x : Value} (h : okV x = true) : VR E (.v x) x := CR.v h
theorem ev_sound {B w0 tm E a} (S : Sim B w0 tm E a) (x : Operand) : VR E (ev tm x) (a.eval x) := by
  cases x with
  | tmp t =>
    simp only [ev, Act.eval]
    by_cases h : t < tm.length
    · rw [List.getD_eq_getElem?_getD, List.getElem?_eq_getElem h]
      exact S.slots t _ (List.getElem?_eq_getElem h)
    · rw [List.getD_eq_getElem?_getD, List.getElem?_eq_none (Nat.le_of_not_lt h)]
      exact VR.unk _
  | const x =>
    simp only [ev, Act.eval]
    split
    · rename_i h; exact VR.v h
    · exact VR.unk _
  | func f => exact ⟨fun _ h => (by cases h), rfl⟩
  | global g => exact VR.unk _
theorem CR.nilS {m w} (A : Option Addr) : CR m w (.sl [] none) (.slice A 0 0) :=
  .sl (xs := []) 0 (fun _ _ => undef) (Nat.zero_le _) (Nat.zero_le _) (fun _ h => by cases h) (fun h => absurd rfl h) (fun _ _ _ _ h => by simp at h)
def asSl : AV → Option (List (List AV))
  | .sl xs _ => some xs
  | .v (.slice none 0 0) => some []
  | .e0 => some []
  | _ => none
theorem asSl_CR {E : Env} {q : AV} {x : Value} {xs : List (List AV)} (h : VR E q x) (hq : asSl q = some xs) : CR E.m E.w (.sl xs none) x := by
  cases q with
  | sl ys tok =>
    simp only [asSl, Option.some.injEq] at hq
    subst hq
    cases tok with
    | none => exact h
    | some p => exact h.1
  | v y =>
    obtain ⟨rfl, _⟩ := CR.v_inv h
    unfold asSl at hq
    split at hq
    · rename_i e; cases e
    · injection hq with hq
      subst hq
      rename_i e
      injection e with e
      subst e
      exact .sl (xs := []) 0 (fun _ _ => undef) (Nat.zero_le _) (Nat.zero_le _) (fun _ h => by cases h) (fun h => absurd rfl h) (fun _ _ _ _ h => by simp at h)
    · rename_i e; cases e
    · cases hq
  | e0 =>
    simp only [asSl, Option.some.injEq] at hq
    subst hq
    obtain ⟨A, rfl⟩ := h
    exact CR.nilS A
  | _ => simp [asSl] at hq
/-- As content: rows without names, nil as the empty row. -/
def nrm : AV → AV
  | .sl xs _ => .sl xs none
  | .v (.slice none 0 0) => .sl [] none
  | q => q
def nrmA : AV → AV
  | .agg n cs => .agg n (cs.map nrm)
  | q => nrm q
theorem CR.nrm {m w q x} (h : CR m w q x) : CR m w (nrm q) x := by
  cases h with
  | v h =>
    unfold FE.nrm
    split
    · rename_i e; cases e
    · rename_i e
      injection e with e
      subst e
      exact .sl (xs := []) 0 (fun _ _ => undef) (Nat.zero_le _) (Nat.zero_le _) (fun _ h => by cases h) (fun h => absurd rfl h) (fun _ _ _ _ h => by simp at h)
    · exact .v h
  | sl sz f hc hm hs ha hr => exact .sl sz f hc hm hs ha hr
  | agg hn hv h1 h => exact .agg hn hv h1 h
  | unk x => exact .unk x
theorem CR.nrmA {m w q x} (h : CR m w q x) : CR m w (nrmA q) x := by
  cases h with
  | agg hn hv h1 h =>
    refine .agg (by rw [List.length_map]; exact hn) hv h1 (fun i q hi => ?_)
    rw [List.getElem?_map] at hi
    obtain ⟨q0, h0, rfl⟩ := Option.map_eq_some_iff.1 hi
    exact (h i q0 h0).nrm
  | v h => exact (CR.v h).nrm
  | sl sz f hc hm hs ha hr => exact (CR.sl (tok := none) sz f hc hm hs ha hr).nrm
  | unk x => exact (CR.unk x).nrm
def intOp (op : BinOp) (k : IntKind) (x y : Int) : Option Value :=
  match op with
  | .add => some (.int k (k.wrap (x + y)))
  | .sub => some (.int k (k.wrap (x - y)))
  | .mul => some (.int k (k.wrap (x * y)))
  | .quo => if y = 0 then none else some (.int k (k.wrap (x.tdiv y)))
  | .rem => if y = 0 then none else some (.int k (x.tmod y))
  | .and => some (.int k (k.wrap (BitVec.ofInt k.bits x &&& BitVec.ofInt k.bits y).toNat))
  | .eql => some (.bool (x == y))
  | .neq => some (.bool (x != y))
  | .lss => some (.bool (x < y))
  | .leq => some (.bool (x ≤ y))
  | .gtr => some (.bool (x > y))
  | .geq => some (.bool (x ≥ y))
  | _ => none
def strOp (op : BinOp) (x y : ByteArray) : Option Value :=
  match op with
  | .add => if ((x.size + y.size : Nat) : Int) > 9223372036854775807 then none else some (.string (x ++ y))
  | .eql => some (.bool (x.toList == y.toList))
  | .neq => some (.bool (!(x.toList == y.toList)))
  | .lss => some (.bool (Op.bytesLess x.toList y.toList))
  | .leq => some (.bool (Op.bytesLess x.toList y.toList || x.toList == y.toList))
  | .gtr => some (.bool (!(Op.bytesLess x.toList y.toList || x.toList == y.toList)))
  | .geq => some (.bool (!(Op.bytesLess x.toList y.toList)))
  | _ => none
def binV (op : BinOp) : Value → Value → Option Value
  | .int k x, .int k' y => match op with
    | .shl => if y < 0 then none else some (.int k (k.wrap (x * 2 ^ (min y.toNat k.bits))))
    | .shr => if y < 0 then none else some (.int k (x.fdiv (2 ^ (min y.toNat k.bits))))
    | _ => if k = k' then intOp op k x y else none
  | .string s, .string t => strOp op s t
  | _, _ => none
theorem binV_run {P : Program} {w : World} {op : BinOp} {a b c : Value} (t : TypeId) (x y : Operand) (h : binV op a b = some c) :
    (do eqGuard op t x y a b; binOp op t a b : Sem Value).run P w = .ok c w ∧ okV c = true := by
  have hg : (eqGuard op t x y a b).run P w = .ok () w := by
    unfold eqGuard
    cases a <;> cases b <;> simp [binV] at h <;> cases op <;> simp
  cases a <;> cases b <;> simp [binV] at h
  case int.int k p k' q =>
    cases op <;> simp only [intOp] at h <;>
      first
      | (split at h
         · cases h
         · rename_i hq
           injection h with h
           subst h
           simp [hg, binOp, Op.shift, hq, okV])
      | (split at h
         · rename_i hk
           subst hk
           first
           | (injection h with h
              subst h
              simp [hg, binOp, Op.intArith, Op.intCmp, Op.intBits, okV])
           | (split at h
              · cases h
              · rename_i hq
                injection h with h
                subst h
                simp [hg, binOp, Op.intDiv, hq, okV])
           | cases h
         · cases h)
  case string.string s u =>
    cases op <;> simp only [strOp] at h <;>
      first
      | (injection h with h
         subst h
         simp [hg, binOp, Op.stringOp, okV])
      | (split at h
         · cases h
         · rename_i hq
           injection h with h
           subst h
           have : ¬ (((s.size + u.size : Nat) : Int) > IntKind.i64.max) := by
             have e : IntKind.i64.max = 9223372036854775807 := by decide
             rw [e]; exact hq
           simp only [Sem.run_bind, hg, Result.andThen_ok, binOp, Op.stringOp, if_neg this]
           exact ⟨rfl, rfl⟩)
      | cases h
def unV (op : UnOp) : Value → Option Value
  | .int k n => match op with
    | .neg => some (.int k (k.wrap (0 - n)))
    | _ => none
  | .bool b => match op with
    | .not => some (.bool (!b))
    | _ => none
  | _ => none
theorem unV_run {P : Program} {w : World} {op : UnOp} {a c : Value} (h : unV op a = some c) : (Op.unary op a).run P w = .ok c w ∧ okV c = true := by
  cases a <;> simp [unV] at h <;> cases op <;> simp at h <;> subst h <;> simp [Op.unary, Op.intArith, okV]
end Go.FE
