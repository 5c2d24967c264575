/- A law's end: it hands back true, and what was there is as it was. What the rows lay is what the walks ask. A law's arguments by content; from a contract to a row. What all cards of these laws share: the tables' world; a slice among the arguments, with its size. -/
import Derived.OpenShut
import Derived.ChangeOld
import Derived.Carry
import Derived.Test.YtmblejfjbnoodaaGreatDoorRows
import Derived.Stop.LaidErr
import Derived.Test.YtmblejfjbnoodaaGreatDoorCards
import Derived.Test.YtmblejfjbnoodaaGreatDoorTie
import Derived.WalkKit
import Derived.ProofKit
import Derived.Deep.DeepHandedRow
import Derived.Lib.LaidTab
import Derived.SizedLaws
import Derived.Test.YtmblejfjbnoodaaGreatDoorN10
set_option linter.unusedVariables false
set_option linter.unusedSimpArgs false
namespace Go.FE
open Go.RowKit Go.WideElems Go.ChangeShapes Go.ChangeAt Go.WideShapes
section
variable {H : Type} {enc : TypeId × Value → H} {P : Program} {W W' : World}
theorem trodAll_stays (hl : laidOutB P = true) (hb : Below W.heap.size W W') (sp' : Nat → Bool) : ∀ {ts : List TypeId} {vs : List Value} {ds : List (DataW H)} {ps : List MemPlace}, (∀ t ∈ ts, P.readableRec t = true ∧ t < P.types.size) →
    DataW.TrodAll enc P W 0 (fun _ => true) true ts vs ds ps → (∀ p ∈ ps, p.block < W.heap.size) → (∀ p ∈ ps, sp' p.block = true) → DataW.TrodAll enc P W' 0 sp' true ts vs ds ps
  | [], [], [], _, _, h, _, _ => h
  | t :: ts, v :: vs, d :: ds, ps, ht, h, hp, hs => by
    obtain ⟨p, q, ⟨fuel, h1⟩, h2, rfl⟩ := h
    obtain ⟨ht1, ht2⟩ := ht t List.mem_cons_self
    refine ⟨p, q, ⟨fuel, DataW.trod_stays (kids_book hl ht1) (book_sized ht1) (fun h => by cases h) ⟨ht2, book_self t⟩ h1 (fun x hx => hb.same (hp x (List.mem_append_left _ hx))) (fun x hx => hs x (List.mem_append_left _ hx))⟩,
      trodAll_stays hl hb sp' (fun t ht' => ht t (List.mem_cons_of_mem _ ht')) h2 (fun x hx => hp x (List.mem_append_right _ hx)) (fun x hx => hs x (List.mem_append_right _ hx)), rfl⟩
  | [], [], _ :: _, _, _, h, _, _ => h.elim
  | [], _ :: _, _, _, _, h, _, _ => h.elim
  | _ :: _, [], _, _, _, h, _, _ => h.elim
  | _ :: _, _ :: _, [], _, _, h, _, _ => h.elim
theorem law_post {f : Func} {s : ChangeSpec} {apart fresh handsOn again : Bool} {args : Array Value} {ds gs : List (DataW H)} {before : List MemPlace} {bt : TypeId} (hl : laidOutB P = true) (hW : DataW.Whole enc P f.params.toList s.vars apart W args.toList ds gs before)
    (hv : s.vars = []) (ht : ∀ t ∈ f.params.toList, P.readableRec t = true ∧ t < P.types.size) (hr : f.resultTypes = #[bt]) (hbt : P.underlying bt = some .bool) (hf : s.fn H ds = { results := [.lit (.bool true)], args := ds }) (hb : Below W.heap.size W W') :
    s.post enc P f apart fresh handsOn again W args (.bool true) W' := by
  have hlt := hW.lt
  have hW0 := hW
  obtain ⟨p, q, h1, h2, rfl, hz, hn⟩ := hW
  rw [hv] at h2
  obtain ⟨rfl, rfl⟩ : gs = [] ∧ q = [] := by
    cases gs with
    | nil => exact ⟨rfl, h2⟩
    | cons _ _ => exact h2.elim
  have hfn : s.fn H (ds ++ []) = { results := [.lit (.bool true)], args := ds } := by rw [List.append_nil]; exact hf
  have hres : ∀ (b : Nat) (sp : Nat → Bool) (hd : Bool), DataW.TrodAll enc P W' b sp hd f.resultTypes.toList ((Value.bool true).resultList f.resultTypes.size) (s.fn H (ds ++ [])).results [] := fun b sp hd => by
    rw [hfn, hr]
    exact trodAll_cons_mk (shut_bool hbt _) trodAll_mk0
  have hargs : ∀ sp : Nat → Bool, (∀ x ∈ p ++ [], sp x.block = true) → DataW.TrodAll enc P W' 0 sp true f.params.toList args.toList (s.fn H (ds ++ [])).args p := fun sp hsp => by
    rw [hfn]
    exact trodAll_stays hl hb sp ht h1 (fun x hx => hlt x (by simpa using hx)) (fun x hx => hsp x (by simpa using hx))
  have hvars : ∀ sp : Nat → Bool, DataW.TrodVars enc P W' sp s.vars (s.fn H (ds ++ [])).vars [] := fun sp => by
    rw [hfn, hv]
    rfl
  have hok : ∀ (j : Nat) (t : TypeId) (r : Value), f.resultTypes[j]? = some t → ((Value.bool true).resultList f.resultTypes.size)[j]? = some r → Value.okWide P W' .any 0 t r := by
    exact ok_one hr rfl (okWide_bool_mk hbt _)
  have hold : ∀ x ∈ p ++ [], (fun b => decide (b < W.heap.size)) x.block = true := fun x hx => by simpa using hlt x hx
  refine ⟨ds, [], p ++ [], [], p, [], hW0, hres _ _ _, hargs _ hold, hvars _, World.keptBut_mono (fun x hx => ⟨hx, ?_⟩) (hb.frame (· ∈ p ++ [])), fun _ => ?_⟩
  · simpa using hx
  · refine ⟨hok, _, _, ([] ++ p) ++ [], ⟨[] ++ p, [], trodAll_append (hargs _ (fun _ _ => rfl)) (hres _ _ _), hvars _, rfl, ?_, ?_⟩, ?_⟩
    · intro b off hp
      have hp' : MemPlace.cell b off ∈ p ++ [] := by simpa using hp
      rw [hb.frozen (p := ⟨b, off, none⟩) (hlt _ hp')]
      exact hz b off hp'
    · intro ha
      have := hn ha
      simpa using this
    · intro x hx _
      simpa using hx
end
end Go.FE
namespace Go.FE
open Go.Proofs Go.Proofs.YtmblejfjbnoodaaGreatDoor
theorem tab_at {W : World} {name : String} {k : IntKind} {zs : List Int} {g : Nat} (hg : Tryz.prog.globalNamed name = some g) (h : Lib.TabIs Tryz.prog W name k zs) : ∃ t fr, W.heap[g]? = some (.cells (zs.map fun z => Value.int k z).toArray t fr) := by
  unfold Lib.TabIs World.var? at h
  rw [hg] at h
  simp only [Option.bind_some] at h
  split at h
  · rename_i c t fr hc
    injection h with h
    subst h
    exact ⟨t, fr, hc⟩
  · cases h
theorem tabW_of {W : World} (h : laidMetH Tryz.prog (Rows.snapshotChecksRow).laid W) : TabW W := by
  have h0 : laidMet Tryz.prog (Rows.snapshotChecksRow).laid W := h
  have t2 : Lib.TabIs Tryz.prog W "math/bits.deBruijn32tab" .u8 [0, 1, 28, 2, 29, 14, 24, 3, 30, 22, 20, 15, 25, 17, 4, 8, 31, 27, 13, 23, 21, 19, 16, 7, 26, 12, 18, 6, 11, 5, 10, 9] :=
    Lib.tabIs_of_head (g := 2) (t := 194) (e := 5) (n := 32) (by kernel_rfl) (by kernel_rfl) Tryz.underlying194 Tryz.underlying5 (by kernel_rfl) (by kernel_rfl) h0
  have g2 := laidMet.tail h0
  have t3 : Lib.TabIs Tryz.prog W "math/bits.deBruijn64tab" .u8 [0, 1, 56, 2, 57, 49, 28, 3, 61, 58, 42, 50, 38, 29, 17, 4, 62, 47, 59, 36, 45, 43, 51, 22, 53, 39, 33, 30, 24, 18, 12, 5, 63, 55, 48, 27, 60, 41, 37, 16, 46, 35, 44, 21, 52, 32, 23, 11, 54, 26, 40, 15, 34, 20, 31, 10, 25, 14, 19, 9, 13, 8, 7, 6] :=
    Lib.tabIs_of_head (g := 3) (t := 195) (e := 5) (n := 64) (by kernel_rfl) (by kernel_rfl) Tryz.underlying195 Tryz.underlying5 (by kernel_rfl) (by kernel_rfl) g2
  have g3 := laidMet.tail g2
  have t1 : Lib.TabIs Tryz.prog W "internal/strconv.uint64pow10" .u64 [1, 10, 100, 1000, 10000, 100000, 1000000, 10000000, 100000000, 1000000000, 10000000000, 100000000000, 1000000000000, 10000000000000, 100000000000000, 1000000000000000, 10000000000000000, 100000000000000000, 1000000000000000000, 10000000000000000000] :=
    Lib.tabIs_of_head (g := 1) (t := 186) (e := 175) (n := 20) (by kernel_rfl) (by kernel_rfl) Tryz.underlying186 Tryz.underlying175 (by kernel_rfl) (by kernel_rfl) g3
  intro p hp
  simp only [tabs, List.mem_cons, List.not_mem_nil, or_false] at hp
  rcases hp with rfl | rfl | rfl
  · exact tab_at (by kernel_rfl) t1
  · exact tab_at (by kernel_rfl) t2
  · exact tab_at (by kernel_rfl) t3
end Go.FE
namespace Go.FE
open Go.RowKit Go.WideElems Go.ChangeShapes Go.ChangeAt Go.WideShapes
section
variable {H : Type} {enc : TypeId × Value → H} {P : Program} {W : World}
theorem arg_struct {α : Type} {t : TypeId} {fs : Array Field} {n : Nat} {en : α → List AV} {ok : α → Prop} {v : Value} {d : DataW H} {p : List MemPlace} {r : Reach} {base : Nat} (ht : P.underlying t = some (.struct fs)) (hrd : ∀ m, RdF enc P W 0 (fun _ => true) true m t en ok)
    (hlen : ∀ x, (en x).length = n) (hval : Value.okWide P W r base t v) (h : DataW.Trod enc P W 0 (fun _ => true) true t v d p) : ∃ x, ok x ∧ CR (mAll W) W (.agg n (en x)) v := by
  obtain ⟨cs, rfl, _⟩ : ∃ cs, v = .agg cs ∧ True := by
    unfold Value.okWide at hval
    rw [ht] at hval
    obtain ⟨cs, h, _⟩ := hval
    exact ⟨cs, h, trivial⟩
  obtain ⟨fuel, hf⟩ := h
  obtain ⟨x, hx, hc1, hc2⟩ := hrd fuel _ _ _ hf
  have hl := hlen x
  simp only [Value.cells] at hc1 hc2
  refine ⟨x, hx, .agg hl (by rw [← hl, hc1]; simp) (fun i hi => ?_) (fun i q hi => ?_)⟩
  · have h1 : i < (en x).length := by omega
    have h2 : i < cs.size := by rw [hc1] at h1; simpa using h1
    have := (hc2 i _ cs[i] (List.getElem?_eq_getElem h1) (by simp [h2])).2
    simpa [Array.getD_eq_getD_getElem?, h2] using this
  · have h1 : i < (en x).length := (List.getElem?_eq_some_iff.1 hi).1
    have h2 : i < cs.size := by rw [hc1] at h1; simpa using h1
    have := (hc2 i q cs[i] hi (by simp [h2])).1
    simpa [Array.getD_eq_getD_getElem?, h2] using this
end
end Go.FE
namespace Go.FE
open Go.Proofs Go.Proofs.YtmblejfjbnoodaaGreatDoor
open Go.RowKit Go.WideElems Go.ChangeShapes Go.ChangeAt Go.WideShapes
theorem own : ownKnob Tryz.prog.godebug = none := by kernel_rfl
def lay (h : Array Obj) (g : Nat) (cs : Array Value) : Array Obj := h.modify g fun
  | .cells _ t f => .cells cs t f
  | o => o
/-- A world for the witness: the tables hold what they are laid with. -/
noncomputable def laidWorld (os : Os) : World :=
  { World.holding Tryz.prog os ⟨#[], #[], []⟩ with heap := lay (lay (lay (World.holding Tryz.prog os ⟨#[], #[], []⟩).heap 1 #[.int .u64 1, .int .u64 10, .int .u64 100, .int .u64 1000, .int .u64 10000, .int .u64 100000, .int .u64 1000000, .int .u64 10000000, .int .u64 100000000, .int .u64 1000000000, .int .u64 10000000000, .int .u64 100000000000, .int .u64 1000000000000, .int .u64 10000000000000, .int .u64 100000000000000, .int .u64 1000000000000000, .int .u64 10000000000000000, .int .u64 100000000000000000, .int .u64 1000000000000000000, .int .u64 10000000000000000000]) 2 #[.int .u8 0, .int .u8 1, .int .u8 28, .int .u8 2, .int .u8 29, .int .u8 14, .int .u8 24, .int .u8 3, .int .u8 30, .int .u8 22, .int .u8 20, .int .u8 15, .int .u8 25, .int .u8 17, .int .u8 4, .int .u8 8, .int .u8 31, .int .u8 27, .int .u8 13, .int .u8 23, .int .u8 21, .int .u8 19, .int .u8 16, .int .u8 7, .int .u8 26, .int .u8 12, .int .u8 18, .int .u8 6, .int .u8 11, .int .u8 5, .int .u8 10, .int .u8 9]) 3 #[.int .u8 0, .int .u8 1, .int .u8 56, .int .u8 2, .int .u8 57, .int .u8 49, .int .u8 28, .int .u8 3, .int .u8 61, .int .u8 58, .int .u8 42, .int .u8 50, .int .u8 38, .int .u8 29, .int .u8 17, .int .u8 4, .int .u8 62, .int .u8 47, .int .u8 59, .int .u8 36, .int .u8 45, .int .u8 43, .int .u8 51, .int .u8 22, .int .u8 53, .int .u8 39, .int .u8 33, .int .u8 30, .int .u8 24, .int .u8 18, .int .u8 12, .int .u8 5, .int .u8 63, .int .u8 55, .int .u8 48, .int .u8 27, .int .u8 60, .int .u8 41, .int .u8 37, .int .u8 16, .int .u8 46, .int .u8 35, .int .u8 44, .int .u8 21, .int .u8 52, .int .u8 32, .int .u8 23, .int .u8 11, .int .u8 54, .int .u8 26, .int .u8 40, .int .u8 15, .int .u8 34, .int .u8 20, .int .u8 31, .int .u8 10, .int .u8 25, .int .u8 14, .int .u8 19, .int .u8 9, .int .u8 13, .int .u8 8, .int .u8 7, .int .u8 6] }
theorem arg_sliceL {H : Type} {enc : TypeId × Value → H} {P : Program} {W : World} {α : Type} {t e : TypeId} {en : α → List AV} {ok : List α → Prop} {v : Value} {d : DataW H} {p : List MemPlace} {r : Reach} {base : Nat} (ht : P.underlying t = some (.slice e)) (hrd : ∀ m, RdF enc P W 0 (fun _ => true) true m t (fun x : List α => [.sl (x.map en) none]) ok)
    (hval : Value.okWide P W r base t v) (h : DataW.Trod enc P W 0 (fun _ => true) true t v d p) : ∃ x, ok x ∧ CR (mAll W) W (.sl (x.map en) none) v ∧ ∀ {ts : List TypeId} {ds : List (DataW H)} (j : Nat), ts[j]? = some t → ds[j]? = some d → (DataW.weightsEach P ts ds).all (· ≤ reachBytes) = true → x.length * P.bytesOf e ≤ reachBytes := by
  obtain ⟨a, len, cap, rfl⟩ := okWide_slice ht hval
  obtain ⟨fuel, hf⟩ := h
  obtain ⟨x, hx, hc1, hc2⟩ := hrd fuel _ _ _ hf
  have hc := (hc2 0 _ _ rfl rfl).1
  refine ⟨x, hx, hc, fun {ts ds} j h1 h2 h3 => ?_⟩
  obtain ⟨A, c, sz, f, e1, _⟩ := hc.sl_inv
  have hlen : len = x.length := by injection e1 with _ e1 _; rw [e1]; simp
  rcases DataW.trod_slice ht hf with ⟨e2, _⟩ | ⟨a', len', cap', elems, rest, m, _, e2, e3, _, _, _, hel, _⟩
  · have hl0 : len = 0 := by
      have e2 : [Value.slice a len cap] = [.slice none 0 0] := e2
      injection e2 with e2 _
      injection e2 with _ e2 _
    rw [← hlen, hl0]; omega
  · have hl : len = len' := by
      have e2 : [Value.slice a len cap] = [.slice (some a') len' cap'] := e2
      injection e2 with e2 _
      injection e2 with _ e2 _
    have e3 : d = .slice (elems.map (·.1)) (rest.map (·.1)) := (Prod.mk.inj e3).1
    rw [e3] at h2
    have h4 := sized_slice h3 h1 h2 ht
    rw [List.length_map] at h4
    rw [← hlen, hl, ← hel]
    exact Nat.le_trans (Nat.mul_le_mul_right _ (Nat.le_add_right _ _)) h4
end Go.FE
