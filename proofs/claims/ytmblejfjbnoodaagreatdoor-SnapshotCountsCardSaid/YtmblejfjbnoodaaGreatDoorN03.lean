/- Rows written out: their elements set one by one. The step of an operation that makes, reads or writes variables and rows of the call's own. Stores, rows written out, appends, makes; the step that takes them together. Appends and makes; the step that takes all operations but calls together. Rows of the call's own whose elements may still be written: reading, writing, growing them. -/
import Derived.Laws.MakeOwn
import Derived.Test.YtmblejfjbnoodaaGreatDoorN02
set_option linter.unusedVariables false
set_option linter.unusedSimpArgs false
namespace Go.FE
open Go.RowKit
theorem flatten_get {α : Type} (sz : Nat) : ∀ (xs : List (List α)), (∀ cs ∈ xs, cs.length = sz) → ∀ j i, i < sz → xs.flatten[j * sz + i]? = xs[j]?.bind (·[i]?)
  | [], _, j, i, hi => by simp
  | c :: xs, h, j, i, hi => by
    have hc := h c (List.mem_cons_self)
    cases j with
    | zero =>
      simp only [List.flatten_cons, Nat.zero_mul, Nat.zero_add]
      rw [List.getElem?_append_left (by omega)]
      rfl
    | succ j =>
      have ih := flatten_get sz xs (fun cs hcs => h cs (List.mem_cons_of_mem _ hcs)) j i hi
      simp only [List.flatten_cons, List.getElem?_cons_succ]
      rw [List.getElem?_append_right (by rw [hc, Nat.add_mul]; omega), hc, ← ih]
      congr 1
      rw [Nat.add_mul]; omega
theorem flatten_len {α : Type} (sz : Nat) : ∀ (xs : List (List α)), (∀ cs ∈ xs, cs.length = sz) → xs.flatten.length = xs.length * sz
  | [], _ => by simp
  | c :: xs, h => by
    rw [List.flatten_cons, List.length_append, h c List.mem_cons_self, flatten_len sz xs (fun cs hcs => h cs (List.mem_cons_of_mem _ hcs)), List.length_cons, Nat.add_mul]; omega
theorem flatten_take {α : Type} (sz : Nat) : ∀ (xs : List (List α)), (∀ cs ∈ xs, cs.length = sz) → ∀ j, xs.flatten.take (j * sz) = (xs.take j).flatten
  | [], _, j => by simp
  | c :: xs, h, 0 => by simp
  | c :: xs, h, j + 1 => by
    have hc := h c List.mem_cons_self
    rw [List.flatten_cons, List.take_succ_cons, List.flatten_cons, ← flatten_take sz xs (fun cs hcs => h cs (List.mem_cons_of_mem _ hcs)) j, List.take_append, hc, List.take_of_length_le (by rw [hc, Nat.add_mul]; omega)]
    congr 2
    rw [Nat.add_mul]; omega
theorem flatten_drop {α : Type} (sz : Nat) : ∀ (xs : List (List α)), (∀ cs ∈ xs, cs.length = sz) → ∀ j, xs.flatten.drop (j * sz) = (xs.drop j).flatten
  | [], _, j => by simp
  | c :: xs, h, 0 => by simp
  | c :: xs, h, j + 1 => by
    have hc := h c List.mem_cons_self
    rw [List.flatten_cons, List.drop_succ_cons, ← flatten_drop sz xs (fun cs hcs => h cs (List.mem_cons_of_mem _ hcs)) j, List.drop_append, hc, List.drop_eq_nil_of_le (by rw [hc, Nat.add_mul]; omega), List.nil_append]
    congr 1
    rw [Nat.add_mul]; omega
/-- A row's elements, set one by one. -/
def fillS (sz : Nat) : List (List AV) → List (Nat × AV) → Option (List (List AV))
  | xs, [] => some xs
  | xs, (i, q) :: r => match cellsA q with
    | some (n, cs) => if n = sz ∧ i < xs.length then fillS sz (xs.set i cs) r else none
    | none => none
theorem fillS_fill {m w} (sz len : Nat) : ∀ (pa : List (Nat × AV)) (xs ys : List (List AV)), (∀ i q, (i, q) ∈ pa → ∃ x, CR m w q x) → (∀ cs ∈ xs, cs.length = sz) → xs.length = len → fillS sz xs pa = some ys →
    fillA (fun i => some (i * sz, sz)) (len * sz) xs.flatten pa = some ys.flatten ∧ (∀ cs ∈ ys, cs.length = sz) ∧ ys.length = len
  | [], xs, ys, _, hx, hl, h => by
    injection h with h
    subst h
    exact ⟨rfl, hx, hl⟩
  | (i, q) :: r, xs, ys, hc, hx, hl, h => by
    unfold fillS at h
    split at h
    · rename_i n cs hq
      split at h
      · rename_i hcond
        obtain ⟨rfl, hi⟩ := hcond
        obtain ⟨x, hcr⟩ := hc i q List.mem_cons_self
        have hn := (cellsA_CL hcr hq).2
        have hx' : ∀ ds ∈ xs.set i cs, ds.length = n := fun ds hds => by
          rcases List.mem_or_eq_of_mem_set hds with h1 | h1
          · exact hx ds h1
          · rw [h1]; exact hn
        obtain ⟨h1, h2, h3⟩ := fillS_fill n len r (xs.set i cs) ys (fun j p hp => hc j p (List.mem_cons_of_mem _ hp)) hx' (by simpa using hl) h
        refine ⟨?_, h2, h3⟩
        unfold fillA
        simp only [hq]
        have hle : i * n + n ≤ len * n := by
          have := Nat.mul_le_mul_right n (show i + 1 ≤ len by omega)
          rw [Nat.add_mul] at this
          omega
        rw [if_pos ⟨trivial, hle⟩, ← h1]
        congr 1
        unfold spl
        rw [flatten_take n xs hx, show i * n + n = (i + 1) * n by rw [Nat.add_mul]; omega, flatten_drop n xs hx, List.set_eq_take_append_cons_drop, if_pos hi]
        simp
      · cases h
    · cases h
/-- Zero elements. -/
theorem zero_row (zs : List Value) (len : Nat) (h0 : 0 < zs.length) : ((Array.range (len * zs.length)).map (zs.toArray[· % zs.toArray.size]!)).toList = (List.replicate len zs).flatten := by
  apply List.ext_getElem?
  intro p
  simp only [Array.toList_map, Array.toList_range, List.getElem?_map]
  by_cases hp : p < len * zs.length
  · have h1 : p / zs.length < len := (Nat.div_lt_iff_lt_mul h0).2 hp
    have h2 : p % zs.length < zs.length := Nat.mod_lt _ h0
    have h3 := flatten_get zs.length (List.replicate len zs) (fun cs hcs => by rw [(List.mem_replicate.1 hcs).2]) (p / zs.length) (p % zs.length) h2
    rw [Nat.div_add_mod'] at h3
    rw [h3, List.getElem?_range hp]
    simp [h1, h2]
  · rw [List.getElem?_eq_none (by simp; omega), List.getElem?_eq_none (by rw [flatten_len zs.length _ (fun cs hcs => by rw [(List.mem_replicate.1 hcs).2])]; simp; omega)]
    rfl
end Go.FE
namespace Go.FE
open Go.RowKit
def sliceElem (P : Program) (t : TypeId) : Option (TypeId × Nat) := match P.underlying t with
  | some (.slice e) => (sizeT P e).map fun n => (e, n)
  | _ => none
/-- A load out of a variable. -/
def partV (P : Program) (t : TypeId) (cells : List AV) (off : Nat) : Option AV :=
  match P.underlying t, sizeT P t with
  | some d, some sz =>
    if isAggD d = true then (if off + sz ≤ cells.length then some (.agg sz (((cells.drop off).take sz).map AV.content)) else none)
    else if off < cells.length then some (cells.getD off .unk) else none
  | _, _ => none
/-- What is kept of one value: nil slices become rows of the call's own. -/
def one1 (P : Program) (id : Path) (k : Nat) (t : TypeId) (q : AV) : Option (AV × List (Rid × Res)) :=
  match q, sliceElem P t with
  | .v (.slice none 0 0), some (e, sz) => some (.sl [] (some ((id, k), 0)), [((id, k), .tok 0 e sz)])
  | q, _ => if q.one then some (q, []) else none
def storeA (P : Program) (rs : Rid → Res) (id : Path) (t : TypeId) (vid : Rid) (off : Nat) (q : AV) : Option Eff :=
  match rs vid, P.underlying t, sizeT P t with
  | .var ty cells, some d, some sz =>
    if isAggD d = true then (match q with
      | .agg n qs => if n = sz ∧ off + n ≤ cells.length then some ⟨.und, (tokN id 0 (cellTys P 8 t) qs).2 ++ [(vid, .var ty (spl cells off n (tokN id 0 (cellTys P 8 t) qs).1))], [vid]⟩ else none
      | _ => none)
    else if sz = 1 ∧ off < cells.length then (one1 P id 0 t q).map fun r => ⟨.und, r.2 ++ [(vid, .var ty (spl cells off 1 [r.1]))], [vid]⟩ else none
  | _, _, _ => none
def boxA (P : Program) (id : Path) (t : TypeId) (q : AV) : Option Eff :=
  match q with
  | .agg n qs => some ⟨.vp (id, 0) 0, (tokN id 1 (cellTys P 8 t) qs).2 ++ [((id, 0), .var t (tokN id 1 (cellTys P 8 t) qs).1)], []⟩
  | q => (one1 P id 1 t q).map fun r => ⟨.vp (id, 0) 0, r.2 ++ [((id, 0), .var t [r.1])], []⟩
def allocA (P : Program) (id : Path) (t : TypeId) : Option Eff :=
  match zeroT P t with
  | some zs => if zs.all okV = true then some ⟨.vp (id, 0) 0, (tokN id 1 (cellTys P 8 t) (zs.map .v)).2 ++ [((id, 0), .var t (tokN id 1 (cellTys P 8 t) (zs.map .v)).1)], []⟩ else none
  | none => none
theorem wrs_ne {rs : Rid → Res} : ∀ {l : List (Rid × Res)} {r : Rid}, (∀ p ∈ l, p.1 ≠ r) → wrs rs l r = rs r
  | [], r, _ => rfl
  | (id, x) :: l, r, h => by
    unfold wrs
    rw [wrs_ne (fun p hp => h p (List.mem_cons_of_mem _ hp)), fup_ne _ _ (Ne.symm (h (id, x) List.mem_cons_self))]
theorem tokN_ids (id : Path) : ∀ (tys : List (Option (TypeId × Nat))) (qs : List AV) (k : Nat), ∀ p ∈ (tokN id k tys qs).2, p.1.1 = id ∧ k ≤ p.1.2
  | [], qs, k, p, h => by simp [tokN] at h
  | ty :: tys, [], k, p, h => by simp [tokN] at h
  | ty :: tys, q :: qs, k, p, h => by
    simp only [tokN] at h
    rcases List.mem_append.1 h with h | h
    · unfold tok1 at h
      split at h
      · simp at h; subst h; exact ⟨rfl, Nat.le_refl _⟩
      · cases h
    · have := tokN_ids id tys qs (k + 1) p h
      exact ⟨this.1, by omega⟩
theorem one1_sound {P : Program} {B w0 tm a E} (S : Sim B w0 tm E a) (id : Path) (k : Nat) (hf : ¬ E.U (id, k)) (t : TypeId) (q : AV) (v : Value) (hc : VR E q v) {r} (h : one1 P id k t q = some r) :
    ∃ E', Sim B w0 tm E' a ∧ Le E E' ∧ E'.w = E.w ∧ E'.m = E.m ∧ E'.gs = E.gs ∧ E'.rs = wrs E.rs r.2 ∧ (∀ i, E'.U i → E.U i ∨ i = (id, k)) ∧ VR E' r.1 v ∧ v.oneCell' = true ∧ v.cells = #[v] ∧ (∀ p ∈ r.2, p.1 = (id, k)) := by
  unfold one1 at h
  split at h
  · rename_i e sz _
    injection h with h
    subst h
    obtain ⟨rfl, _⟩ := CR.v_inv hc
    refine ⟨_, S.newnil (id, k) hf e sz, Le.newnil (id, k) hf e sz, rfl, rfl, rfl, rfl, fun i h => h, ⟨?_, .inr rfl, fun s' e' sz' b h => ?_⟩, rfl, rfl, fun p hp => by simp at hp; rw [hp]⟩
    · exact .sl (xs := []) 0 (fun _ _ => undef) (Nat.zero_le _) (Nat.zero_le _) (fun _ h => by cases h) (fun h => absurd rfl h) (fun _ _ _ _ h => by simp at h)
    · simp only [fup_self, ver, Option.some.injEq, Prod.mk.injEq] at h
      obtain ⟨rfl, rfl, rfl, rfl⟩ := h
      exact ⟨Nat.le_refl _, fun _ => ⟨rfl, by simp [fup_self], fun _ h => by cases h⟩⟩
  · split at h
    · rename_i h1
      injection h with h
      subst h
      have := hc.one h1
      refine ⟨E, S, Le.refl E, rfl, rfl, rfl, rfl, fun i h => .inl h, hc, this, ?_, fun p hp => by cases hp⟩
      cases v <;> first | rfl | simp [Value.oneCell'] at this
    · cases h
/-- A new variable, its cells' rows made before. -/
theorem newvar_sound {B w0 tm a E} (S : Sim B w0 tm E a) (r : Rid) (hr : ¬ E.U r) (qs : List AV) (arr : Array Value) (e : TypeId) (hl : arr.size = qs.length)
    (hv : ∀ i q, qs[i]? = some q → VR E q (arr.getD i undef) ∧ (arr.getD i undef).oneCell' = true) :
    ∃ E', E'.w = E.w.alloc (.cells arr e) ∧ Sim B w0 tm E' a ∧ VR E' (.vp r 0) (.pointer (some ⟨E.w.heap.size, 0, none⟩)) ∧ E'.rs = fup E.rs r (.var e qs) ∧ (∀ i, E'.U i → E.U i ∨ i = r) :=
  ⟨_, rfl, S.newvar r hr qs arr e hl hv, ⟨.inr rfl, by simp [fup_self]⟩, rfl, fun i h => h⟩
theorem boxA_sound {P : Program} {B w0 tm a E} (S : Sim B w0 tm E a) (id : Path) (hf : Fresh E.U id 0) (t : TypeId) (q : AV) (v : Value) (hc : VR E q v) {e : Eff} (h : boxA P id t q = some e) :
    ∃ z E', (Instr.box t v).run P E.w = .ok z E'.w ∧ Sim B w0 tm E' a ∧ VR E' e.val z ∧ E'.rs = wrs E.rs e.wr ∧ (∀ r, E'.U r → E.U r ∨ r.1 = id) := by
  have hrun : ∀ W : World, (Instr.box t v).run P W = .ok (.pointer (some ⟨W.heap.size, 0, none⟩)) (W.alloc (.cells v.cells t)) := fun W => by
    simp [Instr.box, newVar, newRow]
  unfold boxA at h
  split at h
  · rename_i n qs
    injection h with h
    subst h
    obtain ⟨vs, rfl, hn, hvs, h1, hq⟩ := CR.agg_inv hc
    obtain ⟨E1, S1, L1, hw1, hm1, hg1, hr1, hU1, hv1, hl1⟩ := tokN_sound id (cellTys P 8 t) qs 1 vs.toList E S (fun k hk => hf k (by omega)) (by simp; omega) (fun i q hi => by
      have := hq i q hi
      simpa [Array.getD_eq_getD_getElem?, List.getD_eq_getElem?_getD] using this)
    have hnot : ¬ E1.U (id, 0) := fun h => by
      rcases hU1 _ h with h | h
      · exact hf 0 (Nat.le_refl _) h
      · have := h.2; simp at this
    obtain ⟨E', e1, e2, e3, e4, e5⟩ := newvar_sound S1 (id, 0) hnot (tokN id 1 (cellTys P 8 t) qs).1 vs t (by omega) (fun i q hi => ⟨by
      have := hv1 i q hi
      simpa [Array.getD_eq_getD_getElem?, List.getD_eq_getElem?_getD] using this, h1 i (by have := (List.getElem?_eq_some_iff.1 hi).1; omega)⟩)
    refine ⟨_, E', by rw [e1, hw1]; exact hrun _, e2, by rw [← hw1]; exact e3, by rw [e4, hr1, wrs_append]; rfl, fun r h => ?_⟩
    rcases e5 r h with h | rfl
    · rcases hU1 r h with h | h
      · exact .inl h
      · exact .inr h.1
    · exact .inr rfl
  · obtain ⟨r, hr, rfl⟩ := Option.map_eq_some_iff.1 h
    obtain ⟨E1, S1, L1, hw1, hm1, hg1, hr1, hU1, hv1, ho, hcs, hids⟩ := one1_sound S id 1 (hf 1 (by omega)) t _ v hc hr
    have hnot : ¬ E1.U (id, 0) := fun h => by
      rcases hU1 _ h with h | h
      · exact hf 0 (Nat.le_refl _) h
      · injection h with _ h; cases h
    obtain ⟨E', e1, e2, e3, e4, e5⟩ := newvar_sound S1 (id, 0) hnot [r.1] v.cells t (by rw [hcs]; rfl) (fun i q hi => by
      match i, hi with
      | 0, hi =>
        simp at hi
        subst hi
        rw [hcs]
        exact ⟨hv1, ho⟩)
    refine ⟨_, E', by rw [e1, hw1]; exact hrun _, e2, by rw [← hw1]; exact e3, by rw [e4, hr1, wrs_append]; rfl, fun r h => ?_⟩
    rcases e5 r h with h | rfl
    · rcases hU1 r h with h | rfl
      · exact .inl h
      · exact .inr rfl
    · exact .inr rfl
theorem allocA_sound {P : Program} {B w0 tm a E} (S : Sim B w0 tm E a) (id : Path) (hf : Fresh E.U id 0) (t : TypeId) {e : Eff} (h : allocA P id t = some e) :
    ∃ z E', (Instr.alloc t true (.tuple #[])).run P E.w = .ok z E'.w ∧ Sim B w0 tm E' a ∧ VR E' e.val z ∧ E'.rs = wrs E.rs e.wr ∧ (∀ r, E'.U r → E.U r ∨ r.1 = id) := by
  unfold allocA at h
  split at h
  · rename_i zs hz
    split at h
    · rename_i hok
      injection h with h
      subst h
      unfold zeroT at hz
      obtain ⟨it, hit, hz⟩ := Option.bind_eq_some_iff.1 hz
      obtain ⟨z, hz2, rfl⟩ := Option.map_eq_some_iff.1 hz
      have hcl := zeros_CL (m := E.m) (w := E.w) hok
      obtain ⟨E1, S1, L1, hw1, hm1, hg1, hr1, hU1, hv1, hl1⟩ := tokN_sound id (cellTys P 8 t) (z.cells.toList.map .v) 1 z.cells.toList E S (fun k hk => hf k (by omega)) (by simp) (fun i q hi => by
        have := (hcl.2 i q hi).1
        simpa [Array.getD_eq_getD_getElem?, List.getD_eq_getElem?_getD] using this)
      have hnot : ¬ E1.U (id, 0) := fun h => by
        rcases hU1 _ h with h | h
        · exact hf 0 (Nat.le_refl _) h
        · have := h.2; simp at this
      obtain ⟨E', e1, e2, e3, e4, e5⟩ := newvar_sound S1 (id, 0) hnot _ z.cells t (by rw [hl1]; simp) (fun i q hi => ⟨by
        have := hv1 i q hi
        simpa [Array.getD_eq_getD_getElem?, List.getD_eq_getElem?_getD] using this, by
        have hil : i < z.cells.toList.length := by have := (List.getElem?_eq_some_iff.1 hi).1; rw [hl1] at this; simpa using this
        have := okV_one (List.all_eq_true.1 hok z.cells.toList[i] (List.getElem_mem hil))
        have hil2 : i < z.cells.size := by simpa using hil
        simpa [Array.getD_eq_getD_getElem?, hil2] using this⟩)
      refine ⟨_, E', ?_, e2, e3, by rw [e4, hr1, wrs_append]; rfl, fun r h => ?_⟩
      · rw [e1, hw1]
        simp [Instr.alloc, zeroValue, typeInfo, hit, hz2, newVar, newRow]
      · rcases e5 r h with h | rfl
        · rcases hU1 r h with h | h
          · exact .inl h
          · exact .inr h.1
        · exact .inr rfl
    · cases h
  · cases h
/-- A load out of a variable. -/
theorem loadV_sound {P : Program} {B w0 tm a E} (S : Sim B w0 tm E a) (t : TypeId) (vid : Rid) (off : Nat) (v : Value) (hv : VR E (.vp vid off) v) (cells : List AV) {ty : TypeId} (hrs : E.rs vid = .var ty cells) {r : AV} (h : partV P t cells off = some r) :
    ∃ z, (Instr.loadAt t v).run P E.w = .ok z E.w ∧ VR E r z := by
  obtain ⟨_, rfl⟩ := hv
  have hr := S.res vid
  unfold RF at hr
  rw [hrs] at hr
  obtain ⟨arr, h1, h2, h3, h4, h5⟩ := hr
  have hcell : ∀ i, i < cells.length → E.w.cell? ((⟨E.gs vid, off, none⟩ : Addr).add i) = arr[off + i]? := fun i _ => by
    rw [addr_add]; simp [World.cell?, h2]
  unfold partV at h
  split at h
  · rename_i d sz hd hs
    simp only [Instr.loadAt, Instr.sureAddr, loadVar, Sem.run_bind, Sem.run_pure, Result.andThen_ok, run_isAgg hd]
    split at h
    · rename_i ha
      split at h
      · rename_i hle
        injection h with h
        subst h
        simp only [ha, if_true, Sem.run_bind, run_sizeOf hs, Result.andThen_ok]
        have hl := run_loadCells (P := P) E.w ⟨E.gs vid, off, none⟩ sz (fun j => arr.getD (off + j) undef) (fun j hj => by
          rw [hcell j (by omega)]
          have : off + j < arr.size := by omega
          simp [this])
        rw [hl]
        refine ⟨_, rfl, CR.agg (by simp; omega) (by simp) (fun i hi => ?_) (fun i q hi => ?_)⟩
        · have hil : off + i < cells.length := by omega
          have := (h5 (off + i) cells[off + i] (List.getElem?_eq_getElem hil)).2
          simpa [Array.getD_eq_getD_getElem?, hi] using this
        · rw [List.getElem?_map] at hi
          obtain ⟨q0, h0, rfl⟩ := Option.map_eq_some_iff.1 hi
          have hil : i < sz := by have := (List.getElem?_eq_some_iff.1 h0).1; simp at this; omega
          rw [List.getElem?_take_of_lt hil, List.getElem?_drop] at h0
          have := content_CR (h5 (off + i) q0 h0).1
          simpa [Array.getD_eq_getD_getElem?, hil] using this
      · cases h
    · rename_i ha
      have hb : isAggD d = false := by simpa using ha
      split at h
      · rename_i hlt
        injection h with h
        subst h
        simp only [hb, Bool.false_eq_true, if_false]
        have h6 := h5 off (cells.getD off .unk) (by rw [List.getD_eq_getElem?_getD, List.getElem?_eq_getElem hlt]; rfl)
        refine ⟨arr.getD off undef, ?_, h6.1⟩
        have hlt2 : off < arr.size := by omega
        rw [run_load]
        simp [World.cell?, h2, hlt2]
      · cases h
  · cases h
end Go.FE
namespace Go.FE
open Go.RowKit
theorem spl_splice (cells qs : List AV) (off n : Nat) (h : qs.length = n) : spl cells off n qs = splice cells off qs := by
  unfold spl splice; rw [h]
theorem storeA_sound {P : Program} {B w0 tm a E} (S : Sim B w0 tm E a) (id : Path) (hf : Fresh E.U id 0) (t : TypeId) (vid : Rid) (off : Nat) (q : AV) (x v : Value) (hx : VR E (.vp vid off) x) (hc : VR E q v) {e : Eff}
    (h : storeA P E.rs id t vid off q = some e) :
    ∃ E', (Instr.storeAt t x v).run P E.w = .ok () E'.w ∧ Sim B w0 tm E' a ∧ e.val = .und ∧ E'.rs = wrs E.rs e.wr ∧ (∀ r, E'.U r → E.U r ∨ r.1 = id) := by
  obtain ⟨hU, rfl⟩ := hx
  unfold storeA at h
  split at h
  · rename_i ty cells d sz hrs hd hs
    split at h
    · rename_i ha
      split at h
      · rename_i n qs
        split at h
        · rename_i hcond
          obtain ⟨rfl, hle⟩ := hcond
          injection h with h
          subst h
          obtain ⟨vs, rfl, hn, hvs, h1, hq⟩ := CR.agg_inv hc
          obtain ⟨E1, S1, L1, hw1, hm1, hg1, hr1, hU1, hv1, hl1⟩ := tokN_sound id (cellTys P 8 t) qs 0 vs.toList E S hf (by simp; omega) (fun i q hi => by
            have := hq i q hi
            simpa [Array.getD_eq_getD_getElem?, List.getD_eq_getElem?_getD] using this)
          have hrs1 : E1.rs vid = .var ty cells := by
            rw [hr1, wrs_ne (fun p hp e => ?_)]
            · exact hrs
            · obtain ⟨h2, h3⟩ := tokN_ids id _ qs 0 p hp
              rw [e] at h2
              exact hf vid.2 (Nat.zero_le _) (by rw [← h2]; exact hU)
          obtain ⟨w', hrun, S2⟩ := S1.setvar vid cells (tokN id 0 (cellTys P 8 t) qs).1 off hrs1 vs.toList (by rw [hl1]; simp; omega) (by rw [hl1, hn]; exact hle) (fun i q hi => ⟨hv1 i q hi, by
            have hil : i < n := by have := (List.getElem?_eq_some_iff.1 hi).1; omega
            have := h1 i hil
            simpa [Array.getD_eq_getD_getElem?, List.getD_eq_getElem?_getD] using this⟩)
          refine ⟨_, ?_, S2, rfl, ?_, fun r h => ?_⟩
          · have := hrun P
            rw [hg1, hw1] at this
            simp only [Instr.storeAt, Instr.sureAddr, Sem.run_bind, Sem.run_pure, Result.andThen_ok, storeVar, run_sizeOf hs]
            have hne : ¬ ((Value.agg vs).cells.size ≠ n) := by simp [Value.cells, hvs]
            rw [if_neg hne]
            exact this
          · simp only [hr1, wrs_append, wrs]
            rw [spl_splice _ _ _ _ (by rw [hl1, hn])]
          · rcases hU1 r h with h | h
            · exact .inl h
            · exact .inr h.1
        · cases h
      · cases h
    · rename_i ha
      split at h
      · rename_i hcond
        obtain ⟨rfl, hlt⟩ := hcond
        obtain ⟨r, hr, rfl⟩ := Option.map_eq_some_iff.1 h
        obtain ⟨E1, S1, L1, hw1, hm1, hg1, hr1, hU1, hv1, ho, hcs, hids⟩ := one1_sound S id 0 (hf 0 (Nat.le_refl _)) t q v hc hr
        have hrs1 : E1.rs vid = .var ty cells := by
          rw [hr1, wrs_ne (fun p hp e => ?_)]
          · exact hrs
          · rw [hids p hp] at e
            exact hf 0 (Nat.le_refl _) (by rw [e]; exact hU)
        obtain ⟨w', hrun, S2⟩ := S1.setvar vid cells [r.1] off hrs1 [v] rfl (by simp; omega) (fun i q hi => by
          match i, hi with
          | 0, hi => simp at hi; subst hi; exact ⟨hv1, ho⟩)
        refine ⟨_, ?_, S2, rfl, ?_, fun i h => ?_⟩
        · have := hrun P
          rw [hg1, hw1] at this
          simp only [Instr.storeAt, Instr.sureAddr, Sem.run_bind, Sem.run_pure, Result.andThen_ok, storeVar, run_sizeOf hs, hcs]
          rw [if_neg (by simp)]
          exact this
        · simp only [hr1, wrs_append, wrs]
          rw [spl_splice _ [r.1] _ 1 rfl]
        · rcases hU1 i h with h | rfl
          · exact .inl h
          · exact .inr rfl
      · cases h
  · cases h
/-- A row's cells as content: a nil slice alone is kept. -/
def nrmP (parts : List (Nat × AV)) (q : AV) : AV := match parts with
  | [(0, .v (.slice none 0 0))] => q
  | _ => nrm q
theorem CR.nrmP {m w q x} {parts : List (Nat × AV)} (h : CR m w q x) : CR m w (FE.nrmP parts q) x := by
  unfold FE.nrmP
  split
  · exact h
  · exact h.nrm
/-- A row written out. -/
def rowA (P : Program) (id : Path) (t : TypeId) (len : Nat) (parts : List (Nat × AV)) : Option Eff :=
  match sliceElem P t with
  | some (e, sz) => match zeroT P e with
    | some zs => if zs.length = sz ∧ zs.all okV = true ∧ 0 < sz ∧ len * sz ≤ 16777216 then
        (fillS sz (List.replicate len (zs.map .v)) parts).map fun xs => ⟨.sl (xs.map (List.map (nrmP parts))) (some ((id, 0), 0)), [((id, 0), .tok 0 e sz)], []⟩
      else none
    | none => none
  | none => none
theorem newrow_VR {B w0 tm a E} (S : Sim B w0 tm E a) (r : Rid) (hr : ¬ E.U r) (e sz n cap : Nat) (cur : Array Value) (hn : n ≤ cap) (hm : cap ≤ maxLen) (hc : cur.size = cap * sz) (zs : List (List AV)) (hz : zs.length = n) (hzs : ∀ cs ∈ zs, cs.length = sz)
    (h : ∀ j cs i q, zs[j]? = some cs → cs[i]? = some q → ∃ u, cur.toList[j * sz + i]? = some u ∧ u.oneCell' = true ∧ CR E.m E.w q u) :
    ∃ E', E'.w = E.w.alloc (.cells cur e) ∧ Sim B w0 tm E' a ∧ VR E' (.sl zs (some (r, 0))) (.slice (some ⟨E.w.heap.size, 0, none⟩) n cap) ∧ E'.rs = fup E.rs r (.tok 0 e sz) ∧ (∀ i, E'.U i → E.U i ∨ i = r) := by
  have S' := S.newrow r hr e sz n cap cur hn hm hc
  have hrc : ∀ b x, RC E.m E.w b x → RC (nup E.m E.w.heap.size (n * sz)) (E.w.alloc (.cells cur e)) b x := fun b x hb => by
    have hlt := hb.lt
    refine ⟨(((Below.refl E.w.heap.size E.w).alloc (Nat.le_refl _) _).cell hlt).trans hb.1, ?_⟩
    simp only [nup]
    rw [if_neg (by omega)]
    exact hb.2
  have hown := S'.res r
  unfold RF at hown
  simp only [fup_self] at hown
  obtain ⟨n', xs', hown, hmm⟩ := hown
  have hn' : n' = n := by
    rcases hown.2 with ⟨e1, _⟩ | ⟨g, cap', cur', e1, _⟩
    · cases e1
    · injection e1 with _ e1 _; exact e1.symm
  subst hn'
  have hcells : xs' = cur.toList.take (n' * sz) := by
    rcases hown.2 with ⟨e1, _⟩ | ⟨g, cap', cur', e1, _, hh, _, _, _, ht⟩
    · cases e1
    · injection e1 with e1 _ _
      injection e1 with e1
      injection e1 with e1
      rw [← e1, heap_alloc_new] at hh
      injection hh with hh
      injection hh with hh _ _
      rw [← ht, hh]
  refine ⟨_, rfl, S', ⟨?_, .inr rfl, fun s' e' sz' b hh => ?_⟩, rfl, fun i h => h⟩
  · refine row_CR hown hmm zs hz hzs (fun j cs i q hj hi => ?_)
    obtain ⟨u, h1, h2, h3⟩ := h j cs i q hj hi
    refine ⟨u, ?_, h2, h3.mono hrc⟩
    have hjl := (List.getElem?_eq_some_iff.1 hj).1
    have hil : i < sz := by
      have := (List.getElem?_eq_some_iff.1 hi).1
      rw [hzs cs (List.mem_of_getElem? hj)] at this
      exact this
    rw [hcells, List.getElem?_take_of_lt]
    · exact h1
    · have := Nat.mul_le_mul_right sz (show j + 1 ≤ n' by omega)
      rw [Nat.add_mul] at this
      omega
  · simp only [fup_self, ver, Option.some.injEq, Prod.mk.injEq] at hh
    obtain ⟨rfl, rfl, rfl, rfl⟩ := hh
    exact ⟨Nat.le_refl _, fun _ => ⟨rfl, by simp [fup_self], hzs⟩⟩
theorem rowA_sound {P : Program} {B w0 tm a E} (S : Sim B w0 tm E a) (id : Path) (hf : Fresh E.U id 0) (t : TypeId) (len : Nat) (parts : List (Nat × AV)) (ps : Array (Nat × Value)) (hl : ps.size = parts.length)
    (hp : ∀ (j i : Nat) (q : AV) (i' : Nat) (x : Value), parts[j]? = some (i, q) → ps.toList[j]? = some (i', x) → i' = i ∧ CR E.m E.w q x) {e : Eff} (h : rowA P id t len parts = some e) :
    ∃ z E', (Instr.buildSlice t len ps).run P E.w = .ok z E'.w ∧ Sim B w0 tm E' a ∧ VR E' e.val z ∧ E'.rs = wrs E.rs e.wr ∧ (∀ r, E'.U r → E.U r ∨ r.1 = id) := by
  unfold rowA at h
  split at h
  · rename_i el sz hse
    split at h
    · rename_i zs hz
      split at h
      · rename_i hcond
        obtain ⟨hzl, hok, hsz, hsm⟩ := hcond
        obtain ⟨ys, hys, rfl⟩ := Option.map_eq_some_iff.1 h
        unfold sliceElem at hse
        split at hse
        · rename_i e' hu
          obtain ⟨n', hn', he'⟩ := Option.map_eq_some_iff.1 hse
          injection he' with he1 he2
          subst he1 he2
          unfold zeroT at hz
          obtain ⟨it, hit, hz⟩ := Option.bind_eq_some_iff.1 hz
          obtain ⟨z, hz2, rfl⟩ := Option.map_eq_some_iff.1 hz
          have hisz : it.size = n' := by
            unfold sizeT at hn'
            rw [hit] at hn'
            simpa using hn'
          have hrep : ∀ cs ∈ List.replicate len (z.cells.toList.map AV.v), cs.length = n' := fun cs hcs => by
            rw [(List.mem_replicate.1 hcs).2, List.length_map]; exact hzl
          have hmem : ∀ i q, (i, q) ∈ parts → ∃ x, CR E.m E.w q x := fun i q hm => by
            obtain ⟨j, hj, e⟩ := List.getElem_of_mem hm
            have hj2 : j < ps.toList.length := by simp; omega
            have := hp j i q ps.toList[j].1 ps.toList[j].2 (by rw [List.getElem?_eq_getElem hj, e]) (List.getElem?_eq_getElem hj2)
            exact ⟨_, this.2⟩
          obtain ⟨hfill, hyl, hylen⟩ := fillS_fill (m := E.m) (w := E.w) n' len parts _ ys hmem hrep (by simp) hys
          -- the machine's zero cells
          have hz0 := zero_row z.cells.toList len (by rw [hzl]; exact hsz)
          have hzr : (List.replicate len (z.cells.toList.map AV.v)).flatten = ((List.replicate len z.cells.toList).flatten).map AV.v := by
            rw [List.map_flatten, List.map_replicate]
          have hallz : ((List.replicate len z.cells.toList).flatten).all okV = true := by
            rw [List.all_eq_true]
            intro u hu2
            obtain ⟨l, hl2, hul⟩ := List.mem_flatten.1 hu2
            rw [(List.mem_replicate.1 hl2).2] at hul
            exact List.all_eq_true.1 hok u hul
          have hcl0 : CL E.m E.w (List.replicate len (z.cells.toList.map AV.v)).flatten ((Array.range (len * it.size)).map (z.cells[· % z.cells.size]!)) := by
            have e1 : (Array.range (len * it.size)).map (z.cells[· % z.cells.size]!) = ((List.replicate len z.cells.toList).flatten).toArray := by
              apply Array.ext'
              rw [← hz0, hisz, ← hzl]
            rw [e1, hzr]
            exact zeros_CL hallz
          obtain ⟨res, h1, h2, h3⟩ := fillA_sound (m := E.m) (w := E.w) (fun i => some (i * n', n')) (len * n') parts ps.toList _ _ _ (by simpa using hl) hp hcl0 (by simp [hisz]) hfill
          have hlenm : len ≤ maxLen := by
            have : len ≤ len * n' := Nat.le_mul_of_pos_right _ hsz
            unfold maxLen; omega
          rcases Nat.eq_zero_or_pos len with h0 | h0
          · -- no elements
            subst h0
            have hy0 : ys = [] := List.eq_nil_of_length_eq_zero hylen
            subst hy0
            obtain ⟨E', e1, e2, e3, e4, e5⟩ := newrow_VR S (id, 0) (hf 0 (Nat.le_refl _)) e' n' 0 0 #[] (Nat.le_refl _) (Nat.zero_le _) (by simp) [] rfl (fun _ h => by cases h) (fun _ _ _ _ h => by simp at h)
            refine ⟨_, E', ?_, e2, e3, e4, fun r h => (e5 r h).imp (fun h => h) (fun h => by rw [h])⟩
            have hres : res = #[] := by
              apply Array.ext'
              have : res.size = 0 := by simpa using h3
              simpa using this
            rw [e1]
            subst hres
            simp only [Nat.zero_mul] at h1
            simp only [Instr.buildSlice, Sem.run_bind, run_underlying hu, Result.andThen_ok, run_sizeOf hn', Nat.zero_mul]
            rw [if_neg (by simp)]
            simp only [if_true, Sem.run_bind, Sem.run_pure, Result.andThen_ok]
            have hr0 : (Array.range 0).map (fun x => (#[] : Array Value)[x % (#[] : Array Value).size]!) = #[] := by simp
            rw [hr0]
            have hf0 : Instr.fill (fun i => some (i * n', n')) #[] ps.toList = some #[] := by
              have e2 : (Array.range 0).map (z.cells[· % z.cells.size]!) = #[] := by simp
              rw [e2] at h1
              exact h1
            rw [hf0]
            simp [newRow]
          · obtain ⟨E', e1, e2, e3, e4, e5⟩ := newrow_VR S (id, 0) (hf 0 (Nat.le_refl _)) e' n' len len res (Nat.le_refl _) hlenm (by rw [h3]) (ys.map (List.map (nrmP parts))) (by simpa using hylen) (fun cs hcs => by
                obtain ⟨c0, hc0, rfl⟩ := List.mem_map.1 hcs
                rw [List.length_map]
                exact hyl c0 hc0) (fun j cs i q hj hi => by
                rw [List.getElem?_map] at hj
                obtain ⟨c0, hc0, rfl⟩ := Option.map_eq_some_iff.1 hj
                rw [List.getElem?_map] at hi
                obtain ⟨q0, hq0, rfl⟩ := Option.map_eq_some_iff.1 hi
                have hil : i < n' := by
                  have := (List.getElem?_eq_some_iff.1 hq0).1
                  rw [hyl c0 (List.mem_of_getElem? hc0)] at this
                  exact this
                have hg := flatten_get n' ys hyl j i hil
                rw [hc0] at hg
                have hg' : ys.flatten[j * n' + i]? = some q0 := hg.trans hq0
                obtain ⟨h5, h6⟩ := h2.2 _ q0 hg'
                have hlt : j * n' + i < res.size := by rw [← h2.1]; exact (List.getElem?_eq_some_iff.1 hg').1
                refine ⟨res.getD (j * n' + i) undef, ?_, h6, h5.nrmP⟩
                simp [hlt])
            refine ⟨_, E', ?_, e2, e3, e4, fun r h => (e5 r h).imp (fun h => h) (fun h => by rw [h])⟩
            rw [e1]
            subst hisz
            exact run_buildSlice E.w t e' len ps res it z hu hit hz2 (by omega) (by
              have := Nat.mul_pos h0 hsz
              omega) h1
        · cases hse
      · cases h
    · cases h
  · cases h
end Go.FE
namespace Go.FE
open Go.RowKit
theorem newrow2 {B w0 tm a E} (S : Sim B w0 tm E a) (r : Rid) (hr : ¬ E.U r) (e sz n cap : Nat) (xs : List Value) (w' : World) (hown : w'.ownsRow B e sz (.slice (some ⟨E.w.heap.size, 0, none⟩) n cap) n xs) (hg : E.w.grownBy w' none)
    (zs : List (List AV)) (hz : zs.length = n) (hzs : ∀ cs ∈ zs, cs.length = sz) (h : ∀ j cs i q, zs[j]? = some cs → cs[i]? = some q → ∃ u, xs[j * sz + i]? = some u ∧ u.oneCell' = true ∧ CR E.m E.w q u) :
    ∃ E', E'.w = w' ∧ Sim B w0 tm E' a ∧ VR E' (.sl zs (some (r, 0))) (.slice (some ⟨E.w.heap.size, 0, none⟩) n cap) ∧ E'.rs = fup E.rs r (.tok 0 e sz) ∧ (∀ i, E'.U i → E.U i ∨ i = r) := by
  have hsize : E.w.heap.size < w'.heap.size := (hown.lt _ rfl).2
  have hrc : ∀ b x, RC E.m E.w b x → RC (nup E.m E.w.heap.size (n * sz)) w' b x := fun b x hb => by
    have hlt := hb.lt
    refine ⟨(World.cell?_of_block (hg.block _ hlt (by simp))).trans hb.1, ?_⟩
    simp only [nup]
    rw [if_neg (by omega)]
    exact hb.2
  have hL : Le E { E with tv := fup E.tv r (.slice (some ⟨E.w.heap.size, 0, none⟩) n cap), rs := fup E.rs r (.tok 0 e sz), U := fun i => E.U i ∨ i = r, w := w', m := nup E.m E.w.heap.size (n * sz) } := by
    refine ⟨hrc, fun i h => .inl h, fun j hj => rfl, fun t ht s' e' sz' b h => .inl ?_⟩
    have hne : t ≠ r := fun et => hr (et ▸ ht)
    simpa [fup, hne] using h
  have hm : ∀ k, (Value.slice (some ⟨E.w.heap.size, 0, none⟩) n cap).ownBlock = some k → nup E.m E.w.heap.size (n * sz) k = n * sz := fun k hk => by
    simp [Value.ownBlock] at hk
    simp [nup, hk]
  refine ⟨_, rfl, S.upd (fun g hg => by have := S.hB; simp only [nup]; rw [if_neg (by omega)]) hL (S.below.grown hg S.hB (fun k h => by simp at h)) (Nat.le_trans S.hB hg.size) (fun g hgl => ?_) (fun j => j = r) ?_ (fun j hj => ⟨fup_ne _ _ hj, fun hd => ⟨fup_ne _ _ hj, fun k hk => ⟨hg.block k (blk_ge S hk).2 (by simp), ?_⟩⟩⟩) (fun j hj _ => .inr (by rw [hj])) ?_, ⟨?_, .inr rfl, fun s' e' sz' b hh => ?_⟩, rfl, fun i h => h⟩
  · show nup E.m E.w.heap.size (n * sz) g = 0
    have hgl' : w'.heap.size ≤ g := hgl
    simp only [nup]
    rw [if_neg (by omega)]
    exact S.fresh g (by omega)
  · rintro j rfl
    unfold RF
    simp only [fup_self]
    exact ⟨n, xs, hown, hm⟩
  · have := (blk_ge S hk).2
    show nup E.m E.w.heap.size (n * sz) k = E.m k
    simp only [nup]
    rw [if_neg (by omega)]
  · rintro i j k hij rfl hi hj
    simp [blk, fup_self, Value.ownBlock] at hi
    subst hi
    have : blk E j = some E.w.heap.size := by
      unfold blk at hj ⊢
      simp only [fup_ne _ _ (Ne.symm hij)] at hj
      cases hrs : E.rs j with
      | dead => rw [hrs] at hj; cases hj
      | var _ cs => rw [hrs] at hj; exact hj
      | tok s e' sz => rw [hrs] at hj; exact hj
      | arr s e' sz rows => rw [hrs] at hj; exact hj
      | map kt et n f => rw [hrs] at hj; exact hj
    have := (blk_ge S this).2
    omega
  · exact row_CR hown hm zs hz hzs (fun j cs i q hj hi => by
      obtain ⟨u, h1, h2, h3⟩ := h j cs i q hj hi
      exact ⟨u, h1, h2, h3.mono hrc⟩)
  · simp only [fup_self, ver, Option.some.injEq, Prod.mk.injEq] at hh
    obtain ⟨rfl, rfl, rfl, rfl⟩ := hh
    exact ⟨Nat.le_refl _, fun _ => ⟨rfl, by simp [fup_self], hzs⟩⟩
def infoT (P : Program) (e : TypeId) : Option (Nat × Nat × Option Nat) := (P.info? e).map (fun i => (i.size, i.bytes, (i.zero.map fun z => z.cells.size)))
def appA (P : Program) (rs : Rid → Res) (id : Path) (ts : List TypeId) (xs : List AV) : Option Eff :=
  match ts, xs with
  | [T, T'], [q, p] => if T = T' then (match sliceElem P T, asSl p with
    | some (e, sz), some ys => match infoT P e with
      | some (sz', bytes, some z) =>
        if sz' = sz ∧ z = sz ∧ 0 < sz ∧ 0 < bytes ∧ ∀ cs ∈ ys, cs.length = sz then (match q with
          | .sl xs (some (t, s)) => match rs t with
            | .tok s' e' sz'' => if s' = s ∧ e' = e ∧ sz'' = sz ∧ (xs.length + ys.length) * bytes ≤ 140737488355328 then some ⟨.sl (xs ++ ys) (some (t, s + 1)), [(t, .tok (s + 1) e sz)], [t]⟩ else none
            | _ => none
          | .v (.slice none 0 0) => if ys.length * bytes ≤ 140737488355328 then some ⟨.sl ys (some ((id, 0), 1)), [((id, 0), .tok 0 e sz), ((id, 0), .tok 1 e sz)], []⟩ else none
          | _ => none) else none
      | _ => none
    | _, _ => none) else none
  | _, _ => none
theorem appA_sound {P : Program} {B w0 tm a E} (S : Sim B w0 tm E a) (id : Path) (hf : Fresh E.U id 0) (ts : Array TypeId) (ty : TypeId) (args : List Operand) {e : Eff} (h : appA P E.rs id ts.toList (args.map (ev tm)) = some e) :
    ∃ z E', (Builtin.append_ ts ty (args.map a.eval).toArray).run P E.w = .ok z E'.w ∧ Sim B w0 tm E' a ∧ VR E' e.val z ∧ E'.rs = wrs E.rs e.wr ∧ (∀ r, E'.U r → E.U r ∨ r.1 = id) := by
  obtain ⟨ts⟩ := ts
  unfold appA at h
  split at h
  · rename_i T T' q p et ex
    simp only at et
    subst et
    rcases args with _ | ⟨x, _ | ⟨y, _ | ⟨z, r'⟩⟩⟩
    · cases ex
    · simp at ex
    · simp only [List.map_cons, List.map_nil, List.cons.injEq, and_true] at ex
      have hx := ev_sound S x
      have hy := ev_sound S y
      rw [ex.1] at hx
      rw [ex.2] at hy
      split at h
      · rename_i hT
        subst hT
        split at h
        · rename_i el sz ys hse hp
          have hyc := asSl_CR hy hp
          unfold sliceElem at hse
          split at hse
          · rename_i e' hu
            obtain ⟨n', hn', he'⟩ := Option.map_eq_some_iff.1 hse
            injection he' with he1 he2
            subst he1 he2
            split at h
            · rename_i sz' bytes zz hi
              split at h
              · rename_i hcond
                obtain ⟨rfl, rfl, hsz, hb0, hys⟩ := hcond
                split at h
                · rename_i xs t s
                  split at h
                  · rename_i s' el' sz'' hrs
                    split at h
                    · rename_i hc2
                      obtain ⟨rfl, rfl, rfl, hb⟩ := hc2
                      injection h with h
                      subst h
                      obtain ⟨z, E', h1, h2, h3, h4, h5⟩ := append_sound (P := P) S t s' el' _ ty T bytes xs ys (a.eval x) (a.eval y) hrs hx hyc hys hsz hu hi hb hb0
                      exact ⟨z, E', h1, h2, h3, by rw [h4]; rfl, fun r h => .inl (h5 ▸ h)⟩
                    · cases h
                  · cases h
                · split at h
                  · rename_i hb
                    injection h with h
                    subst h
                    obtain ⟨hxe, _⟩ := CR.v_inv hx
                    have S1 := S.newnil (id, 0) (hf 0 (Nat.le_refl _)) e' zz
                    have L1 := Le.newnil (E := E) (id, 0) (hf 0 (Nat.le_refl _)) e' zz
                    have hx1 : VR { E with tv := fup E.tv (id, 0) (.slice none 0 0), rs := fup E.rs (id, 0) (.tok 0 e' zz), U := fun i => E.U i ∨ i = (id, 0) } (.sl [] (some ((id, 0), 0))) (.slice none 0 0) := by
                      refine ⟨?_, .inr rfl, fun s' e'' sz' b h => ?_⟩
                      · exact .sl (xs := []) 0 (fun _ _ => undef) (Nat.zero_le _) (Nat.zero_le _) (fun _ h => by cases h) (fun h => absurd rfl h) (fun _ _ _ _ h => by simp at h)
                      · simp only [fup_self, ver, Option.some.injEq, Prod.mk.injEq] at h
                        obtain ⟨rfl, rfl, rfl, rfl⟩ := h
                        exact ⟨Nat.le_refl _, fun _ => ⟨rfl, by simp [fup_self], fun _ h => by cases h⟩⟩
                    obtain ⟨z, E', h1, h2, h3, h4, h5⟩ := append_sound (P := P) S1 (id, 0) 0 e' zz ty T bytes [] ys (.slice none 0 0) (a.eval y) (by simp [fup_self]) hx1 (hyc.mono L1.rc) hys hsz hu hi (by simpa using hb) hb0
                    refine ⟨z, E', ?_, h2, h3, by rw [h4]; rfl, fun r h => ?_⟩
                    · rw [← h1]
                      simp [hxe]
                    · rw [h5] at h
                      rcases h with h | rfl
                      · exact .inl h
                      · exact .inr rfl
                  · cases h
                · cases h
              · cases h
            · cases h
          · cases hse
        · cases h
      · cases h
    · simp at ex
  · cases h
end Go.FE
namespace Go.FE
open Go.RowKit
/-- What a row whose elements may be written is at the machine. -/
theorem arr_at {B w0 tm E a} (S : Sim B w0 tm E a) {id : Rid} {s e sz : Nat} {rows : List (List AV)} (hrs : E.rs id = .arr s e sz rows) (hne : rows ≠ []) :
    ∃ g cap cur, E.tv id = .slice (some ⟨g, 0, none⟩) rows.length cap ∧ B ≤ g ∧ E.w.heap[g]? = some (.cells cur e (0, 0)) ∧ rows.length ≤ cap ∧ cap ≤ maxLen ∧ cur.size = cap * sz ∧ E.m g = 0 ∧ (∀ cs ∈ rows, cs.length = sz) ∧
      ∀ (j : Nat) (cs : List AV) (i : Nat) (q : AV), rows[j]? = some cs → cs[i]? = some q → j * sz + i < rows.length * sz ∧ VR E q (cur.getD (j * sz + i) undef) ∧ (cur.getD (j * sz + i) undef).oneCell' = true := by
  have hr := S.res id
  unfold RF at hr
  rw [hrs] at hr
  obtain ⟨xs, ⟨hl, ho⟩, hm, hsz, hv⟩ := hr
  rcases ho with ⟨_, h0⟩ | ⟨g, cap, cur, e1, hB, hg, hn, hc, hcs, ht⟩
  · exact absurd (List.eq_nil_of_length_eq_zero h0) hne
  · refine ⟨g, cap, cur, e1, hB, hg, hn, hc, hcs, hm g (by rw [e1]; rfl), hsz, fun j cs i q hj hi => ?_⟩
    have hjl : j < rows.length := (List.getElem?_eq_some_iff.1 hj).1
    have hil : i < sz := by
      have := (List.getElem?_eq_some_iff.1 hi).1
      rw [hsz cs (List.mem_of_getElem? hj)] at this
      exact this
    have hlt : j * sz + i < rows.length * sz := by
      have := Nat.mul_le_mul_right sz (show j + 1 ≤ rows.length by omega)
      rw [Nat.add_mul] at this
      omega
    have hx : xs.getD (j * sz + i) undef = cur.getD (j * sz + i) undef := by
      rw [← ht, List.getD_eq_getElem?_getD, List.getElem?_take_of_lt hlt, Array.getD_eq_getD_getElem?, Array.getElem?_toList]
    have := hv j cs i q hj hi
    rw [hx] at this
    exact ⟨hlt, this⟩
/-- A load out of such a row. -/
theorem loadP_sound {P : Program} {B w0 tm E a} (S : Sim B w0 tm E a) (t : TypeId) (id : Rid) (s j k : Nat) (x : Value) (hx : VR E (.ap id s j k) x) {e sz : Nat} {rows : List (List AV)} (hrs : E.rs id = .arr s e sz rows) {cs : List AV} (hj : rows[j]? = some cs) {r : AV} (h : partV P t cs k = some r) :
    ∃ z, (Instr.loadAt t x).run P E.w = .ok z E.w ∧ VR E r z := by
  have hne : rows ≠ [] := fun e => by rw [e] at hj; simp at hj
  obtain ⟨g, cap, cur, e1, _, hg, hn, _, hcs, _, hsz, hv⟩ := arr_at S hrs hne
  obtain ⟨_, _, hver⟩ := hx
  obtain ⟨_, A, N, c, e2, rfl⟩ := (hver s e sz true (by rw [hrs]; rfl)).2 rfl
  rw [e1] at e2
  injection e2 with e2 _ _
  injection e2 with e2
  subst e2
  have hcsl : cs.length = sz := hsz cs (List.mem_of_getElem? hj)
  have hcell : ∀ i, k + i < cs.length → E.w.cell? ((((⟨g, 0, none⟩ : Addr).add (j * sz + k))).add i) = some (cur.getD (j * sz + (k + i)) undef) := fun i hi => by
    have hlt := (hv j cs (k + i) cs[k + i] hj (List.getElem?_eq_getElem hi)).1
    have hlt2 : j * sz + (k + i) < cur.size := by
      rw [hcs]
      exact Nat.lt_of_lt_of_le hlt (Nat.mul_le_mul_right _ hn)
    rw [add_add, add_lit0, Nat.add_assoc]
    simp [World.cell?, hg, hlt2]
  unfold partV at h
  split at h
  · rename_i d szt hd hs
    simp only [Instr.loadAt, Instr.sureAddr, loadVar, Sem.run_bind, Sem.run_pure, Result.andThen_ok, run_isAgg hd]
    split at h
    · rename_i ha
      split at h
      · rename_i hle
        injection h with h
        subst h
        simp only [ha, if_true, Sem.run_bind, run_sizeOf hs, Result.andThen_ok]
        have hl := run_loadCells (P := P) E.w ((⟨g, 0, none⟩ : Addr).add (j * sz + k)) szt (fun i => cur.getD (j * sz + (k + i)) undef) (fun i hi => hcell i (by omega))
        rw [hl]
        refine ⟨_, rfl, CR.agg (by simp; omega) (by simp) (fun i hi => ?_) (fun i q hi => ?_)⟩
        · have hil : k + i < cs.length := by omega
          have := (hv j cs (k + i) cs[k + i] hj (List.getElem?_eq_getElem hil)).2.2
          simpa [Array.getD_eq_getD_getElem?, hi] using this
        · rw [List.getElem?_map] at hi
          obtain ⟨q0, h0, rfl⟩ := Option.map_eq_some_iff.1 hi
          have hil : i < szt := by have := (List.getElem?_eq_some_iff.1 h0).1; simp at this; omega
          rw [List.getElem?_take_of_lt hil, List.getElem?_drop] at h0
          have := content_CR (hv j cs (k + i) q0 hj h0).2.1
          simpa [Array.getD_eq_getD_getElem?, hil] using this
      · cases h
    · rename_i ha
      have hb : isAggD d = false := by simpa using ha
      split at h
      · rename_i hlt
        injection h with h
        subst h
        simp only [hb, Bool.false_eq_true, if_false]
        have h6 := (hv j cs k (cs.getD k .unk) hj (by rw [List.getD_eq_getElem?_getD, List.getElem?_eq_getElem hlt]; rfl)).2
        refine ⟨cur.getD (j * sz + k) undef, ?_, h6.1⟩
        have hc := hcell 0 (by omega)
        rw [add_zero] at hc
        rw [run_load, hc]
        simp
      · cases h
  · cases h
/-- Writing into an element. -/
theorem Sim.setarr {B w0 tm E a} (S : Sim B w0 tm E a) (id : Rid) (s e sz : Nat) (rows : List (List AV)) (j k : Nat) (cs qs : List AV) (hrs : E.rs id = .arr s e sz rows) (hj : rows[j]? = some cs) (vs : List Value) (hl : vs.length = qs.length) (ho : k + qs.length ≤ cs.length)
    (A : Addr) (N c : Nat) (htv : E.tv id = .slice (some A) N c)
    (hv : ∀ i q, qs[i]? = some q → VR E q (vs.getD i undef) ∧ (vs.getD i undef).oneCell' = true) :
    ∃ w', (∀ P : Program, (storeCells (A.add (j * sz + k)) vs).run P E.w = .ok () w') ∧ Sim B w0 tm { E with rs := fup E.rs id (.arr s e sz (rows.set j (splice cs k qs))), w := w' } a := by
  have hne : rows ≠ [] := fun e => by rw [e] at hj; simp at hj
  obtain ⟨g, cap, cur, e1, hBg, hg, hn, hcm, hcs, hm0, hsz, hcur⟩ := arr_at S hrs hne
  rw [e1] at htv
  injection htv with htv _ _
  injection htv with htv
  subst htv
  rw [add_lit0]
  have hcsl : cs.length = sz := hsz cs (List.mem_of_getElem? hj)
  have hjl : j < rows.length := (List.getElem?_eq_some_iff.1 hj).1
  have hjz : j * sz + sz ≤ rows.length * sz := by
    have := Nat.mul_le_mul_right sz (show j + 1 ≤ rows.length by omega)
    rw [Nat.add_mul] at this
    omega
  have hncs : rows.length * sz ≤ cur.size := by rw [hcs]; exact Nat.mul_le_mul_right _ hn
  have hst := fun P : Program => run_storeCells_at P g (j * sz + k) e vs 0 cur E.w hg (by omega) (fun u hu => by
    obtain ⟨i, hi, rfl⟩ := List.getElem_of_mem hu
    have := (hv i qs[i] (List.getElem?_eq_getElem (by omega))).2
    simpa [List.getD_eq_getElem?_getD, hi] using this)
  simp only [Nat.add_zero] at hst
  refine ⟨_, hst, ?_⟩
  have hneg : ∀ i, i ≠ g → (E.w.setRow g (cur.toList.take (j * sz + k) ++ vs ++ cur.toList.drop (j * sz + k + vs.length)).toArray).heap[i]? = E.w.heap[i]? := fun i hi => setRow_other _ _ _ _ hi
  have hL : Le E { E with rs := fup E.rs id (.arr s e sz (rows.set j (splice cs k qs))), w := E.w.setRow g (cur.toList.take (j * sz + k) ++ vs ++ cur.toList.drop (j * sz + k + vs.length)).toArray } := by
    refine ⟨fun b x h => ⟨?_, h.2⟩, fun i h => h, fun j hj => rfl, fun t ht s' e' sz' b' h => .inl ⟨?_, rfl⟩⟩
    · have hb : b.block ≠ g := fun eb => by have := h.2; rw [eb, hm0] at this; omega
      exact (World.cell?_of_block (hneg _ hb)).trans h.1
    · by_cases hti : t = id
      · subst hti; simpa [fup_self, ver, hrs] using h
      · simpa [fup, hti] using h
  have hU : E.U id := S.used _ (by rw [hrs]; simp)
  have hblkid : blk E id = some g := by unfold blk; rw [hrs, e1]; rfl
  have hset : ∀ i, (cur.toList.take (j * sz + k) ++ vs ++ cur.toList.drop (j * sz + k + vs.length)).toArray.getD i undef = if j * sz + k ≤ i ∧ i < j * sz + k + qs.length then vs.getD (i - (j * sz + k)) undef else cur.getD i undef := fun i => by
    have := splice_get (xs := cur.toList) (off := j * sz + k) (ys := vs) (by simp; omega) i
    unfold splice at this
    rw [Array.getD_eq_getD_getElem?, List.getElem?_toArray, this, hl]
    split
    · rw [List.getD_eq_getElem?_getD]
    · rw [Array.getD_eq_getD_getElem?, Array.getElem?_toList]
  have hlen : (cur.toList.take (j * sz + k) ++ vs ++ cur.toList.drop (j * sz + k + vs.length)).length = cur.size := by simp; omega
  refine S.upd (fun _ _ => rfl) hL ?_ (by simp only [setRow_size]; exact S.hB) (fun g hg => S.fresh g (by simpa only [setRow_size] using hg)) (fun i => i = id) ?_ (fun i hi => ⟨fup_ne _ _ hi, fun hd => ⟨rfl, fun k hk => ⟨?_, rfl⟩⟩⟩) (fun i hi _ => ?_) ?_
  · refine S.below.trans ⟨rfl, rfl, rfl, by simp only [setRow_size]; exact Nat.le_refl _, fun i hi => hneg i (by omega)⟩
  · rintro i rfl
    unfold RF
    simp only [fup_self]
    refine ⟨(cur.toList.take (j * sz + k) ++ vs ++ cur.toList.drop (j * sz + k + vs.length)).take (rows.length * sz), ⟨?_, .inr ⟨g, cap, _, by rw [List.length_set]; exact e1, hBg, setRow_heap _ _ _ _ _ _ hg, by rw [List.length_set]; exact hn, hcm, ?_, by rw [List.length_set]⟩⟩, fun i hi => ?_, fun c hc => ?_, fun j' c' i q hj' hi => ?_⟩
    · rw [List.length_take, hlen, List.length_set]; omega
    · rw [List.size_toArray, hlen]; exact hcs
    · rw [e1] at hi; simp [Value.ownBlock] at hi; rw [← hi]; exact hm0
    · rcases List.mem_or_eq_of_mem_set hc with h | rfl
      · exact hsz c h
      · rw [splice_length ho]; exact hcsl
    · have hj'l : j' < rows.length := by have := (List.getElem?_eq_some_iff.1 hj').1; simpa using this
      have hil : i < sz ∧ ∃ q0, (j' = j ∧ k ≤ i ∧ i < k + qs.length ∧ qs[i - k]? = some q) ∨ (¬ (j' = j ∧ k ≤ i ∧ i < k + qs.length) ∧ ∃ c0, rows[j']? = some c0 ∧ c0[i]? = some q ∧ q0 = q) := by
        rw [List.getElem?_set] at hj'
        by_cases hjj : j = j'
        · subst hjj
          simp only [hjl, if_true, Option.some.injEq] at hj'
          subst hj'
          have hi0 := (List.getElem?_eq_some_iff.1 hi).1
          rw [splice_length ho, hcsl] at hi0
          rw [splice_get ho] at hi
          refine ⟨hi0, q, ?_⟩
          split at hi
          · rename_i hc; exact .inl ⟨rfl, hc.1, hc.2, hi⟩
          · rename_i hc; exact .inr ⟨fun h => hc ⟨h.2.1, h.2.2⟩, cs, hj, hi, rfl⟩
        · rw [if_neg hjj] at hj'
          have hi0 := (List.getElem?_eq_some_iff.1 hi).1
          rw [hsz c' (List.mem_of_getElem? hj')] at hi0
          exact ⟨hi0, q, .inr ⟨fun h => hjj h.1.symm, c', hj', hi, rfl⟩⟩
      obtain ⟨hil, q0, hcase⟩ := hil
      have hlt : j' * sz + i < rows.length * sz := by
        have := Nat.mul_le_mul_right sz (show j' + 1 ≤ rows.length by omega)
        rw [Nat.add_mul] at this
        omega
      rw [List.getD_eq_getElem?_getD, List.getElem?_take_of_lt hlt, ← List.getElem?_toArray, ← Array.getD_eq_getD_getElem?, hset]
      rcases hcase with ⟨rfl, h1, h2, h3⟩ | ⟨h1, c0, h2, h3, _⟩
      · rw [if_pos (by omega), show j' * sz + i - (j' * sz + k) = i - k by omega]
        exact ⟨(hv _ q h3).1.mono hL, (hv _ q h3).2⟩
      · rw [if_neg (fun h => ?_)]
        · exact ⟨(hcur j' c0 i q h2 h3).2.1.mono hL, (hcur j' c0 i q h2 h3).2.2⟩
        · refine h1 ?_
          have hjj : j' = j := by
            rcases Nat.lt_trichotomy j' j with h4 | h4 | h4
            · have := Nat.mul_le_mul_right sz (show j' + 1 ≤ j by omega)
              rw [Nat.add_mul] at this
              omega
            · exact h4
            · have := Nat.mul_le_mul_right sz (show j + 1 ≤ j' by omega)
              rw [Nat.add_mul] at this
              omega
          subst hjj
          exact ⟨rfl, by omega, by omega⟩
  · refine hneg k (fun ek => ?_)
    subst ek
    exact S.apart i id k hi hk hblkid
  · subst hi; exact hU
  · rintro i i' k' hij rfl hi hj'
    simp only [blk, fup_self] at hi
    have hj2 : blk E i' = some k' := by
      unfold blk at hj' ⊢
      simp only [fup_ne _ _ (Ne.symm hij)] at hj'
      exact hj'
    have hi2 : blk E i = some k' := by unfold blk; rw [hrs]; exact hi
    exact S.apart i i' k' hij hi2 hj2
end Go.FE
