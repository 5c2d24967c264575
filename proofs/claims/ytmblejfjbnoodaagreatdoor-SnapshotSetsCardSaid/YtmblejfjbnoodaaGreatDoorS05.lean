/- A row of a given length whose elements may still be written. A text's bytes appended to a row of the call's own. One operation that is no call: its effect by content, and that the machine has it. -/
import Derived.Lib.AppendStr
import Derived.Test.YtmblejfjbnoodaaGreatDoorS04
set_option linter.unusedVariables false
set_option linter.unusedSimpArgs false
namespace Go.FE
open Go.RowKit
theorem newarr {B w0 tm a E} (S : Sim B w0 tm E a) (r : Rid) (hr : ¬ E.U r) (e sz n cap : Nat) (xs : List Value) (w' : World) (hown : w'.ownsRow B e sz (.slice (some ⟨E.w.heap.size, 0, none⟩) n cap) n xs) (hg : E.w.grownBy w' none)
    (zs : List (List AV)) (hz : zs.length = n) (hzs : ∀ cs ∈ zs, cs.length = sz) (h : ∀ j cs i q, zs[j]? = some cs → cs[i]? = some q → VR E q (xs.getD (j * sz + i) undef) ∧ (xs.getD (j * sz + i) undef).oneCell' = true) :
    ∃ E', E'.w = w' ∧ Sim B w0 tm E' a ∧ VR E' (.ar r 0 sz 0 n) (.slice (some ⟨E.w.heap.size, 0, none⟩) n cap) ∧ E'.rs = fup E.rs r (.arr 0 e sz zs) ∧ (∀ i, E'.U i → E.U i ∨ i = r) := by
  have hsize : E.w.heap.size < w'.heap.size := (hown.lt _ rfl).2
  have hcap : n ≤ cap ∧ cap ≤ maxLen := by
    rcases hown.2 with ⟨e1, _⟩ | ⟨g, cap', cur, e1, _, _, h1, h2, _⟩
    · cases e1
    · injection e1 with _ _ e1; subst e1; exact ⟨h1, h2⟩
  have hrc : ∀ b x, RC E.m E.w b x → RC E.m w' b x := fun b x hb => ⟨(World.cell?_of_block (hg.block _ hb.lt (by simp))).trans hb.1, hb.2⟩
  have hL : Le E { E with tv := fup E.tv r (.slice (some ⟨E.w.heap.size, 0, none⟩) n cap), rs := fup E.rs r (.arr 0 e sz zs), U := fun i => E.U i ∨ i = r, w := w' } := by
    refine ⟨hrc, fun i h => .inl h, fun j hj => rfl, fun t ht s' e' sz' b h => .inl ?_⟩
    have hne : t ≠ r := fun et => hr (et ▸ ht)
    simpa [fup, hne] using h
  refine ⟨{ E with tv := fup E.tv r (.slice (some ⟨E.w.heap.size, 0, none⟩) n cap), rs := fup E.rs r (.arr 0 e sz zs), U := fun i => E.U i ∨ i = r, w := w' }, rfl, S.upd (fun _ _ => rfl) hL (S.below.grown hg S.hB (fun k h => by simp at h)) (Nat.le_trans S.hB hg.size) (fun g hgl => S.fresh g (Nat.le_trans hg.size hgl)) (fun j => j = r) ?_ (fun j hj => ⟨fup_ne _ _ hj, fun hd => ⟨fup_ne _ _ hj, fun k hk => ⟨hg.block k (blk_ge S hk).2 (by simp), rfl⟩⟩⟩) (fun j hj _ => .inr (by rw [hj])) ?_, ⟨.inr rfl, ⟨_, _, rfl, hcap.1, by omega, fun _ => ⟨_, rfl⟩⟩, fun s' e' sz' b hh => ?_⟩, rfl, fun i h => h⟩
  · rintro j rfl
    unfold RF
    simp only [fup_self]
    refine ⟨xs, by rw [hz]; exact hown, fun k hk => ?_, hzs, fun j cs i q hj hi => ⟨(h j cs i q hj hi).1.mono hL, (h j cs i q hj hi).2⟩⟩
    simp [Value.ownBlock] at hk
    rw [← hk]
    exact S.fresh _ (Nat.le_refl _)
  · rintro i j k hij rfl hi hj
    simp [blk, fup_self, Value.ownBlock] at hi
    subst hi
    have : blk E j = some E.w.heap.size := by
      unfold blk at hj ⊢
      simp only [fup_ne _ _ (Ne.symm hij)] at hj
      cases hrs : E.rs j with
      | dead => rw [hrs] at hj; cases hj
      | var _ cs => rw [hrs] at hj; exact hj
      | tok s e' sz => rw [hrs] at hj; exact hj
      | arr s e' sz rows => rw [hrs] at hj; exact hj
      | map kt et n f => rw [hrs] at hj; exact hj
    have := (blk_ge S this).2
    omega
  · simp only [fup_self, ver, Option.some.injEq, Prod.mk.injEq] at hh
    obtain ⟨rfl, rfl, rfl, rfl⟩ := hh
    refine ⟨Nat.le_refl _, fun _ => ⟨rfl, rfl, ⟨_, _, _, by simp only [fup_self]; rfl, by omega⟩, fun _ => ?_⟩⟩
    simp [fup_self, viewOf, add_zero]
def makeR (P : Program) (id : Path) (t : TypeId) (l : AV) : Option Eff :=
  match sliceElem P t, l with
  | some (e, sz), .v (.int _ C) => match infoT P e, zeroT P e with
    | some (sz', bytes, _), some zs => if sz' = sz ∧ zs.length = sz ∧ 0 < sz ∧ zs.all okV = true ∧ 0 ≤ C ∧ bytes * C.toNat ≤ 281474976710656 ∧ C.toNat ≤ 9223372036854775807 then
        some ⟨.ar (id, 0) 0 sz 0 C.toNat, [((id, 0), .arr 0 e sz (List.replicate C.toNat (zs.map .v)))], []⟩
      else none
    | _, _ => none
  | _, _ => none
theorem makeR_sound {P : Program} {B w0 tm a E} (S : Sim B w0 tm E a) (id : Path) (hf : Fresh E.U id 0) (t : TypeId) (l : AV) (x : Value) (hx : VR E l x) {e : Eff} (h : makeR P id t l = some e) :
    ∃ z E', (Instr.makeSlice t x x).run P E.w = .ok z E'.w ∧ Sim B w0 tm E' a ∧ VR E' e.val z ∧ E'.rs = wrs E.rs e.wr ∧ (∀ r, E'.U r → E.U r ∨ r.1 = id) := by
  unfold makeR at h
  split at h
  · rename_i el sz kc C hse
    obtain ⟨rfl, _⟩ := CR.v_inv hx
    unfold sliceElem at hse
    split at hse
    · rename_i e' hu
      obtain ⟨n', hn', he'⟩ := Option.map_eq_some_iff.1 hse
      injection he' with he1 he2
      subst he1 he2
      split at h
      · rename_i sz' bytes zz zs hi hz
        split at h
        · rename_i hcond
          obtain ⟨rfl, hzl, hsz, hok, hC, hb, hm⟩ := hcond
          injection h with h
          subst h
          unfold infoT at hi
          obtain ⟨it, hit, hii⟩ := Option.map_eq_some_iff.1 hi
          simp only [Prod.mk.injEq] at hii
          obtain ⟨hi1, hi2, hi3⟩ := hii
          unfold zeroT at hz
          obtain ⟨it', hit', hz⟩ := Option.bind_eq_some_iff.1 hz
          rw [hit] at hit'
          injection hit' with hit'
          subst hit'
          obtain ⟨z, hz2, rfl⟩ := Option.map_eq_some_iff.1 hz
          obtain ⟨n, rfl⟩ := Int.eq_ofNat_of_zero_le hC
          simp only [Int.toNat_natCast] at hb hm ⊢
          obtain ⟨w', h1, h2, h3⟩ := run_make_full (P := P) E.w B t e' it z _ hu hit hz2 hi1 kc kc n (by rw [hi2]; exact hb) hm S.hB
          have hcells : (madeCells z.cells (n * sz')).toList = (List.replicate n z.cells.toList).flatten := by
            rw [← zero_row z.cells.toList n (by rw [hzl]; exact hsz), hzl]
            rfl
          obtain ⟨E', e1, e2, e3, e4, e5⟩ := newarr S (id, 0) (hf 0 (Nat.le_refl _)) e' _ n n _ w' h2 h3 (List.replicate n (z.cells.toList.map .v)) (by simp) (fun cs hcs => by
              rw [(List.mem_replicate.1 hcs).2, List.length_map]; exact hzl) (fun j cs i q hj hi => by
              have hjl : j < n := by have := (List.getElem?_eq_some_iff.1 hj).1; simpa using this
              have hcs := (List.mem_replicate.1 (List.mem_of_getElem? hj)).2
              subst hcs
              rw [List.getElem?_map] at hi
              obtain ⟨u, hu1, rfl⟩ := Option.map_eq_some_iff.1 hi
              have hil : i < sz' := by rw [← hzl]; exact (List.getElem?_eq_some_iff.1 hu1).1
              have hg := flatten_get sz' (List.replicate n z.cells.toList) (fun cs hcs => by rw [(List.mem_replicate.1 hcs).2]; exact hzl) j i hil
              have huok : okV u = true := List.all_eq_true.1 hok u (List.mem_of_getElem? hu1)
              have hget : (madeCells z.cells (n * sz')).toList[j * sz' + i]? = some u := by
                rw [hcells, hg]
                simp only [List.getElem?_replicate, hjl, if_true, Option.bind_some]
                exact hu1
              rw [List.getD_eq_getElem?_getD, hget]
              exact ⟨VR.v huok, okV_one huok⟩)
          exact ⟨_, E', by rw [e1]; exact h1, e2, e3, e4, fun r h => (e5 r h).imp (fun h => h) (fun h => by rw [h])⟩
        · cases h
      · cases h
    · cases hse
  · cases h
end Go.FE
namespace Go.FE
open Go.RowKit
def bytesA (s : ByteArray) : List (List AV) := s.data.toList.map fun b => [AV.v (.int .u8 b.toNat)]
theorem bytesA_len (s : ByteArray) : (bytesA s).length = s.size := by
  rw [bytesA, List.length_map, Array.length_toList]; rfl
theorem append_str {P : Program} {w : World} (base : Nat) (t u ty e : TypeId) (i : TypeInfo) (ht : P.underlying t = some (.slice e)) (hu : P.underlying u = some .string) (hi : P.info? e = some i) (hz : i.zero = some (.int .u8 0))
    (hsize : i.size = 1) (hby : i.bytes = 1) (v : Value) (n : Nat) (xs : List Value) (hown : w.ownsRow base e 1 v n xs) (s : ByteArray) (h63 : n + s.size ≤ maxLen) (hbytes : n + s.size ≤ 140737488355328) (hbase : base ≤ w.heap.size) :
    ∃ v' w', (Builtin.append_ #[t, u] ty #[v, .string s]).run P w = .ok v' w' ∧ w'.ownsRow base e 1 v' (n + s.size) (xs ++ Lib.strCells s) ∧
      ((v'.ownBlock = v.ownBlock ∧ w.grownBy w' v.ownBlock) ∨ (v'.ownBlock = some w.heap.size ∧ w.grownBy w' none)) := by
  obtain ⟨v', w', hr, h2, h3, h4⟩ := Lib.run_append_own_string (P := P) w base t u ty e i ht hu hi hz hsize hby v n xs hown s h63 hbytes hbase
  refine ⟨v', w', hr, h2, ?_⟩
  have hxl : xs.length = n := by simpa using hown.1
  rcases hown.2 with ⟨rfl, rfl⟩ | ⟨g, cap, cur, rfl, hbg, hg, hnc, hcm, hcs, htake⟩
  · by_cases hs : s.size = 0
    · have := h4.2 ⟨rfl, hs⟩
      subst this
      exact .inl ⟨rfl, h3⟩
    · have hr2 := run_append_nil_string (P := P) w t u ty e i (.int .u8 0) ht hu hi hz s (by omega) (by simp only [maxLen] at h63; omega) (by rw [hby]; omega)
      rw [hr] at hr2
      injection hr2 with e1 e2
      subst e1
      exact .inr ⟨rfl, h3⟩
  · by_cases hroom : n + s.size ≤ cap
    · have hcs' : cur.size = cap := by simpa using hcs
      have hr2 := Lib.run_append_room_string (P := P) w t u ty e i ht hu hi hsize g n cap cur hg s hroom (by omega)
      rw [hr] at hr2
      injection hr2 with e1 e2
      subst e1
      exact .inl ⟨rfl, h3⟩
    · have holds : ∀ j u, xs[j]? = some u → w.cell? ((⟨g, 0, none⟩ : Addr).add j) = some u := hown.cells (g := g) rfl
      have hr2 := Lib.run_append_grow_string (P := P) w t u ty e i (.int .u8 0) ht hu hi hz ⟨g, 0, none⟩ n cap xs (by rw [hsize]; simpa using hxl) holds s (by omega) (by simp only [maxLen] at h63; omega) (by rw [hby]; exact growslice_fits (by omega) (by omega))
      rw [hr] at hr2
      injection hr2 with e1 e2
      subst e1 e2
      exact .inr ⟨rfl, ⟨rfl, rfl, rfl, by simp, fun k hk _ => heap_alloc_old w.drew _ k hk⟩⟩
def appS (P : Program) (rs : Rid → Res) (ts : List TypeId) (xs : List AV) : Option Eff :=
  match ts, xs with
  | [T, U], [.sl bs (some (t, s)), .v (.string str)] => match P.underlying U, sliceElem P T with
    | some .string, some (e, 1) => match zeroV P e, infoT P e, rs t with
      | some (.int .u8 0), some (1, 1, _), .tok s' e' 1 => if s' = s ∧ e' = e ∧ bs.length + str.size ≤ 140737488355328 then some ⟨.sl (bs ++ bytesA str) (some (t, s + 1)), [(t, .tok (s + 1) e 1)], [t]⟩ else none
      | _, _, _ => none
    | _, _ => none
  | _, _ => none
theorem appS_sound {P : Program} {B w0 tm a E} (S : Sim B w0 tm E a) (ts : Array TypeId) (ty : TypeId) (args : List Operand) {e : Eff} (h : appS P E.rs ts.toList (args.map (ev tm)) = some e) :
    ∃ z E', (Builtin.append_ ts ty (args.map a.eval).toArray).run P E.w = .ok z E'.w ∧ Sim B w0 tm E' a ∧ VR E' e.val z ∧ E'.rs = wrs E.rs e.wr ∧ E'.U = E.U := by
  obtain ⟨ts⟩ := ts
  unfold appS at h
  split at h
  · rename_i T U bs t s str et ex
    simp only at et
    subst et
    rcases args with _ | ⟨x, _ | ⟨y, _ | ⟨y', r'⟩⟩⟩
    · cases ex
    · simp at ex
    · simp only [List.map_cons, List.map_nil, List.cons.injEq, and_true] at ex
      have hx := ev_sound S x
      have hy := ev_sound S y
      rw [ex.1] at hx
      rw [ex.2] at hy
      obtain ⟨hy, _⟩ := CR.v_inv hy
      split at h
      · rename_i el hU hse
        unfold sliceElem at hse
        split at hse
        · rename_i e' hu
          obtain ⟨n', hn', he'⟩ := Option.map_eq_some_iff.1 hse
          injection he' with he1 he2
          subst he1 he2
          split at h
          · rename_i q s' el' hz hi hrs
            split at h
            · rename_i hc
              obtain ⟨rfl, rfl, hb⟩ := hc
              injection h with h
              subst h
              unfold infoT at hi
              obtain ⟨it, hit, hii⟩ := Option.map_eq_some_iff.1 hi
              simp only [Prod.mk.injEq] at hii
              obtain ⟨hi1, hi2, hi3⟩ := hii
              unfold zeroV at hz
              rw [hit] at hz
              simp only [Option.bind_some] at hz
              obtain ⟨hcx, hUt, htok⟩ := hx
              obtain ⟨_, hxe, hxs⟩ := (htok s' el' 1 false (by rw [hrs]; rfl)).2 rfl
              have hr := S.res t
              unfold RF at hr
              rw [hrs] at hr
              obtain ⟨n, xc, hown, hm⟩ := hr
              obtain ⟨A, c, vs, ex2, hc, hml, hvl, hva, hv1, hvr⟩ := CR.cells hcx 1 hxs
              have hn : n = bs.length := by
                rcases hown.2 with ⟨e1, rfl⟩ | ⟨g, cap, cur, e1, _⟩
                · rw [hxe, e1] at ex2; injection ex2
                · rw [hxe, e1] at ex2; injection ex2
              subst hn
              obtain ⟨v', w', hr1, hr2, hr3⟩ := append_str (P := P) B T U ty el' it hu hU hit hz hi1 hi2 (E.tv t) bs.length xc hown str (by unfold maxLen; omega) hb S.hB
              have hsl : (Lib.strCells str).length = str.size * 1 := by rw [Lib.strCells_length, Nat.mul_one]
              obtain ⟨m', hm1, hS, hrc⟩ := S.append t s' el' 1 bs.length str.size xc (Lib.strCells str) v' w' hrs hown hm hsl hr2 hr3
              refine ⟨v', _, by rw [List.map_cons, List.map_cons, List.map_nil, hxe, hy]; exact hr1, hS, ⟨?_, hUt, fun s2 e2 sz2 b2 h2 => ?_⟩, rfl, rfl⟩
              · refine row_CR hr2 hm1 _ (by rw [List.length_append, bytesA_len]) (fun cs hcs => ?_) (fun j cs i q hj hi => ?_)
                · rcases List.mem_append.1 hcs with hcs | hcs
                  · exact hxs cs hcs
                  · obtain ⟨b, _, rfl⟩ := List.mem_map.1 hcs
                    rfl
                · rw [Nat.mul_one]
                  rcases Nat.lt_or_ge j bs.length with hjl | hjl
                  · rw [List.getElem?_append_left hjl] at hj
                    obtain ⟨u, hu1, hu2, hu3⟩ := hvr j cs i q hj hi
                    have hil : i < 1 := by
                      have := (List.getElem?_eq_some_iff.1 hi).1
                      rw [hxs cs (List.mem_of_getElem? hj)] at this
                      exact this
                    have hlt2 : j + i < xc.length := by rw [hown.1]; omega
                    refine ⟨u, ?_, hu2, hu3.mono hrc⟩
                    rw [List.getElem?_append_left hlt2]
                    rw [Nat.mul_one] at hu1
                    have hne : bs ≠ [] := fun e => by rw [e] at hjl; simp at hjl
                    obtain ⟨ad, rfl, hcell⟩ := hva hne
                    rcases hown.2 with ⟨e1, e0⟩ | ⟨g, cap, cur, e1, _⟩
                    · omega
                    · rw [hxe, e1] at ex2
                      injection ex2 with ex2 _ _
                      injection ex2 with ex2
                      subst ex2
                      have h3 := hown.cells (g := g) (by rw [e1]; rfl) (j + i) xc[j + i] (List.getElem?_eq_getElem hlt2)
                      have h4 := hcell (j + i) u hu1
                      rw [h4] at h3
                      rw [List.getElem?_eq_getElem hlt2]
                      exact h3.symm
                  · rw [List.getElem?_append_right hjl] at hj
                    unfold bytesA at hj
                    rw [List.getElem?_map] at hj
                    obtain ⟨b, hb1, rfl⟩ := Option.map_eq_some_iff.1 hj
                    cases i with
                    | succ i => simp at hi
                    | zero =>
                      simp only [List.getElem?_cons_zero, Option.some.injEq] at hi
                      subst hi
                      refine ⟨.int .u8 b.toNat, ?_, rfl, .v rfl⟩
                      have hxl : xc.length = bs.length := by rw [hown.1, Nat.mul_one]
                      rw [Nat.add_zero, List.getElem?_append_right (by omega), hxl]
                      unfold Lib.strCells
                      rw [List.getElem?_map, hb1]
                      rfl
              · simp only [fup_self, ver, Option.some.injEq, Prod.mk.injEq] at h2
                obtain ⟨rfl, rfl, rfl, rfl⟩ := h2
                refine ⟨Nat.le_refl _, fun _ => ⟨rfl, by simp [fup_self], fun cs hcs => ?_⟩⟩
                rcases List.mem_append.1 hcs with hcs | hcs
                · exact hxs cs hcs
                · obtain ⟨b, _, rfl⟩ := List.mem_map.1 hcs
                  rfl
            · cases h
          · cases h
        · cases hse
      · cases h
    · simp at ex
  · cases h
theorem appS_none {P : Program} {rs : Rid → Res} {id : Path} {ts : List TypeId} {xs : List AV} {e : Eff} (h : appS P rs ts xs = some e) : ∀ rs', appA P rs' id ts xs = none ∧ appR P rs' id ts xs = none := by
  intro rs'
  unfold appS at h
  split at h
  · refine ⟨?_, ?_⟩
    · unfold appA
      simp only [asSl]
      split
      · split <;> simp_all
      · rfl
    · unfold appR
      rfl
  · cases h
theorem appS_congr {P : Program} {rs rs' : Rid → Res} {ts : List TypeId} {xs : List AV} {e : Eff} (h : appS P rs ts xs = some e) (hr : ∀ r ∈ e.tch, rs r = rs' r) : appS P rs' ts xs = some e := by
  unfold appS at h ⊢
  split at h
  · split at h
    · rename_i hU hse
      try simp only [hU, hse]
      split at h
      · rename_i hz hi hrs
        split at h
        · rename_i hc
          injection h with h
          have := hr _ (by rw [← h]; exact List.mem_singleton.2 rfl)
          rw [← this, hrs, hz, hi]
          try simp only
          rw [if_pos hc, h]
        · cases h
      · cases h
    · cases h
  · cases h
theorem appS_keys {P : Program} {rs : Rid → Res} {id : Path} {ts : List TypeId} {xs : List AV} {e : Eff} (hM : appS P rs ts xs = some e) :
    (∀ r ∈ e.tch, rs r ≠ .dead ∧ ∃ q ∈ xs, q.owner = some r) ∧ ∀ p ∈ e.wr, p.1.1 = id ∨ p.1 ∈ e.tch := by
  unfold appS at hM
  split at hM
  · split at hM
    · split at hM
      · rename_i hrs
        split at hM
        · injection hM with hM
          subst hM
          refine ⟨fun r h => ?_, fun p hp => by simp at hp; subst hp; exact .inr (List.mem_singleton.2 rfl)⟩
          rw [List.mem_singleton.1 h]
          exact ⟨by rw [hrs]; simp, _, List.mem_cons_self, rfl⟩
        · cases hM
      · cases hM
    · cases hM
  · cases hM
end Go.FE
namespace Go.FE
open Go.RowKit
def makeA (P : Program) (id : Path) (t : TypeId) (l c : AV) : Option Eff :=
  match sliceElem P t, l, c with
  | some (e, sz), .v (.int _ L), .v (.int _ C) => match infoT P e, zeroT P e with
    | some (sz', bytes, _), some zs => if sz' = sz ∧ zs.length = sz ∧ 0 < sz ∧ zs.all okV = true ∧ 0 ≤ C ∧ bytes * C.toNat ≤ 281474976710656 ∧ C.toNat ≤ 9223372036854775807 then
        (if L = 0 then some ⟨.sl [] (some ((id, 0), 0)), [((id, 0), .tok 0 e sz)], []⟩
         else if L = C then some ⟨.sl (List.replicate C.toNat (zs.map fun z => nrm (.v z))) (some ((id, 0), 0)), [((id, 0), .tok 0 e sz)], []⟩ else none)
      else none
    | _, _ => none
  | _, _, _ => none
theorem makeA_sound {P : Program} {B w0 tm a E} (S : Sim B w0 tm E a) (id : Path) (hf : Fresh E.U id 0) (t : TypeId) (l c : AV) (x y : Value) (hx : VR E l x) (hy : VR E c y) {e : Eff} (h : makeA P id t l c = some e) :
    ∃ z E', (Instr.makeSlice t x y).run P E.w = .ok z E'.w ∧ Sim B w0 tm E' a ∧ VR E' e.val z ∧ E'.rs = wrs E.rs e.wr ∧ (∀ r, E'.U r → E.U r ∨ r.1 = id) := by
  unfold makeA at h
  split at h
  · rename_i el sz kl L kc C hse
    obtain ⟨rfl, _⟩ := CR.v_inv hx
    obtain ⟨rfl, _⟩ := CR.v_inv hy
    unfold sliceElem at hse
    split at hse
    · rename_i e' hu
      obtain ⟨n', hn', he'⟩ := Option.map_eq_some_iff.1 hse
      injection he' with he1 he2
      subst he1 he2
      split at h
      · rename_i sz' bytes zz zs hi hz
        split at h
        · rename_i hcond
          obtain ⟨rfl, hzl, hsz, hok, hC, hb, hm⟩ := hcond
          unfold infoT at hi
          obtain ⟨it, hit, hii⟩ := Option.map_eq_some_iff.1 hi
          simp only [Prod.mk.injEq] at hii
          obtain ⟨hi1, hi2, hi3⟩ := hii
          unfold zeroT at hz
          obtain ⟨it', hit', hz⟩ := Option.bind_eq_some_iff.1 hz
          rw [hit] at hit'
          injection hit' with hit'
          subst hit'
          obtain ⟨z, hz2, rfl⟩ := Option.map_eq_some_iff.1 hz
          obtain ⟨n, rfl⟩ := Int.eq_ofNat_of_zero_le hC
          simp only [Int.toNat_natCast] at hb hm h
          split at h
          · rename_i hL
            subst hL
            injection h with h
            subst h
            obtain ⟨w', h1, h2, h3⟩ := run_make_own (P := P) E.w B t e' it z _ hu hit hz2 hi1 kl kc n (by rw [hi2]; exact hb) hm S.hB
            obtain ⟨E', e1, e2, e3, e4, e5⟩ := newrow2 S (id, 0) (hf 0 (Nat.le_refl _)) e' _ 0 n [] w' h2 h3 [] rfl (fun _ h => by cases h) (fun _ _ _ _ h => by simp at h)
            exact ⟨_, E', by rw [e1]; exact h1, e2, e3, e4, fun r h => (e5 r h).imp (fun h => h) (fun h => by rw [h])⟩
          · split at h
            · rename_i hL
              subst hL
              injection h with h
              subst h
              obtain ⟨w', h1, h2, h3⟩ := run_make_full (P := P) E.w B t e' it z _ hu hit hz2 hi1 kl kc n (by rw [hi2]; exact hb) hm S.hB
              have hcells : (madeCells z.cells (n * sz')).toList = (List.replicate n z.cells.toList).flatten := by
                rw [← zero_row z.cells.toList n (by rw [hzl]; exact hsz), hzl]
                rfl
              obtain ⟨E', e1, e2, e3, e4, e5⟩ := newrow2 S (id, 0) (hf 0 (Nat.le_refl _)) e' _ n n _ w' h2 h3 (List.replicate n (z.cells.toList.map fun z => nrm (.v z))) (by simp) (fun cs hcs => by
                  rw [(List.mem_replicate.1 hcs).2, List.length_map]; exact hzl) (fun j cs i q hj hi => by
                  have hjl : j < n := by have := (List.getElem?_eq_some_iff.1 hj).1; simpa using this
                  have hcs := (List.mem_replicate.1 (List.mem_of_getElem? hj)).2
                  subst hcs
                  rw [List.getElem?_map] at hi
                  obtain ⟨u, hu1, rfl⟩ := Option.map_eq_some_iff.1 hi
                  have hil : i < sz' := by rw [← hzl]; exact (List.getElem?_eq_some_iff.1 hu1).1
                  have hg := flatten_get sz' (List.replicate n z.cells.toList) (fun cs hcs => by rw [(List.mem_replicate.1 hcs).2]; exact hzl) j i hil
                  have huok : okV u = true := List.all_eq_true.1 hok u (List.mem_of_getElem? hu1)
                  refine ⟨u, ?_, okV_one huok, (CR.v huok).nrm⟩
                  rw [hcells, hg]
                  simp only [List.getElem?_replicate, hjl, if_true, Option.bind_some]
                  exact hu1)
              exact ⟨_, E', by rw [e1]; exact h1, e2, by simpa using e3, e4, fun r h => (e5 r h).imp (fun h => h) (fun h => by rw [h])⟩
            · cases h
        · cases h
      · cases h
    · cases hse
  · cases h
def sameT : Operand → Operand → Bool
  | .tmp a, .tmp b => a == b
  | _, _ => false
theorem sameT_eq {l c : Operand} (h : sameT l c = true) : l = c := by
  unfold sameT at h
  split at h
  · simp at h; rw [h]
  · cases h
def stepM (P : Program) (tm : List AV) (rs : Rid → Res) (id : Path) (o : Oper) : Option Eff :=
  match o.op with
  | .assign x | .move x => match ev tm x with
    | .v (.slice none 0 0) => (one1 P id 0 o.type (.v (.slice none 0 0))).map fun r => ⟨r.1, r.2, []⟩
    | _ => none
  | .load t x => match ev tm x with
    | .vp vid off => match rs vid with
      | .var _ cells => (partV P t cells off).map fun q => ⟨q, [], [vid]⟩
      | _ => none
    | .ap aid s j k => match rs aid with
      | .arr s' e sz rows => if s' = s then (match rows[j]? with
        | some cs => (partV P t cs k).map fun q => ⟨q, [], [aid]⟩
        | none => none) else none
      | _ => none
    | _ => none
  | .store t x y => match ev tm x with
    | .vp vid off => storeA P rs id t vid off (ev tm y)
    | .ap aid s j k => storeP P rs id t aid s j k (ev tm y)
    | _ => none
  | .binOp op t x y _ => (eqB P op t (ev tm x) (ev tm y)).map fun q => ⟨q, [], []⟩
  | .slice t x none (some hi) (some mx) => (cut0 P t (ev tm x) (ev tm hi) (ev tm mx)).map fun q => ⟨q, [], []⟩
  | .nilCheck x => match ev tm x with
    | .v (.func (.func f) a b) => some ⟨.v (.func (.func f) a b), [], []⟩
    | .vp r o => some ⟨.vp r o, [], []⟩
    | _ => none
  | .makeMap t none => match mapTy P t with
    | some (k, e, b) => some ⟨.mp (id, 0), [((id, 0), .map k e b fun _ => none)], []⟩
    | none => none
  | .lookup t x i ok => lookA P rs t (ev tm x) (ev tm i) ok
  | .mapUpdate t x i v => updA P rs t (ev tm x) (ev tm i) (ev tm v)
  | .box t x => boxA P id t (ev tm x)
  | .alloc t => allocA P id t
  | .buildSlice t len ps => rowA P id t len (ps.toList.map fun p => (p.1, (ev tm p.2).content))
  | .makeSlice t l c => if sameT l c = true then makeR P id t (ev tm l) else makeA P id t (ev tm l) (ev tm c)
  | .call c => match c.callee with
    | .builtin .append => match appA P rs id c.argTypes.toList (c.args.toList.map (ev tm)) with
      | some e => some e
      | none => match appR P rs id c.argTypes.toList (c.args.toList.map (ev tm)) with
        | some e => some e
        | none => appS P rs c.argTypes.toList (c.args.toList.map (ev tm))
    | _ => none
  | _ => none
def step (P : Program) (tm : List AV) (rs : Rid → Res) (id : Path) (o : Oper) : Option Eff :=
  match stepM P tm rs id o with
  | some e => some e
  | none => (stepP P tm o).map fun q => ⟨q, [], []⟩
/-- What an operation's run comes to. -/
def Does (P : Program) (B : Nat) (w0 : Env) (tm : List AV) (E : Env) (a : Act) (id : Path) (o : Oper) (e : Eff) : Prop :=
  ∃ nx E', (execOp a.eval o).run P E.w = .ok nx E'.w ∧ Sim B w0 tm E' a ∧ ((∃ z, nx = .value z ∧ VR E' e.val z) ∨ (nx = .skip ∧ e.val = .und)) ∧ E'.rs = wrs E.rs e.wr ∧ (∀ r, E'.U r → E.U r ∨ r.1 = id)
theorem step_sound {P : Program} {B w0 tm a E} (S : Sim B w0 tm E a) (id : Path) (hf : Fresh E.U id 0) (o : Oper) {e : Eff} (h : step P tm E.rs id o = some e) : Does P B w0 tm E a id o e := by
  have H := fun x => ev_sound S x
  unfold step at h
  split at h
  · rename_i e' hM
    injection h with h
    subst h
    obtain ⟨dst, op, type, pos, after, guard⟩ := o
    unfold stepM at hM
    cases op <;> simp only at hM <;> try (cases hM; done)
    case move x =>
      split at hM
      · rename_i he
        obtain ⟨r, hr, rfl⟩ := Option.map_eq_some_iff.1 hM
        have hx := H x
        rw [he] at hx
        obtain ⟨E', h1, _, hw, _, _, h5, h6, h7, _⟩ := one1_sound S id 0 (hf 0 (Nat.le_refl _)) type _ (a.eval x) hx hr
        exact ⟨_, E', by simp [execOp, hw], h1, .inl ⟨_, rfl, h7⟩, h5, fun r h => (h6 r h).imp (fun h => h) (fun h => by rw [h])⟩
      · cases hM
    case assign x =>
      split at hM
      · rename_i he
        obtain ⟨r, hr, rfl⟩ := Option.map_eq_some_iff.1 hM
        have hx := H x
        rw [he] at hx
        obtain ⟨E', h1, _, hw, _, _, h5, h6, h7, _⟩ := one1_sound S id 0 (hf 0 (Nat.le_refl _)) type _ (a.eval x) hx hr
        exact ⟨_, E', by simp [execOp, hw], h1, .inl ⟨_, rfl, h7⟩, h5, fun r h => (h6 r h).imp (fun h => h) (fun h => by rw [h])⟩
      · cases hM
    case load t x =>
      split at hM
      · rename_i vid off he
        split at hM
        · rename_i cells hrs
          obtain ⟨q, hq, rfl⟩ := Option.map_eq_some_iff.1 hM
          have hx := H x
          rw [he] at hx
          obtain ⟨z, h1, h2⟩ := loadV_sound S t vid off _ hx cells hrs hq
          exact ⟨.value z, E, by simp [execOp, h1], S, .inl ⟨z, rfl, h2⟩, rfl, fun r h => .inl h⟩
        · cases hM
      · rename_i aid s j k he
        split at hM
        · rename_i s' el sz rows hrs
          split at hM
          · rename_i hss
            subst hss
            split at hM
            · rename_i cs hj
              obtain ⟨q, hq, rfl⟩ := Option.map_eq_some_iff.1 hM
              have hx := H x
              rw [he] at hx
              obtain ⟨z, h1, h2⟩ := loadP_sound S t aid s' j k _ hx hrs hj hq
              exact ⟨.value z, E, by simp [execOp, h1], S, .inl ⟨z, rfl, h2⟩, rfl, fun r h => .inl h⟩
            · cases hM
          · cases hM
        · cases hM
      · cases hM
    case binOp op t x y yt =>
      obtain ⟨q, hq, rfl⟩ := Option.map_eq_some_iff.1 hM
      obtain ⟨z, h1, h2⟩ := eqB_sound (P := P) (E := E) (op := op) (t := t) (ox := x) (oy := y) (H x) (H y) hq
      refine ⟨.value z, E, ?_, S, .inl ⟨z, rfl, h2⟩, rfl, fun r h => .inl h⟩
      have h1' : ((eqGuard op t x y (a.eval x) (a.eval y)).run P E.w).andThen (fun _ w => (binOp op t (a.eval x) (a.eval y)).run P w) = .ok z E.w := by
        simpa [Sem.run_bind] using h1
      cases hg : (eqGuard op t x y (a.eval x) (a.eval y)).run P E.w with
      | ok u w1 =>
        rw [hg] at h1'
        simp only [Result.andThen_ok] at h1'
        simp [execOp, hg, h1']
      | halt u w1 => rw [hg] at h1'; cases h1'
    case slice t x lo hi mx =>
      cases lo with
      | some _ => cases hM
      | none =>
        cases hi with
        | none => cases hM
        | some hi =>
          cases mx with
          | none => cases hM
          | some mx =>
            obtain ⟨q, hq, rfl⟩ := Option.map_eq_some_iff.1 hM
            obtain ⟨z, h1, h2⟩ := cut0_sound (P := P) (E := E) (H x) (H hi) (H mx) hq
            exact ⟨.value z, E, by simp [execOp, h1], S, .inl ⟨z, rfl, h2⟩, rfl, fun r h => .inl h⟩
    case nilCheck x =>
      split at hM
      · rename_i f fa fb he
        injection hM with hM
        subst hM
        have hx := H x
        rw [he] at hx
        obtain ⟨hx, hok⟩ := CR.v_inv hx
        exact ⟨.value _, E, by simp [execOp, hx], S, .inl ⟨_, rfl, VR.v hok⟩, rfl, fun r h => .inl h⟩
      · rename_i r o he
        injection hM with hM
        subst hM
        have hx := H x
        rw [he] at hx
        exact ⟨.value _, E, by simp [execOp, hx.2], S, .inl ⟨_, rfl, hx⟩, rfl, fun r h => .inl h⟩
      · cases hM
    case makeMap t r =>
      cases r with
      | some _ => cases hM
      | none =>
        simp only at hM
        split at hM
        · rename_i k e b ht
          injection hM with hM
          subst hM
          obtain ⟨E', h1, h2, h3, h4, h5⟩ := S.newmap (id, 0) (hf 0 (Nat.le_refl _)) k e b
          refine ⟨.value (.map (some E.w.heap.size)), E', ?_, h2, .inl ⟨_, rfl, h3⟩, h4, fun r h => (h5 r h).imp (fun h => h) (fun h => by rw [h])⟩
          rw [h1]
          simp [execOp, Instr.makeMap, newObj]
          rfl
        · cases hM
    case lookup t x i ok =>
      obtain ⟨z, h1, h2, h3⟩ := lookA_sound (P := P) S (H x) (H i) hM
      exact ⟨.value z, E, by simp [execOp, h1], S, .inl ⟨z, rfl, h2⟩, by rw [h3]; rfl, fun r h => .inl h⟩
    case mapUpdate t x i v =>
      obtain ⟨E', h1, h2, h3, h4, h5⟩ := updA_sound (P := P) S (H x) (H i) (H v) hM
      exact ⟨.skip, E', by simp [execOp, h1], h2, .inr ⟨rfl, h3⟩, h4, fun r h => .inl (h5 ▸ h)⟩
    case store t x y =>
      split at hM
      · rename_i vid off he
        have hx := H x
        rw [he] at hx
        obtain ⟨E', h1, h2, h3, h4, h5⟩ := storeA_sound S id hf t vid off _ _ _ hx (H y) hM
        exact ⟨.skip, E', by simp [execOp, h1], h2, .inr ⟨rfl, h3⟩, h4, h5⟩
      · rename_i aid s j k he
        have hx := H x
        rw [he] at hx
        obtain ⟨E', h1, h2, h3, h4, h5⟩ := storeP_sound S id hf t aid s j k _ _ _ hx (H y) hM
        exact ⟨.skip, E', by simp [execOp, h1], h2, .inr ⟨rfl, h3⟩, h4, h5⟩
      · cases hM
    case box t x =>
      obtain ⟨z, E', h1, h2, h3, h4, h5⟩ := boxA_sound (P := P) S id hf t _ _ (H x) hM
      exact ⟨.value z, E', by simp [execOp, h1], h2, .inl ⟨z, rfl, h3⟩, h4, h5⟩
    case alloc t =>
      obtain ⟨z, E', h1, h2, h3, h4, h5⟩ := allocA_sound S id hf t hM
      exact ⟨.value z, E', by simp [execOp, h1], h2, .inl ⟨z, rfl, h3⟩, h4, h5⟩
    case buildSlice t len ps =>
      obtain ⟨z, E', h1, h2, h3, h4, h5⟩ := rowA_sound S id hf t len _ (ps.map fun p => (p.1, a.eval p.2)) (by simp) (fun j i q i' x hj hp => by
        simp only [List.getElem?_map, Array.toList_map] at hj hp
        obtain ⟨p, hp1, hp2⟩ := Option.map_eq_some_iff.1 hj
        rw [hp1] at hp
        simp only [Option.map_some, Option.some.injEq, Prod.mk.injEq] at hp hp2
        obtain ⟨rfl, rfl⟩ := hp
        obtain ⟨rfl, rfl⟩ := hp2
        exact ⟨rfl, content_CR (H _)⟩) hM
      exact ⟨.value z, E', by simp [execOp, h1], h2, .inl ⟨z, rfl, h3⟩, h4, h5⟩
    case makeSlice t l c =>
      split at hM
      · rename_i hsame
        have := sameT_eq hsame
        subst this
        obtain ⟨z, E', h1, h2, h3, h4, h5⟩ := makeR_sound S id hf t _ _ (H l) hM
        exact ⟨.value z, E', by simp [execOp, h1], h2, .inl ⟨z, rfl, h3⟩, h4, h5⟩
      · obtain ⟨z, E', h1, h2, h3, h4, h5⟩ := makeA_sound S id hf t _ _ _ _ (H l) (H c) hM
        exact ⟨.value z, E', by simp [execOp, h1], h2, .inl ⟨z, rfl, h3⟩, h4, h5⟩
    case call c =>
      obtain ⟨callee, args, ts⟩ := c
      simp only at hM
      split at hM
      · have ha : (args.toList.map a.eval).toArray = args.map a.eval := by apply Array.ext'; simp
        split at hM
        · rename_i e0 hA
          injection hM with hM
          subst hM
          obtain ⟨z, E', h1, h2, h3, h4, h5⟩ := appA_sound S id hf ts type args.toList hA
          refine ⟨.value z, E', ?_, h2, .inl ⟨z, rfl, h3⟩, h4, h5⟩
          rw [ha] at h1
          simp only [execOp, resolve, invoke, builtin, Sem.run_bind, Sem.run_pure, Result.andThen_ok]
          rw [h1]
          rfl
        · split at hM
          · rename_i e0 hR
            injection hM with hM
            subst hM
            obtain ⟨z, E', h1, h2, h3, h4, h5⟩ := appR_sound S id hf ts type args.toList hR
            refine ⟨.value z, E', ?_, h2, .inl ⟨z, rfl, h3⟩, h4, h5⟩
            rw [ha] at h1
            simp only [execOp, resolve, invoke, builtin, Sem.run_bind, Sem.run_pure, Result.andThen_ok]
            rw [h1]
            rfl
          · obtain ⟨z, E', h1, h2, h3, h4, h5⟩ := appS_sound S ts type args.toList hM
            refine ⟨.value z, E', ?_, h2, .inl ⟨z, rfl, h3⟩, h4, fun r h => .inl (h5 ▸ h)⟩
            rw [ha] at h1
            simp only [execOp, resolve, invoke, builtin, Sem.run_bind, Sem.run_pure, Result.andThen_ok]
            rw [h1]
            rfl
      · cases hM
  · obtain ⟨q, hq, rfl⟩ := Option.map_eq_some_iff.1 h
    obtain ⟨z, h1, h2⟩ := stepP_sound S hq
    exact ⟨.value z, E, h1, S, .inl ⟨z, rfl, h2⟩, rfl, fun r h => .inl h⟩
end Go.FE
