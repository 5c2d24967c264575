/- A region whose order is open: the theorem. Code, region by region. Steps that the machine does not see: a row is no longer written to; an empty row may be; a row is told by another name. -/
import Derived.LoopN
import Derived.Scope
import Derived.Test.YtmblejfjbnoodaaGreatDoorN06
set_option linter.unusedVariables false
set_option linter.unusedSimpArgs false
namespace Go.FE
open Go.RowKit
theorem fB_congr : ∀ (L : List (Oper × Eff)) (b b' : Nat → Bool) (k : Nat) (s : S2), (∀ j, j < L.length → b (k + j) = b' (k + j)) → fB b k L s = fB b' k L s
  | [], _, _, _, _, _ => rfl
  | p :: l, b, b', k, s, h => by
    unfold fB
    have h0 := h 0 (by simp)
    simp only [Nat.add_zero] at h0
    rw [h0]
    exact fB_congr l b b' (k + 1) _ (fun j hj => by have := h (j + 1) (by simp; omega); rwa [show k + (j + 1) = k + 1 + j by omega] at this)
theorem fB_none : ∀ (L : List (Oper × Eff)) (k : Nat) (s : S2), fB (fun _ => false) k L s = s
  | [], _, _ => rfl
  | p :: l, k, s => by unfold fB; simp only [Bool.false_eq_true, if_false]; exact fB_none l _ _
theorem ev_congr {tm tm' : List AV} {o : Oper} {ops : Array Oper} (h : ∀ t ∈ o.looksAt ops, tm[t]? = tm'[t]?) : ∀ x ∈ o.op.operands, ev tm x = ev tm' x := by
  intro x hx
  cases x with
  | tmp t =>
    have ht : t ∈ o.looksAt ops := by
      unfold Oper.looksAt
      refine List.mem_append_left _ (List.mem_filterMap.2 ⟨.tmp t, by simpa using hx, rfl⟩)
    simp only [ev, List.getD_eq_getElem?_getD, h t ht]
  | const x => rfl
  | func f => rfl
  | global g => rfl
theorem gOf_congr {tm tm' : List AV} {o : Oper} {ops : Array Oper} (h : ∀ t ∈ o.looksAt ops, tm[t]? = tm'[t]?) : gOf ops.toList tm o = gOf ops.toList tm' o := by
  unfold gOf
  cases hg : o.guard with
  | none => rfl
  | some p =>
    obtain ⟨j, want⟩ := p
    simp only
    cases hd : (ops.toList[j]?).bind (·.dst) with
    | none => rfl
    | some d =>
      have ht : d ∈ o.looksAt ops := by
        unfold Oper.looksAt
        refine List.mem_append_right _ ?_
        rw [hg]
        rw [Array.getElem?_toList] at hd
        simp [hd]
      simp only [List.getD_eq_getElem?_getD, h d ht]
section
variable {P : Program} {ops : Array Oper} {p : Path} {Qs : List Nat} {nx : Nat} {tm tm' : List AV} {rs rs' : Rid → Res} {tr : List Eff}
/-- The state of the text's order before number k. -/
def DT (ops : Array Oper) (tm : List AV) (rs : Rid → Res) (tr : List Eff) (k : Nat) : S2 := fB (fun j => decide (j < k)) 0 (ops.toList.zip tr) (tm, rs)
def DB (ops : Array Oper) (tm : List AV) (rs : Rid → Res) (tr : List Eff) (b : Nat → Bool) : S2 := fB b 0 (ops.toList.zip tr) (tm, rs)
theorem zip_at {j : Nat} {p : Oper × Eff} (h : (ops.toList.zip tr)[j]? = some p) : ops[j]? = some p.1 ∧ tr[j]? = some p.2 := by
  rw [List.getElem?_zip_eq_some] at h
  exact ⟨by rw [← Array.getElem?_toList]; exact h.1, h.2⟩
/-- What the text's order tells of an effect. -/
structure Told (P : Program) (ops : Array Oper) (p : Path) (Qs : List Nat) (nx : Nat) (tm : List AV) (rs : Rid → Res) (tr : List Eff) (k : Nat) (o : Oper) (e : Eff) : Prop where
  run : ∃ c, gOf ops.toList (DT ops tm rs tr k).1 o = some c ∧ (c = false → e = skipE) ∧ (c = true → Good P (Qs.contains k) (DT ops tm rs tr k).1 (DT ops tm rs tr k).2 ((nx + k) :: p) o e)
  tch : ∀ r ∈ e.tch, loud (Qs.contains k) o ≠ 0 ∧ (DT ops tm rs tr k).2 r ≠ .dead
  near : k ∈ Qs ∨ ∀ r ∈ e.tch, ∃ x ∈ o.op.operands, (ev (DT ops tm rs tr k).1 x).owner = some r
  wr : ∀ r, r ∈ keys e → Under ((nx + k) :: p) r ∨ (r ∈ e.tch ∧ loud (Qs.contains k) o = 2)
theorem told (h : Runs P ops.toList p nx Qs 0 ops.toList tm rs tm' rs' tr) {k : Nat} {o : Oper} {e : Eff} (ho : ops[k]? = some o) (he : tr[k]? = some e) : Told P ops p Qs nx tm rs tr k o e := by
  obtain ⟨_, _, h3⟩ := h.at
  obtain ⟨c, h4, h5, h6⟩ := h3 k o e (by rw [Array.getElem?_toList]; exact ho) he
  rw [Nat.zero_add] at h6
  refine ⟨⟨c, h4, h5, h6⟩, ?_, ?_, ?_⟩
  · intro r hr
    cases c with
    | false => rw [h5 rfl] at hr; cases hr
    | true => exact (h6 rfl).tch r hr
  · cases c with
    | false => rw [h5 rfl]; exact .inr fun r hr => (by cases hr)
    | true =>
      rcases (h6 rfl).near with h | h
      · exact .inl (by simpa using h)
      · exact .inr h
  · intro r hr
    cases c with
    | false => rw [h5 rfl] at hr; cases hr
    | true => exact (h6 rfl).wr r hr
/-- What is alive in the text's order has been made. -/
theorem alive (h : Runs P ops.toList p nx Qs 0 ops.toList tm rs tm' rs' tr) (hd : ∀ r, rs r ≠ .dead → ∀ m, Under (m :: p) r → m < nx) : ∀ k r, (DT ops tm rs tr k).2 r ≠ .dead → ∀ m, Under (m :: p) r → m < nx + k := by
  intro k
  induction k using Nat.strongRecOn with
  | _ k ih =>
    intro r hr m hm
    by_cases hex : ∃ j q, j < k ∧ (ops.toList.zip tr)[j]? = some q ∧ r ∈ keys q.2
    · obtain ⟨j, q, hj, hp, hk⟩ := hex
      obtain ⟨h1, h2⟩ := zip_at hp
      have T := told h h1 h2
      rcases T.wr r hk with h3 | ⟨h3, _⟩
      · obtain ⟨q1, e1⟩ := hm
        obtain ⟨q2, e2⟩ := h3
        rw [e1] at e2
        have := under_inj e2
        omega
      · have := ih j hj r (T.tch r h3).2 m hm
        omega
    · have : (DT ops tm rs tr k).2 r = rs r := by
        unfold DT
        rw [fB_res r (ops.toList.zip tr) (fun j => decide (j < k)) (fun _ => false) 0 (tm, rs) (tm, rs) (fun j q hj hk => by
          simp only [Nat.zero_add, decide_eq_false_iff_not]
          exact fun hlt => hex ⟨j, q, hlt, hj, hk⟩) rfl, fB_none]
      rw [this] at hr
      have := hd r hr m hm
      omega
theorem pair_at {i j : Nat} {oi oj : Oper} (hok : drawOK ops Qs = true) (hij : i < j) (hi : ops[i]? = some oi) (hj : ops[j]? = some oj) :
    ((anc ops.toList ops.size).getD j 0).testBit i = true ∨ (oi.apart ops oj = true ∧ ((¬ (loud (Qs.contains i) oi = 2 ∧ loud (Qs.contains j) oj ≠ 0) ∧ ¬ (loud (Qs.contains j) oj = 2 ∧ loud (Qs.contains i) oi ≠ 0)) ∨ marks Qs i j = true)) := by
  unfold drawOK at hok
  have h1 := List.all_eq_true.1 hok j (List.mem_range.2 (Array.getElem?_eq_some_iff.1 hj).1)
  rw [hj] at h1
  simp only [Bool.and_eq_true] at h1
  have h2 := List.all_eq_true.1 h1.2 i (List.mem_range.2 hij)
  rw [hi] at h2
  simp only [pairOK, Bool.or_eq_true, Bool.and_eq_true, Bool.not_eq_true', Bool.or_eq_false_iff, Bool.and_eq_false_iff, beq_eq_false_iff_ne, bne_eq_false_iff_eq] at h2
  rcases h2 with h2 | ⟨h2, ⟨h3, h4⟩ | h5⟩
  · exact .inl h2
  · exact .inr ⟨h2, .inl ⟨fun h => h3.elim (fun h3 => h3 h.1) h.2, fun h => h4.elim (fun h4 => h4 h.1) h.2⟩⟩
  · exact .inr ⟨h2, .inr h5⟩
theorem edges_lt (hok : drawOK ops Qs = true) : ∀ j o, ops.toList[j]? = some o → ∀ d ∈ edgesOf o, d < j := by
  intro j o ho d hd
  rw [Array.getElem?_toList] at ho
  unfold drawOK at hok
  have h1 := List.all_eq_true.1 hok j (List.mem_range.2 (Array.getElem?_eq_some_iff.1 ho).1)
  rw [ho] at h1
  simp only [Bool.and_eq_true] at h1
  exact of_decide_eq_true (List.all_eq_true.1 h1.1 d hd)
/-- What is in use belongs to what was there, or to what is done. -/
def Usd (ops : Array Oper) (p : Path) (nx : Nat) (b : Nat → Bool) (r : Rid) : Prop := ∀ m, Under (m :: p) r → m < nx ∨ ∃ k, k < ops.size ∧ b k = true ∧ m = nx + k
/-- Where a region whose order is open stands. -/
structure Mid (U0 : Rid → Prop) (P : Program) (ops : Array Oper) (p : Path) (nx : Nat) (tm : List AV) (rs : Rid → Res) (tr : List Eff) (B : Nat) (w0 : Env) (b : Nat → Bool) (E : Env) (a : Act) : Prop where
  sim : Sim B w0 (DB ops tm rs tr b).1 E a
  rs : E.rs = (DB ops tm rs tr b).2
  clo : ClosedB ops.toList b
  us : ∀ r, E.U r → (U0 r ∨ Under p r) ∧ r.1 ≠ p
  used : ∀ r, E.U r → Usd ops p nx b r
  tch : ∀ j e r, b j = true → j < ops.size → tr[j]? = some e → r ∈ e.tch → Usd ops p nx b r
/-- What a marked operation touches. -/
def Mrk (p : Path) (nx : Nat) (Qs : List Nat) (k : Nat) (e : Eff) : Prop :=
  (Qs.contains (1000000 + k) = true → ∀ r ∈ e.tch, ∃ m, nx ≤ m ∧ Under (m :: p) r) ∧ (Qs.contains (2000000 + k) = true → ∀ r ∈ e.tch, ∀ m, Under (m :: p) r → m < nx)
theorem marks_apart {i j : Nat} {ei ej : Eff} (h : marks Qs i j = true) (hi : Mrk p nx Qs i ei) (hj : Mrk p nx Qs j ej) {r : Rid} (h1 : r ∈ ei.tch) (h2 : r ∈ ej.tch) : False := by
  unfold marks at h
  simp only [Bool.or_eq_true, Bool.and_eq_true] at h
  rcases h with ⟨h3, h4⟩ | ⟨h3, h4⟩
  · obtain ⟨m, h5, h6⟩ := hi.1 h3 r h1
    have := hj.2 h4 r h2 m h6
    omega
  · obtain ⟨m, h5, h6⟩ := hj.1 h4 r h2
    have := hi.2 h3 r h1 m h6
    omega
/-- What a call touches that may touch what is the caller's: it is older than the region, or its maker comes before the call. -/
def OldOK (ops : Array Oper) (p : Path) (nx : Nat) (Qs : List Nat) (tr : List Eff) : Prop :=
  (∀ k e, k ∈ Qs → tr[k]? = some e → ∀ r ∈ e.tch, ∀ m, Under (m :: p) r → m < nx ∨ ∃ j, j < ops.size ∧ ((anc ops.toList ops.size).getD k 0).testBit j = true ∧ m = nx + j) ∧ ∀ k e, tr[k]? = some e → Mrk p nx Qs k e
variable {U0 : Rid → Prop} {B : Nat} {w0 : Env} {b : Nat → Bool} {E : Env} {a : Act}
theorem anc_b (hM : Mid U0 P ops p nx tm rs tr B w0 b E a) {i j : Nat} {oj : Oper} (hj : ops[j]? = some oj) (he : ∀ d ∈ edgesOf oj, b d = true) (h : ((anc ops.toList ops.size).getD j 0).testBit i = true) : b i = true :=
  anc_closed hM.clo j (Array.getElem?_eq_some_iff.1 hj).1 oj (by rw [Array.getElem?_toList]; exact hj) he i h
theorem looks_same (hok : drawOK ops Qs = true) (hM : Mid U0 P ops p nx tm rs tr B w0 b E a) {i : Nat} {oi : Oper} (hi : ops[i]? = some oi) (he : ∀ d ∈ edgesOf oi, b d = true) (hbi : b i = false) :
    ∀ t ∈ oi.looksAt ops, (DB ops tm rs tr b).1[t]? = (DT ops tm rs tr i).1[t]? := by
  intro t ht
  refine fB_slot t _ _ _ 0 _ _ (fun j p hj hd => ?_) rfl rfl
  simp only [Nat.zero_add]
  obtain ⟨h1, _⟩ := zip_at hj
  rcases Nat.lt_trichotomy j i with hji | rfl | hji
  · rw [decide_eq_true hji]
    rcases pair_at hok hji h1 hi with h | ⟨h, _⟩
    · exact anc_b hM hi he h
    · exact absurd ht ((Oper.apart_spec h).1 t hd)
  · rw [hbi]; simp
  · rw [decide_eq_false (by omega)]
    cases hbj : b j with
    | false => rfl
    | true =>
      rcases pair_at hok hji hi h1 with h | ⟨h, _⟩
      · have := anc_b hM h1 (hM.clo j p.1 (by rw [Array.getElem?_toList]; exact h1) hbj) h
        rw [hbi] at this; cases this
      · exact absurd ht ((Oper.apart_spec h).2.2 t hd)
theorem tch_used (hok : drawOK ops Qs = true) (hO : OldOK ops p nx Qs tr) (hR : Runs P ops.toList p nx Qs 0 ops.toList tm rs tm' rs' tr) (hM : Mid U0 P ops p nx tm rs tr B w0 b E a) {i : Nat} {oi : Oper} {e : Eff} (hi : ops[i]? = some oi) (hei : tr[i]? = some e)
    (he : ∀ d ∈ edgesOf oi, b d = true) (hbi : b i = false) {r : Rid} (hr : r ∈ e.tch) : Usd ops p nx b r := by
  rcases (told hR hi hei).near with hq | hnear
  · intro m hm
    rcases hO.1 i e hq hei r hr m hm with h | ⟨j, h1, h2, h3⟩
    · exact .inl h
    · exact .inr ⟨j, h1, anc_b hM hi he h2, h3⟩
  · obtain ⟨x, hx, hv⟩ := hnear r hr
    have hev := ev_congr (ops := ops) (o := oi) (looks_same hok hM hi he hbi) x hx
    rw [← hev] at hv
    have hS := ev_sound hM.sim x
    exact hM.used r (hS.owned hv)
theorem tch_same (hok : drawOK ops Qs = true) (hO : OldOK ops p nx Qs tr) (hd : ∀ r, rs r ≠ .dead → ∀ m, Under (m :: p) r → m < nx) (hR : Runs P ops.toList p nx Qs 0 ops.toList tm rs tm' rs' tr) (hM : Mid U0 P ops p nx tm rs tr B w0 b E a) {i : Nat} {oi : Oper} {e : Eff} (hi : ops[i]? = some oi) (hei : tr[i]? = some e)
    (he : ∀ d ∈ edgesOf oi, b d = true) (hbi : b i = false) {r : Rid} (hr : r ∈ e.tch) : (DB ops tm rs tr b).2 r = (DT ops tm rs tr i).2 r := by
  obtain ⟨hl, hal⟩ := (told hR hi hei).tch r hr
  refine fB_res r _ _ _ 0 _ _ (fun j q hj hk => ?_) rfl
  simp only [Nat.zero_add]
  obtain ⟨h1, h2⟩ := zip_at hj
  have T := told hR h1 h2
  rcases Nat.lt_trichotomy j i with hji | rfl | hji
  · rw [decide_eq_true hji]
    rcases pair_at hok hji h1 hi with h | ⟨_, h⟩
    · exact anc_b hM hi he h
    · rcases T.wr r hk with h3 | ⟨h3', h3⟩
      · rcases tch_used hok hO hR hM hi hei he hbi hr _ h3 with h4 | ⟨k, _, h4, h5⟩
        · omega
        · have : k = j := by omega
          subst this
          exact h4
      · rcases h with h | h
        · exact absurd ⟨h3, hl⟩ h.1
        · exact (marks_apart h (hO.2 j _ h2) (hO.2 i _ hei) h3' hr).elim
  · rw [hbi]; simp
  · rw [decide_eq_false (by omega)]
    cases hbj : b j with
    | false => rfl
    | true =>
      rcases pair_at hok hji hi h1 with h | ⟨_, h⟩
      · have := anc_b hM h1 (hM.clo j q.1 (by rw [Array.getElem?_toList]; exact h1) hbj) h
        rw [hbi] at this; cases this
      · rcases T.wr r hk with h3 | ⟨h3', h3⟩
        · have := alive hR hd i r hal _ h3
          omega
        · rcases h with h | h
          · exact absurd ⟨h3, hl⟩ h.2
          · exact (marks_apart h (hO.2 i _ hei) (hO.2 j _ h2) hr h3').elim
theorem zip_mk {j : Nat} {o : Oper} {e : Eff} (h1 : ops[j]? = some o) (h2 : tr[j]? = some e) : (ops.toList.zip tr)[j]? = some (o, e) := by
  rw [List.getElem?_zip_eq_some]
  exact ⟨by rw [Array.getElem?_toList]; exact h1, h2⟩
/-- One more is done. -/
theorem done_one (hok : drawOK ops Qs = true) (hO : OldOK ops p nx Qs tr) (hd : ∀ r, rs r ≠ .dead → ∀ m, Under (m :: p) r → m < nx) (hR : Runs P ops.toList p nx Qs 0 ops.toList tm rs tm' rs' tr) (hM : Mid U0 P ops p nx tm rs tr B w0 b E a) {i : Nat} {oi : Oper} {e : Eff} (hi : ops[i]? = some oi) (hei : tr[i]? = some e)
    (hbi : b i = false) {b' : Nat → Bool} (hb' : ∀ j, b' j = if j = i then true else b j) : DB ops tm rs tr b' = app1 (DB ops tm rs tr b) oi e := by
  have hz := zip_mk hi hei
  have hne : ∀ j, j ≠ i → b' j = b j := fun j hj => by rw [hb', if_neg hj]
  have hlate : ∀ j q, i < j → (ops.toList.zip tr)[j]? = some q → b j = true → ¬ ((anc ops.toList ops.size).getD j 0).testBit i = true := fun j q hij hq hbj h => by
    have := anc_b hM (zip_at hq).1 (hM.clo j q.1 (by rw [Array.getElem?_toList]; exact (zip_at hq).1) hbj) h
    rw [hbi] at this; cases this
  refine Prod.ext (List.ext_getElem? fun t => ?_) (funext fun r => ?_)
  · by_cases hdt : oi.dst = some t
    · have h1 := fB_slot_last t b' (ops.toList.zip tr) 0 (tm, rs) i (oi, e) hz hdt (by simp [hb']) (fun j q hij hq hqd => by
        simp only [Nat.zero_add]
        rw [hne j (by omega)]
        cases hbj : b j with
        | false => rfl
        | true =>
          rcases pair_at hok hij hi (zip_at hq).1 with h | ⟨h, _⟩
          · exact absurd h (hlate j q hij hq hbj)
          · exact absurd hqd ((Oper.apart_spec h).2.1 t hdt))
      unfold DB
      rw [h1]
      simp only [app1, hdt, putD_self, fB_len]
    · have h1 := fB_slot t (ops.toList.zip tr) b' b 0 (tm, rs) (tm, rs) (fun j p hj hp => by
        simp only [Nat.zero_add]
        refine hne j (fun e => hdt ?_)
        subst e
        rw [hz] at hj
        injection hj with hj
        subst hj
        exact hp) rfl rfl
      unfold DB
      rw [h1]
      simp only [app1, putD_get hdt]
  · by_cases hk : r ∈ keys e
    · have T := told hR hi hei
      have h1 := fB_res_last r b' (DB ops tm rs tr b).2 (ops.toList.zip tr) 0 (tm, rs) i (oi, e) hz hk (by simp [hb']) (fun j q hij hq hqk => by
        simp only [Nat.zero_add]
        rw [hne j (by omega)]
        cases hbj : b j with
        | false => rfl
        | true =>
          rcases pair_at hok hij hi (zip_at hq).1 with h | ⟨_, h⟩
          · exact absurd h (hlate j q hij hq hbj)
          · have Tj := told hR (zip_at hq).1 (zip_at hq).2
            rcases T.wr r hk with h3 | ⟨h3, h4⟩
            · rcases Tj.wr r hqk with h5 | ⟨h5, h6⟩
              · obtain ⟨q1, e1⟩ := h3
                obtain ⟨q2, e2⟩ := h5
                rw [e1] at e2
                have := under_inj e2
                omega
              · rcases hM.tch j q.2 r hbj (Array.getElem?_eq_some_iff.1 (zip_at hq).1).1 (zip_at hq).2 h5 _ h3 with h7 | ⟨k, _, h7, h8⟩
                · omega
                · have : k = i := by omega
                  subst this
                  rw [hbi] at h7; cases h7
            · rcases Tj.wr r hqk with h5 | ⟨h5, h6⟩
              · have := alive hR hd i r (T.tch r h3).2 _ h5
                omega
              · rcases h with h | h
                · exact absurd ⟨h4, (Tj.tch r h5).1⟩ h.1
                · exact (marks_apart h (hO.2 i _ hei) (hO.2 j _ (zip_at hq).2) h3 h5).elim)
      unfold DB
      rw [h1]
      rfl
    · have h1 := fB_res r (ops.toList.zip tr) b' b 0 (tm, rs) (tm, rs) (fun j p hj hp => by
        simp only [Nat.zero_add]
        refine hne j (fun e => hk ?_)
        subst e
        rw [hz] at hj
        injection hj with hj
        subst hj
        exact hp) rfl
      unfold DB
      rw [h1]
      simp only [app1, wrs_out hk]
def lb (listed : Array Bool) (j : Nat) : Bool := listed.getD j true
def left (n : Nat) (b : Nat → Bool) : Nat := (List.range n).countP fun j => !b j
theorem countP_lt {p q : Nat → Bool} : ∀ (l : List Nat) (x : Nat), (∀ y ∈ l, p y = true → q y = true) → x ∈ l → q x = true → p x = false → l.countP p < l.countP q
  | [], x, _, hx, _, _ => by cases hx
  | y :: l, x, h, hx, hq, hp => by
    simp only [List.countP_cons]
    have hle : l.countP p ≤ l.countP q := List.countP_mono_left fun z hz hpz => h z (List.mem_cons_of_mem _ hz) hpz
    rcases List.mem_cons.1 hx with rfl | hx
    · rw [hp, hq]; simp; omega
    · have h1 := countP_lt l x (fun z hz => h z (List.mem_cons_of_mem _ hz)) hx hq hp
      have h2 := h y List.mem_cons_self
      split <;> split <;> simp_all <;> omega
theorem any_wp {Q : Exit → Act → World → Prop} (hok : drawOK ops Qs = true) (hO : OldOK ops p nx Qs tr) (hd : ∀ r, rs r ≠ .dead → ∀ m, Under (m :: p) r → m < nx) (hR : Runs P ops.toList p nx Qs 0 ops.toList tm rs tm' rs' tr)
    (hQ : ∀ E' a', Sim B w0 tm' E' a' → E'.rs = rs' → Bnd p (nx + ops.size) U0 E'.U → Q .normal a' E'.w) :
    ∀ (fuel : Nat) (listed : Array Bool) (a : Act) (E : Env), listed.size = ops.size → left ops.size (lb listed) ≤ fuel → Mid U0 P ops p nx tm rs tr B w0 (lb listed) E a → wpAny P .any ops Q fuel listed a E.w := by
  have hlen := hR.at.1
  have hend : ∀ (listed : Array Bool) (a : Act) (E : Env), (∀ j, j < ops.size → lb listed j = true) → Mid U0 P ops p nx tm rs tr B w0 (lb listed) E a → Q .normal a E.w := by
    intro listed a E hall hM
    have hT : DB ops tm rs tr (lb listed) = (tm', rs') := by
      unfold DB
      rw [fB_congr _ _ (fun _ => true) 0 _ (fun j hj => by
        simp only [Nat.zero_add]
        exact hall j (by simp at hj; omega))]
      exact hR.at.2.1
    have hS := hM.sim
    have hr := hM.rs
    rw [hT] at hS hr
    exact hQ E a hS hr (fun r h => ⟨(hM.us r h).1, fun m hq => by
      rcases hM.used r h m hq with h | ⟨k, h1, _, h2⟩
      · omega
      · omega, (hM.us r h).2⟩)
  have hnone : ∀ (listed : Array Bool), listed.size = ops.size → Region.ready .any ops listed = [] → ∀ j, j < ops.size → lb listed j = true := by
    intro listed hsz hr j
    induction j using Nat.strongRecOn with
    | _ j ih =>
      intro hj
      cases hb : lb listed j with
      | true => rfl
      | false =>
        exfalso
        have ho : ops[j]? = some ops[j] := Array.getElem?_eq_getElem hj
        have : j ∈ Region.ready .any ops listed := by
          rw [mem_ready]
          refine ⟨hb, ops[j], ho, fun e he hbi => ?_⟩
          have hlt := edges_lt hok j ops[j] (by rw [Array.getElem?_toList]; exact ho) e.on (List.mem_map.2 ⟨e, List.mem_filter.2 ⟨by simpa using he, hbi⟩, rfl⟩)
          have := ih e.on hlt (by omega)
          unfold lb at this
          have hl : e.on < listed.size := by omega
          simpa [hl] using this
        rw [hr] at this
        cases this
  intro fuel
  induction fuel with
  | zero =>
    intro listed a E hsz hf hM
    have hall : ∀ j, j < ops.size → lb listed j = true := fun j hj => by
      cases hb : lb listed j with
      | true => rfl
      | false =>
        have : 0 < left ops.size (lb listed) := List.countP_pos_iff.2 ⟨j, List.mem_range.2 hj, by simp [hb]⟩
        omega
    refine ⟨?_, hend listed a E hall hM⟩
    cases hr : Region.ready .any ops listed with
    | nil => rfl
    | cons j l =>
      have : j ∈ Region.ready .any ops listed := by rw [hr]; exact List.mem_cons_self
      obtain ⟨h1, o, ho, _⟩ := mem_ready.1 this
      have h2 := hall j (Array.getElem?_eq_some_iff.1 ho).1
      unfold lb at h2
      rw [h1] at h2; cases h2
  | succ fuel ih =>
    intro listed a E hsz hf hM
    refine ⟨fun h0 => hend listed a E (hnone listed hsz h0) hM, fun i hi => ?_⟩
    obtain ⟨hbi, oi, hoi, hed⟩ := mem_ready.1 hi
    have hil : i < ops.size := (Array.getElem?_eq_some_iff.1 hoi).1
    have hbi' : lb listed i = false := hbi
    have he : ∀ d ∈ edgesOf oi, lb listed d = true := fun d hdm => by
      obtain ⟨x, hx, rfl⟩ := List.mem_map.1 hdm
      obtain ⟨hx1, hx2⟩ := List.mem_filter.1 hx
      have h1 := hed x (by simpa using hx1) hx2
      have hl := edges_lt hok i oi (by rw [Array.getElem?_toList]; exact hoi) x.on hdm
      have hl2 : x.on < listed.size := by omega
      unfold lb
      simpa [hl2] using h1
    have hei : ∃ e, tr[i]? = some e := ⟨tr[i]'(by rw [hlen]; simpa using hil), List.getElem?_eq_getElem _⟩
    obtain ⟨e, hei⟩ := hei
    have T := told hR hoi hei
    have hlook := looks_same hok hM hoi he hbi'
    have hev := ev_congr (ops := ops) (o := oi) hlook
    have hg := gOf_congr (ops := ops) (o := oi) hlook
    have hb' : ∀ j, lb (listed.setIfInBounds i true) j = if j = i then true else lb listed j := fun j => by
      unfold lb
      rw [getD_set]
      by_cases hji : j = i
      · subst hji; rw [if_pos ⟨rfl, by omega⟩, if_pos rfl]
      · rw [if_neg (fun h => hji h.1.symm), if_neg hji]
    have hdone := done_one hok hO hd hR hM hoi hei hbi' hb'
    have hleft : left ops.size (lb (listed.setIfInBounds i true)) ≤ fuel := by
      have : left ops.size (lb (listed.setIfInBounds i true)) < left ops.size (lb listed) :=
        countP_lt (List.range ops.size) i (fun y _ hy => by
          rw [hb'] at hy
          split at hy
          · cases hy
          · exact hy) (List.mem_range.2 hil) (by simp [hbi']) (by simp [hb'])
      omega
    have hclo : ClosedB ops.toList (lb (listed.setIfInBounds i true)) := fun j o ho hbj d hdm => by
      rw [hb'] at hbj ⊢
      split
      · rfl
      · split at hbj
        · rename_i hji
          subst hji
          rw [Array.getElem?_toList, hoi] at ho
          injection ho with ho
          subst ho
          exact he d hdm
        · exact hM.clo j o ho hbj d hdm
    have hmore : ∀ k, lb listed k = true → lb (listed.setIfInBounds i true) k = true := fun k hk => by
      rw [hb']
      split
      · rfl
      · exact hk
    have hmoreU : ∀ r, Usd ops p nx (lb listed) r → Usd ops p nx (lb (listed.setIfInBounds i true)) r := fun r h m hm => by
      rcases h m hm with h | ⟨k, h1, h2, h3⟩
      · exact .inl h
      · exact .inr ⟨k, h1, hmore k h2, h3⟩
    have htch : ∀ j e' r, lb (listed.setIfInBounds i true) j = true → j < ops.size → tr[j]? = some e' → r ∈ e'.tch → Usd ops p nx (lb (listed.setIfInBounds i true)) r := by
      intro j e' r hbj hj htj hr
      refine hmoreU r ?_
      by_cases hji : j = i
      · subst hji
        rw [hei] at htj
        injection htj with htj
        subst htj
        exact tch_used hok hO hR hM hoi hei he hbi' hr
      · rw [hb', if_neg hji] at hbj
        exact hM.tch j e' r hbj hj htj hr
    obtain ⟨c, hp1, hp2, hp3⟩ := T.run
    rw [← hg] at hp1
    unfold wpOp
    rw [hoi]
    simp only
    rw [gOf_sound hM.sim hp1]
    cases c with
    | false =>
      simp only [Bool.false_eq_true, if_false]
      have := hp2 rfl
      subst this
      refine ih _ _ E (by simpa using hsz) hleft ⟨?_, ?_, hclo, hM.us, fun r hr => hmoreU r (hM.used r hr), htch⟩
      · rw [hdone]; exact hM.sim.putSkip oi.dst
      · rw [hdone]; exact hM.rs
    | true =>
      simp only [if_true]
      refine .inl ((hp3 rfl).run hM.sim hev (fun r hr => by rw [hM.rs]; exact tch_same hok hO hd hR hM hoi hei he hbi' hr) ?_ (fun E' z S' hv h4 h5 => ?_))
      · intro r hr hU
        rcases hM.used _ hU _ hr with h | ⟨k', _, h1, h2⟩
        · omega
        · have h2 : i = k' := by omega
          subst h2
          rw [hbi'] at h1; cases h1
      · refine ih _ _ E' (by simpa using hsz) hleft ⟨?_, ?_, hclo, fun r hr => (h5 r hr).elim (hM.us r) (fun h => ⟨.inr h.tail, h.ne⟩), fun r hr => ?_, htch⟩
        · rw [hdone]; exact S'.putD hv oi.dst
        · rw [hdone, h4, hM.rs]; rfl
        · rcases h5 r hr with h | h
          · exact hmoreU r (hM.used r h)
          · intro m hm
            obtain ⟨q1, e1⟩ := hm
            obtain ⟨q2, e2⟩ := h
            rw [e1] at e2
            exact .inr ⟨i, hil, by rw [hb', if_pos rfl], under_inj e2⟩
theorem drawn_wp {Q : Exit → Act → World → Prop} {id : Nat} (hm : P.follows .mixedOrders = true) (hok : drawOK ops Qs = true) (hO : OldOK ops p nx Qs tr) (hR : Runs P ops.toList p nx Qs 0 ops.toList tm rs tm' rs' tr)
    (S : Sim B w0 tm E a) (hrs : E.rs = rs) (hU : Bnd p nx U0 E.U)
    (hQ : ∀ E' a', Sim B w0 tm' E' a' → E'.rs = rs' → Bnd p (nx + ops.size) U0 E'.U → Q .normal a' E'.w) : (Code.region id ops true).wp P Q a E.w := by
  refine wp_region_any hm ?_
  have S' := S.world (w' := { E.w with drawn := E.w.drawn + 1 }) (m' := E.m) (Below.refl _ _ |>.drew) (fun _ _ => rfl) S.fresh
  have hrep : ∀ j, j < ops.size → lb (Array.replicate ops.size false) j = false := fun j hj => by
    unfold lb; simp [hj]
  have hDB : DB ops tm rs tr (lb (Array.replicate ops.size false)) = (tm, rs) := by
    unfold DB
    rw [fB_congr _ _ (fun _ => false) 0 _ (fun j hj => by
      simp only [Nat.zero_add]
      exact hrep j (by simp at hj; omega))]
    exact fB_none _ _ _
  refine any_wp hok hO (fun r h m hq => (hU r (S.used r (by rw [hrs]; exact h))).2.1 m hq) hR hQ ops.size (Array.replicate ops.size false) a { E with w := { E.w with drawn := E.w.drawn + 1 } } (by simp) ?_ ⟨by rw [hDB]; exact S', by rw [hDB]; exact hrs, ?_, fun r h => ⟨(hU r h).1, (hU r h).2.2⟩, fun r h m hq => .inl ((hU r h).2.1 m hq), ?_⟩
  · unfold left
    exact Nat.le_trans (List.countP_le_length) (by simp)
  · intro j o ho hb
    have hj : j < ops.size := by
      have := (List.getElem?_eq_some_iff.1 ho).1
      simpa using this
    rw [hrep j hj] at hb; cases hb
  · intro j e r hb hj
    rw [hrep j hj] at hb; cases hb
end
end Go.FE
namespace Go.FE
open Go.RowKit
structure St where
  tm : List AV
  rs : Rid → Res
  nx : Nat
theorem Good.congr {P : Program} {b : Bool} {tm : List AV} {rs rs1 : Rid → Res} {id : Path} {o : Oper} {e : Eff} (h : Good P b tm rs id o e) (hr : ∀ r ∈ e.tch, rs r = rs1 r) : Good P b tm rs1 id o e :=
  ⟨fun S hev hr' hf K Q hK => h.run S hev (fun r hm => (hr' r hm).trans (hr r hm).symm) hf hK, h.wr, fun r hm => ⟨(h.tch r hm).1, by rw [← hr r hm]; exact (h.tch r hm).2⟩, h.near⟩
/-- The same operations over another account of what is there, alike on D. -/
theorem runs_congr {P : Program} {all : List Oper} {p : Path} {nx : Nat} {Qs : List Nat} {D : Rid → Prop} {k ops tm rs tm' rs' tr} (h : Runs P all p nx Qs k ops tm rs tm' rs' tr) (hU : ∀ r, Under p r → D r) :
    ∀ {rs1}, (∀ r, D r → rs1 r = rs r) → (∀ e ∈ tr, ∀ r ∈ e.tch, D r) → ∃ rs1', Runs P all p nx Qs k ops tm rs1 tm' rs1' tr ∧ (∀ r, D r → rs1' r = rs' r) ∧ ∀ r, ¬ D r → rs1' r = rs1 r := by
  induction h with
  | nil => intro rs1 h1 h2; exact ⟨rs1, .nil, h1, fun _ _ => rfl⟩
  | skip hg h ih =>
    intro rs1 h1 h2
    obtain ⟨rs1', h3, h4, h5⟩ := ih h1 (fun e he => h2 e (List.mem_cons_of_mem _ he))
    exact ⟨rs1', .skip hg h3, h4, h5⟩
  | step hg hs h ih =>
    rename_i k o rest tm rs tm' rs' e tr
    intro rs1 h1 h2
    have ht := h2 e List.mem_cons_self
    have hk : ∀ r ∈ keys e, D r := fun r hr => by
      rcases hs.wr r hr with ⟨q, hq⟩ | h
      · exact hU r ⟨q ++ [nx + k], by rw [hq]; simp⟩
      · exact ht r h.1
    obtain ⟨rs1', h3, h4, h5⟩ := ih (rs1 := wrs rs1 e.wr) (fun r hr => by
      by_cases hrk : r ∈ keys e
      · exact wrs_in hrk
      · rw [wrs_out hrk, wrs_out hrk]; exact h1 r hr) (fun e he => h2 e (List.mem_cons_of_mem _ he))
    refine ⟨rs1', .step hg (hs.congr fun r hr => (h1 r (ht r hr)).symm) h3, h4, fun r hr => ?_⟩
    rw [h5 r hr]
    exact wrs_out fun hrk => hr (hk r hrk)
/-- s' says less than s. -/
structure Wk (p : Path) (s s' : St) : Prop where
  len : s'.tm.length = s.tm.length
  tm : ∀ (i : Nat) (q : AV), s'.tm[i]? = some q → q = AV.unk ∨ s.tm[i]? = some q
  rs : ∀ r, s'.rs r = s.rs r ∨ (s'.rs r = .dead ∧ Under p r)
  nx : s.nx ≤ s'.nx
/-- What the frame knows: what it may touch is as it says; the rest is as it was. -/
structure Kn (T : Rid → Prop) (p : Path) (Ef E : Env) (s : St) : Prop where
  on : ∀ r, T r ∨ Under p r → E.rs r = s.rs r
  off : ∀ r, ¬ (T r ∨ Under p r) → E.rs r = Ef.rs r
theorem VR.weak {E E' : Env} (hgs : E'.gs = E.gs) (htv : E'.tv = E.tv) (hm : E'.m = E.m) (hw : E'.w = E.w) (hU : E'.U = E.U) (hrs : ∀ r, E'.rs r = E.rs r ∨ E'.rs r = .dead) {q : AV} {x : Value} (h : VR E q x) : VR E' q x := by
  refine h.mono ⟨fun a x h => by rw [hm, hw]; exact h, fun i h => by rw [hU]; exact h, fun id _ => by rw [hgs], fun t _ s' e sz b hr => ?_⟩
  rcases hrs t with h4 | h4
  · rw [h4] at hr; exact .inl ⟨hr, by rw [htv]⟩
  · rw [h4] at hr; cases hr
theorem Sim.hide {B : Nat} {E0 E : Env} {tm : List AV} {a : Act} (S : Sim B E0 tm E a) {rs1 : Rid → Res} (hrs : ∀ r, rs1 r = E.rs r ∨ rs1 r = .dead) : Sim B E0 tm { E with rs := rs1 } a := by
  have hL : Le E { E with rs := rs1 } := ⟨fun a x h => h, fun i h => h, fun id _ => rfl, fun t _ s' e sz b hr => by
    rcases hrs t with h4 | h4
    · rw [show ({ E with rs := rs1 } : Env).rs t = rs1 t from rfl, h4] at hr; exact .inl ⟨hr, rfl⟩
    · rw [show ({ E with rs := rs1 } : Env).rs t = rs1 t from rfl, h4] at hr; cases hr⟩
  refine S.upd (fun _ _ => rfl) hL S.below S.hB S.fresh (fun r => rs1 r = .dead) (fun r hr => by unfold RF; simp only; rw [hr]; trivial) (fun r hr => ⟨(hrs r).resolve_right hr, fun _ => ⟨rfl, fun k _ => ⟨rfl, rfl⟩⟩⟩) (fun r hr hd => absurd hr hd) (fun i j k _ hi hb => by unfold blk at hb; simp only at hb; rw [hi] at hb; cases hb)
theorem Sim.less {B : Nat} {E0 E : Env} {tm tm' : List AV} {a : Act} (S : Sim B E0 tm E a) (hl : tm'.length = tm.length) (h : ∀ (i : Nat) (q : AV), tm'[i]? = some q → q = AV.unk ∨ tm[i]? = some q) : Sim B E0 tm' E a :=
  ⟨S.below, S.le, S.low, S.tab, S.hB, S.fresh, S.defs, by rw [S.size, hl], fun i q hi => by
    rcases h i q hi with rfl | h1
    · exact VR.unk _
    · exact S.slots i q h1, S.res, S.used, S.apart⟩
theorem Sim.weak {p : Path} {T : Rid → Prop} {B : Nat} {E0 Ef E : Env} {a : Act} {s s' : St} (S : Sim B E0 s.tm E a) (K : Kn T p Ef E s) (hB : Bnd p s.nx Ef.U E.U) (h : Wk p s s') :
    ∃ E', E'.w = E.w ∧ Sim B E0 s'.tm E' a ∧ Kn T p Ef E' s' ∧ Bnd p s'.nx Ef.U E'.U := by
  have hdec : ∀ r, ∃ x : Res, (Under p r → x = s'.rs r) ∧ (¬ Under p r → x = E.rs r) := fun r => by
    by_cases hu : Under p r
    · exact ⟨s'.rs r, fun _ => rfl, fun h => absurd hu h⟩
    · exact ⟨E.rs r, fun h => absurd h hu, fun _ => rfl⟩
  have hin : ∀ r, Under p r → Classical.choose (hdec r) = s'.rs r := fun r => (Classical.choose_spec (hdec r)).1
  have hout : ∀ r, ¬ Under p r → Classical.choose (hdec r) = E.rs r := fun r => (Classical.choose_spec (hdec r)).2
  refine ⟨{ E with rs := fun r => Classical.choose (hdec r) }, rfl, (S.hide (rs1 := fun r => Classical.choose (hdec r)) fun r => ?_).less h.len h.tm, ⟨fun r hr => ?_, fun r hr => ?_⟩, hB.le h.nx⟩
  · by_cases hu : Under p r
    · rw [hin r hu]
      rcases h.rs r with h1 | h1
      · exact .inl (by rw [h1]; exact (K.on r (.inr hu)).symm)
      · exact .inr h1.1
    · exact .inl (hout r hu)
  · show Classical.choose (hdec r) = _
    by_cases hu : Under p r
    · exact hin r hu
    · rw [hout r hu, K.on r hr]
      rcases h.rs r with h1 | h1
      · exact h1.symm
      · exact absurd h1.2 hu
  · show Classical.choose (hdec r) = _
    rw [hout r fun hu => hr (.inr hu)]
    exact K.off r hr
/-- A step that the machine does not see: what is known is told otherwise. -/
def Gh (T : Rid → Prop) (p : Path) (s s' : St) : Prop := ∀ ⦃B : Nat⦄ ⦃E0 Ef E : Env⦄ ⦃a : Act⦄, Sim B E0 s.tm E a → Kn T p Ef E s → Bnd p s.nx Ef.U E.U →
  ∃ E', E'.w = E.w ∧ Sim B E0 s'.tm E' a ∧ Kn T p Ef E' s' ∧ Bnd p s'.nx Ef.U E'.U
theorem Gh.refl {T : Rid → Prop} {p : Path} (s : St) : Gh T p s s := fun _ _ _ _ _ S K hB => ⟨_, rfl, S, K, hB⟩
theorem Gh.trans {T : Rid → Prop} {p : Path} {s s' s'' : St} (h : Gh T p s s') (h' : Gh T p s' s'') : Gh T p s s'' := fun _ _ _ _ _ S K hB => by
  obtain ⟨E1, e1, S1, K1, hB1⟩ := h S K hB
  obtain ⟨E2, e2, S2, K2, hB2⟩ := h' S1 K1 hB1
  exact ⟨E2, e2.trans e1, S2, K2, hB2⟩
/-- The same, at a body's end. -/
def GhE (T : Rid → Prop) (p : Path) (s s' : St) : Prop := ∀ ⦃B : Nat⦄ ⦃E0 Ef E : Env⦄ ⦃a : Act⦄, Sim B E0 s.tm E a → Kn T p Ef E s → Bnd p s.nx Ef.U E.U →
  ∃ E', E'.w = E.w ∧ Sim B E0 s'.tm E' a ∧ Kn T p Ef E' s' ∧ ∀ r, E'.U r → Ef.U r ∨ Under p r
theorem Gh.ghE {T : Rid → Prop} {p : Path} {s s' : St} (h : Gh T p s s') : GhE T p s s' := fun _ _ _ _ _ S K hB => by
  obtain ⟨E1, e1, S1, K1, hB1⟩ := h S K hB
  exact ⟨E1, e1, S1, K1, fun r hr => (hB1 r hr).1⟩
theorem Wk.gh {T : Rid → Prop} {p : Path} {s s' : St} (h : Wk p s s') : Gh T p s s' := fun _ _ _ _ _ S K hB => S.weak K hB h
def inBl (id : Nat) (Q : Exit → St → Prop) : Exit → St → Prop
  | .exit id', s => if id' = id then Q .normal s else Q (.exit id') s
  | e, s => Q e s
def thn (K : St → Prop) (Q : Exit → St → Prop) : Exit → St → Prop
  | .normal, s => K s
  | e, s => Q e s
def noGo (Q : Exit → St → Prop) : Exit → St → Prop
  | .goto _, _ => False
  | e, s => Q e s
/-- What is to be shown so that code comes to Q. T: what it may touch of the caller's. -/
def AW (P : Program) (T : Rid → Prop) (p : Path) : Code → (Exit → St → Prop) → St → Prop
  | .skip, Q, s => Q .normal s
  | .region _ ops dr, Q, s0 => ∃ s, Gh T p s0 s ∧ ∃ Qs tm' rs' tr, Runs P ops.toList p s.nx Qs 0 ops.toList s.tm s.rs tm' rs' tr ∧ (∀ e ∈ tr, ∀ r ∈ e.tch, T r ∨ Under p r) ∧ (dr = true → drawOK ops Qs = true ∧ OldOK ops p s.nx Qs tr) ∧ Q .normal ⟨tm', rs', s.nx + ops.size⟩
  | .seq x y, Q, s => AW P T p x (thn (AW P T p y Q) Q) s
  | .cond c x y, Q, s => (ev s.tm c = .v (.bool true) ∧ AW P T p x Q s) ∨ (ev s.tm c = .v (.bool false) ∧ AW P T p y Q s) ∨ (ev s.tm c = .bl ∧ AW P T p x Q s ∧ AW P T p y Q s)
  | .block id c, Q, s => AW P T p c (inBl id Q) s
  | .loop c, Q, s => ∃ (I : Nat → St → Prop) (n : Nat) (s0 : St), Gh T p s s0 ∧ I n s0 ∧ ∀ n s, I n s → AW P T p c (thn (fun s' => ∃ m s'', m < n ∧ Gh T p s' s'' ∧ I m s'') Q) s
  | .scope c, Q, s => AW P T p c (noGo Q) s
  | .exit id, Q, s => Q (.exit id) s
  | .ret, Q, s => Q .ret s
  | _, _, _ => False
/-- Where a frame stands. -/
def At (B : Nat) (E0 Ef : Env) (T : Rid → Prop) (p : Path) (Q : Exit → St → Prop) (e : Exit) (a : Act) (w : World) : Prop :=
  ∃ s E, E.w = w ∧ Q e s ∧ Sim B E0 s.tm E a ∧ Kn T p Ef E s ∧ Bnd p s.nx Ef.U E.U
theorem rounds_mono {P : Program} {c : Code} {Q : Exit → Act → World → Prop} : ∀ {n m : Nat}, n ≤ m → ∀ a w, Code.rounds P c Q n a w → Code.rounds P c Q m a w
  | 0, _, _, _, _, h => h.elim
  | n + 1, 0, hm, _, _, _ => by omega
  | n + 1, m + 1, hm, a, w, h => by
    rw [rounds_succ] at h ⊢
    refine wp_mono h (fun e a' w' hq => ?_)
    cases e with
    | normal => exact rounds_mono (Nat.le_of_succ_le_succ hm) a' w' hq
    | _ => exact hq
theorem AW.sound {P : Program} {T : Rid → Prop} {p : Path} (hm : P.follows .mixedOrders = true) {B : Nat} {E0 Ef : Env} :
    ∀ (c : Code) (Q : Exit → St → Prop) (s : St), AW P T p c Q s → ∀ E a, Sim B E0 s.tm E a → Kn T p Ef E s → Bnd p s.nx Ef.U E.U → c.wp P (At B E0 Ef T p Q) a E.w := by
  intro c
  induction c with
  | skip => intro Q s h E a S K hB; exact wp_skip ⟨s, E, rfl, h, S, K, hB⟩
  | region id ops dr =>
    intro Q s0 h E0' a S0 K0 hB0
    obtain ⟨s, hgh, Qs, tm', rs', tr, h1, h2, h3, h4⟩ := h
    obtain ⟨E, e1, S, K, hB⟩ := hgh S0 K0 hB0
    rw [← e1]
    obtain ⟨rs1, h5, h6, h7⟩ := runs_congr (D := fun r => T r ∨ Under p r) h1 (fun r h => .inr h) (rs1 := E.rs) (fun r hr => K.on r hr) h2
    have hend : ∀ E' a', Sim B E0 tm' E' a' → E'.rs = rs1 → Bnd p (s.nx + ops.size) Ef.U E'.U → At B E0 Ef T p Q .normal a' E'.w := fun E' a' S' hr hU =>
      ⟨⟨tm', rs', s.nx + ops.size⟩, E', rfl, h4, S', ⟨fun r hrD => by rw [hr]; exact h6 r hrD, fun r hrD => by rw [hr, h7 r hrD]; exact K.off r hrD⟩, hU⟩
    cases dr with
    | false =>
      refine wp_region_list (runs_wp h5 S rfl (by simpa using hB) (fun E' a' S' h8 h9 => hend E' a' S' h8 (by simpa using h9)))
    | true =>
      obtain ⟨h8, h9⟩ := h3 rfl
      exact drawn_wp hm h8 h9 h5 S rfl hB hend
  | seq x y ihx ihy =>
    intro Q s h E a S K hB
    refine wp_seq (wp_mono (ihx _ s h E a S K hB) (fun e a' w' hq => ?_))
    obtain ⟨s', E', rfl, hQ, S', K', hB'⟩ := hq
    cases e with
    | normal => exact ihy Q s' hQ E' a' S' K' hB'
    | _ => exact ⟨s', E', rfl, hQ, S', K', hB'⟩
  | cond c x y ihx ihy =>
    intro Q s h E a S K hB
    have hev := ev_sound S c
    rcases h with ⟨hc, h⟩ | ⟨hc, h⟩ | ⟨hc, h, h'⟩
    · rw [hc] at hev
      exact wp_cond_true (CR.v_inv hev).1 (ihx Q s h E a S K hB)
    · rw [hc] at hev
      exact wp_cond_false (CR.v_inv hev).1 (ihy Q s h E a S K hB)
    · rw [hc] at hev
      obtain ⟨b, hb⟩ := hev
      cases b
      · exact wp_cond_false hb (ihy Q s h' E a S K hB)
      · exact wp_cond_true hb (ihx Q s h E a S K hB)
  | block id c ih =>
    intro Q s h E a S K hB
    refine wp_block (wp_mono (ih _ s h E a S K hB) (fun e a' w' hq => ?_))
    obtain ⟨s', E', rfl, hQ, S', K', hB'⟩ := hq
    cases e with
    | exit id' =>
      simp only [inBl] at hQ
      simp only [Exit.inBlock]
      split
      · rw [if_pos ‹_›] at hQ; exact ⟨s', E', rfl, hQ, S', K', hB'⟩
      · rw [if_neg ‹_›] at hQ; exact ⟨s', E', rfl, hQ, S', K', hB'⟩
    | _ => exact ⟨s', E', rfl, hQ, S', K', hB'⟩
  | loop c ih =>
    intro Q s h E a S K hB
    obtain ⟨I, n, s0, hw, h0, hI⟩ := h
    have key : ∀ n s, I n s → ∀ E a, Sim B E0 s.tm E a → Kn T p Ef E s → Bnd p s.nx Ef.U E.U → Code.rounds P c (At B E0 Ef T p Q) (n + 1) a E.w := by
      intro n
      induction n using Nat.strongRecOn with
      | _ n ihn =>
        intro s hs E a S K hB
        rw [rounds_succ]
        refine wp_mono (ih _ s (hI n s hs) E a S K hB) (fun e a' w' hq => ?_)
        obtain ⟨s', E', rfl, hQ, S', K', hB'⟩ := hq
        cases e with
        | normal =>
          obtain ⟨m, s'', hm', hw', hI'⟩ := hQ
          obtain ⟨E'', e1, S'', K'', hB''⟩ := hw' S' K' hB'
          have := ihn m hm' s'' hI' E'' a' S'' K'' hB''
          rw [e1] at this
          exact rounds_mono hm' a' _ this
        | _ => exact ⟨s', E', rfl, hQ, S', K', hB'⟩
    obtain ⟨E1, e1, S1, K1, hB1⟩ := hw S K hB
    have := key n s0 h0 E1 a S1 K1 hB1
    rw [e1] at this
    exact wp_loop_rounds _ this
  | scope c ih =>
    intro Q s h E a S K hB
    refine wp_scope_straight (wp_mono (ih _ s h E a S K hB) (fun e a' w' hq => ?_))
    obtain ⟨s', E', rfl, hQ, S', K', hB'⟩ := hq
    cases e with
    | goto l => exact hQ.elim
    | _ => exact ⟨s', E', rfl, hQ, S', K', hB'⟩
  | exit id => intro Q s h E a S K hB; exact wp_exit ⟨s, E, rfl, h, S, K, hB⟩
  | ret => intro Q s h E a S K hB; exact wp_ret ⟨s, E, rfl, h, S, K, hB⟩
  | rangeFunc f ps x y _ _ => intro Q s h; exact h.elim
  | label l => intro Q s h; exact h.elim
  | goto l => intro Q s h; exact h.elim
  | refuse w => intro Q s h; exact h.elim
end Go.FE
namespace Go.FE
open Go.RowKit
def nrmC (q : AV) : AV := nrm q.content
theorem nrmC_CR {E : Env} {q : AV} {x : Value} (h : VR E q x) : CR E.m E.w (nrmC q) x := (content_CR h).nrm
/-- The first k elements of a row are written to no more. -/
def frzA (id : Rid) (s z k : Nat) (rows : List (List AV)) : AV → AV
  | .ar id' s' z' o k' => if id' = id ∧ s' = s ∧ z' = z ∧ o = 0 ∧ k' = k then .sl ((rows.take k).map (List.map nrmC)) (some (id, s + 1)) else .ar id' s' z' o k'
  | q => q
theorem Sim.map_slots {B : Nat} {E0 E E' : Env} {tm : List AV} {a : Act} (f : AV → AV) (S : Sim B E0 tm E a) (S' : Sim B E0 tm E' a) (h : ∀ q x, VR E q x → VR E' (f q) x) : Sim B E0 (tm.map f) E' a :=
  ⟨S'.below, S'.le, S'.low, S'.tab, S'.hB, S'.fresh, S'.defs, by rw [List.length_map]; exact S'.size, fun i q hi => by
    rw [List.getElem?_map] at hi
    obtain ⟨q0, h0, rfl⟩ := Option.map_eq_some_iff.1 hi
    exact h _ _ (S.slots i q0 h0), S'.res, S'.used, S'.apart⟩
theorem Gh.frz {T : Rid → Prop} {p : Path} {s : St} (id : Rid) (s0 : Nat) (e : TypeId) (sz k : Nat) (rows : List (List AV)) (hT : T id ∨ Under p id) (hrs : s.rs id = .arr s0 e sz rows) (hk : k ≤ rows.length) :
    Gh T p s ⟨s.tm.map (frzA id s0 sz k rows), fup s.rs id (.tok (s0 + 1) e sz), s.nx⟩ := by
  intro B E0 Ef E a S K hB
  have hrE : E.rs id = .arr s0 e sz rows := (K.on id hT).trans hrs
  have hr := S.res id
  unfold RF at hr
  rw [hrE] at hr
  obtain ⟨xs, hown, hm, hsz, hv⟩ := hr
  have hU : E.U id := S.used _ (by rw [hrE]; simp)
  -- the row's first part
  obtain ⟨v', m', hv', hm1, hm2, hm3, hvw⟩ : ∃ (v' : Value) (m' : Nat → Nat), E.w.ownsRow B e sz v' k (xs.take (k * sz)) ∧ (∀ g, v'.ownBlock = some g → m' g = k * sz) ∧ (∀ g, E.m g ≤ m' g) ∧
      (∀ g, (E.tv id).ownBlock ≠ some g → m' g = E.m g) ∧ v' = viewOf (E.tv id) sz 0 k ∧ v'.ownBlock = (E.tv id).ownBlock := by
    rcases hown.2 with ⟨e1, e2⟩ | ⟨g, cap, cur, e1, hBg, hg, hn, hc, hcs, ht⟩
    · have hk0 : k = 0 := by omega
      subst hk0
      refine ⟨.slice none 0 0, E.m, by simpa using World.ownsRow_nil E.w B e sz, fun g h => by simp [Value.ownBlock] at h, fun g => Nat.le_refl _, fun g _ => rfl, by rw [e1]; rfl, by rw [e1]⟩
    · have hkz : k * sz ≤ rows.length * sz := Nat.mul_le_mul_right _ hk
      refine ⟨.slice (some ⟨g, 0, none⟩) k cap, nup E.m g (k * sz), ⟨?_, .inr ⟨g, cap, cur, rfl, hBg, hg, Nat.le_trans hk hn, hc, hcs, ?_⟩⟩, fun g' h => ?_, fun g' => ?_, fun g' h => ?_, by rw [e1]; simp [viewOf, add_zero], by rw [e1]; rfl⟩
      · rw [List.length_take, hown.1]; omega
      · rw [← ht, List.take_take, Nat.min_eq_left hkz]
      · simp [Value.ownBlock] at h; simp [nup, h]
      · simp only [nup]
        split
        · rename_i h; subst h
          rw [hm g' (by rw [e1]; rfl)]; exact Nat.zero_le _
        · exact Nat.le_refl _
      · simp only [nup]
        rw [if_neg (fun h' => h (by rw [e1, h']; rfl))]
  obtain ⟨hvw, hvb⟩ := hvw
  have hrc : ∀ b x, RC E.m E.w b x → RC m' E.w b x := fun b x h => ⟨h.1, Nat.lt_of_lt_of_le h.2 (hm2 _)⟩
  have hL : Le E { E with rs := fup E.rs id (.tok (s0 + 1) e sz), tv := fup E.tv id v', m := m' } := by
    refine ⟨hrc, fun i h => h, fun j hj => rfl, fun t ht s' e' sz' b h => ?_⟩
    by_cases hti : t = id
    · subst hti
      simp only [fup_self, ver, Option.some.injEq, Prod.mk.injEq] at h
      obtain ⟨rfl, rfl, rfl, rfl⟩ := h
      exact .inr ⟨s0, true, by rw [hrE]; rfl, by omega⟩
    · exact .inl ⟨by simpa [fup, hti] using h, fup_ne _ _ hti⟩
  have hblk : ∀ g, (E.tv id).ownBlock = some g → blk E id = some g := fun g h => by unfold blk; rw [hrE]; exact h
  have S' : Sim B E0 s.tm { E with rs := fup E.rs id (.tok (s0 + 1) e sz), tv := fup E.tv id v', m := m' } a := by
    refine S.upd (fun g hg => hm3 g (fun h => by have := (blk_ge S (hblk g h)).1; omega)) hL S.below S.hB (fun g hg => ?_) (fun j => j = id) ?_ (fun j hj => ⟨fup_ne _ _ hj, fun hd => ⟨fup_ne _ _ hj, fun q hq => ⟨rfl, ?_⟩⟩⟩) (fun j hj _ => by subst hj; exact hU) ?_
    · show m' g = 0
      have hg' : E.w.heap.size ≤ g := hg
      rw [hm3 g (fun h => by have := (blk_ge S (hblk g h)).2; omega)]
      exact S.fresh g hg
    · rintro j rfl
      unfold RF
      simp only [fup_self]
      exact ⟨k, _, hv', hm1⟩
    · exact hm3 q (fun h => S.apart j id q hj hq (hblk q h))
    · rintro i j q hij rfl hi hj
      simp only [blk, fup_self] at hi
      have hj' : blk E j = some q := by
        unfold blk at hj ⊢
        simp only [fup_ne _ _ (Ne.symm hij)] at hj
        exact hj
      exact S.apart i j q hij (hblk q (hvb ▸ hi)) hj'
  refine ⟨{ E with rs := fup E.rs id (.tok (s0 + 1) e sz), tv := fup E.tv id v', m := m' }, rfl, Sim.map_slots (frzA id s0 sz k rows) S S' (fun q x h => ?_), ⟨fun r hr => ?_, fun r hr => ?_⟩, hB⟩
  · unfold frzA
    split
    · rename_i id' s' z' o k'
      split
      · rename_i hc
        obtain ⟨rfl, rfl, rfl, rfl, rfl⟩ := hc
        obtain ⟨_, _, hver⟩ := h
        obtain ⟨_, _, _, hx⟩ := (hver s' e z' true (by rw [hrE]; rfl)).2 rfl
        have hxe : x = v' := by rw [hvw]; exact hx (.inl rfl)
        subst hxe
        refine ⟨?_, hU, fun s2 e2 sz2 b2 h2 => ?_⟩
        · refine row_CR hv' hm1 _ (by simp; omega) (fun cs hcs => ?_) (fun j cs i q hj hi => ?_)
          · obtain ⟨c0, h0, rfl⟩ := List.mem_map.1 hcs
            rw [List.length_map]
            exact hsz c0 (List.mem_of_mem_take h0)
          · rw [List.getElem?_map] at hj
            obtain ⟨c0, h0, rfl⟩ := Option.map_eq_some_iff.1 hj
            rw [List.getElem?_map] at hi
            obtain ⟨q0, h1, rfl⟩ := Option.map_eq_some_iff.1 hi
            have hjk : j < k' := by have := (List.getElem?_eq_some_iff.1 h0).1; simp at this; omega
            rw [List.getElem?_take_of_lt hjk] at h0
            obtain ⟨h2, h3⟩ := hv j c0 i q0 h0 h1
            have hil : i < z' := by
              have := (List.getElem?_eq_some_iff.1 h1).1
              rw [hsz c0 (List.mem_of_getElem? h0)] at this
              exact this
            have hlt : j * z' + i < k' * z' := by
              have := Nat.mul_le_mul_right z' (show j + 1 ≤ k' by omega)
              rw [Nat.add_mul] at this
              omega
            have hlt2 : j * z' + i < xs.length := by
              rw [hown.1]
              exact Nat.lt_of_lt_of_le hlt (Nat.mul_le_mul_right _ hk)
            refine ⟨xs.getD (j * z' + i) undef, ?_, h3, ((nrmC_CR h2).mono hrc)⟩
            rw [List.getElem?_take_of_lt hlt, List.getElem?_eq_getElem hlt2, List.getD_eq_getElem?_getD, List.getElem?_eq_getElem hlt2]
            rfl
        · simp only [fup_self, ver, Option.some.injEq, Prod.mk.injEq] at h2
          obtain ⟨rfl, rfl, rfl, rfl⟩ := h2
          refine ⟨Nat.le_refl _, fun _ => ⟨rfl, by simp [fup_self], fun cs hcs => ?_⟩⟩
          obtain ⟨c0, h0, rfl⟩ := List.mem_map.1 hcs
          rw [List.length_map]
          exact hsz c0 (List.mem_of_mem_take h0)
      · exact h.mono hL
    · exact h.mono hL
  · by_cases hri : r = id
    · subst hri; simp only [fup_self]
    · simp only [fup_ne _ _ hri]; exact K.on r hr
  · have hri : r ≠ id := fun e => hr (e ▸ hT)
    simp only [fup_ne _ _ hri]; exact K.off r hr
/-- An empty row whose elements may be written. -/
def thwA (id : Rid) (s z : Nat) : AV → AV
  | .sl [] (some (id', s')) => if id' = id ∧ s' = s then .ar id (s + 1) z 0 0 else .sl [] (some (id', s'))
  | q => q
theorem Gh.thw {T : Rid → Prop} {p : Path} {s : St} (id : Rid) (s0 : Nat) (e : TypeId) (sz i : Nat) (hT : T id ∨ Under p id) (hrs : s.rs id = .tok s0 e sz) (hi : s.tm[i]? = some (.sl [] (some (id, s0)))) :
    Gh T p s ⟨s.tm.map (thwA id s0 sz), fup s.rs id (.arr (s0 + 1) e sz []), s.nx⟩ := by
  intro B E0 Ef E a S K hB
  have hrE : E.rs id = .tok s0 e sz := (K.on id hT).trans hrs
  have hr := S.res id
  unfold RF at hr
  rw [hrE] at hr
  obtain ⟨n, xs, hown, hm⟩ := hr
  have hU : E.U id := S.used _ (by rw [hrE]; simp)
  obtain ⟨hc0, _, hver0⟩ := S.slots i _ hi
  have hx0 := ((hver0 s0 e sz false (by rw [hrE]; rfl)).2 rfl).2.1
  obtain ⟨A, c, sz', f, ex, _⟩ := hc0.sl_inv
  rw [hx0] at ex
  simp only [List.length_nil] at ex
  have hn : n = 0 := by
    rcases hown.2 with ⟨_, e2⟩ | ⟨g, cap, cur, e1, _⟩
    · exact e2
    · rw [ex] at e1; injection e1 with _ e1 _; exact e1.symm
  subst hn
  have hL : Le E { E with rs := fup E.rs id (.arr (s0 + 1) e sz []) } := by
    refine ⟨fun _ _ h => h, fun i h => h, fun j hj => rfl, fun t ht s' e' sz' b h => ?_⟩
    by_cases hti : t = id
    · subst hti
      simp only [fup_self, ver, Option.some.injEq, Prod.mk.injEq] at h
      obtain ⟨rfl, rfl, rfl, rfl⟩ := h
      exact .inr ⟨s0, false, by rw [hrE]; rfl, by omega⟩
    · exact .inl ⟨by simpa [fup, hti] using h, rfl⟩
  have S' : Sim B E0 s.tm { E with rs := fup E.rs id (.arr (s0 + 1) e sz []) } a := by
    refine S.upd (fun g hg => rfl) hL S.below S.hB S.fresh (fun j => j = id) ?_ (fun j hj => ⟨fup_ne _ _ hj, fun hd => ⟨rfl, fun q hq => ⟨rfl, rfl⟩⟩⟩) (fun j hj _ => by subst hj; exact hU) ?_
    · rintro j rfl
      unfold RF
      simp only [fup_self]
      exact ⟨xs, hown, fun k hk => by rw [hm k hk, Nat.zero_mul], fun _ h => (by cases h), fun _ _ _ _ h => by simp at h⟩
    · rintro i j q hij rfl hi hj
      simp only [blk, fup_self] at hi
      have hj' : blk E j = some q := by
        unfold blk at hj ⊢
        simp only [fup_ne _ _ (Ne.symm hij)] at hj
        exact hj
      exact S.apart i j q hij (by unfold blk; rw [hrE]; exact hi) hj'
  refine ⟨{ E with rs := fup E.rs id (.arr (s0 + 1) e sz []) }, rfl, Sim.map_slots (thwA id s0 sz) S S' (fun q x h => ?_), ⟨fun r hr => ?_, fun r hr => ?_⟩, hB⟩
  · unfold thwA
    split
    · rename_i id' s'
      split
      · rename_i hc
        obtain ⟨rfl, rfl⟩ := hc
        obtain ⟨_, _, hver⟩ := h
        have hx := ((hver s' e sz false (by rw [hrE]; rfl)).2 rfl).2.1
        subst hx
        refine ⟨hU, ⟨A, c, ex, by omega, Nat.zero_le _, fun h => absurd rfl h⟩, fun s2 e2 sz2 b2 h2 => ?_⟩
        simp only [fup_self, ver, Option.some.injEq, Prod.mk.injEq] at h2
        obtain ⟨rfl, rfl, rfl, rfl⟩ := h2
        refine ⟨Nat.le_refl _, fun _ => ⟨rfl, rfl, ⟨A, 0, c, ex, by omega⟩, fun _ => ?_⟩⟩
        simp only [ex, viewOf, Nat.zero_mul, Nat.sub_zero]
        cases A <;> simp [add_zero]
      · exact h.mono hL
    · exact h.mono hL
  · by_cases hri : r = id
    · subst hri; simp only [fup_self]
    · simp only [fup_ne _ _ hri]; exact K.on r hr
  · have hri : r ≠ id := fun e => hr (e ▸ hT)
    simp only [fup_ne _ _ hri]; exact K.off r hr
/-- Another name. -/
def renR (t r r' : Rid) : Rid := if r' = t then r else r'
def renA (t r : Rid) : AV → AV
  | .vp t' o => .vp (renR t r t') o
  | .sl xs (some (t', s)) => .sl xs (some (renR t r t', s))
  | .ar t' s z o n => .ar (renR t r t') s z o n
  | .mp t' => .mp (renR t r t')
  | q => q
theorem GhE.ren {T : Rid → Prop} {p : Path} {s : St} (t : Rid) (k : Nat) (ht : Under p t) (hne : t.1 ≠ p) (hds : s.rs t ≠ .dead) :
    GhE T p s ⟨s.tm.map (renA t (p, k)), fup (fup s.rs t .dead) (p, k) (s.rs t), s.nx⟩ := by
  intro B E0 Ef E a S K hB
  have hrE : E.rs t = s.rs t := K.on t (.inr ht)
  have hU : ¬ E.U (p, k) := fun h => (hB _ h).2.2 rfl
  have hnt : t ≠ (p, k) := fun e => hne (by rw [e])
  have hdead : E.rs (p, k) = .dead := Classical.byContradiction fun h => hU (S.used _ h)
  have hd : E.rs t ≠ .dead := by rw [hrE]; exact hds
  have hUt : E.U t := S.used _ hd
  let E' : Env := { E with rs := fup (fup E.rs t .dead) (p, k) (E.rs t), gs := fup E.gs (p, k) (E.gs t), tv := fup E.tv (p, k) (E.tv t), U := fun r => E.U r ∨ r = (p, k) }
  have hL : Le E E' := by
    refine ⟨fun _ _ h => h, fun i h => .inl h, fun j hj => fup_ne _ _ (fun e => hU (e ▸ hj)), fun r hr s' e' sz' b h => ?_⟩
    have hrk : r ≠ (p, k) := fun e => hU (e ▸ hr)
    by_cases hrt : r = t
    · subst hrt
      simp [E', fup_ne _ _ hrk, fup_self, ver] at h
    · exact .inl ⟨by simpa [E', fup, hrk, hrt] using h, fup_ne _ _ hrk⟩
  have hRFt : RF B E' (p, k) := by
    have hr := S.res t
    unfold RF at hr ⊢
    simp only [E', fup_self]
    cases hrs : E.rs t with
    | dead => exact absurd hrs hd
    | var ty cells =>
      rw [hrs] at hr
      obtain ⟨arr, h1, h2, h3, h4, h5⟩ := hr
      exact ⟨arr, h1, h2, h3, h4, fun i q hi => ⟨by have h := (h5 i q hi).1.mono hL; simp only [E', hrs] at h; exact h, (h5 i q hi).2⟩⟩
    | tok s0 e sz => rw [hrs] at hr; exact hr
    | arr s0 e sz rows =>
      rw [hrs] at hr
      obtain ⟨xs, h1, h2, h3, h4⟩ := hr
      exact ⟨xs, h1, h2, h3, fun j cs i q hj hi => ⟨by have h := (h4 j cs i q hj hi).1.mono hL; simp only [E', hrs] at h; exact h, (h4 j cs i q hj hi).2⟩⟩
    | map kt et b f => rw [hrs] at hr; exact hr
  have hblkn : blk E' (p, k) = blk E t := by
    unfold blk
    simp only [E', fup_self]
  have hblkt : blk E' t = none := by
    unfold blk
    simp only [E', fup_ne _ _ hnt, fup_self]
  have S' : Sim B E0 s.tm E' a := by
    refine S.upd (fun g hg => rfl) hL S.below S.hB S.fresh (fun j => j = t ∨ j = (p, k)) ?_ (fun j hj => ?_) (fun j hj hdj => ?_) ?_
    · rintro j (rfl | rfl)
      · unfold RF
        simp only [E', fup_ne _ _ hnt, fup_self]
      · exact hRFt
    · have h1 : j ≠ t := fun e => hj (.inl e)
      have h2 : j ≠ (p, k) := fun e => hj (.inr e)
      exact ⟨by simp only [E', fup_ne _ _ h2, fup_ne _ _ h1], fun hd => ⟨by simp only [E', fup_ne _ _ h2], fun q hq => ⟨rfl, rfl⟩⟩⟩
    · rcases hj with rfl | rfl
      · exact .inl hUt
      · exact .inr rfl
    · rintro i j q hij hi0 hi hj
      rcases hi0 with rfl | rfl
      · rw [hblkt] at hi; cases hi
      · rw [hblkn] at hi
        by_cases hjt : j = t
        · subst hjt; rw [hblkt] at hj; cases hj
        · have hj' : blk E j = some q := by
            unfold blk at hj ⊢
            simp only [E', fup_ne _ _ (Ne.symm hij), fup_ne _ _ hjt] at hj
            exact hj
          exact S.apart t j q (Ne.symm hjt) hi hj'
  have hver : ∀ r', ver (E'.rs (renR t (p, k) r')) = ver (E.rs r') ∨ (r' = (p, k)) := fun r' => by
    by_cases h1 : r' = (p, k)
    · exact .inr h1
    · refine .inl ?_
      unfold renR
      split
      · rename_i h2; subst h2; simp only [E', fup_self]
      · rename_i h2; simp only [E', fup_ne _ _ h1, fup_ne _ _ h2]
  have hren : ∀ r', E.U r' → E'.U (renR t (p, k) r') ∧ ver (E'.rs (renR t (p, k) r')) = ver (E.rs r') ∧ E'.tv (renR t (p, k) r') = E.tv r' ∧ E'.gs (renR t (p, k) r') = E.gs r' := fun r' h => by
    have h1 : r' ≠ (p, k) := fun e => hU (e ▸ h)
    refine ⟨?_, (hver r').resolve_right h1, ?_, ?_⟩
    · unfold renR
      split
      · exact .inr rfl
      · exact .inl h
    · unfold renR
      split
      · rename_i h2; subst h2; simp only [E', fup_self]
      · simp only [E', fup_ne _ _ h1]
    · unfold renR
      split
      · rename_i h2; subst h2; simp only [E', fup_self]
      · simp only [E', fup_ne _ _ h1]
  refine ⟨E', rfl, Sim.map_slots (renA t (p, k)) S S' (fun q x h => ?_), ⟨fun r hr => ?_, fun r hr => ?_⟩, fun r hr => ?_⟩
  · unfold renA
    split
    · obtain ⟨h1, h2⟩ := h
      obtain ⟨a1, a2, a3, a4⟩ := hren _ h1
      exact ⟨a1, by rw [a4]; exact h2⟩
    · obtain ⟨h1, h2, h3⟩ := h
      obtain ⟨a1, a2, a3, a4⟩ := hren _ h2
      exact ⟨h1, a1, fun s' e sz b hv => by rw [a2] at hv; rw [a3]; exact h3 s' e sz b hv⟩
    · obtain ⟨h1, h2, h3⟩ := h
      obtain ⟨a1, a2, a3, a4⟩ := hren _ h1
      exact ⟨a1, h2, fun s' e sz b hv => by rw [a2] at hv; rw [a3]; exact h3 s' e sz b hv⟩
    · obtain ⟨h1, h2⟩ := h
      obtain ⟨a1, a2, a3, a4⟩ := hren _ h1
      exact ⟨a1, by rw [a4]; exact h2⟩
    · exact h.mono hL
  · by_cases h1 : r = (p, k)
    · subst h1; simp only [E', fup_self]; exact hrE
    · by_cases h2 : r = t
      · subst h2; simp only [E', fup_ne _ _ h1, fup_self]
      · simp only [E', fup_ne _ _ h1, fup_ne _ _ h2]; exact K.on r hr
  · have h1 : r ≠ (p, k) := fun e => hr (.inr (e ▸ ⟨[], rfl⟩))
    have h2 : r ≠ t := fun e => hr (.inr (e ▸ ht))
    simp only [E', fup_ne _ _ h1, fup_ne _ _ h2]; exact K.off r hr
  · rcases hr with hr | rfl
    · exact (hB r hr).1
    · exact .inr ⟨[], rfl⟩
end Go.FE
