/- What an operation's effect depends on. Calls by contract; a region's operations in the text's order. A region whose order is open: what its operations come to in any order. A region whose order is open: every order comes to what the text's order comes to. -/
import Derived.Test.YtmblejfjbnoodaaGreatDoorN05
set_option linter.unusedVariables false
set_option linter.unusedSimpArgs false
namespace Go.FE
open Go.RowKit
theorem capsA_congr {tm tm' : List AV} : ∀ {l : List Operand}, (∀ x ∈ l, ev tm x = ev tm' x) → capsA tm l = capsA tm' l
  | [], _ => rfl
  | x :: r, h => by
    unfold capsA
    rw [h x List.mem_cons_self, capsA_congr fun y hy => h y (List.mem_cons_of_mem _ hy)]
theorem bndA_congr {tm tm' : List AV} {d : Nat} {x : Option Operand} (h : ∀ y, x = some y → ev tm y = ev tm' y) : bndA tm d x = bndA tm' d x := by
  cases x with
  | none => rfl
  | some y => simp only [bndA, h y rfl]
theorem stepP_congr {P : Program} {tm tm' : List AV} {o : Oper} (h : ∀ x ∈ o.op.operands, ev tm x = ev tm' x) : stepP P tm o = stepP P tm' o := by
  obtain ⟨dst, op, type, pos, after, guard⟩ := o
  cases op <;> simp only [Op.operands] at h <;> simp only [stepP]
  case move x => rw [h x (by simp)]
  case assign x => rw [h x (by simp)]
  case pick c x y => rw [h c (by simp), h x (by simp), h y (by simp)]
  case binOp op t x y yt => rw [h x (by simp), h y (by simp)]
  case unOp op t x => rw [h x (by simp)]
  case convert s d x => rw [h x (by simp)]
  case extract x i => rw [h x (by simp)]
  case field s x f => rw [h x (by simp)]
  case fieldAddr s x f => rw [h x (by simp)]
  case indexAddr t x i => rw [h x (by simp), h i (by simp)]
  case index t x i => rw [h x (by simp), h i (by simp)]
  case load t x => rw [h x (by simp)]
  case nilCheck x => rw [h x (by simp)]
  case slice t x lo hi mx =>
    cases mx with
    | some y => rfl
    | none =>
      simp only
      have e1 : (fun d => bndA tm d lo) = fun d => bndA tm' d lo := funext fun d => bndA_congr fun y hy => h y (by simp [hy])
      have e2 : (fun d => bndA tm d hi) = fun d => bndA tm' d hi := funext fun d => bndA_congr fun y hy => h y (by simp [hy])
      rw [h x (by simp), e1, e2]
  case build t ps =>
    congr 1
    exact List.map_congr_left fun p hp => by rw [h p.2 (by simp; exact ⟨p.1, by simpa using hp⟩)]
  case makeFunc fn first caps =>
    have e : capsA tm caps.toList = capsA tm' caps.toList := capsA_congr fun x hx => h x (by simp at hx; simp [hx])
    rw [e]
  case call c =>
    obtain ⟨callee, args, ts⟩ := c
    have e : args.toList.map (ev tm) = args.toList.map (ev tm') := List.map_congr_left fun x hx => h x (by simp at hx; simp [Call.operands, hx])
    simp only
    rw [e]
theorem bltA_append (P : Program) (xs : List AV) (ts : List TypeId) : bltA P .append xs ts = none := by
  unfold bltA
  split <;> simp_all
theorem appA_congr {P : Program} {rs rs' : Rid → Res} {id : Path} {ts : List TypeId} {xs : List AV} {e : Eff} (h : appA P rs id ts xs = some e) (hr : ∀ r ∈ e.tch, rs r = rs' r) : appA P rs' id ts xs = some e := by
  unfold appA at h ⊢
  split at h
  · split at h
    · rename_i hT
      simp only [if_pos hT]
      split at h
      · rename_i he hp
        split at h
        · rename_i hi
          try simp only [hi]
          split at h
          · rename_i hc
            rw [if_pos hc]
            split at h
            · split at h
              · rename_i hrs
                split at h
                · rename_i hc2
                  injection h with h
                  have := hr _ (by rw [← h]; exact List.mem_singleton.2 rfl)
                  rw [← this, hrs]
                  simp only
                  rw [if_pos hc2, h]
                · cases h
              · cases h
            · exact h
            · cases h
          · cases h
        · cases h
      · cases h
    · cases h
  · cases h
theorem appR_congr {P : Program} {rs rs' : Rid → Res} {id : Path} {ts : List TypeId} {xs : List AV} {e : Eff} (h : appR P rs id ts xs = some e) (hr : ∀ r ∈ e.tch, rs r = rs' r) : appR P rs' id ts xs = some e := by
  unfold appR at h ⊢
  split at h
  · split at h
    · rename_i hT
      simp only [if_pos hT]
      split at h
      · rename_i he hp
        split at h
        · rename_i hi
          try simp only [hi]
          split at h
          · rename_i hc
            rw [if_pos hc]
            split at h
            · rename_i hrs
              split at h
              · rename_i hc2
                injection h with h
                have := hr _ (by rw [← h]; exact List.mem_singleton.2 rfl)
                rw [← this, hrs]
                simp only
                rw [if_pos hc2, h]
              · cases h
            · cases h
          · cases h
        · cases h
      · cases h
    · cases h
  · exact h
  · cases h
/-- Only an appA of a row that is told says none where rows are told otherwise. -/
theorem appA_none {P : Program} {rs : Rid → Res} {id : Path} {ts : List TypeId} {xs : List AV} {e : Eff} (h : appR P rs id ts xs = some e) : ∀ rs', appA P rs' id ts xs = none := by
  intro rs'
  unfold appR at h
  split at h
  · unfold appA
    simp only
    split
    · split
      · split
        · split <;> rfl
        · rfl
      · rfl
    · rfl
  · unfold appA
    simp only
    split
    · split
      · split
        · split <;> rfl
        · rfl
      · rfl
    · rfl
  · cases h
theorem lookA_congr {P : Program} {rs rs' : Rid → Res} {t : TypeId} {q i : AV} {ok : Bool} {e : Eff} (h : lookA P rs t q i ok = some e) (hr : ∀ r ∈ e.tch, rs r = rs' r) : lookA P rs' t q i ok = some e := by
  unfold lookA at h ⊢
  split at h
  · split at h
    · rename_i hrs ht
      split at h
      · rename_i hc
        injection h with h
        have := hr _ (by rw [← h]; exact List.mem_singleton.2 rfl)
        rw [← this, hrs, ht]
        simp only
        rw [if_pos hc, h]
      · cases h
    · cases h
  · cases h
theorem updA_congr {P : Program} {rs rs' : Rid → Res} {t : TypeId} {q i v : AV} {e : Eff} (h : updA P rs t q i v = some e) (hr : ∀ r ∈ e.tch, rs r = rs' r) : updA P rs' t q i v = some e := by
  unfold updA at h ⊢
  split at h
  · split at h
    · rename_i hrs ht
      split at h
      · rename_i hc
        obtain ⟨n, hn, h⟩ := Option.map_eq_some_iff.1 h
        have := hr _ (by rw [← h]; exact List.mem_singleton.2 rfl)
        rw [← this, hrs, ht]
        simp only
        rw [if_pos hc, hn, ← h]
        rfl
      · cases h
    · cases h
  · cases h
theorem storeP_tch {P : Program} {rs : Rid → Res} {id : Path} {t : TypeId} {aid : Rid} {s j k : Nat} {q : AV} {e : Eff} (h : storeP P rs id t aid s j k q = some e) : e.tch = [aid] ∧ rs aid ≠ .dead ∧ ∀ p ∈ e.wr, p.1.1 = id ∨ p.1 = aid := by
  unfold storeP at h
  split at h
  · rename_i hrs
    refine ⟨?_, by rw [hrs]; simp, ?_⟩
    · split at h
      · split at h
        · split at h
          · split at h
            · split at h
              · injection h with h; rw [← h]
              · cases h
            · cases h
          · split at h
            · obtain ⟨r, _, rfl⟩ := Option.map_eq_some_iff.1 h; rfl
            · cases h
        · cases h
      · cases h
    · split at h
      · split at h
        · split at h
          · split at h
            · split at h
              · injection h with h
                subst h
                intro p hp
                rcases List.mem_append.1 hp with hp | hp
                · exact .inl (tokN_ids id _ _ 0 p hp).1
                · simp at hp; subst hp; exact .inr rfl
              · cases h
            · cases h
          · split at h
            · obtain ⟨r, hr, rfl⟩ := Option.map_eq_some_iff.1 h
              intro p hp
              rcases List.mem_append.1 hp with hp | hp
              · unfold one1 at hr
                split at hr
                · injection hr with hr; subst hr; simp at hp; rw [hp]; exact .inl rfl
                · split at hr
                  · injection hr with hr; subst hr; cases hp
                  · cases hr
              · simp at hp; subst hp; exact .inr rfl
            · cases h
        · cases h
      · cases h
  · cases h
theorem step_congr {P : Program} {tm tm' : List AV} {rs rs' : Rid → Res} {id : Path} {o : Oper} {e : Eff} (h : ∀ x ∈ o.op.operands, ev tm x = ev tm' x) (hr : ∀ r ∈ e.tch, rs r = rs' r)
    (hs : step P tm rs id o = some e) : step P tm' rs' id o = some e := by
  have hP := stepP_congr (P := P) h
  unfold step at hs ⊢
  rw [← hP]
  obtain ⟨dst, op, type, pos, after, guard⟩ := o
  cases op <;> simp only [Op.operands] at h <;> simp only [stepM] at hs ⊢ <;> try exact hs
  case move x => rw [← h x (by simp)]; exact hs
  case assign x => rw [← h x (by simp)]; exact hs
  case binOp op t x y yt => rw [← h x (by simp), ← h y (by simp)]; exact hs
  case nilCheck x => rw [← h x (by simp)]; exact hs
  case slice t x lo hi mx =>
    cases lo with
    | some _ => exact hs
    | none =>
      cases hi with
      | none => exact hs
      | some hi =>
        cases mx with
        | none => exact hs
        | some mx =>
          simp only at hs ⊢
          rw [← h x (by simp), ← h hi (by simp), ← h mx (by simp)]; exact hs
  case makeMap t r =>
    cases r with
    | none => exact hs
    | some _ => exact hs
  case lookup t x i ok =>
    rw [← h x (by simp), ← h i (by simp)]
    have hno : stepP P tm { dst := dst, op := .lookup t x i ok, type := type, pos := pos, after := after, guard := guard } = none := by simp [stepP]
    rw [hno] at hs ⊢
    cases hp : lookA P rs t (ev tm x) (ev tm i) ok with
    | none => rw [hp] at hs; simp at hs
    | some e0 =>
      rw [hp] at hs
      injection hs with hs
      subst hs
      rw [lookA_congr hp hr]
  case mapUpdate t x i v =>
    rw [← h x (by simp), ← h i (by simp), ← h v (by simp)]
    have hno : stepP P tm { dst := dst, op := .mapUpdate t x i v, type := type, pos := pos, after := after, guard := guard } = none := by simp [stepP]
    rw [hno] at hs ⊢
    cases hp : updA P rs t (ev tm x) (ev tm i) (ev tm v) with
    | none => rw [hp] at hs; simp at hs
    | some e0 =>
      rw [hp] at hs
      injection hs with hs
      subst hs
      rw [updA_congr hp hr]
  case load t x =>
    rw [← h x (by simp)]
    cases hx : ev tm x with
    | ap aid s j k =>
      rw [hx] at hs
      simp only at hs ⊢
      have hno : stepP P tm { dst := dst, op := .load t x, type := type, pos := pos, after := after, guard := guard } = none := by simp [stepP, hx]
      rw [hno] at hs ⊢
      cases hrs : rs aid with
      | arr s' el sz rows =>
        rw [hrs] at hs
        simp only at hs
        by_cases hss : s' = s
        · rw [if_pos hss] at hs
          cases hj : rows[j]? with
          | none => rw [hj] at hs; simp at hs
          | some cs =>
            rw [hj] at hs
            simp only at hs
            cases hp : partV P t cs k with
            | none => rw [hp] at hs; simp at hs
            | some q =>
              rw [hp] at hs
              simp only [Option.map_some] at hs
              injection hs with hs
              have := hr aid (by rw [← hs]; exact List.mem_singleton.2 rfl)
              rw [← this, hrs]
              simp only [if_pos hss, hj, hp, Option.map_some]
              rw [hs]
        · rw [if_neg hss] at hs; simp at hs
      | _ => rw [hrs] at hs; simp at hs
    | vp vid off =>
      rw [hx] at hs
      simp only at hs ⊢
      have hno : stepP P tm { dst := dst, op := .load t x, type := type, pos := pos, after := after, guard := guard } = none := by simp [stepP, hx]
      rw [hno] at hs ⊢
      cases hrs : rs vid with
      | var ty cells =>
        rw [hrs] at hs
        simp only at hs
        cases hp : partV P t cells off with
        | none => rw [hp] at hs; simp at hs
        | some q =>
          rw [hp] at hs
          simp only [Option.map_some] at hs
          injection hs with hs
          have := hr vid (by rw [← hs]; exact List.mem_singleton.2 rfl)
          rw [← this, hrs]
          simp only [hp, Option.map_some]
          rw [hs]
      | dead => rw [hrs] at hs; simp at hs
      | tok s e' sz => rw [hrs] at hs; simp at hs
      | arr s e' sz rows => rw [hrs] at hs; simp at hs
      | map kt et n f => rw [hrs] at hs; simp at hs
    | _ => rw [hx] at hs; exact hs
  case store t x y =>
    rw [← h x (by simp), ← h y (by simp)]
    cases hx : ev tm x with
    | vp vid off =>
      rw [hx] at hs
      simp only at hs ⊢
      have hno : stepP P tm { dst := dst, op := .store t x y, type := type, pos := pos, after := after, guard := guard } = none := by simp [stepP]
      rw [hno] at hs ⊢
      have key : ∀ e0, storeA P rs id t vid off (ev tm y) = some e0 → e0.tch = [vid] := by
        intro e0 h0
        unfold storeA at h0
        split at h0
        · split at h0
          · split at h0
            · split at h0
              · injection h0 with h0; rw [← h0]
              · cases h0
            · cases h0
          · split at h0
            · obtain ⟨r, _, rfl⟩ := Option.map_eq_some_iff.1 h0; rfl
            · cases h0
        · cases h0
      cases hp : storeA P rs id t vid off (ev tm y) with
      | none => rw [hp] at hs; simp at hs
      | some e0 =>
        rw [hp] at hs
        injection hs with hs
        have hv := hr vid (by rw [← hs, key e0 hp]; exact List.mem_singleton.2 rfl)
        have : storeA P rs' id t vid off (ev tm y) = storeA P rs id t vid off (ev tm y) := by unfold storeA; rw [hv]
        rw [this, hp, hs]
    | ap aid s j k =>
      rw [hx] at hs
      simp only at hs ⊢
      have hno : stepP P tm { dst := dst, op := .store t x y, type := type, pos := pos, after := after, guard := guard } = none := by simp [stepP]
      rw [hno] at hs ⊢
      cases hp : storeP P rs id t aid s j k (ev tm y) with
      | none => rw [hp] at hs; simp at hs
      | some e0 =>
        rw [hp] at hs
        injection hs with hs
        have hv := hr aid (by rw [← hs, (storeP_tch hp).1]; exact List.mem_singleton.2 rfl)
        have : storeP P rs' id t aid s j k (ev tm y) = storeP P rs id t aid s j k (ev tm y) := by unfold storeP; rw [hv]
        rw [this, hp, hs]
    | _ => rw [hx] at hs; exact hs
  case box t x => rw [← h x (by simp)]; exact hs
  case buildSlice t len ps =>
    have e1 : (ps.toList.map fun p => (p.1, (ev tm' p.2).content)) = ps.toList.map fun p => (p.1, (ev tm p.2).content) :=
      List.map_congr_left fun p hp => by rw [h p.2 (by simp; exact ⟨p.1, by simpa using hp⟩)]
    rw [e1]; exact hs
  case makeSlice t l c => rw [← h l (by simp), ← h c (by simp)]; exact hs
  case call c =>
    obtain ⟨callee, args, ts⟩ := c
    have e1 : args.toList.map (ev tm') = args.toList.map (ev tm) := List.map_congr_left fun x hx => (h x (by simp at hx; simp [Call.operands, hx])).symm
    simp only at hs ⊢
    cases callee with
    | builtin b =>
      cases b <;> try exact hs
      simp only at hs ⊢
      rw [e1]
      have hno : stepP P tm { dst := dst, op := .call { callee := .builtin .append, args := args, argTypes := ts }, type := type, pos := pos, after := after, guard := guard } = none := by
        simp only [stepP]
        rw [bltA_append]
      rw [hno] at hs ⊢
      cases hp : appA P rs id ts.toList (args.toList.map (ev tm)) with
      | none =>
        rw [hp] at hs
        simp only at hs
        cases hq : appR P rs id ts.toList (args.toList.map (ev tm)) with
        | none =>
          rw [hq] at hs
          simp only at hs
          cases hq2 : appS P rs ts.toList (args.toList.map (ev tm)) with
          | none => rw [hq2] at hs; simp at hs
          | some e0 =>
            rw [hq2] at hs
            injection hs with hs
            subst hs
            rw [(appS_none (id := id) hq2 rs').1, (appS_none (id := id) hq2 rs').2]
            simp only
            rw [appS_congr hq2 hr]
        | some e0 =>
          rw [hq] at hs
          injection hs with hs
          subst hs
          rw [appA_none hq rs']
          simp only
          rw [appR_congr hq hr]
      | some e0 =>
        rw [hp] at hs
        injection hs with hs
        subst hs
        have : appA P rs' id ts.toList (args.toList.map (ev tm)) = some e0 := appA_congr hp hr
        rw [this]
    | _ => exact hs
def keys (e : Eff) : List Rid := e.wr.map (·.1)
/-- How an operation stands to memory: 1: it reads, 2: it writes. q: a call that may touch what is the caller's. -/
def loud (q : Bool) (o : Oper) : Nat := match o.op with
  | .load _ _ => 1
  | .store _ _ _ => 2
  | .lookup _ _ _ _ => 1
  | .mapUpdate _ _ _ _ => 2
  | .call c => match c.callee with
    | .builtin .append => 2
    | _ => if q = true then 2 else 0
  | _ => 0
theorem one1_keys {P : Program} {id k t q r} (h : one1 P id k t q = some r) : ∀ p ∈ r.2, p.1.1 = id := by
  unfold one1 at h
  split at h
  · injection h with h; subst h; intro p hp; simp at hp; rw [hp]
  · split at h
    · injection h with h; subst h; intro p hp; cases hp
    · cases h
theorem appA_keys {P : Program} {rs : Rid → Res} {id : Path} {ts : List TypeId} {xs : List AV} {e : Eff} (hM : appA P rs id ts xs = some e) :
    (∀ r ∈ e.tch, rs r ≠ .dead ∧ ∃ q ∈ xs, q.owner = some r) ∧ ∀ p ∈ e.wr, p.1.1 = id ∨ p.1 ∈ e.tch := by
  unfold appA at hM
  split at hM
  · split at hM
    · split at hM
      · split at hM
        · split at hM
          · split at hM
            · rename_i xs t s
              split at hM
              · rename_i hrs
                split at hM
                · injection hM with hM
                  subst hM
                  refine ⟨fun r h => ?_, fun p hp => by simp at hp; subst hp; exact .inr (List.mem_singleton.2 rfl)⟩
                  rw [List.mem_singleton.1 h]
                  exact ⟨by rw [hrs]; simp, _, List.mem_cons_self, rfl⟩
                · cases hM
              · cases hM
            · split at hM
              · injection hM with hM
                subst hM
                exact ⟨fun r h => (by cases h), fun p hp => by simp at hp; rcases hp with rfl | rfl <;> exact .inl rfl⟩
              · cases hM
            · cases hM
          · cases hM
        · cases hM
      · cases hM
    · cases hM
  · cases hM
theorem appR_keys {P : Program} {rs : Rid → Res} {id : Path} {ts : List TypeId} {xs : List AV} {e : Eff} (hM : appR P rs id ts xs = some e) :
    (∀ r ∈ e.tch, rs r ≠ .dead ∧ ∃ q ∈ xs, q.owner = some r) ∧ ∀ p ∈ e.wr, p.1.1 = id ∨ p.1 ∈ e.tch := by
  unfold appR at hM
  split at hM
  · split at hM
    · split at hM
      · split at hM
        · split at hM
          · split at hM
            · rename_i hrs
              split at hM
              · injection hM with hM
                subst hM
                refine ⟨fun r h => ?_, fun p hp => ?_⟩
                · rw [List.mem_singleton.1 h]
                  exact ⟨by rw [hrs]; simp, _, List.mem_cons_self, rfl⟩
                · rcases List.mem_append.1 hp with hp | hp
                  · exact .inl (newR_ids id _ _ p hp)
                  · simp at hp; subst hp; exact .inr (List.mem_singleton.2 rfl)
              · cases hM
            · cases hM
          · cases hM
        · cases hM
      · cases hM
    · cases hM
  · split at hM
    · split at hM
      · split at hM
        · split at hM
          · split at hM
            · injection hM with hM
              subst hM
              exact ⟨fun r h => (by cases h), fun p hp => by cases hp⟩
            · injection hM with hM
              subst hM
              exact ⟨fun r h => (by cases h), fun p hp => by simp at hp; subst hp; exact .inl rfl⟩
          · cases hM
        · cases hM
      · cases hM
    · cases hM
  · cases hM
/-- What an operation's effect may touch. -/
theorem step_keys {P : Program} {tm : List AV} {rs : Rid → Res} {id : Path} {o : Oper} {e : Eff} (h : step P tm rs id o = some e) :
    (∀ r ∈ e.tch, ∀ b, loud b o ≠ 0 ∧ rs r ≠ .dead ∧ ∃ x ∈ o.op.operands, (ev tm x).owner = some r) ∧
    ∀ p ∈ e.wr, p.1.1 = id ∨ (p.1 ∈ e.tch ∧ ∀ b, loud b o = 2) := by
  unfold step at h
  split at h
  · rename_i e' hM
    injection h with h
    subst h
    obtain ⟨dst, op, type, pos, after, guard⟩ := o
    unfold stepM at hM
    cases op <;> simp only at hM <;> try (cases hM; done)
    case move x =>
      split at hM
      · obtain ⟨r, hr, rfl⟩ := Option.map_eq_some_iff.1 hM
        exact ⟨fun r h => (by cases h), fun p hp => .inl (one1_keys hr p hp)⟩
      · cases hM
    case assign x =>
      split at hM
      · obtain ⟨r, hr, rfl⟩ := Option.map_eq_some_iff.1 hM
        exact ⟨fun r h => (by cases h), fun p hp => .inl (one1_keys hr p hp)⟩
      · cases hM
    case load t x =>
      split at hM
      · rename_i vid off he
        split at hM
        · rename_i cells hrs
          obtain ⟨q, hq, rfl⟩ := Option.map_eq_some_iff.1 hM
          refine ⟨fun r h b => ?_, fun p hp => by cases hp⟩
          rw [List.mem_singleton.1 h]
          exact ⟨by simp [loud], by rw [hrs]; simp, x, by simp [Op.operands], by rw [he]; rfl⟩
        · cases hM
      · rename_i aid s j k he
        split at hM
        · rename_i s' el sz rows hrs
          split at hM
          · split at hM
            · obtain ⟨q, hq, rfl⟩ := Option.map_eq_some_iff.1 hM
              refine ⟨fun r h b => ?_, fun p hp => by cases hp⟩
              rw [List.mem_singleton.1 h]
              exact ⟨by simp [loud], by rw [hrs]; simp, x, by simp [Op.operands], by rw [he]; rfl⟩
            · cases hM
          · cases hM
        · cases hM
      · cases hM
    case binOp op t x y yt =>
      obtain ⟨q, hq, rfl⟩ := Option.map_eq_some_iff.1 hM
      exact ⟨fun r h => (by cases h), fun p hp => by cases hp⟩
    case slice t x lo hi mx =>
      cases lo with
      | some _ => cases hM
      | none =>
        cases hi with
        | none => cases hM
        | some hi =>
          cases mx with
          | none => cases hM
          | some mx =>
            obtain ⟨q, hq, rfl⟩ := Option.map_eq_some_iff.1 hM
            exact ⟨fun r h => (by cases h), fun p hp => by cases hp⟩
    case nilCheck x =>
      split at hM
      · injection hM with hM
        subst hM
        exact ⟨fun r h => (by cases h), fun p hp => by cases hp⟩
      · injection hM with hM
        subst hM
        exact ⟨fun r h => (by cases h), fun p hp => by cases hp⟩
      · cases hM
    case makeMap t r =>
      cases r with
      | some _ => cases hM
      | none =>
        simp only at hM
        split at hM
        · injection hM with hM
          subst hM
          exact ⟨fun r h => (by cases h), fun p hp => by simp at hp; subst hp; exact .inl rfl⟩
        · cases hM
    case lookup t x i ok =>
      unfold lookA at hM
      split at hM
      · rename_i r s he1 he2
        split at hM
        · rename_i hrs ht
          split at hM
          · injection hM with hM
            subst hM
            refine ⟨fun r' h b => ?_, fun p hp => by cases hp⟩
            rw [List.mem_singleton.1 h]
            exact ⟨by simp [loud], by rw [hrs]; simp, x, by simp [Op.operands], by rw [he1]; rfl⟩
          · cases hM
        · cases hM
      · cases hM
    case mapUpdate t x i v =>
      unfold updA at hM
      split at hM
      · rename_i r s he1 he2
        split at hM
        · rename_i hrs ht
          split at hM
          · obtain ⟨n, hn, rfl⟩ := Option.map_eq_some_iff.1 hM
            refine ⟨fun r' h b => ?_, fun p hp => by simp at hp; subst hp; exact .inr ⟨List.mem_singleton.2 rfl, fun _ => by simp [loud]⟩⟩
            rw [List.mem_singleton.1 h]
            exact ⟨by simp [loud], by rw [hrs]; simp, x, by simp [Op.operands], by rw [he1]; rfl⟩
          · cases hM
        · cases hM
      · cases hM
    case store t x y =>
      split at hM
      · rename_i vid off he
        unfold storeA at hM
        split at hM
        · rename_i cells d sz hrs hd hs
          have hcom : ∀ r ∈ [vid], ∀ b, loud b { dst := dst, op := .store t x y, type := type, pos := pos, after := after, guard := guard } ≠ 0 ∧ rs r ≠ .dead ∧ ∃ z ∈ (Op.store t x y).operands, (ev tm z).owner = some r := fun r h b => by
            rw [List.mem_singleton.1 h]
            exact ⟨by simp [loud], by rw [hrs]; simp, x, by simp [Op.operands], by rw [he]; rfl⟩
          split at hM
          · split at hM
            · split at hM
              · injection hM with hM
                subst hM
                refine ⟨hcom, fun p hp => ?_⟩
                rcases List.mem_append.1 hp with hp | hp
                · exact .inl (tokN_ids id _ _ 0 p hp).1
                · simp at hp; subst hp; exact .inr ⟨List.mem_singleton.2 rfl, fun _ => by simp [loud]⟩
              · cases hM
            · cases hM
          · split at hM
            · obtain ⟨r, hr, rfl⟩ := Option.map_eq_some_iff.1 hM
              refine ⟨hcom, fun p hp => ?_⟩
              rcases List.mem_append.1 hp with hp | hp
              · exact .inl (one1_keys hr p hp)
              · simp at hp; subst hp; exact .inr ⟨List.mem_singleton.2 rfl, fun _ => by simp [loud]⟩
            · cases hM
        · cases hM
      · rename_i aid s j k he
        obtain ⟨h1, h2, h3⟩ := storeP_tch hM
        refine ⟨fun r h b => ?_, fun p hp => ?_⟩
        · rw [h1] at h
          rw [List.mem_singleton.1 h]
          exact ⟨by simp [loud], h2, x, by simp [Op.operands], by rw [he]; rfl⟩
        · rcases h3 p hp with h4 | h4
          · exact .inl h4
          · exact .inr ⟨by rw [h1, h4]; exact List.mem_singleton.2 rfl, fun _ => by simp [loud]⟩
      · cases hM
    case box t x =>
      unfold boxA at hM
      split at hM
      · injection hM with hM
        subst hM
        refine ⟨fun r h => (by cases h), fun p hp => ?_⟩
        rcases List.mem_append.1 hp with hp | hp
        · exact .inl (tokN_ids id _ _ 1 p hp).1
        · simp at hp; subst hp; exact .inl rfl
      · obtain ⟨r, hr, rfl⟩ := Option.map_eq_some_iff.1 hM
        refine ⟨fun r h => (by cases h), fun p hp => ?_⟩
        rcases List.mem_append.1 hp with hp | hp
        · exact .inl (one1_keys hr p hp)
        · simp at hp; subst hp; exact .inl rfl
    case alloc t =>
      unfold allocA at hM
      split at hM
      · split at hM
        · injection hM with hM
          subst hM
          refine ⟨fun r h => (by cases h), fun p hp => ?_⟩
          rcases List.mem_append.1 hp with hp | hp
          · exact .inl (tokN_ids id _ _ 1 p hp).1
          · simp at hp; subst hp; exact .inl rfl
        · cases hM
      · cases hM
    case buildSlice t len ps =>
      unfold rowA at hM
      split at hM
      · split at hM
        · split at hM
          · obtain ⟨xs, hxs, rfl⟩ := Option.map_eq_some_iff.1 hM
            exact ⟨fun r h => (by cases h), fun p hp => by simp at hp; subst hp; exact .inl rfl⟩
          · cases hM
        · cases hM
      · cases hM
    case makeSlice t l c =>
      split at hM
      · unfold makeR at hM
        split at hM
        · split at hM
          · split at hM
            · injection hM with hM
              subst hM
              exact ⟨fun r h => (by cases h), fun p hp => by simp at hp; subst hp; exact .inl rfl⟩
            · cases hM
          · cases hM
        · cases hM
      unfold makeA at hM
      split at hM
      · split at hM
        · split at hM
          · split at hM
            · injection hM with hM
              subst hM
              exact ⟨fun r h => (by cases h), fun p hp => by simp at hp; subst hp; exact .inl rfl⟩
            · split at hM
              · injection hM with hM
                subst hM
                exact ⟨fun r h => (by cases h), fun p hp => by simp at hp; subst hp; exact .inl rfl⟩
              · cases hM
          · cases hM
        · cases hM
      · cases hM
    case call c =>
      obtain ⟨callee, args, ts⟩ := c
      simp only at hM
      split at hM
      · have fin : ∀ e' : Eff, ((∀ r ∈ e'.tch, rs r ≠ .dead ∧ ∃ q ∈ args.toList.map (ev tm), q.owner = some r) ∧ ∀ p ∈ e'.wr, p.1.1 = id ∨ p.1 ∈ e'.tch) →
            (∀ r ∈ e'.tch, ∀ b, loud b { dst := dst, op := .call { callee := .builtin .append, args := args, argTypes := ts }, type := type, pos := pos, after := after, guard := guard } ≠ 0 ∧ rs r ≠ .dead ∧ ∃ x ∈ (Op.call { callee := .builtin .append, args := args, argTypes := ts }).operands, (ev tm x).owner = some r) ∧
            ∀ p ∈ e'.wr, p.1.1 = id ∨ (p.1 ∈ e'.tch ∧ ∀ b, loud b { dst := dst, op := .call { callee := .builtin .append, args := args, argTypes := ts }, type := type, pos := pos, after := after, guard := guard } = 2) := fun e' h => by
          refine ⟨fun r hr b => ?_, fun p hp => (h.2 p hp).imp (fun h => h) (fun h => ⟨h, fun _ => by simp [loud]⟩)⟩
          obtain ⟨h1, q, hq, h2⟩ := h.1 r hr
          obtain ⟨x, hx, he⟩ := List.mem_map.1 hq
          exact ⟨by simp [loud], h1, x, by simp [Op.operands, Call.operands]; simpa using hx, by rw [he]; exact h2⟩
        split at hM
        · rename_i hA
          injection hM with hM
          subst hM
          exact fin _ (appA_keys hA)
        · split at hM
          · rename_i hR
            injection hM with hM
            subst hM
            exact fin _ (appR_keys hR)
          · exact fin _ (appS_keys hM)
      · cases hM
  · obtain ⟨q, hq, rfl⟩ := Option.map_eq_some_iff.1 h
    exact ⟨fun r h => (by cases h), fun p hp => by cases hp⟩
end Go.FE
namespace Go.FE
open Go.RowKit
/-- The function has a body that can be entered. -/
def enters (P : Program) (f : FuncId) : Bool := match P.funcs[f]? with
  | some fn => fn.name != "runtime.NumGoroutine" && fn.body.isSome
  | none => false
/-- What a call hands back, by content. -/
def RR (m : Nat → Nat) (w : World) : AV → Value → Prop
  | .tup vs, x => ∃ ys : Array Value, x = .tuple ys ∧ ys.size = vs.length ∧ ∀ i q, vs[i]? = some q → CR m w q (ys.getD i undef)
  | q, x => CR m w q x
def AV.clean : AV → AV
  | .tup vs => .tup vs
  | q => q.bare
theorem RR.VR {E : Env} {q : AV} {x : Value} (h : RR E.m E.w q x) : VR E q.clean x := by
  cases q with
  | tup vs => exact h
  | v y => exact VR.of_CR_bare (q := .v y) h
  | sl xs tok => exact VR.of_CR_bare (q := .sl xs tok) h
  | agg n cs => exact VR.of_CR_bare (q := .agg n cs) h
  | unk => exact VR.of_CR_bare (q := .unk) h
  | und => cases h
  | vp id off => cases h
  | ep n cs off => cases h
  | fn f caps => cases h
  | ar id s z off n => cases h
  | ap id s j k => cases h
  | mp id => cases h
  | e0 => cases h
  | bl => cases h
/-- The contract of a call on contents: it turns nothing that was there. -/
structure CallsOK (P : Program) (f : FuncId) (args : List AV) (r : AV) : Prop where
  ent : enters P f = true
  run : ∀ (m : Nat → Nat) (w : World) (vs : Array Value), (∀ g, w.heap.size ≤ g → m g = 0) → TabW w → vs.size = args.length → (∀ i q, args[i]? = some q → CR m w q (vs.getD i undef)) →
    Calls P f vs w fun e w' => ∃ v m', e = .returned v ∧ Below w.heap.size w w' ∧ (∀ g, g < w.heap.size → m' g = m g) ∧ (∀ g, w'.heap.size ≤ g → m' g = 0) ∧ RR m' w' r v
def argsA (tm : List AV) (l : List Operand) : List AV := l.map fun x => nrmA (ev tm x).content
/-- The numbers that belong to an operation, and to what it calls. -/
def Under (id : Path) (r : Rid) : Prop := ∃ q, r.1 = q ++ id
def FreshP (U : Rid → Prop) (id : Path) : Prop := ∀ r, Under id r → ¬ U r
theorem FreshP.fresh {U : Rid → Prop} {id : Path} (h : FreshP U id) : Fresh U id 0 := fun k _ hU => h (id, k) ⟨[], rfl⟩ hU
theorem under_inj {p q q' : Path} {n n' : Nat} (h : q ++ n :: p = q' ++ n' :: p) : n = n' := by
  have hl : q.length = q'.length := by
    have := congrArg List.length h
    simp at this
    exact this
  have := (List.append_inj h hl).2
  injection this
/-- A call that may touch what is the caller's: T. -/
structure Calls2 (P : Program) (f : FuncId) (args : List AV) (T : List Rid) (rs : Rid → Res) (id : Path) (r : AV) (wr : List (Rid × Res)) : Prop where
  ent : enters P f = true
  live : ∀ t ∈ T, rs t ≠ .dead
  keys : ∀ p ∈ wr, p.1 ∈ T ∨ Under id p.1
  run : ∀ {B E0 tm a E}, Sim B E0 tm E a → (∀ t ∈ T, E.rs t = rs t) → FreshP E.U id → ∀ vs : Array Value, vs.size = args.length → (∀ i q, args[i]? = some q → VR E q (vs.getD i undef)) →
    Calls P f vs E.w fun e w' => ∃ v E', e = .returned v ∧ Sim B E0 tm E' a ∧ E'.w = w' ∧ VR E' r v ∧ E'.rs = wrs E.rs wr ∧ ∀ r, E'.U r → E.U r ∨ Under id r
/-- What an operation is known to do wherever its operands, and what it touches, are as told. b: a call that may touch what is the caller's. -/
structure Good (P : Program) (b : Bool) (tm : List AV) (rs : Rid → Res) (id : Path) (o : Oper) (e : Eff) : Prop where
  run : ∀ {B E0 E tm' a}, Sim B E0 tm' E a → (∀ x ∈ o.op.operands, ev tm' x = ev tm x) → (∀ r ∈ e.tch, E.rs r = rs r) → FreshP E.U id → ∀ {K : Act → World → Prop} {Q : Exit → Act → World → Prop},
    (∀ E' z, Sim B E0 tm' E' a → VR E' e.val z → E'.rs = wrs E.rs e.wr → (∀ r, E'.U r → E.U r ∨ Under id r) → K (a.put o.dst z) E'.w) → o.wp P a E.w K Q
  wr : ∀ r ∈ keys e, Under id r ∨ (r ∈ e.tch ∧ loud b o = 2)
  tch : ∀ r ∈ e.tch, loud b o ≠ 0 ∧ rs r ≠ .dead
  near : b = true ∨ ∀ r ∈ e.tch, ∃ x ∈ o.op.operands, (ev tm x).owner = some r
theorem Good.of_step {P : Program} {b : Bool} {tm : List AV} {rs : Rid → Res} {id : Path} {o : Oper} {e : Eff} (h : step P tm rs id o = some e) : Good P b tm rs id o e := by
  have hk := step_keys h
  refine ⟨fun S hev hr hf K Q hK => ?_, fun r hr => ?_, fun r hr => ⟨(hk.1 r hr b).1, (hk.1 r hr b).2.1⟩, .inr fun r hr => (hk.1 r hr b).2.2⟩
  · have h' := step_congr (fun x hx => (hev x hx).symm) (fun r hr' => (hr r hr').symm) h
    obtain ⟨nx, E', h1, h2, h3, h4, h5⟩ := step_sound S id hf.fresh o h'
    unfold Oper.wp
    rw [h1]
    have h5' : ∀ r, E'.U r → _ ∨ Under id r := fun r hU => (h5 r hU).imp (fun h => h) (fun h => ⟨[], h⟩)
    rcases h3 with ⟨z, rfl, h3⟩ | ⟨rfl, h3⟩
    · exact hK E' z h2 h3 h4 h5'
    · exact hK E' undef h2 (by rw [h3]; rfl) h4 h5'
  · obtain ⟨p, hp, rfl⟩ := List.mem_map.1 hr
    rcases hk.2 p hp with h | ⟨h1, h2⟩
    · exact .inl ⟨[], h⟩
    · exact .inr ⟨h1, h2 b⟩
theorem enter_run {P : Program} {f : FuncId} (hent : enters P f = true) (args : Array Value) (w : World) : (callFunc f args).run P w = .ok (.enter f args) w := by
  unfold enters at hent
  split at hent
  · rename_i fn hfun
    simp only [Bool.and_eq_true, bne_iff_ne, ne_eq] at hent
    obtain ⟨hname, hbody⟩ := hent
    have hb2 : fn.body.isNone = false := by
      cases hb : fn.body with
      | none => rw [hb] at hbody; cases hbody
      | some y => rfl
    have hn2 : (fn.name == "runtime.NumGoroutine") = false := by simpa using hname
    unfold callFunc
    rw [Sem.run_bind]
    have hp : (Go.program).run P w = .ok P w := rfl
    rw [hp, Result.andThen_ok, hfun]
    simp only [hn2, hb2, Bool.false_eq_true, if_false]
    rfl
  · cases hent
def args2 (tm : List AV) (l : List Operand) (caps : List Rid) : List AV := l.map (ev tm) ++ caps.map fun id => .vp id 0
/-- Is a guarded operation to be carried out? -/
def gOf (all : List Oper) (tm : List AV) (o : Oper) : Option Bool :=
  match o.guard with
  | none => some true
  | some (j, want) => match (all[j]?).bind (·.dst) with
    | some d => match tm.getD d .unk with
      | .v (.bool b) => some (b == want)
      | .und => some false
      | _ => none
    | none => some false
theorem gOf_sound {B w0 tm a E} (S : Sim B w0 tm E a) {all : Array Oper} {o : Oper} {b : Bool} (h : gOf all.toList tm o = some b) : Region.wanted o (yielded all a.tmps) = b := by
  unfold gOf at h
  unfold Region.wanted
  cases hg : o.guard with
  | none => rw [hg] at h; injection h
  | some p =>
    obtain ⟨j, want⟩ := p
    rw [hg] at h
    simp only at h ⊢
    unfold yielded
    rw [Array.getElem?_toList] at h
    split at h
    · rename_i d hd
      rw [hd]
      by_cases hl : d < tm.length
      · have hs := S.slots d (tm.getD d .unk) (by rw [List.getD_eq_getElem?_getD, List.getElem?_eq_getElem hl]; rfl)
        have hdl : d < a.tmps.size := by rw [S.size]; exact hl
        have he : (some d).bind (a.tmps[·]?) = some (a.tmps.getD d undef) := by simp [hdl]
        rw [he]
        split at h
        · rename_i b' hb
          rw [hb] at hs
          obtain ⟨hs, _⟩ := CR.v_inv hs
          rw [hs]
          injection h
        · rename_i hb
          rw [hb] at hs
          have hs' : a.tmps.getD d undef = undef := hs
          cases h
          rw [hs']
          rfl
        · cases h
      · rw [List.getD_eq_getElem?_getD, List.getElem?_eq_none (Nat.le_of_not_lt hl)] at h
        cases h
    · rename_i hd
      cases h
      rw [hd]
      rfl
def skipE : Eff := ⟨.und, [], []⟩
/-- A region's operations, one after the other, with their effects. k: the number of the first; Qs: the calls that may touch what is the caller's. -/
inductive Runs (P : Program) (all : List Oper) (p : Path) (nx : Nat) (Qs : List Nat) : Nat → List Oper → List AV → (Rid → Res) → List AV → (Rid → Res) → List Eff → Prop
  | nil {k tm rs} : Runs P all p nx Qs k [] tm rs tm rs []
  | skip {k o rest tm rs tm' rs' tr} (hg : gOf all tm o = some false) (h : Runs P all p nx Qs (k + 1) rest (putD tm o.dst .und) rs tm' rs' tr) : Runs P all p nx Qs k (o :: rest) tm rs tm' rs' (skipE :: tr)
  | step {k o rest tm rs tm' rs' e tr} (hg : gOf all tm o = some true) (hs : Good P (Qs.contains k) tm rs ((nx + k) :: p) o e) (h : Runs P all p nx Qs (k + 1) rest (putD tm o.dst e.val) (wrs rs e.wr) tm' rs' tr) : Runs P all p nx Qs k (o :: rest) tm rs tm' rs' (e :: tr)
/-- Of this frame's numbers only those below n are in use. -/
def Bnd (p : Path) (n : Nat) (U0 U : Rid → Prop) : Prop := ∀ r, U r → (U0 r ∨ Under p r) ∧ (∀ m, Under (m :: p) r → m < n) ∧ r.1 ≠ p
theorem Under.tail {p : Path} {n : Nat} {r : Rid} : Under (n :: p) r → Under p r := fun ⟨q, h⟩ => ⟨q ++ [n], by rw [h]; simp⟩
theorem Under.inj {p : Path} {n n' : Nat} {r : Rid} : Under (n :: p) r → Under (n' :: p) r → n = n' := fun ⟨q, h⟩ ⟨q', h'⟩ => under_inj (h.symm.trans h')
theorem Under.ne {p : Path} {n : Nat} {r : Rid} : Under (n :: p) r → r.1 ≠ p := fun ⟨q, h⟩ e => by
  have := congrArg List.length (h.symm.trans e)
  simp at this
  omega
theorem Bnd.fresh {p : Path} {n : Nat} {U0 U : Rid → Prop} (h : Bnd p n U0 U) : FreshP U (n :: p) := fun r hq hU => Nat.lt_irrefl _ ((h r hU).2.1 n hq)
theorem Bnd.step {p : Path} {n : Nat} {U0 U U' : Rid → Prop} (h : Bnd p n U0 U) (hU : ∀ r, U' r → U r ∨ Under (n :: p) r) : Bnd p (n + 1) U0 U' := fun r hr => by
  rcases hU r hr with h1 | h1
  · exact ⟨(h r h1).1, fun m hm => Nat.lt_succ_of_lt ((h r h1).2.1 m hm), (h r h1).2.2⟩
  · exact ⟨.inr h1.tail, fun m hm => by rw [hm.inj h1]; exact Nat.lt_succ_self _, h1.ne⟩
theorem Bnd.le {p : Path} {n n' : Nat} {U0 U : Rid → Prop} (h : Bnd p n U0 U) (hn : n ≤ n') : Bnd p n' U0 U := fun r hr => ⟨(h r hr).1, fun m hm => Nat.lt_of_lt_of_le ((h r hr).2.1 m hm) hn, (h r hr).2.2⟩
theorem runs_wp {P : Program} {ops : Array Oper} {p : Path} {nx : Nat} {Qs : List Nat} {B w0} {U0 : Rid → Prop} {Q : Exit → Act → World → Prop} {k rest tm rs tm' rs' tr} (h : Runs P ops.toList p nx Qs k rest tm rs tm' rs' tr) :
    ∀ {a E}, Sim B w0 tm E a → E.rs = rs → Bnd p (nx + k) U0 E.U → (∀ E' a', Sim B w0 tm' E' a' → E'.rs = rs' → Bnd p (nx + k + rest.length) U0 E'.U → Q .normal a' E'.w) → wpList P ops Q rest a E.w := by
  induction h with
  | nil => intro a E S hrs hU hQ; exact hQ E a S hrs (by simpa using hU)
  | skip hg h ih =>
    rename_i k o rest tm rs tm' rs' tr
    intro a E S hrs hU hQ
    unfold wpList
    rw [gOf_sound S hg]
    simp only [Bool.false_eq_true, if_false]
    exact ih (S.putSkip o.dst) hrs (hU.le (by omega)) (fun E' a' S' h1 h2 => hQ E' a' S' h1 (h2.le (by simp only [List.length_cons]; omega)))
  | step hg hs h ih =>
    rename_i k o rest tm rs tm' rs' e tr
    intro a E S hrs hU hQ
    unfold wpList
    rw [gOf_sound S hg]
    simp only [if_true]
    subst hrs
    refine .inl (hs.run S (fun _ _ => rfl) (fun _ _ => rfl) hU.fresh (fun E' z S' hv h4 h5 => ?_))
    exact ih (S'.putD hv o.dst) h4 (hU.step h5) (fun E'' a' S'' h1 h2 => hQ E'' a' S'' h1 (h2.le (by simp only [List.length_cons]; omega)))
end Go.FE
namespace Go.FE
open Go.RowKit
abbrev S2 := List AV × (Rid → Res)
def app1 (s : S2) (o : Oper) (e : Eff) : S2 := (putD s.1 o.dst e.val, wrs s.2 e.wr)
/-- The state when the operations that b names are done. -/
def fB (b : Nat → Bool) : Nat → List (Oper × Eff) → S2 → S2
  | _, [], s => s
  | k, p :: r, s => fB b (k + 1) r (if b k = true then app1 s p.1 p.2 else s)
theorem putD_len (tm : List AV) (d : Option Tmp) (q : AV) : (putD tm d q).length = tm.length := by cases d <;> simp [putD]
theorem putD_get {tm : List AV} {d : Option Tmp} {q : AV} {t : Nat} (h : d ≠ some t) : (putD tm d q)[t]? = tm[t]? := by
  cases d with
  | none => rfl
  | some d =>
    have : d ≠ t := fun e => h (by rw [e])
    simp [putD, List.getElem?_set, this]
theorem putD_self {tm : List AV} {q : AV} {t : Nat} : (putD tm (some t) q)[t]? = if t < tm.length then some q else none := by
  simp [putD, List.getElem?_set]
theorem fB_len (b : Nat → Bool) : ∀ (L : List (Oper × Eff)) (k : Nat) (s : S2), (fB b k L s).1.length = s.1.length
  | [], _, _ => rfl
  | p :: r, k, s => by
    unfold fB
    rw [fB_len b r]
    split
    · exact putD_len _ _ _
    · rfl
/-- A slot depends on those that write it alone. -/
theorem fB_slot (t : Nat) : ∀ (L : List (Oper × Eff)) (b b' : Nat → Bool) (k : Nat) (s s' : S2), (∀ j p, L[j]? = some p → p.1.dst = some t → b (k + j) = b' (k + j)) → s.1.length = s'.1.length → s.1[t]? = s'.1[t]? → (fB b k L s).1[t]? = (fB b' k L s').1[t]?
  | [], _, _, _, _, _, _, _, h => h
  | p :: r, b, b', k, s, s', hb, hl, h => by
    unfold fB
    refine fB_slot t r b b' (k + 1) _ _ (fun j q hj hd => by have := hb (j + 1) q hj hd; rwa [show k + (j + 1) = k + 1 + j by omega] at this) ?_ ?_
    · split <;> split <;> simp [app1, putD_len, hl]
    · by_cases hd : p.1.dst = some t
      · have h0 := hb 0 p rfl hd
        simp only [Nat.add_zero] at h0
        rw [h0]
        split
        · simp only [app1, hd, putD_self, hl]
        · exact h
      · split <;> split <;> first | exact h | (simp only [app1, putD_get hd]; exact h)
theorem wrs_out {rs : Rid → Res} {l : List (Rid × Res)} {r : Rid} (h : r ∉ l.map (·.1)) : wrs rs l r = rs r := wrs_ne (fun p hp e => h (List.mem_map.2 ⟨p, hp, e⟩))
theorem wrs_in {rs rs' : Rid → Res} : ∀ {l : List (Rid × Res)} {r : Rid}, r ∈ l.map (·.1) → wrs rs l r = wrs rs' l r
  | [], r, h => by cases h
  | (id, x) :: l, r, h => by
    unfold wrs
    by_cases hr : r ∈ l.map (·.1)
    · exact wrs_in hr
    · rw [wrs_out hr, wrs_out hr]
      have : r = id := by simpa [hr] using h
      rw [this, fup_self, fup_self]
theorem fB_res (r : Rid) : ∀ (L : List (Oper × Eff)) (b b' : Nat → Bool) (k : Nat) (s s' : S2), (∀ j p, L[j]? = some p → r ∈ keys p.2 → b (k + j) = b' (k + j)) → s.2 r = s'.2 r → (fB b k L s).2 r = (fB b' k L s').2 r
  | [], _, _, _, _, _, _, h => h
  | p :: l, b, b', k, s, s', hb, h => by
    unfold fB
    refine fB_res r l b b' (k + 1) _ _ (fun j q hj hd => by have := hb (j + 1) q hj hd; rwa [show k + (j + 1) = k + 1 + j by omega] at this) ?_
    by_cases hd : r ∈ keys p.2
    · have h0 := hb 0 p rfl hd
      simp only [Nat.add_zero] at h0
      rw [h0]
      split
      · exact wrs_in hd
      · exact h
    · split <;> split <;> first | exact h | (simp only [app1]; rw [wrs_out hd]; exact h) | (simp only [app1]; rw [wrs_out hd, wrs_out hd]; exact h)
/-- The last of those that write it decides. -/
theorem fB_slot_last (t : Nat) (b : Nat → Bool) : ∀ (L : List (Oper × Eff)) (k : Nat) (s : S2) (i : Nat) (p : Oper × Eff), L[i]? = some p → p.1.dst = some t → b (k + i) = true → (∀ j q, i < j → L[j]? = some q → q.1.dst = some t → b (k + j) = false) →
    (fB b k L s).1[t]? = if t < s.1.length then some p.2.val else none
  | [], _, _, _, _, h, _, _, _ => by simp at h
  | p0 :: l, k, s, 0, p, h, hd, hb, hn => by
    simp only [List.getElem?_cons_zero, Option.some.injEq] at h
    subst h
    unfold fB
    rw [if_pos (by simpa using hb)]
    rw [fB_slot t l b (fun _ => false) (k + 1) _ (app1 s p0.1 p0.2) (fun j q hj hq => by
      have := hn (j + 1) q (by omega) hj hq
      rwa [show k + (j + 1) = k + 1 + j by omega] at this) rfl rfl]
    have hno : ∀ (l : List (Oper × Eff)) (k : Nat) (s : S2), fB (fun _ => false) k l s = s := by
      intro l
      induction l with
      | nil => intro k s; rfl
      | cons x l ih => intro k s; unfold fB; simp [ih]
    rw [hno]
    simp only [app1, hd, putD_self]
  | p0 :: l, k, s, i + 1, p, h, hd, hb, hn => by
    unfold fB
    rw [fB_slot_last t b l (k + 1) _ i p h hd (by rwa [show k + (i + 1) = k + 1 + i by omega] at hb) (fun j q hj hq hqd => by
      have := hn (j + 1) q (by omega) hq hqd
      rwa [show k + (j + 1) = k + 1 + j by omega] at this)]
    split <;> simp [app1, putD_len]
theorem fB_res_last (r : Rid) (b : Nat → Bool) (rs0 : Rid → Res) : ∀ (L : List (Oper × Eff)) (k : Nat) (s : S2) (i : Nat) (p : Oper × Eff), L[i]? = some p → r ∈ keys p.2 → b (k + i) = true → (∀ j q, i < j → L[j]? = some q → r ∈ keys q.2 → b (k + j) = false) →
    (fB b k L s).2 r = wrs rs0 p.2.wr r
  | [], _, _, _, _, h, _, _, _ => by simp at h
  | p0 :: l, k, s, 0, p, h, hd, hb, hn => by
    simp only [List.getElem?_cons_zero, Option.some.injEq] at h
    subst h
    unfold fB
    rw [if_pos (by simpa using hb)]
    rw [fB_res r l b (fun _ => false) (k + 1) _ (app1 s p0.1 p0.2) (fun j q hj hq => by
      have := hn (j + 1) q (by omega) hj hq
      rwa [show k + (j + 1) = k + 1 + j by omega] at this) rfl]
    have hno : ∀ (l : List (Oper × Eff)) (k : Nat) (s : S2), fB (fun _ => false) k l s = s := by
      intro l
      induction l with
      | nil => intro k s; rfl
      | cons x l ih => intro k s; unfold fB; simp [ih]
    rw [hno]
    exact wrs_in hd
  | p0 :: l, k, s, i + 1, p, h, hd, hb, hn => by
    unfold fB
    exact fB_res_last r b rs0 l (k + 1) _ i p h hd (by rwa [show k + (i + 1) = k + 1 + i by omega] at hb) (fun j q hj hq hqd => by
      have := hn (j + 1) q (by omega) hq hqd
      rwa [show k + (j + 1) = k + 1 + j by omega] at this)
/-- What the text's order did at number k. -/
theorem Runs.at {P : Program} {all : List Oper} {p : Path} {nx : Nat} {Qs : List Nat} {i : Nat} {ops : List Oper} {tm rs tm' rs' tr} (h : Runs P all p nx Qs i ops tm rs tm' rs' tr) :
    tr.length = ops.length ∧ fB (fun _ => true) 0 (ops.zip tr) (tm, rs) = (tm', rs') ∧
    ∀ k o e, ops[k]? = some o → tr[k]? = some e → ∃ c, gOf all (fB (fun j => decide (j < k)) 0 (ops.zip tr) (tm, rs)).1 o = some c ∧ (c = false → e = skipE) ∧ (c = true → Good P (Qs.contains (i + k)) (fB (fun j => decide (j < k)) 0 (ops.zip tr) (tm, rs)).1 (fB (fun j => decide (j < k)) 0 (ops.zip tr) (tm, rs)).2 ((nx + (i + k)) :: p) o e) := by
  have hsh : ∀ (L : List (Oper × Eff)) (b b' : Nat → Bool) (k k' : Nat) (s : S2), (∀ j, b (k + j) = b' (k' + j)) → fB b k L s = fB b' k' L s := by
    intro L
    induction L with
    | nil => intro b b' k k' s _; rfl
    | cons x L ih =>
      intro b b' k k' s hb
      unfold fB
      have h0 := hb 0
      simp only [Nat.add_zero] at h0
      rw [h0]
      exact ih b b' (k + 1) (k' + 1) _ (fun j => by have := hb (j + 1); rwa [show k + (j + 1) = k + 1 + j by omega, show k' + (j + 1) = k' + 1 + j by omega] at this)
  have hf : ∀ (L : List (Oper × Eff)) (k : Nat) (s : S2), fB (fun j => decide (j < 0)) k L s = s := by
    intro L
    induction L with
    | nil => intro k s; rfl
    | cons x L ih => intro k s; unfold fB; simp only [Nat.not_lt_zero, decide_false, Bool.false_eq_true, if_false]; exact ih _ _
  have key : ∀ (o : Oper) (e : Eff) (L : List (Oper × Eff)) (s : S2) (k : Nat), fB (fun j => decide (j < k + 1)) 0 ((o, e) :: L) s = fB (fun j => decide (j < k)) 0 L (app1 s o e) := by
    intro o e L s k
    conv => lhs; unfold fB
    simp only [Nat.zero_lt_succ, decide_true, if_true]
    exact hsh L _ _ 1 0 _ (fun j => by simp; omega)
  have keyT : ∀ (o : Oper) (e : Eff) (L : List (Oper × Eff)) (s : S2), fB (fun _ => true) 0 ((o, e) :: L) s = fB (fun _ => true) 0 L (app1 s o e) := by
    intro o e L s
    conv => lhs; unfold fB
    simp only [if_true]
    exact hsh L _ _ 1 0 _ (fun j => rfl)
  induction h with
  | nil => exact ⟨rfl, rfl, fun k o e h => by simp at h⟩
  | skip hg h ih =>
    rename_i i o rest tm rs tm' rs' tr
    obtain ⟨h1, h2, h3⟩ := ih
    refine ⟨by simp [h1], ?_, fun k o' e' ho he => ?_⟩
    · rw [List.zip_cons_cons, keyT]; exact h2
    · cases k with
      | zero =>
        simp only [List.getElem?_cons_zero, Option.some.injEq] at ho he
        subst ho he
        exact ⟨false, by rw [hf]; exact hg, fun _ => rfl, fun h => by cases h⟩
      | succ k =>
        rw [List.zip_cons_cons, key, show i + (k + 1) = i + 1 + k by omega]
        exact h3 k o' e' ho he
  | step hg hs h ih =>
    rename_i i o rest tm rs tm' rs' e tr
    obtain ⟨h1, h2, h3⟩ := ih
    refine ⟨by simp [h1], ?_, fun k o' e' ho he => ?_⟩
    · rw [List.zip_cons_cons, keyT]; exact h2
    · cases k with
      | zero =>
        simp only [List.getElem?_cons_zero, Option.some.injEq] at ho he
        subst ho he
        exact ⟨true, by rw [hf]; exact hg, fun h => (by cases h), fun _ => by rw [hf]; exact hs⟩
      | succ k =>
        rw [List.zip_cons_cons, key, show i + (k + 1) = i + 1 + k by omega]
        exact h3 k o' e' ho he
end Go.FE
namespace Go.FE
open Go.RowKit
def edgesOf (o : Oper) : List Nat := (o.after.toList.filter (fun e => Region.binds .any e)).map (·.on)
def maskOf (o : Oper) (acc : List Nat) : Nat := (edgesOf o).foldl (fun s d => s ||| 2 ^ d ||| acc.getD d 0) 0
/-- For each operation, bit by bit, what must come before it. -/
def anc (ops : List Oper) : Nat → List Nat
  | 0 => []
  | k + 1 => anc ops k ++ [match ops[k]? with | some o => maskOf o (anc ops k) | none => 0]
/-- Marks of operations: 1000000 + k: operation k touches what the region has made; 2000000 + k: what is older. -/
def marks (Qs : List Nat) (i j : Nat) : Bool := (Qs.contains (1000000 + i) && Qs.contains (2000000 + j)) || (Qs.contains (2000000 + i) && Qs.contains (1000000 + j))
def pairOK (A : List Nat) (Qs : List Nat) (ops : Array Oper) (i j : Nat) (oi oj : Oper) : Bool :=
  (A.getD j 0).testBit i || (oi.apart ops oj && (!((loud (Qs.contains i) oi == 2 && loud (Qs.contains j) oj != 0) || (loud (Qs.contains j) oj == 2 && loud (Qs.contains i) oi != 0)) || marks Qs i j))
/-- Whatever may come in either order is apart. -/
def drawOK (ops : Array Oper) (Qs : List Nat) : Bool :=
  (List.range ops.size).all fun j => match ops[j]? with
    | some oj => (edgesOf oj).all (fun d => decide (d < j)) && (List.range j).all fun i => match ops[i]? with
      | some oi => pairOK (anc ops.toList ops.size) Qs ops i j oi oj
      | none => false
    | none => false
theorem mask_bit {acc : List Nat} {i : Nat} : ∀ (l : List Nat) (s : Nat), (l.foldl (fun s d => s ||| 2 ^ d ||| acc.getD d 0) s).testBit i = true → s.testBit i = true ∨ ∃ d ∈ l, i = d ∨ (acc.getD d 0).testBit i = true
  | [], s, h => .inl h
  | d :: l, s, h => by
    simp only [List.foldl_cons] at h
    rcases mask_bit l _ h with h | ⟨d', h1, h2⟩
    · simp only [Nat.testBit_or, Bool.or_eq_true] at h
      rcases h with (h | h) | h
      · exact .inl h
      · rw [Nat.testBit_two_pow] at h
        exact .inr ⟨d, List.mem_cons_self, .inl (by simpa using (of_decide_eq_true h).symm)⟩
      · exact .inr ⟨d, List.mem_cons_self, .inr h⟩
    · exact .inr ⟨d', List.mem_cons_of_mem _ h1, h2⟩
theorem anc_len (ops : List Oper) : ∀ k, (anc ops k).length = k
  | 0 => rfl
  | k + 1 => by simp [anc, anc_len ops k]
theorem anc_get (ops : List Oper) {j : Nat} : ∀ {k : Nat}, j < k → (anc ops k).getD j 0 = match ops[j]? with | some o => maskOf o (anc ops j) | none => 0
  | 0, h => by omega
  | k + 1, h => by
    have h0 : anc ops (k + 1) = anc ops k ++ [match ops[k]? with | some o => maskOf o (anc ops k) | none => 0] := rfl
    rw [h0]
    rcases Nat.lt_or_ge j k with h1 | h1
    · have := anc_get ops h1
      rw [List.getD_eq_getElem?_getD] at this
      rw [List.getD_eq_getElem?_getD, List.getElem?_append_left (by rw [anc_len]; exact h1)]
      exact this
    · have : j = k := by omega
      subst this
      rw [List.getD_eq_getElem?_getD, List.getElem?_append_right (by rw [anc_len]; exact Nat.le_refl _), anc_len]
      simp
theorem anc_out (ops : List Oper) {j k : Nat} (h : k ≤ j) : (anc ops k).getD j 0 = 0 := by
  rw [List.getD_eq_getElem?_getD, List.getElem?_eq_none (by rw [anc_len]; exact h)]
  rfl
theorem anc_same (ops : List Oper) {d j k : Nat} (h : d < j) (hj : j ≤ k) : (anc ops j).getD d 0 = (anc ops k).getD d 0 := by rw [anc_get ops h, anc_get ops (Nat.lt_of_lt_of_le h hj)]
/-- What is done is closed under what must come before. -/
def ClosedB (ops : List Oper) (b : Nat → Bool) : Prop := ∀ j o, ops[j]? = some o → b j = true → ∀ d ∈ edgesOf o, b d = true
theorem anc_closed {ops : List Oper} {n : Nat} {b : Nat → Bool} (hc : ClosedB ops b) : ∀ (j : Nat), j < n → ∀ o, ops[j]? = some o → (∀ d ∈ edgesOf o, b d = true) → ∀ i, ((anc ops n).getD j 0).testBit i = true → b i = true := by
  intro j
  induction j using Nat.strongRecOn with
  | _ j ih =>
    intro hj o ho he i hi
    rw [anc_get ops hj, ho] at hi
    rcases mask_bit _ _ hi with h | ⟨d, h1, h2⟩
    · simp at h
    · rcases h2 with rfl | h2
      · exact he _ h1
      · rcases Nat.lt_or_ge d j with hd | hd
        · rw [anc_same ops hd (Nat.le_of_lt hj)] at h2
          cases hod : ops[d]? with
          | none => rw [anc_get ops (by omega), hod] at h2; simp at h2
          | some od => exact ih d hd (by omega) od hod (hc d od hod (he d h1)) i h2
        · rw [anc_out ops hd] at h2; simp at h2
end Go.FE
