/- From a body to a contract. A walk by reckoning: what the frame knows is a list. -/
import Derived.Test.YtmblejfjbnoodaaGreatDoorS07
set_option linter.unusedVariables false
set_option linter.unusedSimpArgs false
namespace Go.FE
open Go.RowKit
/-- What a result's place holds. -/
def ResV (P : Program) (T : Rid → Prop) (p : Path) (s : St) (rv : ResultVar) (q : AV) : Prop := match rv with
  | .tmp t => s.tm[t]? = some q
  | .cell t ty => ∃ id off vt cells, s.tm[t]? = some (.vp id off) ∧ (T id ∨ Under p id) ∧ s.rs id = .var vt cells ∧ partV P ty cells off = some q
inductive ResL (P : Program) (T : Rid → Prop) (p : Path) (s : St) : List ResultVar → List AV → Prop
  | nil : ResL P T p s [] []
  | cons {rv q l qs} (h : ResV P T p s rv q) (hl : ResL P T p s l qs) : ResL P T p s (rv :: l) (q :: qs)
def packR : List AV → AV
  | [q] => q
  | qs => .tup (qs.map fun q => nrmA q.content)
/-- A result handed back by content. -/
def finR : List AV → AV
  | [q] => nrmA q.content
  | qs => .tup (qs.map fun q => nrmA q.content)
def rvRun (tmps : Array Value) : ResultVar → Sem Value
  | .tmp t => pure (tmps.getD t undef)
  | .cell d t => do loadVar t (← asAddr (tmps.getD d undef))
theorem results_eq (fn : Func) (tmps : Array Value) : results fn tmps = (do let vs ← fn.results.mapM (rvRun tmps); pure (if h : vs.size = 1 then vs[0] else .tuple vs)) := rfl
theorem resV_run {P : Program} {T : Rid → Prop} {p : Path} {B : Nat} {E0 Ef E : Env} {a : Act} {s : St} (S : Sim B E0 s.tm E a) (K : Kn T p Ef E s) {rv : ResultVar} {q : AV} (h : ResV P T p s rv q) :
    ∃ z, (rvRun a.tmps rv).run P E.w = .ok z E.w ∧ VR E q z := by
  cases rv with
  | tmp t => exact ⟨_, rfl, S.slots t q h⟩
  | cell t ty =>
    obtain ⟨id, off, vt, cells, h1, h2, h3, h4⟩ := h
    have hv := S.slots t _ h1
    obtain ⟨z, h5, h6⟩ := loadV_sound (P := P) S ty id off _ hv cells ((K.on id h2).trans h3) h4
    refine ⟨z, ?_, h6⟩
    obtain ⟨_, e⟩ := hv
    rw [e] at h5
    simpa [rvRun, e, Instr.loadAt, Instr.sureAddr, asAddr] using h5
theorem resL_run {P : Program} {T : Rid → Prop} {p : Path} {B : Nat} {E0 Ef E : Env} {a : Act} {s : St} (S : Sim B E0 s.tm E a) (K : Kn T p Ef E s) {l : List ResultVar} {qs : List AV} (h : ResL P T p s l qs) :
    ∃ zs : List Value, (l.mapM (rvRun a.tmps)).run P E.w = .ok zs E.w ∧ zs.length = qs.length ∧ ∀ (i : Nat) (q : AV), qs[i]? = some q → VR E q (zs.getD i undef) := by
  induction h with
  | nil => exact ⟨[], rfl, rfl, fun i q h => by simp at h⟩
  | cons h hl ih =>
    rename_i rv q l qs
    obtain ⟨z, h1, h2⟩ := resV_run S K h
    obtain ⟨zs, h3, h4, h5⟩ := ih
    refine ⟨z :: zs, ?_, by simp [h4], fun i q' hi => ?_⟩
    · rw [List.mapM_cons, Sem.run_bind, h1, Result.andThen_ok, Sem.run_bind, h3]
      rfl
    · cases i with
      | zero =>
        simp only [List.getElem?_cons_zero, Option.some.injEq] at hi
        subst hi
        exact h2
      | succ i => simpa using h5 i q' (by simpa using hi)
theorem results_run {P : Program} {T : Rid → Prop} {p : Path} {B : Nat} {E0 Ef E : Env} {a : Act} {s : St} {fn : Func} (S : Sim B E0 s.tm E a) (K : Kn T p Ef E s) {qs : List AV} (h : ResL P T p s fn.results.toList qs) :
    ∃ v, (results fn a.tmps).run P E.w = .ok v E.w ∧ VR E (packR qs) v ∧ RR E.m E.w (finR qs) v := by
  obtain ⟨zs, h1, h2, h3⟩ := resL_run S K h
  have hrun : (results fn a.tmps).run P E.w = .ok (if h : zs.toArray.size = 1 then zs.toArray[0] else .tuple zs.toArray) E.w := by
    rw [results_eq, Sem.run_bind, Array.mapM_eq_mapM_toList]
    rw [Sem.run_map, h1]
    rfl
  refine ⟨_, hrun, ?_⟩
  have htup : VR E (.tup (qs.map fun q => nrmA q.content)) (.tuple zs.toArray) := by
    refine ⟨zs.toArray, rfl, by simp [h2], fun i q hi => ?_⟩
    rw [List.getElem?_map] at hi
    obtain ⟨q0, h4, rfl⟩ := Option.map_eq_some_iff.1 hi
    have := content_CR (h3 i q0 h4)
    simpa using this.nrmA
  by_cases h1l : zs.length = 1
  · obtain ⟨z, rfl⟩ := List.length_eq_one_iff.1 h1l
    obtain ⟨q, rfl⟩ := List.length_eq_one_iff.1 (h2.symm.trans h1l)
    have hz := h3 0 q rfl
    refine ⟨by simpa [packR] using hz, ?_⟩
    simp only [finR]
    have hc := (content_CR hz).nrmA
    have : ∀ q' : AV, CR E.m E.w q' ([z].getD 0 undef) → RR E.m E.w q' ([z].getD 0 undef) := fun q' h => by
      cases q' with
      | tup vs => cases h
      | _ => exact h
    simpa using this _ hc
  · have hne : ∀ q, qs ≠ [q] := fun q e => h1l (by rw [h2, e]; rfl)
    have e1 : packR qs = .tup (qs.map fun q => nrmA q.content) := by unfold packR; split; exact absurd rfl (hne _); rfl
    have e2 : finR qs = .tup (qs.map fun q => nrmA q.content) := by unfold finR; split; exact absurd rfl (hne _); rfl
    rw [e1, e2, dif_neg (by simpa using h1l)]
    exact ⟨htup, htup⟩
def tmps0 (args : List AV) (n : Nat) : List AV := args ++ List.replicate (n - args.length) .und
/-- How a body ends. -/
def Fin (P : Program) (T : Rid → Prop) (p : Path) (fn : Func) (R : List AV → St → Prop) : Exit → St → Prop := fun e s => (e = .normal ∨ e = .ret) ∧ ∃ s1, GhE T p s s1 ∧ ∃ qs, ResL P T p s1 fn.results.toList qs ∧ R qs s1
theorem start_slots {E : Env} {args : List AV} {n : Nat} {vs : Array Value} (hs : vs.size = args.length) (h : ∀ (i : Nat) (q : AV), args[i]? = some q → VR E q (vs.getD i undef)) :
    (vs ++ Array.replicate (n - vs.size) undef).size = (tmps0 args n).length ∧ ∀ (i : Nat) (q : AV), (tmps0 args n)[i]? = some q → VR E q ((vs ++ Array.replicate (n - vs.size) undef).getD i undef) := by
  refine ⟨by simp [tmps0, hs], fun i q hi => ?_⟩
  unfold tmps0 at hi
  rcases Nat.lt_or_ge i args.length with hlt | hge
  · rw [List.getElem?_append_left hlt] at hi
    have := h i q hi
    rw [Array.getD_eq_getD_getElem?] at this ⊢
    rw [Array.getElem?_append_left (by omega)]
    exact this
  · rw [List.getElem?_append_right hge] at hi
    have hq := (List.mem_replicate.1 (List.mem_of_getElem? hi)).2
    subst hq
    show _ = undef
    rw [Array.getD_eq_getD_getElem?, Array.getElem?_append_right (by omega), Array.getElem?_replicate]
    split <;> rfl
theorem calls_of_AW {P : Program} {T : Rid → Prop} {p : Path} {f : FuncId} {fn : Func} {c : Code} {B : Nat} {E0 Ef E : Env} {s : St} {vs : Array Value} {R : List AV → St → Prop} (hm : P.follows .mixedOrders = true) (hf : P.funcs[f]? = some fn) (hb : fn.body = some c)
    (h : AW P T p c (Fin P T p fn R) s) (S : Sim B E0 s.tm E { tmps := vs ++ Array.replicate (fn.ntmps - vs.size) undef, defers := [] }) (K : Kn T p Ef E s) (hB : Bnd p s.nx Ef.U E.U) :
    Calls P f vs E.w fun e w' => ∃ v E' qs s' a', e = .returned v ∧ E'.w = w' ∧ R qs s' ∧ Sim B E0 s'.tm E' a' ∧ Kn T p Ef E' s' ∧ (∀ r, E'.U r → Ef.U r ∨ Under p r) ∧ VR E' (packR qs) v ∧ RR E'.m E'.w (finR qs) v := by
  refine calls_of_wp hf hb (wp_mono (AW.sound hm c _ s h E _ S K hB) (fun e a' w' hq => ?_))
  obtain ⟨s0, E1, rfl, ⟨he, s', hgh, qs, hl, hR⟩, S1, K1, hB1⟩ := hq
  obtain ⟨E', e1, S', K', hB'⟩ := hgh S1 K1 hB1
  rw [← e1]
  obtain ⟨v, h1, h2, h3⟩ := results_run (fn := fn) S' K' hl
  have : a'.defers = [] ∧ ∃ v, (results fn a'.tmps).run P E'.w = .ok v E'.w ∧ ∃ v1 E1 qs s1 a1, Ending.returned v = .returned v1 ∧ E1.w = E'.w ∧ R qs s1 ∧ Sim B E0 s1.tm E1 a1 ∧ Kn T p Ef E1 s1 ∧ (∀ r, E1.U r → Ef.U r ∨ Under p r) ∧ VR E1 (packR qs) v1 ∧ RR E1.m E1.w (finR qs) v1 :=
    ⟨S'.defs, v, h1, v, E', qs, s', a', rfl, rfl, hR, S', K', hB', h2, h3⟩
  rcases he with rfl | rfl
  · exact this
  · exact this
/-- The contract of a function that takes and hands back contents. -/
theorem CallsOK.of_body {P : Program} {f : FuncId} {fn : Func} {c : Code} {args : List AV} {r : AV} (hm : P.follows .mixedOrders = true) (hf : P.funcs[f]? = some fn) (hb : fn.body = some c) (hn : (fn.name != "runtime.NumGoroutine") = true)
    (h : AW P (fun _ => False) [] c (Fin P (fun _ => False) [] fn fun qs _ => finR qs = r) ⟨tmps0 (args.map AV.bare) fn.ntmps, fun _ => .dead, 0⟩) : CallsOK P f args r := by
  refine ⟨by unfold enters; rw [hf]; simp [hn, hb], fun m w vs hfr htab hs hv => ?_⟩
  have hsl := start_slots (E := ⟨fun _ => 0, fun _ => undef, fun _ => .dead, fun _ => False, m, w⟩) (args := args.map AV.bare) (n := fn.ntmps) (vs := vs) (by simpa using hs) (fun i q hi => by
    rw [List.getElem?_map] at hi
    obtain ⟨q0, h0, rfl⟩ := Option.map_eq_some_iff.1 hi
    exact VR.of_CR_bare (hv i q0 h0))
  have S : Sim w.heap.size ⟨fun _ => 0, fun _ => undef, fun _ => .dead, fun _ => False, m, w⟩ (tmps0 (args.map AV.bare) fn.ntmps) ⟨fun _ => 0, fun _ => undef, fun _ => .dead, fun _ => False, m, w⟩ { tmps := vs ++ Array.replicate (fn.ntmps - vs.size) undef, defers := [] } :=
    ⟨Below.refl _ _, Le.refl _, fun _ _ => rfl, ⟨htab, fun p hp => by obtain ⟨t, fr, h⟩ := htab p hp; exact (Array.getElem?_eq_some_iff.1 h).1⟩, Nat.le_refl _, hfr, rfl, hsl.1, hsl.2, fun id => trivial, fun id h => absurd rfl h, fun i j k _ h => by cases h⟩
  have hc := calls_of_AW (Ef := ⟨fun _ => 0, fun _ => undef, fun _ => .dead, fun _ => False, m, w⟩) hm hf hb h S ⟨fun _ _ => rfl, fun _ _ => rfl⟩ (fun r hr => hr.elim)
  refine Calls.mono hc (fun e w' h => ?_)
  obtain ⟨v, E', qs, s', a', rfl, rfl, rfl, S', K', hB', h1, h2⟩ := h
  exact ⟨v, E'.m, rfl, S'.below, S'.low, S'.fresh, h2⟩
/-- The contract of a function that may touch what is the caller's. -/
theorem Calls2.of_body {P : Program} {f : FuncId} {fn : Func} {c : Code} {args : List AV} {T : List Rid} {rs rs0 : Rid → Res} {id : Path} {r : AV} {wr : List (Rid × Res)} (hm : P.follows .mixedOrders = true) (hf : P.funcs[f]? = some fn) (hb : fn.body = some c) (hn : (fn.name != "runtime.NumGoroutine") = true)
    (hlive : ∀ t ∈ T, rs t ≠ .dead) (hkeys : ∀ p ∈ wr, p.1 ∈ T ∨ Under id p.1) (hT0 : ∀ t ∈ T, rs0 t = rs t) (hdead : ∀ r, Under id r → rs0 r = .dead)
    (h : AW P (· ∈ T) id c (Fin P (· ∈ T) id fn fun qs s => packR qs = r ∧ ∀ r, (r ∈ T ∨ Under id r) → wrs rs0 wr r = s.rs r ∨ (wrs rs0 wr r = .dead ∧ Under id r)) ⟨tmps0 args fn.ntmps, rs0, 0⟩) : Calls2 P f args T rs id r wr := by
  refine ⟨by unfold enters; rw [hf]; simp [hn, hb], hlive, hkeys, fun {B E0 tm a E} S hT hfr vs hs hv => ?_⟩
  have hsl := start_slots (E := E) (args := args) (n := fn.ntmps) (vs := vs) hs hv
  have S1 : Sim B E (tmps0 args fn.ntmps) E { tmps := vs ++ Array.replicate (fn.ntmps - vs.size) undef, defers := [] } :=
    ⟨Below.refl _ _, Le.refl _, fun _ _ => rfl, ⟨S.tabW, S.tab.2⟩, S.hB, S.fresh, rfl, hsl.1, hsl.2, S.res, S.used, S.apart⟩
  have hon : ∀ r, r ∈ T ∨ Under id r → E.rs r = rs0 r := fun r hr => by
    rcases hr with hr | hr
    · rw [hT0 r hr]; exact hT r hr
    · rw [hdead r hr]
      exact Classical.byContradiction fun hne => hfr r hr (S.used r hne)
  have hc := calls_of_AW (Ef := E) hm hf hb h S1 ⟨hon, fun _ _ => rfl⟩ (fun r hr => ⟨.inl hr, fun m hm => absurd hr (hfr r hm.tail), fun e => hfr r ⟨[], e⟩ hr⟩)
  refine Calls.mono hc (fun e w' h => ?_)
  obtain ⟨v, E', qs, s', a', rfl, rfl, ⟨rfl, hwr⟩, S', K', hB', h1, h2⟩ := h
  have hrs : ∀ r, wrs E.rs wr r = E'.rs r ∨ wrs E.rs wr r = .dead := fun r => by
    by_cases hD : r ∈ T ∨ Under id r
    · have e1 : wrs E.rs wr r = wrs rs0 wr r := by
        by_cases hk : r ∈ wr.map (·.1)
        · exact wrs_in hk
        · rw [wrs_out hk, wrs_out hk]
          exact hon r hD
      rw [e1, K'.on r hD]
      rcases hwr r hD with h | h
      · exact .inl h
      · exact .inr h.1
    · have hk : r ∉ wr.map (·.1) := fun hk => by
        obtain ⟨p, hp, rfl⟩ := List.mem_map.1 hk
        exact hD (hkeys p hp)
      rw [wrs_out hk, K'.off r hD]
      exact .inl rfl
  have hS : Sim B E0 tm E' a := ⟨S.below.trans S'.below, S.le.trans S'.le, fun g hg => (S'.low g hg).trans (S.low g hg), S.tab, S'.hB, S'.fresh, S.defs, S.size, fun i q hi => (S.slots i q hi).mono S'.le, S'.res, S'.used, S'.apart⟩
  exact ⟨v, { E' with rs := wrs E.rs wr }, rfl, hS.hide hrs, rfl, VR.weak (E := E') (E' := { E' with rs := wrs E.rs wr }) rfl rfl rfl rfl rfl hrs h1, rfl, fun r hr => hB' r hr⟩
/-- What is said of contents may be said of them without names. -/
def avLe (q q' : AV) : Prop := q' = q ∨ q' = nrmA q.content ∨ q' = .unk
theorem VR.avLe {E : Env} {q q' : AV} {x : Value} (h : VR E q x) (hl : avLe q q') : VR E q' x := by
  rcases hl with rfl | rfl | rfl
  · exact h
  · have hc := (content_CR h).nrmA
    refine VR.of_CR hc (fun xs p e => ?_)
    revert e
    cases q.content <;> simp [nrmA, FE.nrm] <;> split <;> simp
  · exact VR.unk x
def avLes : List AV → List AV → Prop
  | [], [] => True
  | q :: l, q' :: l' => avLe q q' ∧ avLes l l'
  | _, _ => False
theorem avLes_at : ∀ {l l' : List AV}, avLes l l' → l'.length = l.length ∧ ∀ (i : Nat) (q' : AV), l'[i]? = some q' → ∃ q, l[i]? = some q ∧ avLe q q'
  | [], [], _ => ⟨rfl, fun i q h => by simp at h⟩
  | q :: l, q' :: l', ⟨h1, h2⟩ => by
    obtain ⟨h3, h4⟩ := avLes_at h2
    refine ⟨by simp [h3], fun i x hi => ?_⟩
    cases i with
    | zero =>
      simp only [List.getElem?_cons_zero, Option.some.injEq] at hi
      subst hi
      exact ⟨q, rfl, h1⟩
    | succ i => simpa using h4 i x (by simpa using hi)
  | [], _ :: _, h => h.elim
  | _ :: _, [], h => h.elim
theorem Calls2.le {P : Program} {f : FuncId} {args args' : List AV} {T : List Rid} {rs : Rid → Res} {id : Path} {r : AV} {wr : List (Rid × Res)} (h : Calls2 P f args' T rs id r wr) (hl : avLes args args') : Calls2 P f args T rs id r wr :=
  ⟨h.ent, h.live, h.keys, fun S hT hfr vs hs hv => h.run S hT hfr vs (by rw [hs, (avLes_at hl).1]) (fun i q' hi => by
    obtain ⟨q, h1, h2⟩ := (avLes_at hl).2 i q' hi
    exact (hv i q h1).avLe h2)⟩
end Go.FE
namespace Go.FE
open Go.RowKit
abbrev RL := List (Rid × Res)
def lk : RL → Rid → Res
  | [], _ => .dead
  | (id, x) :: l, r => if r = id then x else lk l r
theorem lk_fup (L : RL) (id : Rid) (x : Res) : lk ((id, x) :: L) = fup (lk L) id x := by
  funext r
  simp only [fup, lk]
theorem lk_wrs : ∀ (wr : List (Rid × Res)) (L : RL), wrs (lk L) wr = lk (wr.reverse ++ L)
  | [], L => rfl
  | (id, x) :: wr, L => by
    unfold wrs
    rw [← lk_fup, lk_wrs wr ((id, x) :: L)]
    simp
theorem lk_dead {L : RL} {r : Rid} (h : lk L r ≠ .dead) : ∃ q ∈ L, q.1 = r := by
  induction L with
  | nil => exact absurd rfl h
  | cons q L ih =>
    obtain ⟨id, x⟩ := q
    unfold lk at h
    split at h
    · rename_i e; exact ⟨_, List.mem_cons_self, e.symm⟩
    · obtain ⟨q, h1, h2⟩ := ih h
      exact ⟨q, List.mem_cons_of_mem _ h1, h2⟩
/-- Which function a call calls, with what is captured. -/
def fnOf : AV → Option (FuncId × List Rid)
  | .fn f caps => some (f, caps)
  | .v (.func (.func f) a b) => if a.isEmpty && b.isEmpty then some (f, []) else none
  | _ => none
def callOf (tm : List AV) (o : Oper) : Option (FuncId × List AV) := match o.op with
  | .call c => match c.callee with
    | .value x => match fnOf (ev tm x) with
      | some (f, []) => some (f, argsA tm c.args.toList)
      | _ => none
    | _ => none
  | _ => none
def callOf2 (tm : List AV) (o : Oper) : Option (FuncId × List AV) := match o.op with
  | .call c => match c.callee with
    | .value x => match fnOf (ev tm x) with
      | some (f, caps) => some (f, args2 tm c.args.toList caps)
      | _ => none
    | _ => none
  | _ => none
def isCall (o : Oper) : Bool := match o.op with
  | .call c => match c.callee with
    | .value _ => true
    | _ => false
  | _ => false
structure SL where
  tm : List AV
  rs : RL
  nx : Nat
def SL.st (s : SL) : St := ⟨s.tm, lk s.rs, s.nx⟩
theorem fnOf_fn {B E0 tm E a} (S : Sim B E0 tm E a) {q : AV} {x : Operand} {f : FuncId} {caps : List Rid} (hq : ev tm x = q) (h : fnOf q = some (f, caps)) :
    (∀ id ∈ caps, E.U id) ∧ a.eval x = .func (.func f) #[] (caps.map fun id => Value.pointer (some ⟨E.gs id, 0, none⟩)).toArray := by
  have hv := ev_sound S x
  rw [hq] at hv
  unfold fnOf at h
  split at h
  · injection h with h; injection h with h1 h2; subst h1 h2; exact hv
  · split at h
    · rename_i hab
      injection h with h; injection h with h1 h2; subst h1 h2
      obtain ⟨hv, _⟩ := CR.v_inv hv
      simp only [Bool.and_eq_true, Array.isEmpty_iff] at hab
      obtain ⟨rfl, rfl⟩ := hab
      exact ⟨fun _ h => by (cases h), hv⟩
    · cases h
  · cases h
/-- A call is good, however its function is told. -/
theorem callOf_good {P : Program} {b : Bool} {tm : List AV} {rs : Rid → Res} {id : Path} {o : Oper} {f : FuncId} {as : List AV} {q : AV} (h : callOf tm o = some (f, as)) (hc : CallsOK P f as q) : Good P b tm rs id o ⟨q.clean, [], []⟩ := by
  unfold callOf at h
  split at h
  · rename_i c ho
    split at h
    · rename_i x hx
      split at h
      · rename_i f' hf
        injection h with h
        injection h with h1 h2
        subst h1 h2
        refine ⟨fun {B E0 E tm' a} S hev hr hfr K Q hK => ?_, fun r hr => (by cases hr), fun r hr => (by cases hr), .inr fun r hr => (by cases hr)⟩
        have hops : ∀ y ∈ c.args, ev tm' y = ev tm y := fun y hy => hev y (by rw [ho]; simp [Op.operands, Call.operands, hy])
        obtain ⟨_, hevx⟩ := fnOf_fn S (hev x (by rw [ho]; simp [Op.operands, Call.operands, hx])) hf
        have hargs : ∀ i q, (argsA tm c.args.toList)[i]? = some q → CR E.m E.w q ((c.args.map a.eval).getD i undef) := by
          intro i q hi
          unfold argsA at hi
          rw [List.getElem?_map] at hi
          obtain ⟨y, hy, rfl⟩ := Option.map_eq_some_iff.1 hi
          rw [Array.getElem?_toList] at hy
          have : (c.args.map a.eval).getD i undef = a.eval y := by simp [Array.getD_eq_getD_getElem?, hy]
          rw [this, ← hops y (Array.mem_of_getElem? hy)]
          exact (content_CR (ev_sound S y)).nrmA
        have hcc := hc.run E.m E.w (c.args.map a.eval) S.fresh S.tabW (by simp [argsA]) hargs
        have hrun : (execOp a.eval o).run P E.w = .ok (.enter f' (c.args.map a.eval)) E.w := by
          simp [execOp, ho, resolve, hx, hevx, Deferred.ofValue, invoke, enter_run hc.ent]
        unfold Oper.wp
        rw [hrun]
        refine Calls.mono hcc (fun e w' h => ?_)
        obtain ⟨v, m', rfl, hb, hm, hfr', hrr⟩ := h
        exact hK { E with w := w', m := m' } v (S.world hb hm hfr') (RR.VR hrr) rfl (fun r h => .inl h)
      · cases h
    · cases h
  · cases h
theorem callOf2_good {P : Program} {b : Bool} {tm : List AV} {rs : Rid → Res} {id : Path} {o : Oper} {f : FuncId} {as as' : List AV} {r : AV} {T : List Rid} {wr : List (Rid × Res)} (h : callOf2 tm o = some (f, as))
    (hb : b = true ∨ T = []) (hl : avLes as as') (hcall' : Calls2 P f as' T rs id r wr) : Good P b tm rs id o ⟨r, wr, T⟩ := by
  unfold callOf2 at h
  split at h
  · rename_i c ho
    split at h
    · rename_i x hx
      split at h
      · rename_i f' caps hf
        injection h with h
        injection h with h1 h2
        subst h1 h2
        have hcall := hcall'.le hl
        have hloud : ∀ t ∈ T, loud b o = 2 := fun t ht => by
          rcases hb with rfl | rfl
          · simp [loud, ho, hx]
          · cases ht
        refine ⟨fun {B E0 E tm' a} S hev hr hf' K Q hK => ?_, fun r hr => ?_, fun r hr => ⟨by rw [hloud r hr]; decide, hcall.live r hr⟩, ?_⟩
        · have hops : ∀ y ∈ c.args, ev tm' y = ev tm y := fun y hy => hev y (by rw [ho]; simp [Op.operands, Call.operands, hy])
          obtain ⟨hcU, hevx⟩ := fnOf_fn S (hev x (by rw [ho]; simp [Op.operands, Call.operands, hx])) hf
          have hargs : ∀ i q, (args2 tm c.args.toList caps)[i]? = some q → VR E q ((c.args.map a.eval ++ (caps.map fun id => Value.pointer (some ⟨E.gs id, 0, none⟩)).toArray).getD i undef) := by
            intro i q hi
            unfold args2 at hi
            rcases Nat.lt_or_ge i c.args.size with hlt | hge
            · rw [List.getElem?_append_left (by simpa using hlt), List.getElem?_map] at hi
              obtain ⟨y, hy, rfl⟩ := Option.map_eq_some_iff.1 hi
              rw [Array.getElem?_toList] at hy
              have : (c.args.map a.eval ++ (caps.map fun id => Value.pointer (some ⟨E.gs id, 0, none⟩)).toArray).getD i undef = a.eval y := by
                rw [Array.getD_eq_getD_getElem?, Array.getElem?_append_left (by simpa using hlt)]
                simp [hy]
              rw [this, ← hops y (Array.mem_of_getElem? hy)]
              exact ev_sound S y
            · rw [List.getElem?_append_right (by simpa using hge), List.getElem?_map] at hi
              obtain ⟨t, ht, rfl⟩ := Option.map_eq_some_iff.1 hi
              have : (c.args.map a.eval ++ (caps.map fun id => Value.pointer (some ⟨E.gs id, 0, none⟩)).toArray).getD i undef = .pointer (some ⟨E.gs t, 0, none⟩) := by
                rw [Array.getD_eq_getD_getElem?, Array.getElem?_append_right (by simpa using hge)]
                simp at ht
                simp [ht]
              rw [this]
              exact ⟨hcU t (List.mem_of_getElem? ht), rfl⟩
          have hc := hcall.run S hr hf' _ (by simp [args2]) hargs
          have hrun : (execOp a.eval o).run P E.w = .ok (.enter f' (c.args.map a.eval ++ (caps.map fun id => Value.pointer (some ⟨E.gs id, 0, none⟩)).toArray)) E.w := by
            simp [execOp, ho, resolve, hx, hevx, Deferred.ofValue, invoke, enter_run hcall.ent]
          unfold Oper.wp
          rw [hrun]
          refine Calls.mono hc (fun e w' h => ?_)
          obtain ⟨v, E', rfl, h1, h2, h3, h4, h5⟩ := h
          rw [← h2]
          exact hK E' v h1 h3 h4 h5
        · obtain ⟨p, hp, rfl⟩ := List.mem_map.1 hr
          rcases hcall.keys p hp with h | h
          · exact .inr ⟨h, hloud _ h⟩
          · exact .inl h
        · rcases hb with h | rfl
          · exact .inl h
          · exact .inr fun r hr => by cases hr
      · cases h
    · cases h
  · cases h
/-- Slot by slot: the same, or nothing said. -/
def lessT : List AV → List AV → Prop
  | [], [] => True
  | q' :: l', q :: l => (q' = .unk ∨ q' = q) ∧ lessT l' l
  | _, _ => False
def lessR (L' L : RL) : Prop := ∀ p ∈ L', lk L p.1 = p.2 ∧ p.2 ≠ .dead
/-- What lives of the caller's is not forgotten. -/
def keepR (p : Path) (L' L : RL) : Prop := ∀ q ∈ L, Under p q.1 ∨ lk L' q.1 = lk L q.1
theorem keep0 {L' L : RL} : keepR [] L' L := fun q _ => .inl ⟨q.1.1, by simp⟩
structure WkL (p : Path) (s s' : SL) : Prop where
  tm : lessT s'.tm s.tm
  rs : lessR s'.rs s.rs
  nx : s.nx ≤ s'.nx
  keep : keepR p s'.rs s.rs
theorem lessT_len : ∀ {l' l : List AV}, lessT l' l → l'.length = l.length ∧ ∀ (i : Nat) (q : AV), l'[i]? = some q → q = AV.unk ∨ l[i]? = some q
  | [], [], _ => ⟨rfl, fun i q h => by simp at h⟩
  | q' :: l', q :: l, ⟨h1, h2⟩ => by
    obtain ⟨h3, h4⟩ := lessT_len h2
    refine ⟨by simp [h3], fun i x hi => ?_⟩
    cases i with
    | zero =>
      simp only [List.getElem?_cons_zero, Option.some.injEq] at hi ⊢
      subst hi
      exact h1.imp (fun h => h) (fun h => h.symm)
    | succ i => simpa using h4 i x (by simpa using hi)
  | [], _ :: _, h => h.elim
  | _ :: _, [], h => h.elim
theorem lessR_lk {L : RL} : ∀ {L' : RL}, lessR L' L → ∀ r, lk L' r = lk L r ∨ lk L' r = .dead
  | [], _, r => .inr rfl
  | (id, x) :: l, h, r => by
    have e0 : lk ((id, x) :: l) r = if r = id then x else lk l r := rfl
    rw [e0]
    split
    · rename_i e
      subst e
      exact .inl (h _ List.mem_cons_self).1.symm
    · exact lessR_lk (fun p hp => h p (List.mem_cons_of_mem _ hp)) r
theorem WkL.wk {p : Path} {s s' : SL} (h : WkL p s s') : Wk p s.st s'.st :=
  ⟨(lessT_len h.tm).1, (lessT_len h.tm).2, fun r => by
    rcases lessR_lk h.rs r with h1 | h1
    · exact .inl h1
    · by_cases hd : lk s.rs r = .dead
      · exact .inl (h1.trans hd.symm)
      · obtain ⟨q, h2, rfl⟩ := lk_dead hd
        rcases h.keep q h2 with h3 | h3
        · exact .inr ⟨h1, h3⟩
        · exact .inl h3, h.nx⟩
/-- A step that the machine does not see. -/
def GhL (T : List Rid) (p : Path) (s s' : SL) : Prop := Gh (· ∈ T) p s.st s'.st
def GhLE (T : List Rid) (p : Path) (s s' : SL) : Prop := GhE (· ∈ T) p s.st s'.st
theorem GhL.refl {T p} (s : SL) : GhL T p s s := Gh.refl _
theorem GhL.trans {T p} {s s' s'' : SL} (h : GhL T p s s') (h' : GhL T p s' s'') : GhL T p s s'' := Gh.trans h h'
theorem GhL.e {T p} {s s' : SL} (h : GhL T p s s') : GhLE T p s s' := Gh.ghE h
theorem WkL.gh {T p} {s s' : SL} (h : WkL p s s') : GhL T p s s' := h.wk.gh
def inBlL (id : Nat) (Q : Exit → SL → Prop) : Exit → SL → Prop
  | .exit id', s => if id' = id then Q .normal s else Q (.exit id') s
  | e, s => Q e s
def thnL (K : SL → Prop) (Q : Exit → SL → Prop) : Exit → SL → Prop
  | .normal, s => K s
  | e, s => Q e s
/-- What is older than a region, or comes before its operation k. -/
def OldR (all : List Oper) (p : Path) (nx k : Nat) (r : Rid) : Prop := ∀ m, Under (m :: p) r → m < nx ∨ ∃ j, j < all.length ∧ ((anc all all.length).getD k 0).testBit j = true ∧ m = nx + j
/-- A region's operations from one on, and what is to hold behind them. Qs: the calls that may touch what is the caller's. -/
def GoK (P : Program) (T : List Rid) (p : Path) (all : List Oper) (dr : Bool) (Qs : List Nat) (nx : Nat) (k : Nat) (ops : List Oper) (tm : List AV) (L : RL) (K : List AV → RL → Prop) : Prop :=
  ∃ tm' L' tr, Runs P all p nx Qs k ops tm (lk L) tm' (lk L') tr ∧ (∀ e ∈ tr, ∀ r ∈ e.tch, r ∈ T ∨ Under p r) ∧ (dr = true → ∀ j e, tr[j]? = some e → (k + j ∈ Qs → ∀ r ∈ e.tch, OldR all p nx (k + j) r) ∧ Mrk p nx Qs (k + j) e) ∧ K tm' L'
def RegL (P : Program) (T : List Rid) (p : Path) (ops : Array Oper) (dr : Bool) (s : SL) (K : SL → Prop) : Prop :=
  ∃ s1, GhL T p s s1 ∧ ∃ Qs, (dr = true → drawOK ops Qs = true) ∧ GoK P T p ops.toList dr Qs s1.nx 0 ops.toList s1.tm s1.rs fun tm' L' => K ⟨tm', L', s1.nx + ops.size⟩
def PW (P : Program) (T : List Rid) (p : Path) : Code → (Exit → SL → Prop) → SL → Prop
  | .skip, Q, s => Q .normal s
  | .region _ ops dr, Q, s => RegL P T p ops dr s (Q .normal)
  | .seq x y, Q, s => PW P T p x (thnL (PW P T p y Q) Q) s
  | .cond c x y, Q, s => (∃ b, ev s.tm c = .v (.bool b) ∧ (b = true → PW P T p x Q s) ∧ (b = false → PW P T p y Q s)) ∨ (ev s.tm c = .bl ∧ PW P T p x Q s ∧ PW P T p y Q s)
  | .block id c, Q, s => PW P T p c (inBlL id Q) s
  | .loop c, Q, s => ∃ (I : Nat → SL → Prop) (n : Nat) (s0 : SL), GhL T p s s0 ∧ I n s0 ∧ ∀ n s, I n s → PW P T p c (thnL (fun s' => ∃ m s'', m < n ∧ GhL T p s' s'' ∧ I m s'') Q) s
  | .exit id, Q, s => Q (.exit id) s
  | .ret, Q, s => Q .ret s
  | _, _, _ => False
theorem AW.mono {P : Program} {T : Rid → Prop} {p : Path} : ∀ (c : Code) (Q Q' : Exit → St → Prop) (s : St), (∀ e s, Q e s → Q' e s) → AW P T p c Q s → AW P T p c Q' s := by
  intro c
  induction c with
  | skip => intro Q Q' s h h1; exact h _ _ h1
  | region id ops dr =>
    intro Q Q' s h h1
    obtain ⟨s1, h0, Qs, tm', rs', tr, h2, h3, h4, h5⟩ := h1
    exact ⟨s1, h0, Qs, tm', rs', tr, h2, h3, h4, h _ _ h5⟩
  | seq x y ihx ihy =>
    intro Q Q' s h h1
    refine ihx _ _ s (fun e s' h2 => ?_) h1
    cases e with
    | normal => exact ihy _ _ s' h h2
    | _ => exact h _ _ h2
  | cond c x y ihx ihy =>
    intro Q Q' s h h1
    rcases h1 with h2 | h2 | h2
    · exact .inl ⟨h2.1, ihx _ _ s h h2.2⟩
    · exact .inr (.inl ⟨h2.1, ihy _ _ s h h2.2⟩)
    · exact .inr (.inr ⟨h2.1, ihx _ _ s h h2.2.1, ihy _ _ s h h2.2.2⟩)
  | block id c ih =>
    intro Q Q' s h h1
    refine ih _ _ s (fun e s' h2 => ?_) h1
    cases e with
    | exit id' =>
      simp only [inBl] at h2 ⊢
      split
      · rw [if_pos ‹_›] at h2; exact h _ _ h2
      · rw [if_neg ‹_›] at h2; exact h _ _ h2
    | _ => exact h _ _ h2
  | loop c ih =>
    intro Q Q' s h h1
    obtain ⟨I, n, s0, h2, h3, h4⟩ := h1
    refine ⟨I, n, s0, h2, h3, fun m s1 h5 => ih _ _ s1 (fun e s' h6 => ?_) (h4 m s1 h5)⟩
    cases e with
    | normal => exact h6
    | _ => exact h _ _ h6
  | scope c ih =>
    intro Q Q' s h h1
    refine ih _ _ s (fun e s' h2 => ?_) h1
    cases e with
    | goto l => exact h2
    | _ => exact h _ _ h2
  | exit id => intro Q Q' s h h1; exact h _ _ h1
  | ret => intro Q Q' s h h1; exact h _ _ h1
  | rangeFunc f ps x y _ _ => intro Q Q' s h h1; exact h1.elim
  | label l => intro Q Q' s h h1; exact h1.elim
  | goto l => intro Q Q' s h h1; exact h1.elim
  | refuse w => intro Q Q' s h h1; exact h1.elim
/-- A walk by reckoning is a walk. -/
theorem PW.aw {P : Program} {T : List Rid} {p : Path} : ∀ (c : Code) (Q : Exit → SL → Prop) (s : SL), PW P T p c Q s → AW P (· ∈ T) p c (fun e s' => ∃ t : SL, t.st = s' ∧ Q e t) s.st := by
  intro c
  induction c with
  | skip => intro Q s h; exact ⟨s, rfl, h⟩
  | region id ops dr =>
    intro Q s h
    obtain ⟨s1, hg, Qs, hd, tm', L', tr, h1, h2, h3, h4⟩ := h
    refine ⟨s1.st, hg, Qs, tm', lk L', tr, h1, h2, fun hdr => ⟨hd hdr, fun k e hk hek r hr m hm => ?_, fun k e hek => ?_⟩, _, rfl, h4⟩
    · have := (h3 hdr k e hek).1 (by simpa using hk) r hr m hm
      simpa [SL.st] using this
    · have := (h3 hdr k e hek).2
      rw [Nat.zero_add] at this
      exact this
  | seq x y ihx ihy =>
    intro Q s h
    refine AW.mono x _ _ s.st (fun e s' h2 => ?_) (ihx _ s h)
    obtain ⟨t, rfl, h2⟩ := h2
    cases e with
    | normal => exact ihy _ t h2
    | _ => exact ⟨t, rfl, h2⟩
  | cond c x y ihx ihy =>
    intro Q s h
    rcases h with ⟨b, h1, h2, h3⟩ | ⟨h1, h2, h3⟩
    · cases b with
      | true => exact .inl ⟨h1, ihx _ s (h2 rfl)⟩
      | false => exact .inr (.inl ⟨h1, ihy _ s (h3 rfl)⟩)
    · exact .inr (.inr ⟨h1, ihx _ s h2, ihy _ s h3⟩)
  | block id c ih =>
    intro Q s h
    refine AW.mono c _ _ s.st (fun e s' h2 => ?_) (ih _ s h)
    obtain ⟨t, rfl, h2⟩ := h2
    cases e with
    | exit id' =>
      simp only [inBlL] at h2
      simp only [inBl]
      split
      · rw [if_pos ‹_›] at h2; exact ⟨t, rfl, h2⟩
      · rw [if_neg ‹_›] at h2; exact ⟨t, rfl, h2⟩
    | _ => exact ⟨t, rfl, h2⟩
  | loop c ih =>
    intro Q s h
    obtain ⟨I, n, s0, h1, h2, h3⟩ := h
    refine ⟨fun m s' => ∃ t : SL, t.st = s' ∧ I m t, n, s0.st, h1, ⟨s0, rfl, h2⟩, fun m s' h4 => ?_⟩
    obtain ⟨t, rfl, h4⟩ := h4
    refine AW.mono c _ _ t.st (fun e s' h5 => ?_) (ih _ t (h3 m t h4))
    obtain ⟨t', rfl, h5⟩ := h5
    cases e with
    | normal =>
      obtain ⟨m', t'', h6, h7, h8⟩ := h5
      exact ⟨m', t''.st, h6, h7, t'', rfl, h8⟩
    | _ => exact ⟨t', rfl, h5⟩
  | exit id => intro Q s h; exact ⟨s, rfl, h⟩
  | ret => intro Q s h; exact ⟨s, rfl, h⟩
  | scope c ih => intro Q s h; exact h.elim
  | rangeFunc f ps x y _ _ => intro Q s h; exact h.elim
  | label l => intro Q s h; exact h.elim
  | goto l => intro Q s h; exact h.elim
  | refuse w => intro Q s h; exact h.elim
/-- What a result's place holds. -/
def resVL (P : Program) (s : SL) : ResultVar → Option AV
  | .tmp t => s.tm[t]?
  | .cell t ty => match s.tm[t]? with
    | some (.vp id off) => match lk s.rs id with
      | .var _ cells => partV P ty cells off
      | _ => none
    | _ => none
def resLL (P : Program) (s : SL) : List ResultVar → Option (List AV)
  | [] => some []
  | rv :: l => match resVL P s rv, resLL P s l with
    | some q, some qs => some (q :: qs)
    | _, _ => none
/-- All that is known is the call's own, or may be touched. -/
def InR (T : List Rid) (p : Path) (L : RL) : Prop := ∀ q ∈ L, q.1 ∈ T ∨ Under p q.1
theorem inR0 {T : List Rid} {L : RL} : InR T [] L := fun q _ => .inr ⟨q.1.1, by simp⟩
theorem InR.of {T : List Rid} {p : Path} {L : RL} (h : InR T p L) {r : Rid} (hr : lk L r ≠ .dead) : r ∈ T ∨ Under p r := by
  obtain ⟨q, h1, rfl⟩ := lk_dead hr
  exact h q h1
theorem resLL_ok {P : Program} {T : List Rid} {p : Path} {s : SL} (hin : InR T p s.rs) : ∀ {l : List ResultVar} {qs : List AV}, resLL P s l = some qs → ResL P (· ∈ T) p s.st l qs
  | [], qs, h => by injection h with h; subst h; exact .nil
  | rv :: l, qs, h => by
    unfold resLL at h
    split at h
    · rename_i q qs' h1 h2
      injection h with h
      subst h
      refine .cons ?_ (resLL_ok hin h2)
      cases rv with
      | tmp t => exact h1
      | cell t ty =>
        simp only [resVL] at h1
        split at h1
        · rename_i id off h3
          split at h1
          · rename_i vt cells h4
            exact ⟨id, off, vt, cells, h3, hin.of (by rw [h4]; simp), h4, h1⟩
          · cases h1
        · cases h1
    · cases h
/-- How a body ends. -/
def FinL (P : Program) (T : List Rid) (p : Path) (fn : Func) (R : List AV → SL → Prop) : Exit → SL → Prop
  | .normal, s | .ret, s => ∃ s1, GhLE T p s s1 ∧ InR T p s1.rs ∧ ∃ qs, resLL P s1 fn.results.toList = some qs ∧ R qs s1
  | _, _ => False
theorem CallsOK.of_pw {P : Program} {f : FuncId} {fn : Func} {c : Code} {args : List AV} {r : AV} (hm : P.follows .mixedOrders = true) (hf : P.funcs[f]? = some fn) (hb : fn.body = some c) (hn : (fn.name != "runtime.NumGoroutine") = true)
    (h : PW P [] [] c (FinL P [] [] fn fun qs _ => finR qs = r) ⟨tmps0 (args.map AV.bare) fn.ntmps, [], 0⟩) : CallsOK P f args r := by
  refine CallsOK.of_body hm hf hb hn ?_
  have h0 : (⟨tmps0 (args.map AV.bare) fn.ntmps, fun _ => .dead, 0⟩ : St) = (⟨tmps0 (args.map AV.bare) fn.ntmps, [], 0⟩ : SL).st := by
    unfold SL.st
    congr 1
  have hTT : (fun r : Rid => r ∈ ([] : List Rid)) = fun _ => False := by funext r; simp
  have h1 := PW.aw c _ _ h
  rw [hTT] at h1
  rw [h0]
  refine AW.mono c _ _ _ (fun e s h => ?_) h1
  obtain ⟨t, rfl, h⟩ := h
  have fin : FinL P [] [] fn (fun qs _ => finR qs = r) .ret t → ∃ s1, GhE (fun _ => False) [] t.st s1 ∧ ∃ qs, ResL P (fun _ => False) [] s1 fn.results.toList qs ∧ finR qs = r := fun h => by
    obtain ⟨s1, h2, h3, qs, h4, h5⟩ := h
    unfold GhLE at h2
    rw [hTT] at h2
    have h6 := resLL_ok h3 h4
    rw [hTT] at h6
    exact ⟨s1.st, h2, qs, h6, h5⟩
  cases e with
  | normal => exact ⟨.inl rfl, fin h⟩
  | ret => exact ⟨.inr rfl, fin h⟩
  | _ => exact h.elim
theorem Calls2.of_pw {P : Program} {f : FuncId} {fn : Func} {c : Code} {args : List AV} {T : List Rid} {rs : Rid → Res} {id : Path} {r : AV} {wr : List (Rid × Res)} (L0 : RL) (hm : P.follows .mixedOrders = true) (hf : P.funcs[f]? = some fn) (hb : fn.body = some c) (hn : (fn.name != "runtime.NumGoroutine") = true)
    (hlive : ∀ t ∈ T, rs t ≠ .dead) (hkeys : ∀ p ∈ wr, p.1 ∈ T ∨ Under id p.1) (hT0 : ∀ t ∈ T, lk L0 t = rs t) (hdead : ∀ q ∈ L0, ¬ Under id q.1)
    (h : PW P T id c (FinL P T id fn fun qs s => packR qs = r ∧ ∀ r, (r ∈ T ∨ Under id r) → lk (wr.reverse ++ L0) r = lk s.rs r ∨ (lk (wr.reverse ++ L0) r = .dead ∧ Under id r)) ⟨tmps0 args fn.ntmps, L0, 0⟩) : Calls2 P f args T rs id r wr := by
  refine Calls2.of_body (rs0 := lk L0) hm hf hb hn hlive hkeys hT0 (fun r hr => Classical.byContradiction fun hne => ?_) ?_
  · obtain ⟨q, h1, rfl⟩ := lk_dead hne
    exact hdead q h1 hr
  · refine AW.mono c _ _ _ (fun e s h => ?_) (PW.aw c _ _ h)
    obtain ⟨t, rfl, h⟩ := h
    have fin : FinL P T id fn (fun qs s => packR qs = r ∧ ∀ r, (r ∈ T ∨ Under id r) → lk (wr.reverse ++ L0) r = lk s.rs r ∨ (lk (wr.reverse ++ L0) r = .dead ∧ Under id r)) .ret t →
        ∃ s1, GhE (· ∈ T) id t.st s1 ∧ ∃ qs, ResL P (· ∈ T) id s1 fn.results.toList qs ∧ packR qs = r ∧ ∀ r, (r ∈ T ∨ Under id r) → wrs (lk L0) wr r = s1.rs r ∨ (wrs (lk L0) wr r = .dead ∧ Under id r) := fun h => by
      obtain ⟨s1, h2, h3, qs, h4, h5⟩ := h
      exact ⟨s1.st, h2, qs, resLL_ok h3 h4, by rw [lk_wrs]; exact h5⟩
    cases e with
    | normal => exact ⟨.inl rfl, fin h⟩
    | ret => exact ⟨.inr rfl, fin h⟩
    | _ => exact h.elim
end Go.FE
