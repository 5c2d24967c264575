/- Facts on the program's types. The moves of a walk by reckoning. Lengths: what a content that lies in memory must meet; numbers. Small facts for walks. More small facts for walks. Paths that meet, with the number of what has been done. Small facts: a row that is no longer written, slot by slot. The moves of a walk, in short. -/
import Derived.Test.YtmblejfjbnoodaaGreatDoorProg
import Derived.Test.YtmblejfjbnoodaaGreatDoorN08
set_option linter.unusedVariables false
set_option linter.unusedSimpArgs false
namespace Go.FE
open Go.Proofs
theorem mixed : Tryz.prog.follows .mixedOrders = true := by kernel_rfl
theorem st3 : sizeT Tryz.prog 3 = some 1 := by kernel_rfl
theorem zt3 : zeroT Tryz.prog 3 = some [.int .i64 0] := by kernel_rfl
theorem it3 : infoT Tryz.prog 3 = some (1, 8, some 1) := by kernel_rfl
theorem ct3 : cellTys Tryz.prog 8 3 = [none] := by kernel_rfl
theorem se3 : sliceElem Tryz.prog 3 = none := by kernel_rfl
theorem st4 : sizeT Tryz.prog 4 = some 1 := by kernel_rfl
theorem zt4 : zeroT Tryz.prog 4 = some [.bool false] := by kernel_rfl
theorem it4 : infoT Tryz.prog 4 = some (1, 1, some 1) := by kernel_rfl
theorem ct4 : cellTys Tryz.prog 8 4 = [none] := by kernel_rfl
theorem se4 : sliceElem Tryz.prog 4 = none := by kernel_rfl
theorem st5 : sizeT Tryz.prog 5 = some 1 := by kernel_rfl
theorem zt5 : zeroT Tryz.prog 5 = some [.int .u8 0] := by kernel_rfl
theorem it5 : infoT Tryz.prog 5 = some (1, 1, some 1) := by kernel_rfl
theorem ct5 : cellTys Tryz.prog 8 5 = [none] := by kernel_rfl
theorem se5 : sliceElem Tryz.prog 5 = none := by kernel_rfl
theorem st9 : sizeT Tryz.prog 9 = some 1 := by kernel_rfl
theorem zt9 : zeroT Tryz.prog 9 = some [.string .empty] := by kernel_rfl
theorem it9 : infoT Tryz.prog 9 = some (1, 16, some 1) := by kernel_rfl
theorem ct9 : cellTys Tryz.prog 8 9 = [none] := by kernel_rfl
theorem se9 : sliceElem Tryz.prog 9 = none := by kernel_rfl
theorem st22 : sizeT Tryz.prog 22 = some 1 := by kernel_rfl
theorem zt22 : zeroT Tryz.prog 22 = some [.slice none 0 0] := by kernel_rfl
theorem it22 : infoT Tryz.prog 22 = some (1, 24, some 1) := by kernel_rfl
theorem ct22 : cellTys Tryz.prog 8 22 = [some (3, 1)] := by kernel_rfl
theorem se22 : sliceElem Tryz.prog 22 = some (3, 1) := by kernel_rfl
theorem st23 : sizeT Tryz.prog 23 = some 1 := by kernel_rfl
theorem zt23 : zeroT Tryz.prog 23 = some [.slice none 0 0] := by kernel_rfl
theorem it23 : infoT Tryz.prog 23 = some (1, 24, some 1) := by kernel_rfl
theorem ct23 : cellTys Tryz.prog 8 23 = [some (49, 1)] := by kernel_rfl
theorem se23 : sliceElem Tryz.prog 23 = some (49, 1) := by kernel_rfl
theorem st25 : sizeT Tryz.prog 25 = some 3 := by kernel_rfl
theorem zt25 : zeroT Tryz.prog 25 = some [.int .i64 0, .int .i64 0, .string .empty] := by kernel_rfl
theorem it25 : infoT Tryz.prog 25 = some (3, 32, some 3) := by kernel_rfl
theorem ct25 : cellTys Tryz.prog 8 25 = [none, none, none] := by kernel_rfl
theorem pt25 : placesT Tryz.prog 25 = some [(0, 1), (1, 1), (2, 1)] := by kernel_rfl
theorem sg25 : Tryz.prog.stoodInHeld 25 = false ∧ Tryz.prog.eqGuardType Tryz.prog.depth 25 = false := by exact ⟨by kernel_rfl, by kernel_rfl⟩
theorem eqs25 (n m : Nat) (x0 y0 : Int) (x1 y1 : Int) (x2 y2 : ByteArray) : eqS Tryz.prog 25 n m [.v (.int .i64 x0), .v (.int .i64 x1), .v (.string x2)] [.v (.int .i64 y0), .v (.int .i64 y1), .v (.string y2)] = some (x0 == y0 && (x1 == y1 && (x2.toList == y2.toList && true))) := by simp [eqS, Tryz.underlying25, sg25, eqF, Tryz.underlying3, Tryz.underlying9]
theorem se25 : sliceElem Tryz.prog 25 = none := by kernel_rfl
theorem st26 : sizeT Tryz.prog 26 = some 1 := by kernel_rfl
theorem zt26 : zeroT Tryz.prog 26 = some [.slice none 0 0] := by kernel_rfl
theorem it26 : infoT Tryz.prog 26 = some (1, 24, some 1) := by kernel_rfl
theorem ct26 : cellTys Tryz.prog 8 26 = [some (28, 7)] := by kernel_rfl
theorem se26 : sliceElem Tryz.prog 26 = some (28, 7) := by kernel_rfl
theorem st28 : sizeT Tryz.prog 28 = some 7 := by kernel_rfl
theorem zt28 : zeroT Tryz.prog 28 = some [.int .i64 0, .int .i64 0, .int .i64 0, .int .i64 0, .string .empty, .string .empty, .slice none 0 0] := by kernel_rfl
theorem it28 : infoT Tryz.prog 28 = some (7, 88, some 7) := by kernel_rfl
theorem ct28 : cellTys Tryz.prog 8 28 = [none, none, none, none, none, none, some (28, 7)] := by kernel_rfl
theorem pt28 : placesT Tryz.prog 28 = some [(0, 1), (1, 1), (2, 3), (5, 1), (6, 1)] := by kernel_rfl
theorem se28 : sliceElem Tryz.prog 28 = none := by kernel_rfl
theorem st29 : sizeT Tryz.prog 29 = some 1 := by kernel_rfl
theorem zt29 : zeroT Tryz.prog 29 = some [.slice none 0 0] := by kernel_rfl
theorem it29 : infoT Tryz.prog 29 = some (1, 24, some 1) := by kernel_rfl
theorem ct29 : cellTys Tryz.prog 8 29 = [some (48, 2)] := by kernel_rfl
theorem se29 : sliceElem Tryz.prog 29 = some (48, 2) := by kernel_rfl
theorem st30 : sizeT Tryz.prog 30 = some 1 := by kernel_rfl
theorem zt30 : zeroT Tryz.prog 30 = some [.slice none 0 0] := by kernel_rfl
theorem it30 : infoT Tryz.prog 30 = some (1, 24, some 1) := by kernel_rfl
theorem ct30 : cellTys Tryz.prog 8 30 = [some (32, 15)] := by kernel_rfl
theorem se30 : sliceElem Tryz.prog 30 = some (32, 15) := by kernel_rfl
theorem st32 : sizeT Tryz.prog 32 = some 15 := by kernel_rfl
theorem zt32 : zeroT Tryz.prog 32 = some [.int .i64 0, .int .i64 0, .slice none 0 0, .slice none 0 0, .int .i64 0, .int .i64 0, .int .i64 0, .int .i64 0, .string .empty, .string .empty, .slice none 0 0, .slice none 0 0, .slice none 0 0, .slice none 0 0, .slice none 0 0] := by kernel_rfl
theorem it32 : infoT Tryz.prog 32 = some (15, 248, some 15) := by kernel_rfl
theorem ct32 : cellTys Tryz.prog 8 32 = [none, none, some (3, 1), some (49, 1), none, none, none, none, none, none, some (28, 7), some (28, 7), some (3, 1), some (48, 2), some (32, 15)] := by kernel_rfl
theorem pt32 : placesT Tryz.prog 32 = some [(0, 1), (1, 1), (2, 1), (3, 1), (4, 7), (11, 1), (12, 1), (13, 1), (14, 1)] := by kernel_rfl
theorem se32 : sliceElem Tryz.prog 32 = none := by kernel_rfl
theorem st33 : sizeT Tryz.prog 33 = some 1 := by kernel_rfl
theorem zt33 : zeroT Tryz.prog 33 = some [.slice none 0 0] := by kernel_rfl
theorem it33 : infoT Tryz.prog 33 = some (1, 24, some 1) := by kernel_rfl
theorem ct33 : cellTys Tryz.prog 8 33 = [some (22, 1)] := by kernel_rfl
theorem se33 : sliceElem Tryz.prog 33 = some (22, 1) := by kernel_rfl
theorem st36 : sizeT Tryz.prog 36 = some 1 := by kernel_rfl
theorem zt36 : zeroT Tryz.prog 36 = some [.int .i64 0] := by kernel_rfl
theorem it36 : infoT Tryz.prog 36 = some (1, 8, some 1) := by kernel_rfl
theorem ct36 : cellTys Tryz.prog 8 36 = [none] := by kernel_rfl
theorem se36 : sliceElem Tryz.prog 36 = none := by kernel_rfl
theorem st37 : sizeT Tryz.prog 37 = some 1 := by kernel_rfl
theorem st42 : sizeT Tryz.prog 42 = some 2 := by kernel_rfl
theorem zt42 : zeroT Tryz.prog 42 = some [.slice none 0 0, .slice none 0 0] := by kernel_rfl
theorem it42 : infoT Tryz.prog 42 = some (2, 48, some 2) := by kernel_rfl
theorem ct42 : cellTys Tryz.prog 8 42 = [some (3, 1), some (49, 1)] := by kernel_rfl
theorem pt42 : placesT Tryz.prog 42 = some [(0, 1), (1, 1)] := by kernel_rfl
theorem se42 : sliceElem Tryz.prog 42 = none := by kernel_rfl
theorem st48 : sizeT Tryz.prog 48 = some 2 := by kernel_rfl
theorem zt48 : zeroT Tryz.prog 48 = some [.int .i64 0, .int .i64 0] := by kernel_rfl
theorem it48 : infoT Tryz.prog 48 = some (2, 16, some 2) := by kernel_rfl
theorem ct48 : cellTys Tryz.prog 8 48 = [none, none] := by kernel_rfl
theorem pt48 : placesT Tryz.prog 48 = some [(0, 1), (1, 1)] := by kernel_rfl
theorem sg48 : Tryz.prog.stoodInHeld 48 = false ∧ Tryz.prog.eqGuardType Tryz.prog.depth 48 = false := by exact ⟨by kernel_rfl, by kernel_rfl⟩
theorem eqs48 (n m : Nat) (x0 y0 : Int) (x1 y1 : Int) : eqS Tryz.prog 48 n m [.v (.int .i64 x0), .v (.int .i64 x1)] [.v (.int .i64 y0), .v (.int .i64 y1)] = some (x0 == y0 && (x1 == y1 && true)) := by simp [eqS, Tryz.underlying48, sg48, eqF, Tryz.underlying3]
theorem se48 : sliceElem Tryz.prog 48 = none := by kernel_rfl
theorem st49 : sizeT Tryz.prog 49 = some 1 := by kernel_rfl
theorem zt49 : zeroT Tryz.prog 49 = some [.slice none 0 0] := by kernel_rfl
theorem it49 : infoT Tryz.prog 49 = some (1, 24, some 1) := by kernel_rfl
theorem ct49 : cellTys Tryz.prog 8 49 = [some (25, 3)] := by kernel_rfl
theorem se49 : sliceElem Tryz.prog 49 = some (25, 3) := by kernel_rfl
theorem st68 : sizeT Tryz.prog 68 = some 1 := by kernel_rfl
theorem st74 : sizeT Tryz.prog 74 = some 1 := by kernel_rfl
theorem zt74 : zeroT Tryz.prog 74 = some [.map none] := by kernel_rfl
theorem it74 : infoT Tryz.prog 74 = some (1, 8, some 1) := by kernel_rfl
theorem ct74 : cellTys Tryz.prog 8 74 = [none] := by kernel_rfl
theorem mt74 : mapTy Tryz.prog 74 = some (9, 3, false) := by kernel_rfl
theorem se74 : sliceElem Tryz.prog 74 = none := by kernel_rfl
theorem st75 : sizeT Tryz.prog 75 = some 1 := by kernel_rfl
theorem zt75 : zeroT Tryz.prog 75 = some [.slice none 0 0] := by kernel_rfl
theorem it75 : infoT Tryz.prog 75 = some (1, 24, some 1) := by kernel_rfl
theorem ct75 : cellTys Tryz.prog 8 75 = [some (23, 1)] := by kernel_rfl
theorem se75 : sliceElem Tryz.prog 75 = some (23, 1) := by kernel_rfl
theorem st77 : sizeT Tryz.prog 77 = some 1 := by kernel_rfl
theorem st86 : sizeT Tryz.prog 86 = some 1 := by kernel_rfl
theorem st88 : sizeT Tryz.prog 88 = some 1 := by kernel_rfl
theorem st94 : sizeT Tryz.prog 94 = some 1 := by kernel_rfl
theorem st100 : sizeT Tryz.prog 100 = some 1 := by kernel_rfl
theorem zt100 : zeroT Tryz.prog 100 = some [.map none] := by kernel_rfl
theorem it100 : infoT Tryz.prog 100 = some (1, 8, some 1) := by kernel_rfl
theorem ct100 : cellTys Tryz.prog 8 100 = [none] := by kernel_rfl
theorem mt100 : mapTy Tryz.prog 100 = some (9, 4, true) := by kernel_rfl
theorem se100 : sliceElem Tryz.prog 100 = none := by kernel_rfl
theorem st108 : sizeT Tryz.prog 108 = some 1 := by kernel_rfl
theorem zt108 : zeroT Tryz.prog 108 = some [.pointer none] := by kernel_rfl
theorem it108 : infoT Tryz.prog 108 = some (1, 8, some 1) := by kernel_rfl
theorem ct108 : cellTys Tryz.prog 8 108 = [none] := by kernel_rfl
theorem se108 : sliceElem Tryz.prog 108 = none := by kernel_rfl
theorem st109 : sizeT Tryz.prog 109 = some 1 := by kernel_rfl
theorem zt109 : zeroT Tryz.prog 109 = some [.slice none 0 0] := by kernel_rfl
theorem it109 : infoT Tryz.prog 109 = some (1, 24, some 1) := by kernel_rfl
theorem ct109 : cellTys Tryz.prog 8 109 = [some (5, 1)] := by kernel_rfl
theorem se109 : sliceElem Tryz.prog 109 = some (5, 1) := by kernel_rfl
theorem st111 : sizeT Tryz.prog 111 = some 2 := by kernel_rfl
theorem zt111 : zeroT Tryz.prog 111 = some [.pointer none, .slice none 0 0] := by kernel_rfl
theorem it111 : infoT Tryz.prog 111 = some (2, 32, some 2) := by kernel_rfl
theorem ct111 : cellTys Tryz.prog 8 111 = [none, some (5, 1)] := by kernel_rfl
theorem pt111 : placesT Tryz.prog 111 = some [(0, 1), (1, 1)] := by kernel_rfl
theorem se111 : sliceElem Tryz.prog 111 = none := by kernel_rfl
theorem st113 : sizeT Tryz.prog 113 = some 1 := by kernel_rfl
theorem zt113 : zeroT Tryz.prog 113 = some [.nilIface] := by kernel_rfl
theorem it113 : infoT Tryz.prog 113 = some (1, 16, some 1) := by kernel_rfl
theorem ct113 : cellTys Tryz.prog 8 113 = [none] := by kernel_rfl
theorem se113 : sliceElem Tryz.prog 113 = none := by kernel_rfl
theorem st114 : sizeT Tryz.prog 114 = some 1 := by kernel_rfl
theorem st121 : sizeT Tryz.prog 121 = some 1 := by kernel_rfl
theorem st122 : sizeT Tryz.prog 122 = some 1 := by kernel_rfl
theorem st139 : sizeT Tryz.prog 139 = some 1 := by kernel_rfl
theorem zt139 : zeroT Tryz.prog 139 = some [.int .u64 0] := by kernel_rfl
theorem it139 : infoT Tryz.prog 139 = some (1, 8, some 1) := by kernel_rfl
theorem ct139 : cellTys Tryz.prog 8 139 = [none] := by kernel_rfl
theorem se139 : sliceElem Tryz.prog 139 = none := by kernel_rfl
theorem st144 : sizeT Tryz.prog 144 = some 1 := by kernel_rfl
theorem zt144 : zeroT Tryz.prog 144 = some [.slice none 0 0] := by kernel_rfl
theorem it144 : infoT Tryz.prog 144 = some (1, 24, some 1) := by kernel_rfl
theorem ct144 : cellTys Tryz.prog 8 144 = [some (182, 2)] := by kernel_rfl
theorem se144 : sliceElem Tryz.prog 144 = some (182, 2) := by kernel_rfl
theorem st146 : sizeT Tryz.prog 146 = some 1 := by kernel_rfl
theorem st151 : sizeT Tryz.prog 151 = some 1 := by kernel_rfl
theorem st182 : sizeT Tryz.prog 182 = some 2 := by kernel_rfl
theorem zt182 : zeroT Tryz.prog 182 = some [.int .i64 0, .bool false] := by kernel_rfl
theorem it182 : infoT Tryz.prog 182 = some (2, 16, some 2) := by kernel_rfl
theorem ct182 : cellTys Tryz.prog 8 182 = [none, none] := by kernel_rfl
theorem pt182 : placesT Tryz.prog 182 = some [(0, 1), (1, 1)] := by kernel_rfl
theorem sg182 : Tryz.prog.stoodInHeld 182 = false ∧ Tryz.prog.eqGuardType Tryz.prog.depth 182 = false := by exact ⟨by kernel_rfl, by kernel_rfl⟩
theorem eqs182 (n m : Nat) (x0 y0 : Int) (x1 y1 : Bool) : eqS Tryz.prog 182 n m [.v (.int .i64 x0), .v (.bool x1)] [.v (.int .i64 y0), .v (.bool y1)] = some (x0 == y0 && (x1 == y1 && true)) := by simp [eqS, Tryz.underlying182, sg182, eqF, Tryz.underlying3, Tryz.underlying4]
theorem se182 : sliceElem Tryz.prog 182 = none := by kernel_rfl
end Go.FE
namespace Go.FE
open Go.Proofs
/-- A code's parts, by where they stand. -/
def kd : Code → Nat
  | .region _ _ _ => 0
  | .seq _ _ => 1
  | .cond _ _ _ => 2
  | .block _ _ => 3
  | .loop _ => 4
  | .exit _ => 5
  | .ret => 6
  | .skip => 7
  | _ => 8
def s1 : Code → Code
  | .seq x _ => x
  | c => c
def s2 : Code → Code
  | .seq _ y => y
  | c => c
def c0 : Code → Operand
  | .cond c _ _ => c
  | _ => .tmp 0
def c1 : Code → Code
  | .cond _ x _ => x
  | c => c
def c2 : Code → Code
  | .cond _ _ y => y
  | c => c
def bi : Code → Nat
  | .block id _ => id
  | .exit id => id
  | _ => 0
def bc : Code → Code
  | .block _ c => c
  | .loop c => c
  | c => c
def ro : Code → Array Oper
  | .region _ ops _ => ops
  | _ => #[]
def rd : Code → Bool
  | .region _ _ dr => dr
  | _ => false
def bod (fn : Func) : Code := fn.body.getD .skip
section
variable {p : Path} {n : Nat} {Qs : List Nat}
theorem Mrk.none {k : Nat} {e : Eff} (h : e.tch = []) : Mrk p n Qs k e := ⟨fun _ r hr => (by rw [h] at hr; cases hr), fun _ r hr => (by rw [h] at hr; cases hr)⟩
def newB (p : Path) (nx : Nat) (r : Rid) : Bool := match r.1 with
  | m :: q => decide (q = p) && decide (nx ≤ m)
  | [] => false
def oldB (p : Path) (nx : Nat) (r : Rid) : Bool := match r.1 with
  | m :: q => decide (q = p) && decide (m < nx)
  | [] => false
/-- Whether a marked operation touches what its mark says. -/
def mrk (p : Path) (nx : Nat) : List Nat → Nat → List Rid → Bool
  | [], _, _ => true
  | q :: Qs, k, l => (!((q :: Qs).contains (1000000 + k)) || l.all (newB p nx)) && (!((q :: Qs).contains (2000000 + k)) || l.all (oldB p nx))
theorem mrk_ok {k : Nat} {e : Eff} (h : mrk p n Qs k e.tch = true) : Mrk p n Qs k e := by
  cases Qs with
  | nil => exact ⟨fun h => (by simp at h), fun h => (by simp at h)⟩
  | cons q Qs =>
    unfold mrk at h
    simp only [Bool.and_eq_true, Bool.or_eq_true, Bool.not_eq_true'] at h
    refine ⟨fun hc r hr => ?_, fun hc r hr m hm => ?_⟩
    · rcases h.1 with h1 | h1
      · rw [hc] at h1; cases h1
      · have := List.all_eq_true.1 h1 r hr
        unfold newB at this
        split at this
        · rename_i m q he
          simp only [Bool.and_eq_true, decide_eq_true_eq] at this
          exact ⟨m, this.2, [], by rw [he, this.1]; rfl⟩
        · cases this
    · rcases h.2 with h1 | h1
      · rw [hc] at h1; cases h1
      · have := List.all_eq_true.1 h1 r hr
        unfold oldB at this
        split at this
        · rename_i m' q he
          simp only [Bool.and_eq_true, decide_eq_true_eq] at this
          obtain ⟨q', hq'⟩ := hm
          rw [he, this.1] at hq'
          have := under_inj (q := []) hq'
          omega
        · cases this
end
/-- The operations ahead of the first call. -/
def goP (P : Program) (p : Path) (all : List Oper) (Qs : List Nat) (nx : Nat) : Nat → List Oper → List AV → RL → Option (Nat × List Oper × List AV × RL)
  | k, [], tm, L => some (k, [], tm, L)
  | k, o :: r, tm, L => match gOf all tm o with
    | none => none
    | some false => goP P p all Qs nx (k + 1) r (putD tm o.dst .und) L
    | some true => match isCall o with
      | true => some (k, o :: r, tm, L)
      | false => match Qs.contains k, step P tm (lk L) ((nx + k) :: p) o with
        | false, some e => if mrk p nx Qs k e.tch = true then goP P p all Qs nx (k + 1) r (putD tm o.dst e.val) (e.wr.reverse ++ L) else none
        | _, _ => none
/-- The first m operations, none of them a call. -/
def goN (P : Program) (p : Path) (all : List Oper) (Qs : List Nat) (nx : Nat) : Nat → Nat → List Oper → List AV → RL → Option (Nat × List Oper × List AV × RL)
  | 0, k, ops, tm, L => some (k, ops, tm, L)
  | _ + 1, k, [], tm, L => none
  | m + 1, k, o :: r, tm, L => match gOf all tm o with
    | none => none
    | some false => goN P p all Qs nx m (k + 1) r (putD tm o.dst .und) L
    | some true => match isCall o with
      | true => none
      | false => match Qs.contains k, step P tm (lk L) ((nx + k) :: p) o with
        | false, some e => if mrk p nx Qs k e.tch = true then goN P p all Qs nx m (k + 1) r (putD tm o.dst e.val) (e.wr.reverse ++ L) else none
        | _, _ => none
theorem PW.mono' {P : Program} {T : List Rid} {p : Path} : ∀ (c : Code) (Q Q' : Exit → SL → Prop) (s : SL), (∀ e s, Q e s → Q' e s) → PW P T p c Q s → PW P T p c Q' s := by
  intro c
  induction c with
  | skip => intro Q Q' s h h1; exact h _ _ h1
  | region id ops dr =>
    intro Q Q' s h h1
    obtain ⟨s1, h0, Qs, hd, tm', L', tr, h2, h3, h4, h5⟩ := h1
    exact ⟨s1, h0, Qs, hd, tm', L', tr, h2, h3, h4, h _ _ h5⟩
  | seq x y ihx ihy =>
    intro Q Q' s h h1
    refine ihx _ _ s (fun e s' h2 => ?_) h1
    cases e with
    | normal => exact ihy _ _ s' h h2
    | _ => exact h _ _ h2
  | cond c x y ihx ihy =>
    intro Q Q' s h h1
    rcases h1 with ⟨b, h2, h3, h4⟩ | ⟨h2, h3, h4⟩
    · exact .inl ⟨b, h2, fun hb => ihx _ _ s h (h3 hb), fun hb => ihy _ _ s h (h4 hb)⟩
    · exact .inr ⟨h2, ihx _ _ s h h3, ihy _ _ s h h4⟩
  | block id c ih =>
    intro Q Q' s h h1
    refine ih _ _ s (fun e s' h2 => ?_) h1
    cases e with
    | exit id' =>
      simp only [inBlL] at h2 ⊢
      split
      · rw [if_pos ‹_›] at h2; exact h _ _ h2
      · rw [if_neg ‹_›] at h2; exact h _ _ h2
    | _ => exact h _ _ h2
  | loop c ih =>
    intro Q Q' s h h1
    obtain ⟨I, n, s0, h2, h3, h4⟩ := h1
    refine ⟨I, n, s0, h2, h3, fun m s1 h5 => ih _ _ s1 (fun e s' h6 => ?_) (h4 m s1 h5)⟩
    cases e with
    | normal => exact h6
    | _ => exact h _ _ h6
  | exit id => intro Q Q' s h h1; exact h _ _ h1
  | ret => intro Q Q' s h h1; exact h _ _ h1
  | scope c ih => intro Q Q' s h h1; exact h1.elim
  | rangeFunc f ps x y _ _ => intro Q Q' s h h1; exact h1.elim
  | label l => intro Q Q' s h h1; exact h1.elim
  | goto l => intro Q Q' s h h1; exact h1.elim
  | refuse w => intro Q Q' s h h1; exact h1.elim
section
variable {P : Program} {T : List Rid} {p : Path} {dr : Bool} {Qs : List Nat} {Q : Exit → SL → Prop} {tm tm' : List AV} {L L' : RL} {n n' k k' : Nat} {all ops ops' : List Oper} {K : List AV → RL → Prop}
theorem GoK.nil (h : K tm L) : GoK P T p all dr Qs n k [] tm L K := ⟨tm, L, [], .nil, fun _ h => (by cases h), fun _ j e h => by simp at h, h⟩
theorem GoK.cons_skip {o : Oper} (hg : gOf all tm o = some false) (h : GoK P T p all dr Qs n (k + 1) ops (putD tm o.dst .und) L K) : GoK P T p all dr Qs n k (o :: ops) tm L K := by
  obtain ⟨tm1, L1, tr, h1, h2, h3, h4⟩ := h
  refine ⟨tm1, L1, _, .skip hg h1, fun e he r hr => ?_, fun hd j e hj => ?_, h4⟩
  · rcases List.mem_cons.1 he with rfl | he
    · cases hr
    · exact h2 e he r hr
  · cases j with
    | zero => simp at hj; subst hj; exact ⟨fun _ r hr => (by cases hr), .none rfl⟩
    | succ j =>
      have := h3 hd j e (by simpa using hj)
      rw [show k + (j + 1) = k + 1 + j by omega]
      exact this
theorem GoK.cons_step {o : Oper} {e : Eff} (hg : gOf all tm o = some true) (hgood : Good P (Qs.contains k) tm (lk L) ((n + k) :: p) o e) (ht : ∀ r ∈ e.tch, r ∈ T ∨ Under p r) (ho : dr = true → k ∈ Qs → ∀ r ∈ e.tch, OldR all p n k r) (hmk : Mrk p n Qs k e)
    (h : GoK P T p all dr Qs n (k + 1) ops (putD tm o.dst e.val) (e.wr.reverse ++ L) K) : GoK P T p all dr Qs n k (o :: ops) tm L K := by
  obtain ⟨tm1, L1, tr, h1, h2, h3, h4⟩ := h
  rw [← lk_wrs] at h1
  refine ⟨tm1, L1, _, .step hg hgood h1, fun e' he r hr => ?_, fun hd j e' hj => ?_, h4⟩
  · rcases List.mem_cons.1 he with rfl | he
    · exact ht r hr
    · exact h2 e' he r hr
  · cases j with
    | zero => simp at hj; subst hj; exact ⟨ho hd, hmk⟩
    | succ j =>
      have := h3 hd j e' (by simpa using hj)
      rw [show k + (j + 1) = k + 1 + j by omega]
      exact this
theorem step_in {o : Oper} {e : Eff} {k : Nat} (hin : InR T p L) (hs : step P tm (lk L) (k :: p) o = some e) : (∀ r ∈ e.tch, r ∈ T ∨ Under p r) ∧ InR T p (e.wr.reverse ++ L) := by
  have hk := step_keys hs
  refine ⟨fun r hr => hin.of (hk.1 r hr false).2.1, fun q hq => ?_⟩
  rcases List.mem_append.1 hq with hq | hq
  · rcases hk.2 q (List.mem_reverse.1 hq) with h | ⟨h, _⟩
    · exact .inr ⟨[k], by rw [h]; rfl⟩
    · exact hin.of (hk.1 _ h false).2.1
  · exact hin q hq
/-- A walk's operations, with what lives known to be the call's own or to be what it may touch. -/
def GoI (P : Program) (T : List Rid) (p : Path) (all : List Oper) (dr : Bool) (Qs : List Nat) (nx : Nat) (k : Nat) (ops : List Oper) (tm : List AV) (L : RL) (K : List AV → RL → Prop) : Prop := InR T p L → GoK P T p all dr Qs nx k ops tm L fun tm' L' => InR T p L' ∧ K tm' L'
theorem GoI.nil (h : K tm L) : GoI P T p all dr Qs n k [] tm L K := fun hin => GoK.nil ⟨hin, h⟩
theorem GoI.run : ∀ {ops : List Oper} {k : Nat} {tm : List AV} {L : RL}, goP P p all Qs n k ops tm L = some (k', ops', tm', L') → GoI P T p all dr Qs n k' ops' tm' L' K → GoI P T p all dr Qs n k ops tm L K
  | [], k, tm, L, h, hk => by
    unfold goP at h
    injection h with h; injection h with h1 h; injection h with h2 h; injection h with h3 h4
    subst h1 h2 h3 h4
    exact hk
  | o :: r, k, tm, L, h, hk => by
    intro hin
    unfold goP at h
    split at h
    · cases h
    · rename_i hg
      exact GoK.cons_skip hg (GoI.run h hk hin)
    · rename_i hg
      split at h
      · injection h with h; injection h with h1 h; injection h with h2 h; injection h with h3 h4
        subst h1 h2 h3 h4
        exact hk hin
      · split at h
        · rename_i e hq hs
          obtain ⟨h1, h2⟩ := step_in hin hs
          split at h
          · rename_i hmk
            refine GoK.cons_step hg (.of_step hs) h1 (fun _ hkq => ?_) (mrk_ok hmk) (GoI.run h hk h2)
            have : Qs.contains k = true := by simpa using hkq
            rw [hq] at this; cases this
          · cases h
        · cases h
theorem GoI.runN : ∀ (m : Nat) {ops : List Oper} {k : Nat} {tm : List AV} {L : RL}, goN P p all Qs n m k ops tm L = some (k', ops', tm', L') → GoI P T p all dr Qs n k' ops' tm' L' K → GoI P T p all dr Qs n k ops tm L K
  | 0, ops, k, tm, L, h, hk => by
    unfold goN at h
    injection h with h; injection h with h1 h; injection h with h2 h; injection h with h3 h4
    subst h1 h2 h3 h4
    exact hk
  | m + 1, [], k, tm, L, h, hk => by unfold goN at h; cases h
  | m + 1, o :: r, k, tm, L, h, hk => by
    intro hin
    unfold goN at h
    split at h
    · cases h
    · rename_i hg
      exact GoK.cons_skip hg (GoI.runN m h hk hin)
    · rename_i hg
      split at h
      · cases h
      · split at h
        · rename_i e hq hs
          obtain ⟨h1, h2⟩ := step_in hin hs
          split at h
          · rename_i hmk
            refine GoK.cons_step hg (.of_step hs) h1 (fun _ hkq => ?_) (mrk_ok hmk) (GoI.runN m h hk h2)
            have : Qs.contains k = true := by simpa using hkq
            rw [hq] at this; cases this
          · cases h
        · cases h
theorem GoI.call {o : Oper} {f : FuncId} {xs : List AV} {q : AV} (hg : gOf all tm o = some true) (hc : callOf tm o = some (f, xs)) (h : CallsOK P f xs q) (hk : GoI P T p all dr Qs n (k + 1) ops (putD tm o.dst q.clean) L K) : GoI P T p all dr Qs n k (o :: ops) tm L K := fun hin =>
  GoK.cons_step (e := ⟨q.clean, [], []⟩) hg (callOf_good hc h) (fun r hr => by cases hr) (fun _ _ r hr => by cases hr) (.none rfl) (hk hin)
/-- A call that may touch what is the caller's. -/
theorem GoI.call2 {o : Oper} {f : FuncId} {xs xs' : List AV} {T' : List Rid} {q : AV} {wr : List (Rid × Res)} (hg : gOf all tm o = some true) (hc : callOf2 tm o = some (f, xs)) (h : Calls2 P f xs' T' (lk L) ((n + k) :: p) q wr) (hl : avLes xs xs')
    (hq : Qs.contains k = true ∨ T' = []) (ho : dr = true → ∀ r ∈ T', OldR all p n k r) (hk : GoI P T p all dr Qs n (k + 1) ops (putD tm o.dst q) (wr.reverse ++ L) K) (hz : (Qs.contains (1000000 + k) || Qs.contains (2000000 + k)) = false := by rfl) : GoI P T p all dr Qs n k (o :: ops) tm L K := fun hin => by
  have ht : ∀ r ∈ T', r ∈ T ∨ Under p r := fun r hr => hin.of (h.live r hr)
  refine GoK.cons_step (e := ⟨q, wr, T'⟩) hg (callOf2_good hc hq hl h) ht (fun hd _ => ho hd) (by simp only [Bool.or_eq_false_iff] at hz; exact ⟨fun h => (by rw [hz.1] at h; cases h), fun h => (by rw [hz.2] at h; cases h)⟩) (hk fun x hx => ?_)
  rcases List.mem_append.1 hx with hx | hx
  · rcases h.keys x (List.mem_reverse.1 hx) with h1 | h1
    · exact ht _ h1
    · exact .inr h1.tail
  · exact hin x hx
theorem GoI.call2e {o : Oper} {f : FuncId} {xs : List AV} {T' : List Rid} {q : AV} {wr : List (Rid × Res)} (hg : gOf all tm o = some true) (hc : callOf2 tm o = some (f, xs)) (h : Calls2 P f xs T' (lk L) ((n + k) :: p) q wr)
    (hq : Qs.contains k = true ∨ T' = []) (ho : dr = true → ∀ r ∈ T', OldR all p n k r) (hk : GoI P T p all dr Qs n (k + 1) ops (putD tm o.dst q) (wr.reverse ++ L) K) (hz : (Qs.contains (1000000 + k) || Qs.contains (2000000 + k)) = false := by rfl) : GoI P T p all dr Qs n k (o :: ops) tm L K :=
  GoI.call2 hg hc h (by
    clear hc h
    induction xs with
    | nil => trivial
    | cons x xs ih => exact ⟨.inl rfl, ih⟩) hq ho hk hz
theorem GoI.grd {x : Bool} (d : Nat) (hs : tm.getD d .unk = .v (.bool x)) (ht : x = true → GoI P T p all dr Qs n k ops tm L K) (hf : x = false → GoI P T p all dr Qs n k ops tm L K) : GoI P T p all dr Qs n k ops tm L K := by
  cases x
  · exact hf rfl
  · exact ht rfl
/-- The same of a whole body. -/
def PI (P : Program) (T : List Rid) (p : Path) (c : Code) (Q : Exit → SL → Prop) (s : SL) : Prop := InR T p s.rs → PW P T p c (fun e s' => InR T p s'.rs ∧ Q e s') s
theorem PI.cnd_t {c : Operand} {x y : Code} (h : ev tm c = .v (.bool true)) (ht : PI P T p x Q ⟨tm, L, n⟩) : PI P T p (.cond c x y) Q ⟨tm, L, n⟩ := fun hin => .inl ⟨true, h, fun _ => ht hin, fun h => by cases h⟩
theorem PI.cnd_f {c : Operand} {x y : Code} (h : ev tm c = .v (.bool false)) (ht : PI P T p y Q ⟨tm, L, n⟩) : PI P T p (.cond c x y) Q ⟨tm, L, n⟩ := fun hin => .inl ⟨false, h, fun h => (by cases h), fun _ => ht hin⟩
theorem PI.cnd {c : Operand} {x y : Code} {b : Bool} (h : ev tm c = .v (.bool b)) (ht : b = true → PI P T p x Q ⟨tm, L, n⟩) (hf : b = false → PI P T p y Q ⟨tm, L, n⟩) : PI P T p (.cond c x y) Q ⟨tm, L, n⟩ := fun hin => .inl ⟨b, h, fun hb => ht hb hin, fun hb => hf hb hin⟩
theorem PI.cnd_u {c : Operand} {x y : Code} (h : ev tm c = .bl) (ht : PI P T p x Q ⟨tm, L, n⟩) (hf : PI P T p y Q ⟨tm, L, n⟩) : PI P T p (.cond c x y) Q ⟨tm, L, n⟩ := fun hin => .inr ⟨h, ht hin, hf hin⟩
theorem PI.skp {s : SL} (h : Q .normal s) : PI P T p .skip Q s := fun hin => ⟨hin, h⟩
theorem PI.reg {id : Nat} {ops : Array Oper} {dr : Bool} (n' : Nat) (Qs : List Nat) (hd : dr = true → drawOK ops Qs = true) (hn : n + ops.size = n') (h : GoI P T p ops.toList dr Qs n 0 ops.toList tm L fun tm' L' => Q .normal ⟨tm', L', n'⟩) : PI P T p (.region id ops dr) Q ⟨tm, L, n⟩ := fun hin => by
  refine ⟨⟨tm, L, n⟩, GhL.refl _, Qs, hd, ?_⟩
  rw [show (⟨tm, L, n⟩ : SL).nx + ops.size = n' from hn]
  exact h hin
theorem GhL_region {id : Nat} {ops : Array Oper} {dr : Bool} {s s' : SL} (h : GhL T p s s') (hp : PW P T p (.region id ops dr) Q s') : PW P T p (.region id ops dr) Q s := by
  obtain ⟨s1, h1, h2⟩ := hp
  exact ⟨s1, GhL.trans h h1, h2⟩
theorem PI.seq_ {x y : Code} {s : SL} (h : PI P T p x (thnL (PI P T p y Q) Q) s) : PI P T p (.seq x y) Q s := fun hin => by
  show PW P T p x (thnL (PW P T p y _) _) s
  refine PW.mono' x _ _ _ (fun e s' h' => ?_) (h hin)
  cases e with
  | normal => exact h'.2 h'.1
  | _ => exact h'
theorem PI.blk {id : Nat} {c : Code} {s : SL} (h : PI P T p c (inBlL id Q) s) : PI P T p (.block id c) Q s := fun hin => by
  show PW P T p c (inBlL id _) s
  refine PW.mono' c _ _ _ (fun e s' h' => ?_) (h hin)
  cases e with
  | exit id' =>
    simp only [inBlL] at h' ⊢
    split
    · rw [if_pos ‹_›] at h'; exact h'
    · rw [if_neg ‹_›] at h'; exact h'
  | _ => exact h'
theorem PI.ext {id : Nat} {s : SL} (h : Q (.exit id) s) : PI P T p (.exit id) Q s := fun hin => ⟨hin, h⟩
theorem PI.rt {s : SL} (h : Q .ret s) : PI P T p .ret Q s := fun hin => ⟨hin, h⟩
/-- The same as GhI, ahead of it. -/
def GhI' (T : List Rid) (p : Path) (s s' : SL) : Prop := InR T p s.rs → GhL T p s s' ∧ InR T p s'.rs
theorem PI.sq {c : Code} {s : SL} (hk : kd c = 1) (h : PI P T p (s1 c) (thnL (PI P T p (s2 c) Q) Q) s) : PI P T p c Q s := by
  cases c <;> simp [kd] at hk
  exact PI.seq_ h
theorem PI.bk {c : Code} {s : SL} (id : Nat) (hi : bi c = id) (hk : kd c = 3) (h : PI P T p (bc c) (inBlL id Q) s) : PI P T p c Q s := by
  subst hi
  cases c <;> simp [kd] at hk
  exact PI.blk h
theorem PI.ex {c : Code} {s : SL} (id : Nat) (hi : bi c = id) (hk : kd c = 5) (h : Q (.exit id) s) : PI P T p c Q s := by
  subst hi
  cases c <;> simp [kd] at hk
  exact PI.ext h
theorem PI.re {c : Code} {s : SL} (hk : kd c = 6) (h : Q .ret s) : PI P T p c Q s := by
  cases c <;> simp [kd] at hk
  exact PI.rt h
theorem PI.sk {c : Code} {s : SL} (hk : kd c = 7) (h : Q .normal s) : PI P T p c Q s := by
  cases c <;> simp [kd] at hk
  exact PI.skp h
theorem PI.ct {c : Code} {x : Operand} (hx : c0 c = x) (hk : kd c = 2) (h : ev tm x = .v (.bool true)) (ht : PI P T p (c1 c) Q ⟨tm, L, n⟩) : PI P T p c Q ⟨tm, L, n⟩ := by
  subst hx
  cases c <;> simp [kd] at hk
  exact PI.cnd_t h ht
theorem PI.cf {c : Code} {x : Operand} (hx : c0 c = x) (hk : kd c = 2) (h : ev tm x = .v (.bool false)) (ht : PI P T p (c2 c) Q ⟨tm, L, n⟩) : PI P T p c Q ⟨tm, L, n⟩ := by
  subst hx
  cases c <;> simp [kd] at hk
  exact PI.cnd_f h ht
theorem PI.cd {c : Code} {x : Operand} {b : Bool} (hx : c0 c = x) (hk : kd c = 2) (h : ev tm x = .v (.bool b)) (ht : b = true → PI P T p (c1 c) Q ⟨tm, L, n⟩) (hf : b = false → PI P T p (c2 c) Q ⟨tm, L, n⟩) : PI P T p c Q ⟨tm, L, n⟩ := by
  subst hx
  cases c <;> simp [kd] at hk
  exact PI.cnd h ht hf
theorem PI.cu {c : Code} {x : Operand} (hx : c0 c = x) (hk : kd c = 2) (h : ev tm x = .bl) (ht : PI P T p (c1 c) Q ⟨tm, L, n⟩) (hf : PI P T p (c2 c) Q ⟨tm, L, n⟩) : PI P T p c Q ⟨tm, L, n⟩ := by
  subst hx
  cases c <;> simp [kd] at hk
  exact PI.cnd_u h ht hf
theorem PI.rg {c : Code} (n' : Nat) (Qs : List Nat) {l : List Oper} {dr : Bool} (hk : kd c = 0) (hr : rd c = dr) (hl : (ro c).toList = l) (hd : dr = true → drawOK (ro c) Qs = true) (hn : n + (ro c).size = n') (h : GoI P T p (ro c).toList dr Qs n 0 l tm L fun tm' L' => Q .normal ⟨tm', L', n'⟩) : PI P T p c Q ⟨tm, L, n⟩ := by
  subst hr hl
  cases c <;> simp [kd] at hk
  exact PI.reg n' Qs hd hn h
theorem PI.pg {c : Code} {s s' : SL} (hk : kd c = 0) (h : GhI' T p s s') (hp : PI P T p c Q s') : PI P T p c Q s := by
  cases c <;> simp [kd] at hk
  exact fun hin => GhL_region (h hin).1 (hp (h hin).2)
def ovr (tm : List AV) : List (Nat × AV) → List AV
  | [] => tm
  | (i, q) :: l => ovr (tm.set i q) l
/-- Two steps that the machine does not see, with what lives. -/
def GhI (T : List Rid) (p : Path) (s s' : SL) : Prop := InR T p s.rs → GhL T p s s' ∧ InR T p s'.rs
theorem GhI.of_wk {s s' : SL} (h : WkL p s s') : GhI T p s s' := fun hin => ⟨h.gh, fun q hq => hin.of (by rw [(h.rs q hq).1]; exact (h.rs q hq).2)⟩
theorem GhI.refl {s : SL} : GhI T p s s := fun hin => ⟨GhL.refl _, hin⟩
theorem GhI.trans {s s' s'' : SL} (h : GhI T p s s') (h' : GhI T p s' s'') : GhI T p s s'' := fun hin => ⟨GhL.trans (h hin).1 (h' (h hin).2).1, (h' (h hin).2).2⟩
theorem GhI.frz {tm : List AV} {L : RL} {n : Nat} (id : Rid) (s0 : Nat) (e : TypeId) (sz k : Nat) (rows : List (List AV)) (hrs : lk L id = .arr s0 e sz rows) (hk : k ≤ rows.length) {tm' : List AV} (htm : tm.map (frzA id s0 sz k rows) = tm') :
    GhI T p ⟨tm, L, n⟩ ⟨tm', (id, .tok (s0 + 1) e sz) :: L, n⟩ := fun hin => by
  have h1 := hin.of (r := id) (by rw [hrs]; simp)
  refine ⟨?_, fun q hq => ?_⟩
  · have := Gh.frz (T := (· ∈ T)) (p := p) (s := (⟨tm, L, n⟩ : SL).st) id s0 e sz k rows h1 hrs hk
    unfold GhL SL.st
    simp only [lk_fup]
    rw [← htm]
    exact this
  · rcases List.mem_cons.1 hq with rfl | hq
    · exact h1
    · exact hin q hq
theorem GhI.thw {tm : List AV} {L : RL} {n : Nat} (id : Rid) (s0 : Nat) (e : TypeId) (sz i : Nat) (hrs : lk L id = .tok s0 e sz) (hi : tm[i]? = some (.sl [] (some (id, s0)))) {tm' : List AV} (htm : tm.map (thwA id s0 sz) = tm') :
    GhI T p ⟨tm, L, n⟩ ⟨tm', (id, .arr (s0 + 1) e sz []) :: L, n⟩ := fun hin => by
  have h1 := hin.of (r := id) (by rw [hrs]; simp)
  refine ⟨?_, fun q hq => ?_⟩
  · have := Gh.thw (T := (· ∈ T)) (p := p) (s := (⟨tm, L, n⟩ : SL).st) id s0 e sz i h1 hrs hi
    unfold GhL SL.st
    simp only [lk_fup]
    rw [← htm]
    exact this
  · rcases List.mem_cons.1 hq with rfl | hq
    · exact h1
    · exact hin q hq
theorem under_self {p : Path} {k n : Nat} : Under p (k :: p, n) := ⟨[k], rfl⟩
/-- A loop: x: what the rounds carry; V x: the slots that they set; Lf x: what lives. -/
theorem PI.lp {X : Type} {c : Code} (V : X → List (Nat × AV)) (Lf : X → RL) (rel : Nat → X → Prop) (k : Nat) (x : X) (h0 : GhI T p ⟨tm, L, n⟩ ⟨ovr tm (V x), Lf x, 0 + n⟩) (hr : rel k x)
    (h : ∀ k x j, rel k x → PI P T p c (thnL (fun s' => ∃ m x' j', m < k ∧ rel m x' ∧ GhI T p s' ⟨ovr tm (V x'), Lf x', j' + n⟩) Q) ⟨ovr tm (V x), Lf x, j + n⟩) : PI P T p (.loop c) Q ⟨tm, L, n⟩ := fun hin => by
  refine ⟨fun k s => InR T p s.rs ∧ ∃ x j, rel k x ∧ s = ⟨ovr tm (V x), Lf x, j + n⟩, k, _, (h0 hin).1, ⟨(h0 hin).2, x, 0, hr, rfl⟩, fun k s hs => ?_⟩
  obtain ⟨hin', x, j, hr, rfl⟩ := hs
  refine PW.mono' _ _ _ _ (fun e s h => ?_) (h k x j hr hin')
  cases e with
  | normal =>
    obtain ⟨hi, m, x', j', h1, h2, h3⟩ := h
    exact ⟨m, _, h1, (h3 hi).1, (h3 hi).2, x', j', h2, rfl⟩
  | _ => exact h
theorem PI.lo {X : Type} {c : Code} (hk : kd c = 4) (V : X → List (Nat × AV)) (Lf : X → RL) (rel : Nat → X → Prop) (k : Nat) (x : X) (h0 : GhI T p ⟨tm, L, n⟩ ⟨ovr tm (V x), Lf x, 0 + n⟩) (hr : rel k x)
    (h : ∀ k x j, rel k x → PI P T p (bc c) (thnL (fun s' => ∃ m x' j', m < k ∧ rel m x' ∧ GhI T p s' ⟨ovr tm (V x'), Lf x', j' + n⟩) Q) ⟨ovr tm (V x), Lf x, j + n⟩) : PI P T p c Q ⟨tm, L, n⟩ := by
  cases c <;> simp [kd] at hk
  exact PI.lp V Lf rel k x h0 hr h
/-- How a body ends. -/
theorem PI.fin {fn : Func} {R : List AV → SL → Prop} {e : Exit} {s : SL} (he : e = .normal ∨ e = .ret) {qs : List AV} (h1 : resLL P s fn.results.toList = some qs) (h2 : R qs s) : InR T p s.rs → FinL P T p fn R e s := fun hin => by
  rcases he with rfl | rfl <;> exact ⟨s, (GhL.refl s).e, hin, qs, h1, h2⟩
/-- A body's end, in the words of its walk. -/
def FinI (P : Program) (T : List Rid) (p : Path) (fn : Func) (R : List AV → SL → Prop) : Exit → SL → Prop
  | .normal, s | .ret, s => InR T p s.rs → FinL P T p fn R .ret s
  | _, _ => False
theorem FinI.mk {fn : Func} {R : List AV → SL → Prop} {s : SL} (qs : List AV) (h1 : resLL P s fn.results.toList = some qs) (h2 : R qs s) : InR T p s.rs → FinL P T p fn R .ret s := PI.fin (.inr rfl) h1 h2
theorem FinI.gh {fn : Func} {R : List AV → SL → Prop} {s : SL} (s' : SL) (hg : GhI T p s s') (qs : List AV) (h1 : resLL P s' fn.results.toList = some qs) (h2 : R qs s') : InR T p s.rs → FinL P T p fn R .ret s := fun hin =>
  ⟨s', (hg hin).1.e, (hg hin).2, qs, h1, h2⟩
theorem FinI.ren {fn : Func} {R : List AV → SL → Prop} {tm : List AV} {L : RL} {n : Nat} (t : Rid) (k : Nat) (hu : Under p t) (hne : t.1 ≠ p) (hd : lk L t ≠ .dead) (qs : List AV) (h1 : resLL P ⟨tm.map (renA t (p, k)), ((p, k), lk L t) :: (t, .dead) :: L, n⟩ fn.results.toList = some qs)
    (h2 : R qs ⟨tm.map (renA t (p, k)), ((p, k), lk L t) :: (t, .dead) :: L, n⟩) : InR T p L → FinL P T p fn R .ret ⟨tm, L, n⟩ := fun hin => by
  refine ⟨⟨tm.map (renA t (p, k)), ((p, k), lk L t) :: (t, .dead) :: L, n⟩, ?_, fun q hq => ?_, qs, h1, h2⟩
  · have := GhE.ren (T := (· ∈ T)) (p := p) (s := (⟨tm, L, n⟩ : SL).st) t k hu hne hd
    unfold GhLE SL.st
    simp only [lk_fup]
    exact this
  · rcases List.mem_cons.1 hq with rfl | hq
    · exact .inr ⟨[], rfl⟩
    · rcases List.mem_cons.1 hq with rfl | hq
      · exact .inr hu
      · exact hin q hq
theorem PI.toPW {c : Code} {fn : Func} {R : List AV → SL → Prop} {s : SL} (hin : InR T p s.rs) (h : PI P T p c (FinI P T p fn R) s) : PW P T p c (FinL P T p fn R) s := by
  refine PW.mono' _ _ _ _ (fun e s' h' => ?_) (h hin)
  cases e with
  | normal => exact h'.2 h'.1
  | ret => exact h'.2 h'.1
  | _ => exact h'.2.elim
theorem bod_eq {fn : Func} {c : Code} (h : fn.body = some c) : bod fn = c := by unfold bod; rw [h]; rfl
/-- The contract of a function that takes and hands back contents. -/
theorem CallsOK.of_pi {f : FuncId} {fn : Func} {args : List AV} {r : AV} (hm : P.follows .mixedOrders = true) (hf : P.funcs[f]? = some fn) (hb : fn.body.isSome = true) (hn : (fn.name != "runtime.NumGoroutine") = true)
    (h : PI P [] [] (bod fn) (FinI P [] [] fn fun qs _ => finR qs = r) ⟨tmps0 (args.map AV.bare) fn.ntmps, [], 0⟩) : CallsOK P f args r := by
  obtain ⟨c, hc⟩ := Option.isSome_iff_exists.1 hb
  rw [bod_eq hc] at h
  exact .of_pw hm hf hc hn (h.toPW inR0)
/-- The contract of a function that may touch what is the caller's. -/
theorem Calls2.of_pi {f : FuncId} {fn : Func} {args : List AV} {T : List Rid} {rs : Rid → Res} {id : Path} {r : AV} {wr : List (Rid × Res)} (L0 : RL) (hm : P.follows .mixedOrders = true) (hf : P.funcs[f]? = some fn) (hb : fn.body.isSome = true) (hn : (fn.name != "runtime.NumGoroutine") = true)
    (hlive : ∀ t ∈ T, rs t ≠ .dead) (hkeys : ∀ p ∈ wr, p.1 ∈ T ∨ Under id p.1) (hL0 : ∀ q ∈ L0, q.1 ∈ T) (hT0 : ∀ t ∈ T, lk L0 t = rs t) (hdead : ∀ t ∈ T, ¬ Under id t)
    (h : PI P T id (bod fn) (FinI P T id fn fun qs s => packR qs = r ∧ ∀ r, (r ∈ T ∨ Under id r) → lk (wr.reverse ++ L0) r = lk s.rs r ∨ (lk (wr.reverse ++ L0) r = .dead ∧ Under id r)) ⟨tmps0 args fn.ntmps, L0, 0⟩) : Calls2 P f args T rs id r wr := by
  obtain ⟨c, hc⟩ := Option.isSome_iff_exists.1 hb
  rw [bod_eq hc] at h
  exact .of_pw L0 hm hf hc hn hlive hkeys hT0 (fun q hq => hdead _ (hL0 q hq)) (h.toPW fun q hq => .inl (hL0 q hq))
end
end Go.FE
namespace Go.FE
open Go.Proofs
/-- No row is longer than a row can be. -/
def AV.bd : Nat → AV → Prop
  | 0, _ => True
  | k + 1, .sl xs _ => xs.length ≤ maxLen ∧ ∀ cs ∈ xs, ∀ q ∈ cs, AV.bd k q
  | k + 1, .agg _ cs => ∀ q ∈ cs, AV.bd k q
  | _ + 1, _ => True
theorem bd_of_CR {m : Nat → Nat} {w : World} {q : AV} {x : Value} (h : CR m w q x) : ∀ k, q.bd k := by
  induction h with
  | v h => intro k; cases k <;> simp [AV.bd]
  | unk x => intro k; cases k <;> simp [AV.bd]
  | agg hn hv h1 h ih =>
    intro k
    cases k with
    | zero => trivial
    | succ k =>
      intro q hq
      obtain ⟨i, hi⟩ := List.getElem?_of_mem hq
      exact ih i q hi k
  | sl sz f hc hm hs ha hr ih =>
    intro k
    cases k with
    | zero => trivial
    | succ k =>
      refine ⟨hm, fun cs hcs q hq => ?_⟩
      obtain ⟨j, hj⟩ := List.getElem?_of_mem hcs
      obtain ⟨i, hi⟩ := List.getElem?_of_mem hq
      exact ih j cs i q hj hi k
/-- A contract may take its arguments' lengths as met. -/
theorem CallsOK.bd {P : Program} {f : FuncId} {args : List AV} {r : AV} (he : enters P f = true) (k : Nat) (h : (∀ q ∈ args, q.bd k) → CallsOK P f args r) : CallsOK P f args r :=
  ⟨he, fun m w vs hf ht hs hv => (h fun q hq => by
    obtain ⟨i, hi⟩ := List.getElem?_of_mem hq
    exact bd_of_CR (hv i q hi) k).run m w vs hf ht hs hv⟩
theorem w64 {x : Int} (h : -9223372036854775808 ≤ x) (h' : x ≤ 9223372036854775807) : IntKind.i64.wrap x = x := by
  simp [IntKind.wrap, IntKind.bits, IntKind.signed]
  omega
theorem up {i n : Nat} (h : decide ((i : Int) < (n : Int)) = true) (hn : n ≤ maxLen) : i < n ∧ IntKind.i64.wrap ((i : Int) + 1) = ((i + 1 : Nat) : Int) := by
  have h1 : i < n := by simpa using h
  refine ⟨h1, ?_⟩
  rw [w64 (by omega) (by unfold maxLen at hn; omega)]
  omega
theorem dn {i n : Nat} (h : decide ((i : Int) < (n : Int)) = false) : n ≤ i := by simpa using h
theorem all_take {α : Type} {p : α → Bool} {l : List α} {i : Nat} (h : i < l.length) (ha : (l.take i).all p = true) (hx : p l[i] = true) : (l.take (i + 1)).all p = true := by
  rw [List.take_succ_eq_append_getElem h, List.all_append, ha]
  simp [hx]
theorem all_full {α : Type} {p : α → Bool} {l : List α} {i : Nat} (h : l.length ≤ i) (ha : (l.take i).all p = true) : l.all p = true := by
  rwa [List.take_of_length_le h] at ha
theorem all_not {α : Type} {p : α → Bool} {l : List α} {i : Nat} (h : i < l.length) (hx : p l[i] = false) : l.all p = false := by
  rw [← Bool.not_eq_true, List.all_eq_true]
  exact fun hh => by rw [hh _ (List.getElem_mem h)] at hx; cases hx
abbrev aI (k : Int) : AV := .v (.int .i64 k)
abbrev aB (b : Bool) : AV := .v (.bool b)
abbrev ints (l : List Int) : AV := .sl (l.map fun k => [aI k]) none
theorem ints_at {l : List Int} {i : Nat} (h : i < l.length) : (l.map fun k => [aI k])[i]? = some [aI l[i]] := by simp [h]
theorem ints_bd {l : List Int} {args : List AV} (h : ∀ q ∈ args, q.bd 1) (hm : ints l ∈ args) : l.length ≤ maxLen := by have := (h _ hm).1; simpa using this
theorem lk_hd {r : Rid} {x : Res} {L : RL} : lk ((r, x) :: L) r = x := by simp [lk]
theorem lk_tl {r t : Rid} {x y : Res} {L : RL} (h : r ≠ t) (hy : lk L r = y) : lk ((t, x) :: L) r = y := by simp [lk, h, hy]
theorem nu1 {p : Path} {r : Rid} (h : ¬ Under p r) : ∀ k n, (r = (k :: p, n)) = False := fun k n => eq_false fun e => h (e ▸ under_self)
theorem nu2 {p : Path} {r : Rid} (h : ¬ Under p r) : ∀ k n, ((k :: p, n) = r) = False := fun k n => eq_false fun e => h (e ▸ under_self)
theorem nul {p : Path} {n k i : Nat} (h : k ≠ n) : ¬ Under (n :: p) (k :: p, i) := fun hu => h (hu.inj ⟨[], rfl⟩).symm
theorem ne1 {r t : Rid} (h : r ≠ t) : (r = t) = False := eq_false h
theorem ne2 {r t : Rid} (h : r ≠ t) : (t = r) = False := eq_false (Ne.symm h)
theorem fin_keys {T : List Rid} {p : Path} {L1 L2 : RL} (h1 : ∀ q ∈ L1, lk L1 q.1 = lk L2 q.1 ∨ (lk L1 q.1 = .dead ∧ Under p q.1)) (h2 : ∀ q ∈ L2, lk L1 q.1 = lk L2 q.1 ∨ (lk L1 q.1 = .dead ∧ Under p q.1)) :
    ∀ r, (r ∈ T ∨ Under p r) → lk L1 r = lk L2 r ∨ (lk L1 r = .dead ∧ Under p r) := fun r _ => by
  by_cases h : lk L1 r = .dead
  · by_cases h' : lk L2 r = .dead
    · exact .inl (h.trans h'.symm)
    · obtain ⟨q, h3, rfl⟩ := lk_dead h'
      exact h2 q h3
  · obtain ⟨q, h3, rfl⟩ := lk_dead h
    exact h1 q h3
/-- The code begins with a region or a loop. -/
def fst : Code → Bool
  | .region _ _ _ => true
  | .seq x _ => fst x
  | .block _ c => fst c
  | .loop _ => true
  | _ => false
theorem PW.gh {P : Program} {T : List Rid} {p : Path} : ∀ (c : Code) (Q : Exit → SL → Prop) (s s' : SL), fst c = true → GhL T p s s' → PW P T p c Q s' → PW P T p c Q s := by
  intro c
  induction c with
  | region id ops dr => intro Q s s' _ hg h; exact GhL_region hg h
  | seq x y ihx _ => intro Q s s' hf hg h; exact ihx _ s s' hf hg h
  | block id c ih => intro Q s s' hf hg h; exact ih _ s s' hf hg h
  | loop c _ =>
    intro Q s s' _ hg h
    obtain ⟨I, n, s0, h0, h1⟩ := h
    exact ⟨I, n, s0, GhL.trans hg h0, h1⟩
  | _ => intro Q s s' hf; cases hf
/-- Paths that meet. -/
theorem PI.sj {P : Program} {T : List Rid} {p : Path} {Q : Exit → SL → Prop} {tm : List AV} {L : RL} {n : Nat} {X : Type} {c : Code} (hk : kd c = 1) (hf : fst (s2 c) = true) (V : X → List (Nat × AV)) (Lf : X → RL) (rel : X → Prop)
    (h2 : PI P T p (s1 c) (thnL (fun s' => ∃ x' j', rel x' ∧ GhI T p s' ⟨ovr tm (V x'), Lf x', j' + n⟩) Q) ⟨tm, L, n⟩)
    (h1 : ∀ x j, rel x → PI P T p (s2 c) Q ⟨ovr tm (V x), Lf x, j + n⟩) : PI P T p c Q ⟨tm, L, n⟩ := by
  cases c <;> simp [kd] at hk
  rename_i a b
  refine fun hin => ?_
  show PW P T p a (thnL (PW P T p b _) _) _
  refine PW.mono' a _ _ _ (fun e s' h' => ?_) (h2 hin)
  cases e with
  | normal =>
    obtain ⟨hi, x, j, hr, hg⟩ := h'
    exact PW.gh _ _ _ _ hf (hg hi).1 (h1 x j hr (hg hi).2)
  | _ => exact h'
/-- Facts that a walk's steps may use, kept from other tactics. -/
structure Hid (p : Prop) : Prop where
  out : p
theorem Hid.cons {p q : Prop} (h : Hid q) (x : p) : Hid (p ∧ q) := ⟨⟨x, h.out⟩⟩
end Go.FE
namespace Go.FE
theorem thwA_none {id s z xs} : thwA id s z (.sl xs none) = .sl xs none := by cases xs <;> rfl
theorem thwA_hit {id s z} : thwA id s z (.sl [] (some (id, s))) = .ar id (s + 1) z 0 0 := by simp [thwA]
theorem thwA_miss {id id' : Rid} {s s' z xs} (h : id' ≠ id) : thwA id s z (.sl xs (some (id', s'))) = .sl xs (some (id', s')) := by cases xs <;> simp [thwA, h]
theorem thwA_v {id s z x} : thwA id s z (.v x) = .v x := rfl
theorem thwA_und {id s z} : thwA id s z .und = .und := rfl
theorem thwA_unk {id s z} : thwA id s z .unk = .unk := rfl
theorem thwA_agg {id s z a b} : thwA id s z (.agg a b) = .agg a b := rfl
theorem thwA_mp {id s z a} : thwA id s z (.mp a) = .mp a := rfl
theorem thwA_vp {id s z a b} : thwA id s z (.vp a b) = .vp a b := rfl
theorem under_nil {p : Path} {k : Nat} : Under p (p, k) := ⟨[], rfl⟩
theorem rowLen {α : Type} {n : Nat} {f : α → List AV} (h : ∀ v, (f v).length = n) (l : List α) : (∀ cs : List AV, cs ∈ l.map f → cs.length = n) = True := eq_true fun cs hc => by
  obtain ⟨v, _, rfl⟩ := List.mem_map.1 hc; exact h v
theorem neJ2 {a i j n : Nat} (h : a < n) : (a = i + (j + n)) = False := eq_false (by omega)
theorem neJ2' {a i j n : Nat} (h : a < n) : (i + (j + n) = a) = False := eq_false (by omega)
theorem neJ3 {a i j k n : Nat} (h : a < n) : (a = i + (j + (k + n))) = False := eq_false (by omega)
theorem neJ3' {a i j k n : Nat} (h : a < n) : (i + (j + (k + n)) = a) = False := eq_false (by omega)
end Go.FE
namespace Go.FE
theorem neJ4 {a i j k l n : Nat} (h : a < n) : (a = i + (j + (k + (l + n)))) = False := eq_false (by omega)
theorem neJ4' {a i j k l n : Nat} (h : a < n) : (i + (j + (k + (l + n))) = a) = False := eq_false (by omega)
theorem neJ5 {a i j k l m n : Nat} (h : a < n) : (a = i + (j + (k + (l + (m + n))))) = False := eq_false (by omega)
theorem neJ5' {a i j k l m n : Nat} (h : a < n) : (i + (j + (k + (l + (m + n)))) = a) = False := eq_false (by omega)
theorem neK {i j a b : Nat} (h : a < b) : (i + a = j + (i + b)) = False := eq_false (by omega)
theorem neK' {i j a b : Nat} (h : a < b) : (j + (i + b) = i + a) = False := eq_false (by omega)
theorem neK2 {i j k a b : Nat} (h : a < b) : (i + a = j + (k + (i + b))) = False := eq_false (by omega)
theorem neK2' {i j k a b : Nat} (h : a < b) : (j + (k + (i + b)) = i + a) = False := eq_false (by omega)
theorem neL {i h j a b : Nat} (q : a < b) : (h + (i + a) = j + (h + (i + b))) = False := eq_false (by omega)
theorem neL' {i h j a b : Nat} (q : a < b) : (j + (h + (i + b)) = h + (i + a)) = False := eq_false (by omega)
theorem neL2 {i h j k a b : Nat} (q : a < b) : (h + (i + a) = j + (k + (h + (i + b)))) = False := eq_false (by omega)
theorem neL2' {i h j k a b : Nat} (q : a < b) : (j + (k + (h + (i + b))) = h + (i + a)) = False := eq_false (by omega)
/-- A loop whose facts may speak of the number of what has been done. -/
theorem PI.lj {P : Program} {T : List Rid} {p : Path} {Q : Exit → SL → Prop} {tm : List AV} {L : RL} {n : Nat} {X : Type} {c : Code} (hk : kd c = 4) (V : X → List (Nat × AV)) (Lf : X → RL) (rel : Nat → X → Nat → Prop) (k : Nat) (x : X) (h0 : GhI T p ⟨tm, L, n⟩ ⟨ovr tm (V x), Lf x, 0 + n⟩) (hr : rel k x 0)
    (h : ∀ k x j, rel k x j → PI P T p (bc c) (thnL (fun s' => ∃ m x' j', m < k ∧ rel m x' j' ∧ GhI T p s' ⟨ovr tm (V x'), Lf x', j' + n⟩) Q) ⟨ovr tm (V x), Lf x, j + n⟩) : PI P T p c Q ⟨tm, L, n⟩ := by
  cases c <;> simp [kd] at hk
  rename_i c
  refine fun hin => ?_
  refine ⟨fun k s => InR T p s.rs ∧ ∃ x j, rel k x j ∧ s = ⟨ovr tm (V x), Lf x, j + n⟩, k, _, (h0 hin).1, ⟨(h0 hin).2, x, 0, hr, rfl⟩, fun k s hs => ?_⟩
  obtain ⟨hin', x, j, hr, rfl⟩ := hs
  refine PW.mono' _ _ _ _ (fun e s h => ?_) (h k x j hr hin')
  cases e with
  | normal =>
    obtain ⟨hi, m, x', j', h1, h2, h3⟩ := h
    exact ⟨m, _, h1, (h3 hi).1, (h3 hi).2, x', j', h2, rfl⟩
  | _ => exact h
end Go.FE
namespace Go.FE
theorem PI.sjj {P : Program} {T : List Rid} {p : Path} {Q : Exit → SL → Prop} {tm : List AV} {L : RL} {n : Nat} {X : Type} {c : Code} (hk : kd c = 1) (hf : fst (s2 c) = true) (V : X → List (Nat × AV)) (Lf : X → RL) (rel : X → Nat → Prop)
    (h2 : PI P T p (s1 c) (thnL (fun s' => ∃ x' j', rel x' j' ∧ GhI T p s' ⟨ovr tm (V x'), Lf x', j' + n⟩) Q) ⟨tm, L, n⟩)
    (h1 : ∀ x j, rel x j → PI P T p (s2 c) Q ⟨ovr tm (V x), Lf x, j + n⟩) : PI P T p c Q ⟨tm, L, n⟩ := by
  cases c <;> simp [kd] at hk
  rename_i a b
  refine fun hin => ?_
  show PW P T p a (thnL (PW P T p b _) _) _
  refine PW.mono' a _ _ _ (fun e s' h' => ?_) (h2 hin)
  cases e with
  | normal =>
    obtain ⟨hi, x, j, hr, hg⟩ := h'
    exact PW.gh _ _ _ _ hf (hg hi).1 (h1 x j hr (hg hi).2)
  | _ => exact h'
end Go.FE
namespace Go.FE
theorem frzA_v {id s z k rows x} : frzA id s z k rows (.v x) = .v x := rfl
theorem frzA_und {id s z k rows} : frzA id s z k rows .und = .und := rfl
theorem frzA_unk {id s z k rows} : frzA id s z k rows .unk = .unk := rfl
theorem frzA_sl {id s z k rows xs t} : frzA id s z k rows (.sl xs t) = .sl xs t := rfl
theorem frzA_agg {id s z k rows a b} : frzA id s z k rows (.agg a b) = .agg a b := rfl
theorem frzA_vp {id s z k rows a b} : frzA id s z k rows (.vp a b) = .vp a b := rfl
theorem frzA_mp {id s z k rows a} : frzA id s z k rows (.mp a) = .mp a := rfl
theorem frzA_tup {id s z k rows a} : frzA id s z k rows (.tup a) = .tup a := rfl
theorem frzA_hit {id s z k rows} : frzA id s z k rows (.ar id s z 0 k) = .sl ((rows.take k).map (List.map nrmC)) (some (id, s + 1)) := by simp [frzA]
theorem neL3 {i h j k m a b : Nat} (q : a < b) : (h + (i + a) = j + (k + (m + (h + (i + b))))) = False := eq_false (by omega)
theorem neL3' {i h j k m a b : Nat} (q : a < b) : (j + (k + (m + (h + (i + b)))) = h + (i + a)) = False := eq_false (by omega)
end Go.FE
namespace Go.FE
open Go.Proofs
/-- Slots of which nothing is said. -/
def uk : List Nat → List (Nat × AV)
  | [] => []
  | i :: l => (i, .unk) :: uk l
section
variable {P : Program} {T : List Rid} {p : Path} {dr : Bool} {Qs : List Nat} {Q : Exit → SL → Prop} {tm tm' : List AV} {L L' : RL} {n n' k k' : Nat} {all ops ops' : List Oper} {K : List AV → RL → Prop}
theorem PI.q {c : Code} {s : SL} (h : PI P T p (s1 c) (thnL (PI P T p (s2 c) Q) Q) s) (hk : kd c = 1 := by kernel_rfl) : PI P T p c Q s := PI.sq hk h
theorem PI.b {c : Code} {s : SL} (id : Nat) (h : PI P T p (bc c) (inBlL id Q) s) (hi : bi c = id := by kernel_rfl) (hk : kd c = 3 := by kernel_rfl) : PI P T p c Q s := PI.bk id hi hk h
theorem PI.e {c : Code} {s : SL} (id : Nat) (h : Q (.exit id) s) (hi : bi c = id := by kernel_rfl) (hk : kd c = 5 := by kernel_rfl) : PI P T p c Q s := PI.ex id hi hk h
theorem PI.r {c : Code} {s : SL} (h : Q .ret s) (hk : kd c = 6 := by kernel_rfl) : PI P T p c Q s := PI.re hk h
theorem PI.s {c : Code} {s : SL} (h : Q .normal s) (hk : kd c = 7 := by kernel_rfl) : PI P T p c Q s := PI.sk hk h
theorem PI.t {c : Code} (i : Nat) (h : ev tm (.tmp i) = .v (.bool true)) (ht : PI P T p (c1 c) Q ⟨tm, L, n⟩) (hx : c0 c = .tmp i := by kernel_rfl) (hk : kd c = 2 := by kernel_rfl) : PI P T p c Q ⟨tm, L, n⟩ := PI.ct hx hk h ht
theorem PI.f {c : Code} (i : Nat) (h : ev tm (.tmp i) = .v (.bool false)) (ht : PI P T p (c2 c) Q ⟨tm, L, n⟩) (hx : c0 c = .tmp i := by kernel_rfl) (hk : kd c = 2 := by kernel_rfl) : PI P T p c Q ⟨tm, L, n⟩ := PI.cf hx hk h ht
theorem PI.d {c : Code} (i : Nat) {b : Bool} (h : ev tm (.tmp i) = .v (.bool b)) (ht : b = true → PI P T p (c1 c) Q ⟨tm, L, n⟩) (hf : b = false → PI P T p (c2 c) Q ⟨tm, L, n⟩) (hx : c0 c = .tmp i := by kernel_rfl) (hk : kd c = 2 := by kernel_rfl) : PI P T p c Q ⟨tm, L, n⟩ := PI.cd hx hk h ht hf
theorem PI.u {c : Code} (i : Nat) (h : ev tm (.tmp i) = .bl) (ht : PI P T p (c1 c) Q ⟨tm, L, n⟩) (hf : PI P T p (c2 c) Q ⟨tm, L, n⟩) (hx : c0 c = .tmp i := by kernel_rfl) (hk : kd c = 2 := by kernel_rfl) : PI P T p c Q ⟨tm, L, n⟩ := PI.cu hx hk h ht hf
theorem GoI.z {tm : List AV} {L : RL} (h : goP P p all Qs n k ops tm L = some (k', [], tm', L')) (hk : K tm' L') : GoI P T p all dr Qs n k ops tm L K := GoI.run h (GoI.nil hk)
end
end Go.FE
