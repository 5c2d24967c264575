/-
  NARROWER THAN 'FOR EVERY INPUT', by the rows' own cells (each row's printed sentence says how): SnapshotChecks: loops, laid · SnapshotGroups: laid · SnapshotCounts: laid · SnapshotSets: laid · SnapshotRows: loops, laid · SnapshotAlgebra: loops, laid · SnapshotJoins: loops, laid.
  DERIVED. THE GIVEN ROWS OF THIS SEAT. 7 by the template 'for every input the law returns true; each argument reads behind the call as it read before'; 0 by the template 'total and deterministic' (their statements: YtmblejfjbnoodaaGreatDoorTotals.lean).
  GIVEN WITH THE SEED: the statements are not yours to turn. If you find one false, say at which input.
  Laid BY PROGRAM, IN A SANDBOX (cutbox-rows.mjs): the forced cells as the released guide's own fill.sh prints them over the translation 871c1bd45aa4f654… (all of the seat's roots in one cut). By AI agents, Wed Nov 11 2026. No macro, syntax, notation, axiom, sorry.
-/
import Derived.Test.YtmblejfjbnoodaaGreatDoorChecked
import GoSem.Claim
import GoSem.ClaimJoined
import GoSem.ClaimMapViews
import Derived.JoinedTies
import Derived.KernelRfl
namespace Go.Proofs.YtmblejfjbnoodaaGreatDoor
/- THE CELL 'sum', in the pinned program and in every row, IS THE sha256 OF THE DUMP (.gsa) THAT YtmblejfjbnoodaaGreatDoorProg.lean LOADS. Nothing in Lean hashes anything: it is a label: what it is worth is what the hold of that sum in a sandbox is worth. -/
noncomputable def Tryz.pinned : Pinned := { name := "ytmblejfjbnoodaagreatdoor", sum := "871c1bd45aa4f654413ce17c93ce951f7a9e8630dff89cb45218d2edf637de94", checked := Tryz.checked }
namespace Rows
def none {H : Type} : Left H := { results := [], args := [] }

/- WHAT THE LISTED PACKAGE-LEVEL VARIABLES READ AS WHEN THE CALL BEGINS. Each datum BY PROGRAM (the guide's laid-datum.mjs) off the statement by which the dump's own 'gosem.cut.vars' lays the variable. In a bare row this is a premise. The card (YtmblejfjbnoodaaGreatDoorCards.lean) ties it to the program's text. -/
def laid_math_bits_deBruijn32tab {H : Type} : DataW H := .agg [.lit (.int .u8 0), .lit (.int .u8 1), .lit (.int .u8 28), .lit (.int .u8 2), .lit (.int .u8 29), .lit (.int .u8 14), .lit (.int .u8 24), .lit (.int .u8 3), .lit (.int .u8 30), .lit (.int .u8 22), .lit (.int .u8 20), .lit (.int .u8 15), .lit (.int .u8 25), .lit (.int .u8 17), .lit (.int .u8 4), .lit (.int .u8 8), .lit (.int .u8 31), .lit (.int .u8 27), .lit (.int .u8 13), .lit (.int .u8 23), .lit (.int .u8 21), .lit (.int .u8 19), .lit (.int .u8 16), .lit (.int .u8 7), .lit (.int .u8 26), .lit (.int .u8 12), .lit (.int .u8 18), .lit (.int .u8 6), .lit (.int .u8 11), .lit (.int .u8 5), .lit (.int .u8 10), .lit (.int .u8 9)]
def laid_math_bits_deBruijn64tab {H : Type} : DataW H := .agg [.lit (.int .u8 0), .lit (.int .u8 1), .lit (.int .u8 56), .lit (.int .u8 2), .lit (.int .u8 57), .lit (.int .u8 49), .lit (.int .u8 28), .lit (.int .u8 3), .lit (.int .u8 61), .lit (.int .u8 58), .lit (.int .u8 42), .lit (.int .u8 50), .lit (.int .u8 38), .lit (.int .u8 29), .lit (.int .u8 17), .lit (.int .u8 4), .lit (.int .u8 62), .lit (.int .u8 47), .lit (.int .u8 59), .lit (.int .u8 36), .lit (.int .u8 45), .lit (.int .u8 43), .lit (.int .u8 51), .lit (.int .u8 22), .lit (.int .u8 53), .lit (.int .u8 39), .lit (.int .u8 33), .lit (.int .u8 30), .lit (.int .u8 24), .lit (.int .u8 18), .lit (.int .u8 12), .lit (.int .u8 5), .lit (.int .u8 63), .lit (.int .u8 55), .lit (.int .u8 48), .lit (.int .u8 27), .lit (.int .u8 60), .lit (.int .u8 41), .lit (.int .u8 37), .lit (.int .u8 16), .lit (.int .u8 46), .lit (.int .u8 35), .lit (.int .u8 44), .lit (.int .u8 21), .lit (.int .u8 52), .lit (.int .u8 32), .lit (.int .u8 23), .lit (.int .u8 11), .lit (.int .u8 54), .lit (.int .u8 26), .lit (.int .u8 40), .lit (.int .u8 15), .lit (.int .u8 34), .lit (.int .u8 20), .lit (.int .u8 31), .lit (.int .u8 10), .lit (.int .u8 25), .lit (.int .u8 14), .lit (.int .u8 19), .lit (.int .u8 9), .lit (.int .u8 13), .lit (.int .u8 8), .lit (.int .u8 7), .lit (.int .u8 6)]
def laid_internal_strconv_uint64pow10 {H : Type} : DataW H := .agg [.lit (.int .u64 1), .lit (.int .u64 10), .lit (.int .u64 100), .lit (.int .u64 1000), .lit (.int .u64 10000), .lit (.int .u64 100000), .lit (.int .u64 1000000), .lit (.int .u64 10000000), .lit (.int .u64 100000000), .lit (.int .u64 1000000000), .lit (.int .u64 10000000000), .lit (.int .u64 100000000000), .lit (.int .u64 1000000000000), .lit (.int .u64 10000000000000), .lit (.int .u64 100000000000000), .lit (.int .u64 1000000000000000), .lit (.int .u64 10000000000000000), .lit (.int .u64 100000000000000000), .lit (.int .u64 1000000000000000000), .lit (.int .u64 10000000000000000000)]

/-- 'bitemporallaw21.SnapshotChecks': WHATEVER THE INPUT: true; the input reads as it did. -/
def snapshotChecksSpec : ChangeSpec := { name := "snapshotChecks", fn := fun _ => fun
  | [d1, d2] => { results := [.lit (.bool true)], args := [d1, d2] }
  | _ => none }
def snapshotChecksRow : OpenClaim := { program := "ytmblejfjbnoodaagreatdoor", sum := "871c1bd45aa4f654413ce17c93ce951f7a9e8630dff89cb45218d2edf637de94", func := "bitemporal/bitemporallaw21.SnapshotChecks", spec := "snapshotChecks", inPlace := ["internal/abi.NoEscape", "internal/bytealg.abigen_runtime_cmpstring"], unfollowed := true, recurses := true, named := ["internal/strconv.uint64pow10", "math/bits.deBruijn32tab", "math/bits.deBruijn64tab"], loops := true, apart := false, laid := [("math/bits.deBruijn32tab", laid_math_bits_deBruijn32tab), ("math/bits.deBruijn64tab", laid_math_bits_deBruijn64tab), ("internal/strconv.uint64pow10", laid_internal_strconv_uint64pow10)] }
def SnapshotChecksSaid : Prop := snapshotChecksRow.holds Tryz.pinned (OpenSpec.ofChange snapshotChecksSpec)

/-- ITS FALSE NEIGHBOUR: 'it returns false'. Refute it at one input. -/
def snapshotChecksWrong : ChangeSpec := { name := "snapshotChecks", fn := fun _ => fun
  | [d1, d2] => { results := [.lit (.bool false)], args := [d1, d2] }
  | _ => none }
def SnapshotChecksWrongFalsely : Prop := snapshotChecksRow.holds Tryz.pinned (OpenSpec.ofChange snapshotChecksWrong)

/-- 'bitemporallaw21.SnapshotGroups': WHATEVER THE INPUT: true; the input reads as it did. -/
def snapshotGroupsSpec : ChangeSpec := { name := "snapshotGroups", fn := fun _ => fun
  | [d1, d2, d3] => { results := [.lit (.bool true)], args := [d1, d2, d3] }
  | _ => none }
def snapshotGroupsRow : OpenClaim := { program := "ytmblejfjbnoodaagreatdoor", sum := "871c1bd45aa4f654413ce17c93ce951f7a9e8630dff89cb45218d2edf637de94", func := "bitemporal/bitemporallaw21.SnapshotGroups", spec := "snapshotGroups", inPlace := ["internal/abi.NoEscape", "internal/bytealg.abigen_runtime_cmpstring"], unfollowed := true, recurses := true, named := ["internal/strconv.uint64pow10", "math/bits.deBruijn32tab", "math/bits.deBruijn64tab"], apart := false, laid := [("math/bits.deBruijn32tab", laid_math_bits_deBruijn32tab), ("math/bits.deBruijn64tab", laid_math_bits_deBruijn64tab), ("internal/strconv.uint64pow10", laid_internal_strconv_uint64pow10)] }
def SnapshotGroupsSaid : Prop := snapshotGroupsRow.holds Tryz.pinned (OpenSpec.ofChange snapshotGroupsSpec)

/-- ITS FALSE NEIGHBOUR: 'it returns false'. Refute it at one input. -/
def snapshotGroupsWrong : ChangeSpec := { name := "snapshotGroups", fn := fun _ => fun
  | [d1, d2, d3] => { results := [.lit (.bool false)], args := [d1, d2, d3] }
  | _ => none }
def SnapshotGroupsWrongFalsely : Prop := snapshotGroupsRow.holds Tryz.pinned (OpenSpec.ofChange snapshotGroupsWrong)

/-- 'bitemporallaw21.SnapshotCounts': WHATEVER THE INPUT: true; the input reads as it did. -/
def snapshotCountsSpec : ChangeSpec := { name := "snapshotCounts", fn := fun _ => fun
  | [d1, d2] => { results := [.lit (.bool true)], args := [d1, d2] }
  | _ => none }
def snapshotCountsRow : OpenClaim := { program := "ytmblejfjbnoodaagreatdoor", sum := "871c1bd45aa4f654413ce17c93ce951f7a9e8630dff89cb45218d2edf637de94", func := "bitemporal/bitemporallaw21.SnapshotCounts", spec := "snapshotCounts", inPlace := ["internal/abi.NoEscape", "internal/bytealg.abigen_runtime_cmpstring"], unfollowed := true, recurses := true, named := ["internal/strconv.uint64pow10", "math/bits.deBruijn32tab", "math/bits.deBruijn64tab"], apart := false, laid := [("math/bits.deBruijn32tab", laid_math_bits_deBruijn32tab), ("math/bits.deBruijn64tab", laid_math_bits_deBruijn64tab), ("internal/strconv.uint64pow10", laid_internal_strconv_uint64pow10)] }
def SnapshotCountsSaid : Prop := snapshotCountsRow.holds Tryz.pinned (OpenSpec.ofChange snapshotCountsSpec)

/-- ITS FALSE NEIGHBOUR: 'it returns false'. Refute it at one input. -/
def snapshotCountsWrong : ChangeSpec := { name := "snapshotCounts", fn := fun _ => fun
  | [d1, d2] => { results := [.lit (.bool false)], args := [d1, d2] }
  | _ => none }
def SnapshotCountsWrongFalsely : Prop := snapshotCountsRow.holds Tryz.pinned (OpenSpec.ofChange snapshotCountsWrong)

/-- 'bitemporallaw21.SnapshotSets': WHATEVER THE INPUT: true; the input reads as it did. -/
def snapshotSetsSpec : ChangeSpec := { name := "snapshotSets", fn := fun _ => fun
  | [d1, d2] => { results := [.lit (.bool true)], args := [d1, d2] }
  | _ => none }
def snapshotSetsRow : OpenClaim := { program := "ytmblejfjbnoodaagreatdoor", sum := "871c1bd45aa4f654413ce17c93ce951f7a9e8630dff89cb45218d2edf637de94", func := "bitemporal/bitemporallaw21.SnapshotSets", spec := "snapshotSets", inPlace := ["internal/abi.NoEscape", "internal/bytealg.abigen_runtime_cmpstring"], unfollowed := true, recurses := true, named := ["internal/strconv.uint64pow10", "math/bits.deBruijn32tab", "math/bits.deBruijn64tab"], apart := false, laid := [("math/bits.deBruijn32tab", laid_math_bits_deBruijn32tab), ("math/bits.deBruijn64tab", laid_math_bits_deBruijn64tab), ("internal/strconv.uint64pow10", laid_internal_strconv_uint64pow10)] }
def SnapshotSetsSaid : Prop := snapshotSetsRow.holds Tryz.pinned (OpenSpec.ofChange snapshotSetsSpec)

/-- ITS FALSE NEIGHBOUR: 'it returns false'. Refute it at one input. -/
def snapshotSetsWrong : ChangeSpec := { name := "snapshotSets", fn := fun _ => fun
  | [d1, d2] => { results := [.lit (.bool false)], args := [d1, d2] }
  | _ => none }
def SnapshotSetsWrongFalsely : Prop := snapshotSetsRow.holds Tryz.pinned (OpenSpec.ofChange snapshotSetsWrong)

/-- 'bitemporallaw21.SnapshotRows': WHATEVER THE INPUT: true; the input reads as it did. -/
def snapshotRowsSpec : ChangeSpec := { name := "snapshotRows", fn := fun _ => fun
  | [d1, d2, d3] => { results := [.lit (.bool true)], args := [d1, d2, d3] }
  | _ => none }
def snapshotRowsRow : OpenClaim := { program := "ytmblejfjbnoodaagreatdoor", sum := "871c1bd45aa4f654413ce17c93ce951f7a9e8630dff89cb45218d2edf637de94", func := "bitemporal/bitemporallaw21.SnapshotRows", spec := "snapshotRows", inPlace := ["internal/abi.NoEscape", "internal/bytealg.abigen_runtime_cmpstring"], unfollowed := true, recurses := true, named := ["internal/strconv.uint64pow10", "math/bits.deBruijn32tab", "math/bits.deBruijn64tab"], loops := true, apart := false, laid := [("math/bits.deBruijn32tab", laid_math_bits_deBruijn32tab), ("math/bits.deBruijn64tab", laid_math_bits_deBruijn64tab), ("internal/strconv.uint64pow10", laid_internal_strconv_uint64pow10)] }
def SnapshotRowsSaid : Prop := snapshotRowsRow.holds Tryz.pinned (OpenSpec.ofChange snapshotRowsSpec)

/-- ITS FALSE NEIGHBOUR: 'it returns false'. Refute it at one input. -/
def snapshotRowsWrong : ChangeSpec := { name := "snapshotRows", fn := fun _ => fun
  | [d1, d2, d3] => { results := [.lit (.bool false)], args := [d1, d2, d3] }
  | _ => none }
def SnapshotRowsWrongFalsely : Prop := snapshotRowsRow.holds Tryz.pinned (OpenSpec.ofChange snapshotRowsWrong)

/-- 'bitemporallaw21.SnapshotAlgebra': WHATEVER THE INPUT: true; the input reads as it did. -/
def snapshotAlgebraSpec : ChangeSpec := { name := "snapshotAlgebra", fn := fun _ => fun
  | [d1, d2, d3] => { results := [.lit (.bool true)], args := [d1, d2, d3] }
  | _ => none }
def snapshotAlgebraRow : OpenClaim := { program := "ytmblejfjbnoodaagreatdoor", sum := "871c1bd45aa4f654413ce17c93ce951f7a9e8630dff89cb45218d2edf637de94", func := "bitemporal/bitemporallaw21.SnapshotAlgebra", spec := "snapshotAlgebra", inPlace := ["internal/abi.NoEscape", "internal/bytealg.abigen_runtime_cmpstring"], unfollowed := true, recurses := true, named := ["internal/strconv.uint64pow10", "math/bits.deBruijn32tab", "math/bits.deBruijn64tab"], loops := true, apart := false, laid := [("math/bits.deBruijn32tab", laid_math_bits_deBruijn32tab), ("math/bits.deBruijn64tab", laid_math_bits_deBruijn64tab), ("internal/strconv.uint64pow10", laid_internal_strconv_uint64pow10)] }
def SnapshotAlgebraSaid : Prop := snapshotAlgebraRow.holds Tryz.pinned (OpenSpec.ofChange snapshotAlgebraSpec)

/-- ITS FALSE NEIGHBOUR: 'it returns false'. Refute it at one input. -/
def snapshotAlgebraWrong : ChangeSpec := { name := "snapshotAlgebra", fn := fun _ => fun
  | [d1, d2, d3] => { results := [.lit (.bool false)], args := [d1, d2, d3] }
  | _ => none }
def SnapshotAlgebraWrongFalsely : Prop := snapshotAlgebraRow.holds Tryz.pinned (OpenSpec.ofChange snapshotAlgebraWrong)

/-- 'bitemporallaw21.SnapshotJoins': WHATEVER THE INPUT: true; the input reads as it did. -/
def snapshotJoinsSpec : ChangeSpec := { name := "snapshotJoins", fn := fun _ => fun
  | [d1, d2, d3] => { results := [.lit (.bool true)], args := [d1, d2, d3] }
  | _ => none }
def snapshotJoinsRow : OpenClaim := { program := "ytmblejfjbnoodaagreatdoor", sum := "871c1bd45aa4f654413ce17c93ce951f7a9e8630dff89cb45218d2edf637de94", func := "bitemporal/bitemporallaw21.SnapshotJoins", spec := "snapshotJoins", inPlace := ["internal/abi.NoEscape", "internal/bytealg.abigen_runtime_cmpstring"], unfollowed := true, recurses := true, named := ["internal/strconv.uint64pow10", "math/bits.deBruijn32tab", "math/bits.deBruijn64tab"], loops := true, apart := false, laid := [("math/bits.deBruijn32tab", laid_math_bits_deBruijn32tab), ("math/bits.deBruijn64tab", laid_math_bits_deBruijn64tab), ("internal/strconv.uint64pow10", laid_internal_strconv_uint64pow10)] }
def SnapshotJoinsSaid : Prop := snapshotJoinsRow.holds Tryz.pinned (OpenSpec.ofChange snapshotJoinsSpec)

/-- ITS FALSE NEIGHBOUR: 'it returns false'. Refute it at one input. -/
def snapshotJoinsWrong : ChangeSpec := { name := "snapshotJoins", fn := fun _ => fun
  | [d1, d2, d3] => { results := [.lit (.bool false)], args := [d1, d2, d3] }
  | _ => none }
def SnapshotJoinsWrongFalsely : Prop := snapshotJoinsRow.holds Tryz.pinned (OpenSpec.ofChange snapshotJoinsWrong)

/- THE SECOND FORM. 'bulk': how many values and letters a reading holds, each counted each time it is reached (what is shared counts as often as it is met; a slice's spare places count too). A statement '..UptoSaid' is the law's where the arguments, and the package variables that the reading takes, are together of bulk at most 1048576: NARROWER than '..Said'. Prove '..Said' where nothing that the law and all that it calls make is longer than what came in: it says more and counts as full. Else prove '..UptoSaid'. A law counts once. -/
mutual
def uptoBulk {H : Type} : DataW H → Nat
  | .lit (.string bytes) => bytes.length + 1
  | .lit _ => 1
  | .nil => 1
  | .ptr d => uptoBulk d + 1
  | .slice elems spare => uptoBulkAll elems + uptoBulkAll spare + 1
  | .agg parts => uptoBulkAll parts + 1
  | .iface _ d => uptoBulk d + 1
  | .map entries => uptoBulkEntries entries + 1
  | .held _ => 1
def uptoBulkAll {H : Type} : List (DataW H) → Nat
  | [] => 0
  | d :: r => uptoBulk d + uptoBulkAll r
def uptoBulkEntries {H : Type} : List (Lit × DataW H) → Nat
  | [] => 0
  | x :: r => uptoBulkEntry x + uptoBulkEntries r
def uptoBulkEntry {H : Type} : Lit × DataW H → Nat
  | (.string bytes, d) => bytes.length + uptoBulk d + 1
  | (_, d) => uptoBulk d + 1
 end
def uptoSmall : (H : Type) → List (DataW H) → Bool := fun _ ds => decide (uptoBulkAll ds ≤ 1048576)
def OpenSpec.upto (s : _root_.Go.ChangeSpec) : _root_.Go.OpenSpec := { _root_.Go.OpenSpec.ofChange s with cond := some uptoSmall }

/-- 'bitemporallaw21.SnapshotChecks', WHERE WHAT IT READS IS OF BULK AT MOST 1048576: true; the input reads as it did. -/
def snapshotChecksUptoRow : OpenClaim := { program := "ytmblejfjbnoodaagreatdoor", sum := "871c1bd45aa4f654413ce17c93ce951f7a9e8630dff89cb45218d2edf637de94", func := "bitemporal/bitemporallaw21.SnapshotChecks", spec := "snapshotChecks", inPlace := ["internal/abi.NoEscape", "internal/bytealg.abigen_runtime_cmpstring"], unfollowed := true, recurses := true, named := ["internal/strconv.uint64pow10", "math/bits.deBruijn32tab", "math/bits.deBruijn64tab"], loops := true, apart := false, laid := [("math/bits.deBruijn32tab", laid_math_bits_deBruijn32tab), ("math/bits.deBruijn64tab", laid_math_bits_deBruijn64tab), ("internal/strconv.uint64pow10", laid_internal_strconv_uint64pow10)], narrowed := true }
def SnapshotChecksUptoSaid : Prop := snapshotChecksUptoRow.holds Tryz.pinned (OpenSpec.upto snapshotChecksSpec)

/-- 'bitemporallaw21.SnapshotGroups', WHERE WHAT IT READS IS OF BULK AT MOST 1048576: true; the input reads as it did. -/
def snapshotGroupsUptoRow : OpenClaim := { program := "ytmblejfjbnoodaagreatdoor", sum := "871c1bd45aa4f654413ce17c93ce951f7a9e8630dff89cb45218d2edf637de94", func := "bitemporal/bitemporallaw21.SnapshotGroups", spec := "snapshotGroups", inPlace := ["internal/abi.NoEscape", "internal/bytealg.abigen_runtime_cmpstring"], unfollowed := true, recurses := true, named := ["internal/strconv.uint64pow10", "math/bits.deBruijn32tab", "math/bits.deBruijn64tab"], apart := false, laid := [("math/bits.deBruijn32tab", laid_math_bits_deBruijn32tab), ("math/bits.deBruijn64tab", laid_math_bits_deBruijn64tab), ("internal/strconv.uint64pow10", laid_internal_strconv_uint64pow10)], narrowed := true }
def SnapshotGroupsUptoSaid : Prop := snapshotGroupsUptoRow.holds Tryz.pinned (OpenSpec.upto snapshotGroupsSpec)

/-- 'bitemporallaw21.SnapshotCounts', WHERE WHAT IT READS IS OF BULK AT MOST 1048576: true; the input reads as it did. -/
def snapshotCountsUptoRow : OpenClaim := { program := "ytmblejfjbnoodaagreatdoor", sum := "871c1bd45aa4f654413ce17c93ce951f7a9e8630dff89cb45218d2edf637de94", func := "bitemporal/bitemporallaw21.SnapshotCounts", spec := "snapshotCounts", inPlace := ["internal/abi.NoEscape", "internal/bytealg.abigen_runtime_cmpstring"], unfollowed := true, recurses := true, named := ["internal/strconv.uint64pow10", "math/bits.deBruijn32tab", "math/bits.deBruijn64tab"], apart := false, laid := [("math/bits.deBruijn32tab", laid_math_bits_deBruijn32tab), ("math/bits.deBruijn64tab", laid_math_bits_deBruijn64tab), ("internal/strconv.uint64pow10", laid_internal_strconv_uint64pow10)], narrowed := true }
def SnapshotCountsUptoSaid : Prop := snapshotCountsUptoRow.holds Tryz.pinned (OpenSpec.upto snapshotCountsSpec)

/-- 'bitemporallaw21.SnapshotSets', WHERE WHAT IT READS IS OF BULK AT MOST 1048576: true; the input reads as it did. -/
def snapshotSetsUptoRow : OpenClaim := { program := "ytmblejfjbnoodaagreatdoor", sum := "871c1bd45aa4f654413ce17c93ce951f7a9e8630dff89cb45218d2edf637de94", func := "bitemporal/bitemporallaw21.SnapshotSets", spec := "snapshotSets", inPlace := ["internal/abi.NoEscape", "internal/bytealg.abigen_runtime_cmpstring"], unfollowed := true, recurses := true, named := ["internal/strconv.uint64pow10", "math/bits.deBruijn32tab", "math/bits.deBruijn64tab"], apart := false, laid := [("math/bits.deBruijn32tab", laid_math_bits_deBruijn32tab), ("math/bits.deBruijn64tab", laid_math_bits_deBruijn64tab), ("internal/strconv.uint64pow10", laid_internal_strconv_uint64pow10)], narrowed := true }
def SnapshotSetsUptoSaid : Prop := snapshotSetsUptoRow.holds Tryz.pinned (OpenSpec.upto snapshotSetsSpec)

/-- 'bitemporallaw21.SnapshotRows', WHERE WHAT IT READS IS OF BULK AT MOST 1048576: true; the input reads as it did. -/
def snapshotRowsUptoRow : OpenClaim := { program := "ytmblejfjbnoodaagreatdoor", sum := "871c1bd45aa4f654413ce17c93ce951f7a9e8630dff89cb45218d2edf637de94", func := "bitemporal/bitemporallaw21.SnapshotRows", spec := "snapshotRows", inPlace := ["internal/abi.NoEscape", "internal/bytealg.abigen_runtime_cmpstring"], unfollowed := true, recurses := true, named := ["internal/strconv.uint64pow10", "math/bits.deBruijn32tab", "math/bits.deBruijn64tab"], loops := true, apart := false, laid := [("math/bits.deBruijn32tab", laid_math_bits_deBruijn32tab), ("math/bits.deBruijn64tab", laid_math_bits_deBruijn64tab), ("internal/strconv.uint64pow10", laid_internal_strconv_uint64pow10)], narrowed := true }
def SnapshotRowsUptoSaid : Prop := snapshotRowsUptoRow.holds Tryz.pinned (OpenSpec.upto snapshotRowsSpec)

/-- 'bitemporallaw21.SnapshotAlgebra', WHERE WHAT IT READS IS OF BULK AT MOST 1048576: true; the input reads as it did. -/
def snapshotAlgebraUptoRow : OpenClaim := { program := "ytmblejfjbnoodaagreatdoor", sum := "871c1bd45aa4f654413ce17c93ce951f7a9e8630dff89cb45218d2edf637de94", func := "bitemporal/bitemporallaw21.SnapshotAlgebra", spec := "snapshotAlgebra", inPlace := ["internal/abi.NoEscape", "internal/bytealg.abigen_runtime_cmpstring"], unfollowed := true, recurses := true, named := ["internal/strconv.uint64pow10", "math/bits.deBruijn32tab", "math/bits.deBruijn64tab"], loops := true, apart := false, laid := [("math/bits.deBruijn32tab", laid_math_bits_deBruijn32tab), ("math/bits.deBruijn64tab", laid_math_bits_deBruijn64tab), ("internal/strconv.uint64pow10", laid_internal_strconv_uint64pow10)], narrowed := true }
def SnapshotAlgebraUptoSaid : Prop := snapshotAlgebraUptoRow.holds Tryz.pinned (OpenSpec.upto snapshotAlgebraSpec)

/-- 'bitemporallaw21.SnapshotJoins', WHERE WHAT IT READS IS OF BULK AT MOST 1048576: true; the input reads as it did. -/
def snapshotJoinsUptoRow : OpenClaim := { program := "ytmblejfjbnoodaagreatdoor", sum := "871c1bd45aa4f654413ce17c93ce951f7a9e8630dff89cb45218d2edf637de94", func := "bitemporal/bitemporallaw21.SnapshotJoins", spec := "snapshotJoins", inPlace := ["internal/abi.NoEscape", "internal/bytealg.abigen_runtime_cmpstring"], unfollowed := true, recurses := true, named := ["internal/strconv.uint64pow10", "math/bits.deBruijn32tab", "math/bits.deBruijn64tab"], loops := true, apart := false, laid := [("math/bits.deBruijn32tab", laid_math_bits_deBruijn32tab), ("math/bits.deBruijn64tab", laid_math_bits_deBruijn64tab), ("internal/strconv.uint64pow10", laid_internal_strconv_uint64pow10)], narrowed := true }
def SnapshotJoinsUptoSaid : Prop := snapshotJoinsUptoRow.holds Tryz.pinned (OpenSpec.upto snapshotJoinsSpec)

end Rows
end Go.Proofs.YtmblejfjbnoodaaGreatDoor
