/-
  NARROWER THAN 'FOR EVERY INPUT', by the rows' own cells (each row's printed sentence says how): SchedTurns: laid · ActionParses: laid · ActionNames: laid · ActionSame: loops, laid · ActionCut: laid · ActionJoins: loops, laid · ActionPrints: loops, laid · SchedFlows: laid · ActionBack: laid.
  DERIVED. THE GIVEN ROWS OF THIS SEAT. 9 by the template 'for every input the law returns true; each argument reads behind the call as it read before'; 0 by the template 'total and deterministic' (their statements: YtgdkekdedgkglaaDoorTotals.lean).
  GIVEN WITH THE SEED: the statements are not yours to turn. If you find one false, say at which input.
  Laid BY PROGRAM, IN A SANDBOX (cutbox-rows.mjs): the forced cells as the released guide's own fill.sh prints them over the translation 0913ca954f57309f… (all of the seat's roots in one cut). By AI agents, Wed Nov 11 2026. No macro, syntax, notation, axiom, sorry.
-/
import Derived.Test.YtgdkekdedgkglaaDoorChecked
import GoSem.Claim
import GoSem.ClaimJoined
import GoSem.ClaimMapViews
import Derived.JoinedTies
import Derived.KernelRfl
namespace Go.Proofs.YtgdkekdedgkglaaDoor
/- THE CELL 'sum', in the pinned program and in every row, IS THE sha256 OF THE DUMP (.gsa) THAT YtgdkekdedgkglaaDoorProg.lean LOADS. Nothing in Lean hashes anything: it is a label: what it is worth is what the hold of that sum in a sandbox is worth. -/
noncomputable def Tryd.pinned : Pinned := { name := "ytgdkekdedgkglaadoor", sum := "0913ca954f57309fef3d10add4d54640453d30adc96b74e48d9835e0fcaf2626", checked := Tryd.checked }
namespace Rows
def none {H : Type} : Left H := { results := [], args := [] }

/- WHAT THE LISTED PACKAGE-LEVEL VARIABLES READ AS WHEN THE CALL BEGINS. Each datum BY PROGRAM (the guide's laid-datum.mjs) off the statement by which the dump's own 'gosem.cut.vars' lays the variable. In a bare row this is a premise. The card (YtgdkekdedgkglaaDoorCards.lean) ties it to the program's text. -/
def laid_math_bits_deBruijn32tab {H : Type} : DataW H := .agg [.lit (.int .u8 0), .lit (.int .u8 1), .lit (.int .u8 28), .lit (.int .u8 2), .lit (.int .u8 29), .lit (.int .u8 14), .lit (.int .u8 24), .lit (.int .u8 3), .lit (.int .u8 30), .lit (.int .u8 22), .lit (.int .u8 20), .lit (.int .u8 15), .lit (.int .u8 25), .lit (.int .u8 17), .lit (.int .u8 4), .lit (.int .u8 8), .lit (.int .u8 31), .lit (.int .u8 27), .lit (.int .u8 13), .lit (.int .u8 23), .lit (.int .u8 21), .lit (.int .u8 19), .lit (.int .u8 16), .lit (.int .u8 7), .lit (.int .u8 26), .lit (.int .u8 12), .lit (.int .u8 18), .lit (.int .u8 6), .lit (.int .u8 11), .lit (.int .u8 5), .lit (.int .u8 10), .lit (.int .u8 9)]
def laid_math_bits_deBruijn64tab {H : Type} : DataW H := .agg [.lit (.int .u8 0), .lit (.int .u8 1), .lit (.int .u8 56), .lit (.int .u8 2), .lit (.int .u8 57), .lit (.int .u8 49), .lit (.int .u8 28), .lit (.int .u8 3), .lit (.int .u8 61), .lit (.int .u8 58), .lit (.int .u8 42), .lit (.int .u8 50), .lit (.int .u8 38), .lit (.int .u8 29), .lit (.int .u8 17), .lit (.int .u8 4), .lit (.int .u8 62), .lit (.int .u8 47), .lit (.int .u8 59), .lit (.int .u8 36), .lit (.int .u8 45), .lit (.int .u8 43), .lit (.int .u8 51), .lit (.int .u8 22), .lit (.int .u8 53), .lit (.int .u8 39), .lit (.int .u8 33), .lit (.int .u8 30), .lit (.int .u8 24), .lit (.int .u8 18), .lit (.int .u8 12), .lit (.int .u8 5), .lit (.int .u8 63), .lit (.int .u8 55), .lit (.int .u8 48), .lit (.int .u8 27), .lit (.int .u8 60), .lit (.int .u8 41), .lit (.int .u8 37), .lit (.int .u8 16), .lit (.int .u8 46), .lit (.int .u8 35), .lit (.int .u8 44), .lit (.int .u8 21), .lit (.int .u8 52), .lit (.int .u8 32), .lit (.int .u8 23), .lit (.int .u8 11), .lit (.int .u8 54), .lit (.int .u8 26), .lit (.int .u8 40), .lit (.int .u8 15), .lit (.int .u8 34), .lit (.int .u8 20), .lit (.int .u8 31), .lit (.int .u8 10), .lit (.int .u8 25), .lit (.int .u8 14), .lit (.int .u8 19), .lit (.int .u8 9), .lit (.int .u8 13), .lit (.int .u8 8), .lit (.int .u8 7), .lit (.int .u8 6)]
def laid_internal_strconv_uint64pow10 {H : Type} : DataW H := .agg [.lit (.int .u64 1), .lit (.int .u64 10), .lit (.int .u64 100), .lit (.int .u64 1000), .lit (.int .u64 10000), .lit (.int .u64 100000), .lit (.int .u64 1000000), .lit (.int .u64 10000000), .lit (.int .u64 100000000), .lit (.int .u64 1000000000), .lit (.int .u64 10000000000), .lit (.int .u64 100000000000), .lit (.int .u64 1000000000000), .lit (.int .u64 10000000000000), .lit (.int .u64 100000000000000), .lit (.int .u64 1000000000000000), .lit (.int .u64 10000000000000000), .lit (.int .u64 100000000000000000), .lit (.int .u64 1000000000000000000), .lit (.int .u64 10000000000000000000)]
def laid_strconv_ErrRange {H : Type} : DataW H := .iface "*errors.errorString" (.ptr (.agg [.lit (.string [118, 97, 108, 117, 101, 32, 111, 117, 116, 32, 111, 102, 32, 114, 97, 110, 103, 101])]))
def laid_strconv_ErrSyntax {H : Type} : DataW H := .iface "*errors.errorString" (.ptr (.agg [.lit (.string [105, 110, 118, 97, 108, 105, 100, 32, 115, 121, 110, 116, 97, 120])]))

/-- 'brickyardlaw20.SchedTurns': WHATEVER THE INPUT: true; the input reads as it did. -/
def schedTurnsSpec : ChangeSpec := { name := "schedTurns", fn := fun _ => fun
  | [d1, d2, d3] => { results := [.lit (.bool true)], args := [d1, d2, d3] }
  | _ => none }
def schedTurnsRow : OpenClaim := { program := "ytgdkekdedgkglaadoor", sum := "0913ca954f57309fef3d10add4d54640453d30adc96b74e48d9835e0fcaf2626", func := "brickyard/brickyardlaw20.SchedTurns", spec := "schedTurns", unfollowed := true, recurses := true, named := ["internal/strconv.uint64pow10", "math/bits.deBruijn32tab", "math/bits.deBruijn64tab"], apart := false, laid := [("math/bits.deBruijn32tab", laid_math_bits_deBruijn32tab), ("math/bits.deBruijn64tab", laid_math_bits_deBruijn64tab), ("internal/strconv.uint64pow10", laid_internal_strconv_uint64pow10)] }
def SchedTurnsSaid : Prop := schedTurnsRow.holds Tryd.pinned (OpenSpec.ofChange schedTurnsSpec)

/-- ITS FALSE NEIGHBOUR: 'it returns false'. Refute it at one input. -/
def schedTurnsWrong : ChangeSpec := { name := "schedTurns", fn := fun _ => fun
  | [d1, d2, d3] => { results := [.lit (.bool false)], args := [d1, d2, d3] }
  | _ => none }
def SchedTurnsWrongFalsely : Prop := schedTurnsRow.holds Tryd.pinned (OpenSpec.ofChange schedTurnsWrong)

/-- 'brickyardlaw13.ActionParses': WHATEVER THE INPUT: true; the input reads as it did. -/
def actionParsesSpec : ChangeSpec := { name := "actionParses", fn := fun _ => fun
  | [d] => { results := [.lit (.bool true)], args := [d] }
  | _ => none }
def actionParsesRow : OpenClaim := { program := "ytgdkekdedgkglaadoor", sum := "0913ca954f57309fef3d10add4d54640453d30adc96b74e48d9835e0fcaf2626", func := "brickyard/brickyardlaw13.ActionParses", spec := "actionParses", unfollowed := true, recurses := true, named := ["strconv.ErrSyntax", "strconv.ErrRange", "internal/strconv.uint64pow10", "math/bits.deBruijn32tab", "math/bits.deBruijn64tab"], apart := false, laid := [("math/bits.deBruijn32tab", laid_math_bits_deBruijn32tab), ("math/bits.deBruijn64tab", laid_math_bits_deBruijn64tab), ("internal/strconv.uint64pow10", laid_internal_strconv_uint64pow10), ("strconv.ErrRange", laid_strconv_ErrRange), ("strconv.ErrSyntax", laid_strconv_ErrSyntax)] }
def ActionParsesSaid : Prop := actionParsesRow.holds Tryd.pinned (OpenSpec.ofChange actionParsesSpec)

/-- ITS FALSE NEIGHBOUR: 'it returns false'. Refute it at one input. -/
def actionParsesWrong : ChangeSpec := { name := "actionParses", fn := fun _ => fun
  | [d] => { results := [.lit (.bool false)], args := [d] }
  | _ => none }
def ActionParsesWrongFalsely : Prop := actionParsesRow.holds Tryd.pinned (OpenSpec.ofChange actionParsesWrong)

/-- 'brickyardlaw13.ActionNames': WHATEVER THE INPUT: true; the input reads as it did. -/
def actionNamesSpec : ChangeSpec := { name := "actionNames", fn := fun _ => fun
  | [] => { results := [.lit (.bool true)], args := [] }
  | _ => none }
def actionNamesRow : OpenClaim := { program := "ytgdkekdedgkglaadoor", sum := "0913ca954f57309fef3d10add4d54640453d30adc96b74e48d9835e0fcaf2626", func := "brickyard/brickyardlaw13.ActionNames", spec := "actionNames", unfollowed := true, recurses := true, named := ["strconv.ErrSyntax", "strconv.ErrRange", "internal/strconv.uint64pow10", "math/bits.deBruijn32tab", "math/bits.deBruijn64tab"], apart := false, laid := [("math/bits.deBruijn32tab", laid_math_bits_deBruijn32tab), ("math/bits.deBruijn64tab", laid_math_bits_deBruijn64tab), ("internal/strconv.uint64pow10", laid_internal_strconv_uint64pow10), ("strconv.ErrRange", laid_strconv_ErrRange), ("strconv.ErrSyntax", laid_strconv_ErrSyntax)] }
def ActionNamesSaid : Prop := actionNamesRow.holds Tryd.pinned (OpenSpec.ofChange actionNamesSpec)

/-- ITS FALSE NEIGHBOUR: 'it returns false'. Refute it at one input. -/
def actionNamesWrong : ChangeSpec := { name := "actionNames", fn := fun _ => fun
  | [] => { results := [.lit (.bool false)], args := [] }
  | _ => none }
def ActionNamesWrongFalsely : Prop := actionNamesRow.holds Tryd.pinned (OpenSpec.ofChange actionNamesWrong)

/-- 'brickyardlaw13.ActionSame': WHATEVER THE INPUT: true; the input reads as it did. -/
def actionSameSpec : ChangeSpec := { name := "actionSame", fn := fun _ => fun
  | [d1, d2] => { results := [.lit (.bool true)], args := [d1, d2] }
  | _ => none }
def actionSameRow : OpenClaim := { program := "ytgdkekdedgkglaadoor", sum := "0913ca954f57309fef3d10add4d54640453d30adc96b74e48d9835e0fcaf2626", func := "brickyard/brickyardlaw13.ActionSame", spec := "actionSame", unfollowed := true, recurses := true, named := ["strconv.ErrSyntax", "strconv.ErrRange", "internal/strconv.uint64pow10", "math/bits.deBruijn32tab", "math/bits.deBruijn64tab"], loops := true, apart := false, laid := [("math/bits.deBruijn32tab", laid_math_bits_deBruijn32tab), ("math/bits.deBruijn64tab", laid_math_bits_deBruijn64tab), ("internal/strconv.uint64pow10", laid_internal_strconv_uint64pow10), ("strconv.ErrRange", laid_strconv_ErrRange), ("strconv.ErrSyntax", laid_strconv_ErrSyntax)] }
def ActionSameSaid : Prop := actionSameRow.holds Tryd.pinned (OpenSpec.ofChange actionSameSpec)

/-- ITS FALSE NEIGHBOUR: 'it returns false'. Refute it at one input. -/
def actionSameWrong : ChangeSpec := { name := "actionSame", fn := fun _ => fun
  | [d1, d2] => { results := [.lit (.bool false)], args := [d1, d2] }
  | _ => none }
def ActionSameWrongFalsely : Prop := actionSameRow.holds Tryd.pinned (OpenSpec.ofChange actionSameWrong)

/-- 'brickyardlaw13.ActionCut': WHATEVER THE INPUT: true; the input reads as it did. -/
def actionCutSpec : ChangeSpec := { name := "actionCut", fn := fun _ => fun
  | [d1, d2] => { results := [.lit (.bool true)], args := [d1, d2] }
  | _ => none }
def actionCutRow : OpenClaim := { program := "ytgdkekdedgkglaadoor", sum := "0913ca954f57309fef3d10add4d54640453d30adc96b74e48d9835e0fcaf2626", func := "brickyard/brickyardlaw13.ActionCut", spec := "actionCut", unfollowed := true, recurses := true, named := ["strconv.ErrSyntax", "strconv.ErrRange", "internal/strconv.uint64pow10", "math/bits.deBruijn32tab", "math/bits.deBruijn64tab"], apart := false, laid := [("math/bits.deBruijn32tab", laid_math_bits_deBruijn32tab), ("math/bits.deBruijn64tab", laid_math_bits_deBruijn64tab), ("internal/strconv.uint64pow10", laid_internal_strconv_uint64pow10), ("strconv.ErrRange", laid_strconv_ErrRange), ("strconv.ErrSyntax", laid_strconv_ErrSyntax)] }
def ActionCutSaid : Prop := actionCutRow.holds Tryd.pinned (OpenSpec.ofChange actionCutSpec)

/-- ITS FALSE NEIGHBOUR: 'it returns false'. Refute it at one input. -/
def actionCutWrong : ChangeSpec := { name := "actionCut", fn := fun _ => fun
  | [d1, d2] => { results := [.lit (.bool false)], args := [d1, d2] }
  | _ => none }
def ActionCutWrongFalsely : Prop := actionCutRow.holds Tryd.pinned (OpenSpec.ofChange actionCutWrong)

/-- 'brickyardlaw13.ActionJoins': WHATEVER THE INPUT: true; the input reads as it did. -/
def actionJoinsSpec : ChangeSpec := { name := "actionJoins", fn := fun _ => fun
  | [d1, d2, d3] => { results := [.lit (.bool true)], args := [d1, d2, d3] }
  | _ => none }
def actionJoinsRow : OpenClaim := { program := "ytgdkekdedgkglaadoor", sum := "0913ca954f57309fef3d10add4d54640453d30adc96b74e48d9835e0fcaf2626", func := "brickyard/brickyardlaw13.ActionJoins", spec := "actionJoins", unfollowed := true, recurses := true, named := ["strconv.ErrSyntax", "strconv.ErrRange", "internal/strconv.uint64pow10", "math/bits.deBruijn32tab", "math/bits.deBruijn64tab"], loops := true, apart := false, laid := [("math/bits.deBruijn32tab", laid_math_bits_deBruijn32tab), ("math/bits.deBruijn64tab", laid_math_bits_deBruijn64tab), ("internal/strconv.uint64pow10", laid_internal_strconv_uint64pow10), ("strconv.ErrRange", laid_strconv_ErrRange), ("strconv.ErrSyntax", laid_strconv_ErrSyntax)] }
def ActionJoinsSaid : Prop := actionJoinsRow.holds Tryd.pinned (OpenSpec.ofChange actionJoinsSpec)

/-- ITS FALSE NEIGHBOUR: 'it returns false'. Refute it at one input. -/
def actionJoinsWrong : ChangeSpec := { name := "actionJoins", fn := fun _ => fun
  | [d1, d2, d3] => { results := [.lit (.bool false)], args := [d1, d2, d3] }
  | _ => none }
def ActionJoinsWrongFalsely : Prop := actionJoinsRow.holds Tryd.pinned (OpenSpec.ofChange actionJoinsWrong)

/-- 'brickyardlaw13.ActionPrints': WHATEVER THE INPUT: true; the input reads as it did. -/
def actionPrintsSpec : ChangeSpec := { name := "actionPrints", fn := fun _ => fun
  | [d] => { results := [.lit (.bool true)], args := [d] }
  | _ => none }
def actionPrintsRow : OpenClaim := { program := "ytgdkekdedgkglaadoor", sum := "0913ca954f57309fef3d10add4d54640453d30adc96b74e48d9835e0fcaf2626", func := "brickyard/brickyardlaw13.ActionPrints", spec := "actionPrints", inPlace := ["internal/abi.NoEscape"], unfollowed := true, recurses := true, named := ["strconv.ErrSyntax", "strconv.ErrRange", "internal/strconv.uint64pow10", "math/bits.deBruijn32tab", "math/bits.deBruijn64tab"], loops := true, apart := false, laid := [("math/bits.deBruijn32tab", laid_math_bits_deBruijn32tab), ("math/bits.deBruijn64tab", laid_math_bits_deBruijn64tab), ("internal/strconv.uint64pow10", laid_internal_strconv_uint64pow10), ("strconv.ErrRange", laid_strconv_ErrRange), ("strconv.ErrSyntax", laid_strconv_ErrSyntax)] }
def ActionPrintsSaid : Prop := actionPrintsRow.holds Tryd.pinned (OpenSpec.ofChange actionPrintsSpec)

/-- ITS FALSE NEIGHBOUR: 'it returns false'. Refute it at one input. -/
def actionPrintsWrong : ChangeSpec := { name := "actionPrints", fn := fun _ => fun
  | [d] => { results := [.lit (.bool false)], args := [d] }
  | _ => none }
def ActionPrintsWrongFalsely : Prop := actionPrintsRow.holds Tryd.pinned (OpenSpec.ofChange actionPrintsWrong)

/-- 'brickyardlaw20.SchedFlows': WHATEVER THE INPUT: true; the input reads as it did. -/
def schedFlowsSpec : ChangeSpec := { name := "schedFlows", fn := fun _ => fun
  | [d1, d2, d3, d4] => { results := [.lit (.bool true)], args := [d1, d2, d3, d4] }
  | _ => none }
def schedFlowsRow : OpenClaim := { program := "ytgdkekdedgkglaadoor", sum := "0913ca954f57309fef3d10add4d54640453d30adc96b74e48d9835e0fcaf2626", func := "brickyard/brickyardlaw20.SchedFlows", spec := "schedFlows", unfollowed := true, recurses := true, named := ["internal/strconv.uint64pow10", "math/bits.deBruijn32tab", "math/bits.deBruijn64tab", "strconv.ErrSyntax", "strconv.ErrRange"], apart := false, laid := [("math/bits.deBruijn32tab", laid_math_bits_deBruijn32tab), ("math/bits.deBruijn64tab", laid_math_bits_deBruijn64tab), ("internal/strconv.uint64pow10", laid_internal_strconv_uint64pow10), ("strconv.ErrRange", laid_strconv_ErrRange), ("strconv.ErrSyntax", laid_strconv_ErrSyntax)] }
def SchedFlowsSaid : Prop := schedFlowsRow.holds Tryd.pinned (OpenSpec.ofChange schedFlowsSpec)

/-- ITS FALSE NEIGHBOUR: 'it returns false'. Refute it at one input. -/
def schedFlowsWrong : ChangeSpec := { name := "schedFlows", fn := fun _ => fun
  | [d1, d2, d3, d4] => { results := [.lit (.bool false)], args := [d1, d2, d3, d4] }
  | _ => none }
def SchedFlowsWrongFalsely : Prop := schedFlowsRow.holds Tryd.pinned (OpenSpec.ofChange schedFlowsWrong)

/-- 'brickyardlaw13.ActionBack': WHATEVER THE INPUT: true; the input reads as it did. -/
def actionBackSpec : ChangeSpec := { name := "actionBack", fn := fun _ => fun
  | [d] => { results := [.lit (.bool true)], args := [d] }
  | _ => none }
def actionBackRow : OpenClaim := { program := "ytgdkekdedgkglaadoor", sum := "0913ca954f57309fef3d10add4d54640453d30adc96b74e48d9835e0fcaf2626", func := "brickyard/brickyardlaw13.ActionBack", spec := "actionBack", inPlace := ["internal/abi.NoEscape", "internal/bytealg.IndexByteString"], unfollowed := true, recurses := true, named := ["strconv.ErrSyntax", "strconv.ErrRange", "internal/strconv.uint64pow10", "math/bits.deBruijn32tab", "math/bits.deBruijn64tab"], apart := false, laid := [("math/bits.deBruijn32tab", laid_math_bits_deBruijn32tab), ("math/bits.deBruijn64tab", laid_math_bits_deBruijn64tab), ("internal/strconv.uint64pow10", laid_internal_strconv_uint64pow10), ("strconv.ErrRange", laid_strconv_ErrRange), ("strconv.ErrSyntax", laid_strconv_ErrSyntax)] }
def ActionBackSaid : Prop := actionBackRow.holds Tryd.pinned (OpenSpec.ofChange actionBackSpec)

/-- ITS FALSE NEIGHBOUR: 'it returns false'. Refute it at one input. -/
def actionBackWrong : ChangeSpec := { name := "actionBack", fn := fun _ => fun
  | [d] => { results := [.lit (.bool false)], args := [d] }
  | _ => none }
def ActionBackWrongFalsely : Prop := actionBackRow.holds Tryd.pinned (OpenSpec.ofChange actionBackWrong)

/- THE SECOND FORM. 'bulk': how many values and letters a reading holds, each counted each time it is reached (what is shared counts as often as it is met; a slice's spare places count too). A statement '..UptoSaid' is the law's where the arguments, and the package variables that the reading takes, are together of bulk at most 1048576: NARROWER than '..Said'. Prove '..Said' where nothing that the law and all that it calls make is longer than what came in: it says more and counts as full. Else prove '..UptoSaid'. A law counts once. -/
mutual
def uptoBulk {H : Type} : DataW H → Nat
  | .lit (.string bytes) => bytes.length + 1
  | .lit _ => 1
  | .nil => 1
  | .ptr d => uptoBulk d + 1
  | .slice elems spare => uptoBulkAll elems + uptoBulkAll spare + 1
  | .agg parts => uptoBulkAll parts + 1
  | .iface _ d => uptoBulk d + 1
  | .map entries => uptoBulkEntries entries + 1
  | .held _ => 1
def uptoBulkAll {H : Type} : List (DataW H) → Nat
  | [] => 0
  | d :: r => uptoBulk d + uptoBulkAll r
def uptoBulkEntries {H : Type} : List (Lit × DataW H) → Nat
  | [] => 0
  | x :: r => uptoBulkEntry x + uptoBulkEntries r
def uptoBulkEntry {H : Type} : Lit × DataW H → Nat
  | (.string bytes, d) => bytes.length + uptoBulk d + 1
  | (_, d) => uptoBulk d + 1
 end
def uptoSmall : (H : Type) → List (DataW H) → Bool := fun _ ds => decide (uptoBulkAll ds ≤ 1048576)
def OpenSpec.upto (s : _root_.Go.ChangeSpec) : _root_.Go.OpenSpec := { _root_.Go.OpenSpec.ofChange s with cond := some uptoSmall }

/-- 'brickyardlaw20.SchedTurns', WHERE WHAT IT READS IS OF BULK AT MOST 1048576: true; the input reads as it did. -/
def schedTurnsUptoRow : OpenClaim := { program := "ytgdkekdedgkglaadoor", sum := "0913ca954f57309fef3d10add4d54640453d30adc96b74e48d9835e0fcaf2626", func := "brickyard/brickyardlaw20.SchedTurns", spec := "schedTurns", unfollowed := true, recurses := true, named := ["internal/strconv.uint64pow10", "math/bits.deBruijn32tab", "math/bits.deBruijn64tab"], apart := false, laid := [("math/bits.deBruijn32tab", laid_math_bits_deBruijn32tab), ("math/bits.deBruijn64tab", laid_math_bits_deBruijn64tab), ("internal/strconv.uint64pow10", laid_internal_strconv_uint64pow10)], narrowed := true }
def SchedTurnsUptoSaid : Prop := schedTurnsUptoRow.holds Tryd.pinned (OpenSpec.upto schedTurnsSpec)

/-- 'brickyardlaw13.ActionParses', WHERE WHAT IT READS IS OF BULK AT MOST 1048576: true; the input reads as it did. -/
def actionParsesUptoRow : OpenClaim := { program := "ytgdkekdedgkglaadoor", sum := "0913ca954f57309fef3d10add4d54640453d30adc96b74e48d9835e0fcaf2626", func := "brickyard/brickyardlaw13.ActionParses", spec := "actionParses", unfollowed := true, recurses := true, named := ["strconv.ErrSyntax", "strconv.ErrRange", "internal/strconv.uint64pow10", "math/bits.deBruijn32tab", "math/bits.deBruijn64tab"], apart := false, laid := [("math/bits.deBruijn32tab", laid_math_bits_deBruijn32tab), ("math/bits.deBruijn64tab", laid_math_bits_deBruijn64tab), ("internal/strconv.uint64pow10", laid_internal_strconv_uint64pow10), ("strconv.ErrRange", laid_strconv_ErrRange), ("strconv.ErrSyntax", laid_strconv_ErrSyntax)], narrowed := true }
def ActionParsesUptoSaid : Prop := actionParsesUptoRow.holds Tryd.pinned (OpenSpec.upto actionParsesSpec)

/-- 'brickyardlaw13.ActionNames', WHERE WHAT IT READS IS OF BULK AT MOST 1048576: true; the input reads as it did. -/
def actionNamesUptoRow : OpenClaim := { program := "ytgdkekdedgkglaadoor", sum := "0913ca954f57309fef3d10add4d54640453d30adc96b74e48d9835e0fcaf2626", func := "brickyard/brickyardlaw13.ActionNames", spec := "actionNames", unfollowed := true, recurses := true, named := ["strconv.ErrSyntax", "strconv.ErrRange", "internal/strconv.uint64pow10", "math/bits.deBruijn32tab", "math/bits.deBruijn64tab"], apart := false, laid := [("math/bits.deBruijn32tab", laid_math_bits_deBruijn32tab), ("math/bits.deBruijn64tab", laid_math_bits_deBruijn64tab), ("internal/strconv.uint64pow10", laid_internal_strconv_uint64pow10), ("strconv.ErrRange", laid_strconv_ErrRange), ("strconv.ErrSyntax", laid_strconv_ErrSyntax)], narrowed := true }
def ActionNamesUptoSaid : Prop := actionNamesUptoRow.holds Tryd.pinned (OpenSpec.upto actionNamesSpec)

/-- 'brickyardlaw13.ActionSame', WHERE WHAT IT READS IS OF BULK AT MOST 1048576: true; the input reads as it did. -/
def actionSameUptoRow : OpenClaim := { program := "ytgdkekdedgkglaadoor", sum := "0913ca954f57309fef3d10add4d54640453d30adc96b74e48d9835e0fcaf2626", func := "brickyard/brickyardlaw13.ActionSame", spec := "actionSame", unfollowed := true, recurses := true, named := ["strconv.ErrSyntax", "strconv.ErrRange", "internal/strconv.uint64pow10", "math/bits.deBruijn32tab", "math/bits.deBruijn64tab"], loops := true, apart := false, laid := [("math/bits.deBruijn32tab", laid_math_bits_deBruijn32tab), ("math/bits.deBruijn64tab", laid_math_bits_deBruijn64tab), ("internal/strconv.uint64pow10", laid_internal_strconv_uint64pow10), ("strconv.ErrRange", laid_strconv_ErrRange), ("strconv.ErrSyntax", laid_strconv_ErrSyntax)], narrowed := true }
def ActionSameUptoSaid : Prop := actionSameUptoRow.holds Tryd.pinned (OpenSpec.upto actionSameSpec)

/-- 'brickyardlaw13.ActionCut', WHERE WHAT IT READS IS OF BULK AT MOST 1048576: true; the input reads as it did. -/
def actionCutUptoRow : OpenClaim := { program := "ytgdkekdedgkglaadoor", sum := "0913ca954f57309fef3d10add4d54640453d30adc96b74e48d9835e0fcaf2626", func := "brickyard/brickyardlaw13.ActionCut", spec := "actionCut", unfollowed := true, recurses := true, named := ["strconv.ErrSyntax", "strconv.ErrRange", "internal/strconv.uint64pow10", "math/bits.deBruijn32tab", "math/bits.deBruijn64tab"], apart := false, laid := [("math/bits.deBruijn32tab", laid_math_bits_deBruijn32tab), ("math/bits.deBruijn64tab", laid_math_bits_deBruijn64tab), ("internal/strconv.uint64pow10", laid_internal_strconv_uint64pow10), ("strconv.ErrRange", laid_strconv_ErrRange), ("strconv.ErrSyntax", laid_strconv_ErrSyntax)], narrowed := true }
def ActionCutUptoSaid : Prop := actionCutUptoRow.holds Tryd.pinned (OpenSpec.upto actionCutSpec)

/-- 'brickyardlaw13.ActionJoins', WHERE WHAT IT READS IS OF BULK AT MOST 1048576: true; the input reads as it did. -/
def actionJoinsUptoRow : OpenClaim := { program := "ytgdkekdedgkglaadoor", sum := "0913ca954f57309fef3d10add4d54640453d30adc96b74e48d9835e0fcaf2626", func := "brickyard/brickyardlaw13.ActionJoins", spec := "actionJoins", unfollowed := true, recurses := true, named := ["strconv.ErrSyntax", "strconv.ErrRange", "internal/strconv.uint64pow10", "math/bits.deBruijn32tab", "math/bits.deBruijn64tab"], loops := true, apart := false, laid := [("math/bits.deBruijn32tab", laid_math_bits_deBruijn32tab), ("math/bits.deBruijn64tab", laid_math_bits_deBruijn64tab), ("internal/strconv.uint64pow10", laid_internal_strconv_uint64pow10), ("strconv.ErrRange", laid_strconv_ErrRange), ("strconv.ErrSyntax", laid_strconv_ErrSyntax)], narrowed := true }
def ActionJoinsUptoSaid : Prop := actionJoinsUptoRow.holds Tryd.pinned (OpenSpec.upto actionJoinsSpec)

/-- 'brickyardlaw13.ActionPrints', WHERE WHAT IT READS IS OF BULK AT MOST 1048576: true; the input reads as it did. -/
def actionPrintsUptoRow : OpenClaim := { program := "ytgdkekdedgkglaadoor", sum := "0913ca954f57309fef3d10add4d54640453d30adc96b74e48d9835e0fcaf2626", func := "brickyard/brickyardlaw13.ActionPrints", spec := "actionPrints", inPlace := ["internal/abi.NoEscape"], unfollowed := true, recurses := true, named := ["strconv.ErrSyntax", "strconv.ErrRange", "internal/strconv.uint64pow10", "math/bits.deBruijn32tab", "math/bits.deBruijn64tab"], loops := true, apart := false, laid := [("math/bits.deBruijn32tab", laid_math_bits_deBruijn32tab), ("math/bits.deBruijn64tab", laid_math_bits_deBruijn64tab), ("internal/strconv.uint64pow10", laid_internal_strconv_uint64pow10), ("strconv.ErrRange", laid_strconv_ErrRange), ("strconv.ErrSyntax", laid_strconv_ErrSyntax)], narrowed := true }
def ActionPrintsUptoSaid : Prop := actionPrintsUptoRow.holds Tryd.pinned (OpenSpec.upto actionPrintsSpec)

/-- 'brickyardlaw20.SchedFlows', WHERE WHAT IT READS IS OF BULK AT MOST 1048576: true; the input reads as it did. -/
def schedFlowsUptoRow : OpenClaim := { program := "ytgdkekdedgkglaadoor", sum := "0913ca954f57309fef3d10add4d54640453d30adc96b74e48d9835e0fcaf2626", func := "brickyard/brickyardlaw20.SchedFlows", spec := "schedFlows", unfollowed := true, recurses := true, named := ["internal/strconv.uint64pow10", "math/bits.deBruijn32tab", "math/bits.deBruijn64tab", "strconv.ErrSyntax", "strconv.ErrRange"], apart := false, laid := [("math/bits.deBruijn32tab", laid_math_bits_deBruijn32tab), ("math/bits.deBruijn64tab", laid_math_bits_deBruijn64tab), ("internal/strconv.uint64pow10", laid_internal_strconv_uint64pow10), ("strconv.ErrRange", laid_strconv_ErrRange), ("strconv.ErrSyntax", laid_strconv_ErrSyntax)], narrowed := true }
def SchedFlowsUptoSaid : Prop := schedFlowsUptoRow.holds Tryd.pinned (OpenSpec.upto schedFlowsSpec)

/-- 'brickyardlaw13.ActionBack', WHERE WHAT IT READS IS OF BULK AT MOST 1048576: true; the input reads as it did. -/
def actionBackUptoRow : OpenClaim := { program := "ytgdkekdedgkglaadoor", sum := "0913ca954f57309fef3d10add4d54640453d30adc96b74e48d9835e0fcaf2626", func := "brickyard/brickyardlaw13.ActionBack", spec := "actionBack", inPlace := ["internal/abi.NoEscape", "internal/bytealg.IndexByteString"], unfollowed := true, recurses := true, named := ["strconv.ErrSyntax", "strconv.ErrRange", "internal/strconv.uint64pow10", "math/bits.deBruijn32tab", "math/bits.deBruijn64tab"], apart := false, laid := [("math/bits.deBruijn32tab", laid_math_bits_deBruijn32tab), ("math/bits.deBruijn64tab", laid_math_bits_deBruijn64tab), ("internal/strconv.uint64pow10", laid_internal_strconv_uint64pow10), ("strconv.ErrRange", laid_strconv_ErrRange), ("strconv.ErrSyntax", laid_strconv_ErrSyntax)], narrowed := true }
def ActionBackUptoSaid : Prop := actionBackUptoRow.holds Tryd.pinned (OpenSpec.upto actionBackSpec)

end Rows
end Go.Proofs.YtgdkekdedgkglaaDoor
