/-
  NARROWER THAN 'FOR EVERY INPUT', by the rows' own cells (each row's printed sentence says how): IndexLivesAddUp: laid · IndexChangedStays: laid · IndexPrefixPages: laid · IndexNearIsNearest: laid · IndexPrefixesMatchSpec: laid · IndexFindsMatchSpec: laid · ReplayDaysAddUp: laid · ReplayDaysMatchSpec: laid · IndexMergesMatchSpec: laid · IndexMergesHaveAll: laid · IndexChecksMatchSpec: laid.
  DERIVED. THE GIVEN ROWS OF THIS SEAT. 11 by the template 'for every input the law returns true; each argument reads behind the call as it read before'; 0 by the template 'total and deterministic' (their statements: YtdciogjhkckigaaDoorTotals.lean).
  GIVEN WITH THE SEED: the statements are not yours to turn. If you find one false, say at which input.
  Laid BY PROGRAM, IN A SANDBOX (cutbox-rows.mjs): the forced cells as the released guide's own fill.sh prints them over the translation 0ef9f5ef7b446a64… (all of the seat's roots in one cut). By AI agents, Wed Nov 11 2026. No macro, syntax, notation, axiom, sorry.
-/
import Derived.Test.YtdciogjhkckigaaDoorChecked
import GoSem.PinnedTables
import GoSem.Claim
import GoSem.ClaimJoined
import GoSem.ClaimMapViews
import Derived.JoinedTies
import Derived.KernelRfl
namespace Go.Proofs.YtdciogjhkckigaaDoor
/- THE CELL 'sum', in the pinned program and in every row, IS THE sha256 OF THE DUMP (.gsa) THAT YtdciogjhkckigaaDoorProg.lean LOADS. Nothing in Lean hashes anything: it is a label: what it is worth is what the hold of that sum in a sandbox is worth. -/
noncomputable def Tryd.pinned : Pinned := { name := "ytdciogjhkckigaadoor", sum := "0ef9f5ef7b446a6457708b28219075a768cb86020c1fd97eee3b2b87cc3971eb", checked := Tryd.checked }
namespace Rows
def none {H : Type} : Left H := { results := [], args := [] }

/- WHAT THE LISTED PACKAGE-LEVEL VARIABLES READ AS WHEN THE CALL BEGINS. Each datum BY PROGRAM (the guide's laid-datum.mjs) off the statement by which the dump's own 'gosem.cut.vars' lays the variable. In a bare row this is a premise. The card (YtdciogjhkckigaaDoorCards.lean) ties it to the program's text. -/
def laid_unicode_utf8_acceptRanges {H : Type} : DataW H := .agg [.agg [.lit (.int .u8 128), .lit (.int .u8 191)], .agg [.lit (.int .u8 160), .lit (.int .u8 191)], .agg [.lit (.int .u8 128), .lit (.int .u8 159)], .agg [.lit (.int .u8 144), .lit (.int .u8 191)], .agg [.lit (.int .u8 128), .lit (.int .u8 143)], .agg [.lit (.int .u8 0), .lit (.int .u8 0)], .agg [.lit (.int .u8 0), .lit (.int .u8 0)], .agg [.lit (.int .u8 0), .lit (.int .u8 0)], .agg [.lit (.int .u8 0), .lit (.int .u8 0)], .agg [.lit (.int .u8 0), .lit (.int .u8 0)], .agg [.lit (.int .u8 0), .lit (.int .u8 0)], .agg [.lit (.int .u8 0), .lit (.int .u8 0)], .agg [.lit (.int .u8 0), .lit (.int .u8 0)], .agg [.lit (.int .u8 0), .lit (.int .u8 0)], .agg [.lit (.int .u8 0), .lit (.int .u8 0)], .agg [.lit (.int .u8 0), .lit (.int .u8 0)]]
/-- One of Go's own tables, pinned by name: the form's constant. -/
def laid_unicode_utf8_first : DataW Unit := Go.Pinned.utf8First
def laid_math_bits_deBruijn32tab {H : Type} : DataW H := .agg [.lit (.int .u8 0), .lit (.int .u8 1), .lit (.int .u8 28), .lit (.int .u8 2), .lit (.int .u8 29), .lit (.int .u8 14), .lit (.int .u8 24), .lit (.int .u8 3), .lit (.int .u8 30), .lit (.int .u8 22), .lit (.int .u8 20), .lit (.int .u8 15), .lit (.int .u8 25), .lit (.int .u8 17), .lit (.int .u8 4), .lit (.int .u8 8), .lit (.int .u8 31), .lit (.int .u8 27), .lit (.int .u8 13), .lit (.int .u8 23), .lit (.int .u8 21), .lit (.int .u8 19), .lit (.int .u8 16), .lit (.int .u8 7), .lit (.int .u8 26), .lit (.int .u8 12), .lit (.int .u8 18), .lit (.int .u8 6), .lit (.int .u8 11), .lit (.int .u8 5), .lit (.int .u8 10), .lit (.int .u8 9)]
def laid_math_bits_deBruijn64tab {H : Type} : DataW H := .agg [.lit (.int .u8 0), .lit (.int .u8 1), .lit (.int .u8 56), .lit (.int .u8 2), .lit (.int .u8 57), .lit (.int .u8 49), .lit (.int .u8 28), .lit (.int .u8 3), .lit (.int .u8 61), .lit (.int .u8 58), .lit (.int .u8 42), .lit (.int .u8 50), .lit (.int .u8 38), .lit (.int .u8 29), .lit (.int .u8 17), .lit (.int .u8 4), .lit (.int .u8 62), .lit (.int .u8 47), .lit (.int .u8 59), .lit (.int .u8 36), .lit (.int .u8 45), .lit (.int .u8 43), .lit (.int .u8 51), .lit (.int .u8 22), .lit (.int .u8 53), .lit (.int .u8 39), .lit (.int .u8 33), .lit (.int .u8 30), .lit (.int .u8 24), .lit (.int .u8 18), .lit (.int .u8 12), .lit (.int .u8 5), .lit (.int .u8 63), .lit (.int .u8 55), .lit (.int .u8 48), .lit (.int .u8 27), .lit (.int .u8 60), .lit (.int .u8 41), .lit (.int .u8 37), .lit (.int .u8 16), .lit (.int .u8 46), .lit (.int .u8 35), .lit (.int .u8 44), .lit (.int .u8 21), .lit (.int .u8 52), .lit (.int .u8 32), .lit (.int .u8 23), .lit (.int .u8 11), .lit (.int .u8 54), .lit (.int .u8 26), .lit (.int .u8 40), .lit (.int .u8 15), .lit (.int .u8 34), .lit (.int .u8 20), .lit (.int .u8 31), .lit (.int .u8 10), .lit (.int .u8 25), .lit (.int .u8 14), .lit (.int .u8 19), .lit (.int .u8 9), .lit (.int .u8 13), .lit (.int .u8 8), .lit (.int .u8 7), .lit (.int .u8 6)]
def laid_internal_strconv_uint64pow10 {H : Type} : DataW H := .agg [.lit (.int .u64 1), .lit (.int .u64 10), .lit (.int .u64 100), .lit (.int .u64 1000), .lit (.int .u64 10000), .lit (.int .u64 100000), .lit (.int .u64 1000000), .lit (.int .u64 10000000), .lit (.int .u64 100000000), .lit (.int .u64 1000000000), .lit (.int .u64 10000000000), .lit (.int .u64 100000000000), .lit (.int .u64 1000000000000), .lit (.int .u64 10000000000000), .lit (.int .u64 100000000000000), .lit (.int .u64 1000000000000000), .lit (.int .u64 10000000000000000), .lit (.int .u64 100000000000000000), .lit (.int .u64 1000000000000000000), .lit (.int .u64 10000000000000000000)]

/-- 'ephemeralaw8.IndexLivesAddUp': WHATEVER THE INPUT: true; the input reads as it did. -/
def indexLivesAddUpSpec : ChangeSpec := { name := "indexLivesAddUp", fn := fun _ => fun
  | [d] => { results := [.lit (.bool true)], args := [d] }
  | _ => none }
def indexLivesAddUpRow : OpenClaim := { program := "ytdciogjhkckigaadoor", sum := "0ef9f5ef7b446a6457708b28219075a768cb86020c1fd97eee3b2b87cc3971eb", func := "ephemera/ephemeralaw8.IndexLivesAddUp", spec := "indexLivesAddUp", inPlace := ["internal/bytealg.IndexByteString", "internal/bytealg.IndexString", "internal/bytealg.abigen_runtime_cmpstring"], unfollowed := true, recurses := true, named := ["unicode/utf8.first", "unicode/utf8.acceptRanges", "internal/bytealg.MaxLen"], apart := false, laid := [("unicode/utf8.acceptRanges", laid_unicode_utf8_acceptRanges), ("unicode/utf8.first", laid_unicode_utf8_first)] }
def IndexLivesAddUpSaid : Prop := indexLivesAddUpRow.holds Tryd.pinned (OpenSpec.ofChange indexLivesAddUpSpec)

/-- ITS FALSE NEIGHBOUR: 'it returns false'. Refute it at one input. -/
def indexLivesAddUpWrong : ChangeSpec := { name := "indexLivesAddUp", fn := fun _ => fun
  | [d] => { results := [.lit (.bool false)], args := [d] }
  | _ => none }
def IndexLivesAddUpWrongFalsely : Prop := indexLivesAddUpRow.holds Tryd.pinned (OpenSpec.ofChange indexLivesAddUpWrong)

/-- 'ephemeralaw8.IndexChangedStays': WHATEVER THE INPUT: true; the input reads as it did. -/
def indexChangedStaysSpec : ChangeSpec := { name := "indexChangedStays", fn := fun _ => fun
  | [d] => { results := [.lit (.bool true)], args := [d] }
  | _ => none }
def indexChangedStaysRow : OpenClaim := { program := "ytdciogjhkckigaadoor", sum := "0ef9f5ef7b446a6457708b28219075a768cb86020c1fd97eee3b2b87cc3971eb", func := "ephemera/ephemeralaw8.IndexChangedStays", spec := "indexChangedStays", inPlace := ["internal/bytealg.IndexByteString", "internal/bytealg.IndexString", "internal/bytealg.abigen_runtime_cmpstring"], unfollowed := true, recurses := true, named := ["unicode/utf8.first", "unicode/utf8.acceptRanges", "internal/bytealg.MaxLen"], apart := false, laid := [("unicode/utf8.acceptRanges", laid_unicode_utf8_acceptRanges), ("unicode/utf8.first", laid_unicode_utf8_first)] }
def IndexChangedStaysSaid : Prop := indexChangedStaysRow.holds Tryd.pinned (OpenSpec.ofChange indexChangedStaysSpec)

/-- ITS FALSE NEIGHBOUR: 'it returns false'. Refute it at one input. -/
def indexChangedStaysWrong : ChangeSpec := { name := "indexChangedStays", fn := fun _ => fun
  | [d] => { results := [.lit (.bool false)], args := [d] }
  | _ => none }
def IndexChangedStaysWrongFalsely : Prop := indexChangedStaysRow.holds Tryd.pinned (OpenSpec.ofChange indexChangedStaysWrong)

/-- 'ephemeralaw8.IndexPrefixPages': WHATEVER THE INPUT: true; the input reads as it did. -/
def indexPrefixPagesSpec : ChangeSpec := { name := "indexPrefixPages", fn := fun _ => fun
  | [d1, d2, d3] => { results := [.lit (.bool true)], args := [d1, d2, d3] }
  | _ => none }
def indexPrefixPagesRow : OpenClaim := { program := "ytdciogjhkckigaadoor", sum := "0ef9f5ef7b446a6457708b28219075a768cb86020c1fd97eee3b2b87cc3971eb", func := "ephemera/ephemeralaw8.IndexPrefixPages", spec := "indexPrefixPages", inPlace := ["internal/bytealg.IndexByteString", "internal/bytealg.IndexString", "internal/bytealg.abigen_runtime_cmpstring"], unfollowed := true, recurses := true, named := ["unicode/utf8.first", "unicode/utf8.acceptRanges", "internal/bytealg.MaxLen"], apart := false, laid := [("unicode/utf8.acceptRanges", laid_unicode_utf8_acceptRanges), ("unicode/utf8.first", laid_unicode_utf8_first)] }
def IndexPrefixPagesSaid : Prop := indexPrefixPagesRow.holds Tryd.pinned (OpenSpec.ofChange indexPrefixPagesSpec)

/-- ITS FALSE NEIGHBOUR: 'it returns false'. Refute it at one input. -/
def indexPrefixPagesWrong : ChangeSpec := { name := "indexPrefixPages", fn := fun _ => fun
  | [d1, d2, d3] => { results := [.lit (.bool false)], args := [d1, d2, d3] }
  | _ => none }
def IndexPrefixPagesWrongFalsely : Prop := indexPrefixPagesRow.holds Tryd.pinned (OpenSpec.ofChange indexPrefixPagesWrong)

/-- 'ephemeralaw8.IndexNearIsNearest': WHATEVER THE INPUT: true; the input reads as it did. -/
def indexNearIsNearestSpec : ChangeSpec := { name := "indexNearIsNearest", fn := fun _ => fun
  | [d1, d2, d3, d4] => { results := [.lit (.bool true)], args := [d1, d2, d3, d4] }
  | _ => none }
def indexNearIsNearestRow : OpenClaim := { program := "ytdciogjhkckigaadoor", sum := "0ef9f5ef7b446a6457708b28219075a768cb86020c1fd97eee3b2b87cc3971eb", func := "ephemera/ephemeralaw8.IndexNearIsNearest", spec := "indexNearIsNearest", inPlace := ["internal/bytealg.IndexByteString", "internal/bytealg.IndexString", "internal/bytealg.abigen_runtime_cmpstring"], unfollowed := true, recurses := true, named := ["unicode/utf8.first", "unicode/utf8.acceptRanges", "internal/bytealg.MaxLen"], apart := false, laid := [("unicode/utf8.acceptRanges", laid_unicode_utf8_acceptRanges), ("unicode/utf8.first", laid_unicode_utf8_first)] }
def IndexNearIsNearestSaid : Prop := indexNearIsNearestRow.holds Tryd.pinned (OpenSpec.ofChange indexNearIsNearestSpec)

/-- ITS FALSE NEIGHBOUR: 'it returns false'. Refute it at one input. -/
def indexNearIsNearestWrong : ChangeSpec := { name := "indexNearIsNearest", fn := fun _ => fun
  | [d1, d2, d3, d4] => { results := [.lit (.bool false)], args := [d1, d2, d3, d4] }
  | _ => none }
def IndexNearIsNearestWrongFalsely : Prop := indexNearIsNearestRow.holds Tryd.pinned (OpenSpec.ofChange indexNearIsNearestWrong)

/-- 'ephemeralaw8.IndexPrefixesMatchSpec': WHATEVER THE INPUT: true; the input reads as it did. -/
def indexPrefixesMatchSpecSpec : ChangeSpec := { name := "indexPrefixesMatchSpec", fn := fun _ => fun
  | [d1, d2, d3, d4, d5] => { results := [.lit (.bool true)], args := [d1, d2, d3, d4, d5] }
  | _ => none }
def indexPrefixesMatchSpecRow : OpenClaim := { program := "ytdciogjhkckigaadoor", sum := "0ef9f5ef7b446a6457708b28219075a768cb86020c1fd97eee3b2b87cc3971eb", func := "ephemera/ephemeralaw8.IndexPrefixesMatchSpec", spec := "indexPrefixesMatchSpec", inPlace := ["internal/bytealg.IndexByteString", "internal/bytealg.IndexString", "internal/bytealg.abigen_runtime_cmpstring"], unfollowed := true, recurses := true, named := ["unicode/utf8.first", "unicode/utf8.acceptRanges", "internal/bytealg.MaxLen"], apart := false, laid := [("unicode/utf8.acceptRanges", laid_unicode_utf8_acceptRanges), ("unicode/utf8.first", laid_unicode_utf8_first)] }
def IndexPrefixesMatchSpecSaid : Prop := indexPrefixesMatchSpecRow.holds Tryd.pinned (OpenSpec.ofChange indexPrefixesMatchSpecSpec)

/-- ITS FALSE NEIGHBOUR: 'it returns false'. Refute it at one input. -/
def indexPrefixesMatchSpecWrong : ChangeSpec := { name := "indexPrefixesMatchSpec", fn := fun _ => fun
  | [d1, d2, d3, d4, d5] => { results := [.lit (.bool false)], args := [d1, d2, d3, d4, d5] }
  | _ => none }
def IndexPrefixesMatchSpecWrongFalsely : Prop := indexPrefixesMatchSpecRow.holds Tryd.pinned (OpenSpec.ofChange indexPrefixesMatchSpecWrong)

/-- 'ephemeralaw8.IndexFindsMatchSpec': WHATEVER THE INPUT: true; the input reads as it did. -/
def indexFindsMatchSpecSpec : ChangeSpec := { name := "indexFindsMatchSpec", fn := fun _ => fun
  | [d1, d2, d3, d4] => { results := [.lit (.bool true)], args := [d1, d2, d3, d4] }
  | _ => none }
def indexFindsMatchSpecRow : OpenClaim := { program := "ytdciogjhkckigaadoor", sum := "0ef9f5ef7b446a6457708b28219075a768cb86020c1fd97eee3b2b87cc3971eb", func := "ephemera/ephemeralaw8.IndexFindsMatchSpec", spec := "indexFindsMatchSpec", inPlace := ["internal/bytealg.IndexByteString", "internal/bytealg.IndexString", "internal/bytealg.abigen_runtime_cmpstring"], unfollowed := true, recurses := true, named := ["unicode/utf8.first", "unicode/utf8.acceptRanges", "internal/bytealg.MaxLen"], apart := false, laid := [("unicode/utf8.acceptRanges", laid_unicode_utf8_acceptRanges), ("unicode/utf8.first", laid_unicode_utf8_first)] }
def IndexFindsMatchSpecSaid : Prop := indexFindsMatchSpecRow.holds Tryd.pinned (OpenSpec.ofChange indexFindsMatchSpecSpec)

/-- ITS FALSE NEIGHBOUR: 'it returns false'. Refute it at one input. -/
def indexFindsMatchSpecWrong : ChangeSpec := { name := "indexFindsMatchSpec", fn := fun _ => fun
  | [d1, d2, d3, d4] => { results := [.lit (.bool false)], args := [d1, d2, d3, d4] }
  | _ => none }
def IndexFindsMatchSpecWrongFalsely : Prop := indexFindsMatchSpecRow.holds Tryd.pinned (OpenSpec.ofChange indexFindsMatchSpecWrong)

/-- 'ephemeralaw9.ReplayDaysAddUp': WHATEVER THE INPUT: true; the input reads as it did. -/
def replayDaysAddUpSpec : ChangeSpec := { name := "replayDaysAddUp", fn := fun _ => fun
  | [d1, d2] => { results := [.lit (.bool true)], args := [d1, d2] }
  | _ => none }
def replayDaysAddUpRow : OpenClaim := { program := "ytdciogjhkckigaadoor", sum := "0ef9f5ef7b446a6457708b28219075a768cb86020c1fd97eee3b2b87cc3971eb", func := "ephemera/ephemeralaw9.ReplayDaysAddUp", spec := "replayDaysAddUp", inPlace := ["internal/bytealg.IndexByteString", "internal/bytealg.IndexString", "internal/bytealg.abigen_runtime_cmpstring"], unfollowed := true, recurses := true, named := ["unicode/utf8.first", "unicode/utf8.acceptRanges", "internal/bytealg.MaxLen"], apart := false, laid := [("unicode/utf8.acceptRanges", laid_unicode_utf8_acceptRanges), ("unicode/utf8.first", laid_unicode_utf8_first)] }
def ReplayDaysAddUpSaid : Prop := replayDaysAddUpRow.holds Tryd.pinned (OpenSpec.ofChange replayDaysAddUpSpec)

/-- ITS FALSE NEIGHBOUR: 'it returns false'. Refute it at one input. -/
def replayDaysAddUpWrong : ChangeSpec := { name := "replayDaysAddUp", fn := fun _ => fun
  | [d1, d2] => { results := [.lit (.bool false)], args := [d1, d2] }
  | _ => none }
def ReplayDaysAddUpWrongFalsely : Prop := replayDaysAddUpRow.holds Tryd.pinned (OpenSpec.ofChange replayDaysAddUpWrong)

/-- 'ephemeralaw9.ReplayDaysMatchSpec': WHATEVER THE INPUT: true; the input reads as it did. -/
def replayDaysMatchSpecSpec : ChangeSpec := { name := "replayDaysMatchSpec", fn := fun _ => fun
  | [d1, d2, d3, d4] => { results := [.lit (.bool true)], args := [d1, d2, d3, d4] }
  | _ => none }
def replayDaysMatchSpecRow : OpenClaim := { program := "ytdciogjhkckigaadoor", sum := "0ef9f5ef7b446a6457708b28219075a768cb86020c1fd97eee3b2b87cc3971eb", func := "ephemera/ephemeralaw9.ReplayDaysMatchSpec", spec := "replayDaysMatchSpec", inPlace := ["internal/bytealg.IndexByteString", "internal/bytealg.IndexString", "internal/bytealg.abigen_runtime_cmpstring"], unfollowed := true, recurses := true, named := ["unicode/utf8.first", "unicode/utf8.acceptRanges", "internal/bytealg.MaxLen"], apart := false, laid := [("unicode/utf8.acceptRanges", laid_unicode_utf8_acceptRanges), ("unicode/utf8.first", laid_unicode_utf8_first)] }
def ReplayDaysMatchSpecSaid : Prop := replayDaysMatchSpecRow.holds Tryd.pinned (OpenSpec.ofChange replayDaysMatchSpecSpec)

/-- ITS FALSE NEIGHBOUR: 'it returns false'. Refute it at one input. -/
def replayDaysMatchSpecWrong : ChangeSpec := { name := "replayDaysMatchSpec", fn := fun _ => fun
  | [d1, d2, d3, d4] => { results := [.lit (.bool false)], args := [d1, d2, d3, d4] }
  | _ => none }
def ReplayDaysMatchSpecWrongFalsely : Prop := replayDaysMatchSpecRow.holds Tryd.pinned (OpenSpec.ofChange replayDaysMatchSpecWrong)

/-- 'ephemeralaw8.IndexMergesMatchSpec': WHATEVER THE INPUT: true; the input reads as it did. -/
def indexMergesMatchSpecSpec : ChangeSpec := { name := "indexMergesMatchSpec", fn := fun _ => fun
  | [d] => { results := [.lit (.bool true)], args := [d] }
  | _ => none }
def indexMergesMatchSpecRow : OpenClaim := { program := "ytdciogjhkckigaadoor", sum := "0ef9f5ef7b446a6457708b28219075a768cb86020c1fd97eee3b2b87cc3971eb", func := "ephemera/ephemeralaw8.IndexMergesMatchSpec", spec := "indexMergesMatchSpec", inPlace := ["internal/bytealg.IndexByteString", "internal/bytealg.IndexString", "internal/bytealg.abigen_runtime_cmpstring"], unfollowed := true, recurses := true, named := ["unicode/utf8.first", "unicode/utf8.acceptRanges", "internal/bytealg.MaxLen"], apart := false, laid := [("unicode/utf8.acceptRanges", laid_unicode_utf8_acceptRanges), ("unicode/utf8.first", laid_unicode_utf8_first)] }
def IndexMergesMatchSpecSaid : Prop := indexMergesMatchSpecRow.holds Tryd.pinned (OpenSpec.ofChange indexMergesMatchSpecSpec)

/-- ITS FALSE NEIGHBOUR: 'it returns false'. Refute it at one input. -/
def indexMergesMatchSpecWrong : ChangeSpec := { name := "indexMergesMatchSpec", fn := fun _ => fun
  | [d] => { results := [.lit (.bool false)], args := [d] }
  | _ => none }
def IndexMergesMatchSpecWrongFalsely : Prop := indexMergesMatchSpecRow.holds Tryd.pinned (OpenSpec.ofChange indexMergesMatchSpecWrong)

/-- 'ephemeralaw8.IndexMergesHaveAll': WHATEVER THE INPUT: true; the input reads as it did. -/
def indexMergesHaveAllSpec : ChangeSpec := { name := "indexMergesHaveAll", fn := fun _ => fun
  | [d] => { results := [.lit (.bool true)], args := [d] }
  | _ => none }
def indexMergesHaveAllRow : OpenClaim := { program := "ytdciogjhkckigaadoor", sum := "0ef9f5ef7b446a6457708b28219075a768cb86020c1fd97eee3b2b87cc3971eb", func := "ephemera/ephemeralaw8.IndexMergesHaveAll", spec := "indexMergesHaveAll", inPlace := ["internal/bytealg.IndexByteString", "internal/bytealg.IndexString", "internal/bytealg.abigen_runtime_cmpstring"], unfollowed := true, recurses := true, named := ["unicode/utf8.first", "unicode/utf8.acceptRanges", "internal/bytealg.MaxLen"], apart := false, laid := [("unicode/utf8.acceptRanges", laid_unicode_utf8_acceptRanges), ("unicode/utf8.first", laid_unicode_utf8_first)] }
def IndexMergesHaveAllSaid : Prop := indexMergesHaveAllRow.holds Tryd.pinned (OpenSpec.ofChange indexMergesHaveAllSpec)

/-- ITS FALSE NEIGHBOUR: 'it returns false'. Refute it at one input. -/
def indexMergesHaveAllWrong : ChangeSpec := { name := "indexMergesHaveAll", fn := fun _ => fun
  | [d] => { results := [.lit (.bool false)], args := [d] }
  | _ => none }
def IndexMergesHaveAllWrongFalsely : Prop := indexMergesHaveAllRow.holds Tryd.pinned (OpenSpec.ofChange indexMergesHaveAllWrong)

/-- 'ephemeralaw8.IndexChecksMatchSpec': WHATEVER THE INPUT: true; the input reads as it did. -/
def indexChecksMatchSpecSpec : ChangeSpec := { name := "indexChecksMatchSpec", fn := fun _ => fun
  | [d] => { results := [.lit (.bool true)], args := [d] }
  | _ => none }
def indexChecksMatchSpecRow : OpenClaim := { program := "ytdciogjhkckigaadoor", sum := "0ef9f5ef7b446a6457708b28219075a768cb86020c1fd97eee3b2b87cc3971eb", func := "ephemera/ephemeralaw8.IndexChecksMatchSpec", spec := "indexChecksMatchSpec", inPlace := ["internal/bytealg.IndexByteString", "internal/bytealg.IndexString", "internal/bytealg.abigen_runtime_cmpstring", "internal/abi.NoEscape", "internal/bytealg.MakeNoZero"], unfollowed := true, recurses := true, named := ["unicode/utf8.first", "unicode/utf8.acceptRanges", "internal/strconv.uint64pow10", "math/bits.deBruijn32tab", "math/bits.deBruijn64tab", "internal/bytealg.MaxLen"], apart := false, laid := [("math/bits.deBruijn32tab", laid_math_bits_deBruijn32tab), ("math/bits.deBruijn64tab", laid_math_bits_deBruijn64tab), ("internal/strconv.uint64pow10", laid_internal_strconv_uint64pow10), ("unicode/utf8.acceptRanges", laid_unicode_utf8_acceptRanges), ("unicode/utf8.first", laid_unicode_utf8_first)] }
def IndexChecksMatchSpecSaid : Prop := indexChecksMatchSpecRow.holds Tryd.pinned (OpenSpec.ofChange indexChecksMatchSpecSpec)

/-- ITS FALSE NEIGHBOUR: 'it returns false'. Refute it at one input. -/
def indexChecksMatchSpecWrong : ChangeSpec := { name := "indexChecksMatchSpec", fn := fun _ => fun
  | [d] => { results := [.lit (.bool false)], args := [d] }
  | _ => none }
def IndexChecksMatchSpecWrongFalsely : Prop := indexChecksMatchSpecRow.holds Tryd.pinned (OpenSpec.ofChange indexChecksMatchSpecWrong)

/- THE SECOND FORM. 'bulk': how many values and letters a reading holds, each counted each time it is reached (what is shared counts as often as it is met; a slice's spare places count too). A statement '..UptoSaid' is the law's where the arguments, and the package variables that the reading takes, are together of bulk at most 1048576: NARROWER than '..Said'. Prove '..Said' where nothing that the law and all that it calls make is longer than what came in: it says more and counts as full. Else prove '..UptoSaid'. A law counts once. -/
mutual
def uptoBulk {H : Type} : DataW H → Nat
  | .lit (.string bytes) => bytes.length + 1
  | .lit _ => 1
  | .nil => 1
  | .ptr d => uptoBulk d + 1
  | .slice elems spare => uptoBulkAll elems + uptoBulkAll spare + 1
  | .agg parts => uptoBulkAll parts + 1
  | .iface _ d => uptoBulk d + 1
  | .map entries => uptoBulkEntries entries + 1
  | .held _ => 1
def uptoBulkAll {H : Type} : List (DataW H) → Nat
  | [] => 0
  | d :: r => uptoBulk d + uptoBulkAll r
def uptoBulkEntries {H : Type} : List (Lit × DataW H) → Nat
  | [] => 0
  | x :: r => uptoBulkEntry x + uptoBulkEntries r
def uptoBulkEntry {H : Type} : Lit × DataW H → Nat
  | (.string bytes, d) => bytes.length + uptoBulk d + 1
  | (_, d) => uptoBulk d + 1
 end
def uptoSmall : (H : Type) → List (DataW H) → Bool := fun _ ds => decide (uptoBulkAll ds ≤ 1048576)
def OpenSpec.upto (s : _root_.Go.ChangeSpec) : _root_.Go.OpenSpec := { _root_.Go.OpenSpec.ofChange s with cond := some uptoSmall }

/-- 'ephemeralaw8.IndexLivesAddUp', WHERE WHAT IT READS IS OF BULK AT MOST 1048576: true; the input reads as it did. -/
def indexLivesAddUpUptoRow : OpenClaim := { program := "ytdciogjhkckigaadoor", sum := "0ef9f5ef7b446a6457708b28219075a768cb86020c1fd97eee3b2b87cc3971eb", func := "ephemera/ephemeralaw8.IndexLivesAddUp", spec := "indexLivesAddUp", inPlace := ["internal/bytealg.IndexByteString", "internal/bytealg.IndexString", "internal/bytealg.abigen_runtime_cmpstring"], unfollowed := true, recurses := true, named := ["unicode/utf8.first", "unicode/utf8.acceptRanges", "internal/bytealg.MaxLen"], apart := false, laid := [("unicode/utf8.acceptRanges", laid_unicode_utf8_acceptRanges), ("unicode/utf8.first", laid_unicode_utf8_first)], narrowed := true }
def IndexLivesAddUpUptoSaid : Prop := indexLivesAddUpUptoRow.holds Tryd.pinned (OpenSpec.upto indexLivesAddUpSpec)

/-- 'ephemeralaw8.IndexChangedStays', WHERE WHAT IT READS IS OF BULK AT MOST 1048576: true; the input reads as it did. -/
def indexChangedStaysUptoRow : OpenClaim := { program := "ytdciogjhkckigaadoor", sum := "0ef9f5ef7b446a6457708b28219075a768cb86020c1fd97eee3b2b87cc3971eb", func := "ephemera/ephemeralaw8.IndexChangedStays", spec := "indexChangedStays", inPlace := ["internal/bytealg.IndexByteString", "internal/bytealg.IndexString", "internal/bytealg.abigen_runtime_cmpstring"], unfollowed := true, recurses := true, named := ["unicode/utf8.first", "unicode/utf8.acceptRanges", "internal/bytealg.MaxLen"], apart := false, laid := [("unicode/utf8.acceptRanges", laid_unicode_utf8_acceptRanges), ("unicode/utf8.first", laid_unicode_utf8_first)], narrowed := true }
def IndexChangedStaysUptoSaid : Prop := indexChangedStaysUptoRow.holds Tryd.pinned (OpenSpec.upto indexChangedStaysSpec)

/-- 'ephemeralaw8.IndexPrefixPages', WHERE WHAT IT READS IS OF BULK AT MOST 1048576: true; the input reads as it did. -/
def indexPrefixPagesUptoRow : OpenClaim := { program := "ytdciogjhkckigaadoor", sum := "0ef9f5ef7b446a6457708b28219075a768cb86020c1fd97eee3b2b87cc3971eb", func := "ephemera/ephemeralaw8.IndexPrefixPages", spec := "indexPrefixPages", inPlace := ["internal/bytealg.IndexByteString", "internal/bytealg.IndexString", "internal/bytealg.abigen_runtime_cmpstring"], unfollowed := true, recurses := true, named := ["unicode/utf8.first", "unicode/utf8.acceptRanges", "internal/bytealg.MaxLen"], apart := false, laid := [("unicode/utf8.acceptRanges", laid_unicode_utf8_acceptRanges), ("unicode/utf8.first", laid_unicode_utf8_first)], narrowed := true }
def IndexPrefixPagesUptoSaid : Prop := indexPrefixPagesUptoRow.holds Tryd.pinned (OpenSpec.upto indexPrefixPagesSpec)

/-- 'ephemeralaw8.IndexNearIsNearest', WHERE WHAT IT READS IS OF BULK AT MOST 1048576: true; the input reads as it did. -/
def indexNearIsNearestUptoRow : OpenClaim := { program := "ytdciogjhkckigaadoor", sum := "0ef9f5ef7b446a6457708b28219075a768cb86020c1fd97eee3b2b87cc3971eb", func := "ephemera/ephemeralaw8.IndexNearIsNearest", spec := "indexNearIsNearest", inPlace := ["internal/bytealg.IndexByteString", "internal/bytealg.IndexString", "internal/bytealg.abigen_runtime_cmpstring"], unfollowed := true, recurses := true, named := ["unicode/utf8.first", "unicode/utf8.acceptRanges", "internal/bytealg.MaxLen"], apart := false, laid := [("unicode/utf8.acceptRanges", laid_unicode_utf8_acceptRanges), ("unicode/utf8.first", laid_unicode_utf8_first)], narrowed := true }
def IndexNearIsNearestUptoSaid : Prop := indexNearIsNearestUptoRow.holds Tryd.pinned (OpenSpec.upto indexNearIsNearestSpec)

/-- 'ephemeralaw8.IndexPrefixesMatchSpec', WHERE WHAT IT READS IS OF BULK AT MOST 1048576: true; the input reads as it did. -/
def indexPrefixesMatchSpecUptoRow : OpenClaim := { program := "ytdciogjhkckigaadoor", sum := "0ef9f5ef7b446a6457708b28219075a768cb86020c1fd97eee3b2b87cc3971eb", func := "ephemera/ephemeralaw8.IndexPrefixesMatchSpec", spec := "indexPrefixesMatchSpec", inPlace := ["internal/bytealg.IndexByteString", "internal/bytealg.IndexString", "internal/bytealg.abigen_runtime_cmpstring"], unfollowed := true, recurses := true, named := ["unicode/utf8.first", "unicode/utf8.acceptRanges", "internal/bytealg.MaxLen"], apart := false, laid := [("unicode/utf8.acceptRanges", laid_unicode_utf8_acceptRanges), ("unicode/utf8.first", laid_unicode_utf8_first)], narrowed := true }
def IndexPrefixesMatchSpecUptoSaid : Prop := indexPrefixesMatchSpecUptoRow.holds Tryd.pinned (OpenSpec.upto indexPrefixesMatchSpecSpec)

/-- 'ephemeralaw8.IndexFindsMatchSpec', WHERE WHAT IT READS IS OF BULK AT MOST 1048576: true; the input reads as it did. -/
def indexFindsMatchSpecUptoRow : OpenClaim := { program := "ytdciogjhkckigaadoor", sum := "0ef9f5ef7b446a6457708b28219075a768cb86020c1fd97eee3b2b87cc3971eb", func := "ephemera/ephemeralaw8.IndexFindsMatchSpec", spec := "indexFindsMatchSpec", inPlace := ["internal/bytealg.IndexByteString", "internal/bytealg.IndexString", "internal/bytealg.abigen_runtime_cmpstring"], unfollowed := true, recurses := true, named := ["unicode/utf8.first", "unicode/utf8.acceptRanges", "internal/bytealg.MaxLen"], apart := false, laid := [("unicode/utf8.acceptRanges", laid_unicode_utf8_acceptRanges), ("unicode/utf8.first", laid_unicode_utf8_first)], narrowed := true }
def IndexFindsMatchSpecUptoSaid : Prop := indexFindsMatchSpecUptoRow.holds Tryd.pinned (OpenSpec.upto indexFindsMatchSpecSpec)

/-- 'ephemeralaw9.ReplayDaysAddUp', WHERE WHAT IT READS IS OF BULK AT MOST 1048576: true; the input reads as it did. -/
def replayDaysAddUpUptoRow : OpenClaim := { program := "ytdciogjhkckigaadoor", sum := "0ef9f5ef7b446a6457708b28219075a768cb86020c1fd97eee3b2b87cc3971eb", func := "ephemera/ephemeralaw9.ReplayDaysAddUp", spec := "replayDaysAddUp", inPlace := ["internal/bytealg.IndexByteString", "internal/bytealg.IndexString", "internal/bytealg.abigen_runtime_cmpstring"], unfollowed := true, recurses := true, named := ["unicode/utf8.first", "unicode/utf8.acceptRanges", "internal/bytealg.MaxLen"], apart := false, laid := [("unicode/utf8.acceptRanges", laid_unicode_utf8_acceptRanges), ("unicode/utf8.first", laid_unicode_utf8_first)], narrowed := true }
def ReplayDaysAddUpUptoSaid : Prop := replayDaysAddUpUptoRow.holds Tryd.pinned (OpenSpec.upto replayDaysAddUpSpec)

/-- 'ephemeralaw9.ReplayDaysMatchSpec', WHERE WHAT IT READS IS OF BULK AT MOST 1048576: true; the input reads as it did. -/
def replayDaysMatchSpecUptoRow : OpenClaim := { program := "ytdciogjhkckigaadoor", sum := "0ef9f5ef7b446a6457708b28219075a768cb86020c1fd97eee3b2b87cc3971eb", func := "ephemera/ephemeralaw9.ReplayDaysMatchSpec", spec := "replayDaysMatchSpec", inPlace := ["internal/bytealg.IndexByteString", "internal/bytealg.IndexString", "internal/bytealg.abigen_runtime_cmpstring"], unfollowed := true, recurses := true, named := ["unicode/utf8.first", "unicode/utf8.acceptRanges", "internal/bytealg.MaxLen"], apart := false, laid := [("unicode/utf8.acceptRanges", laid_unicode_utf8_acceptRanges), ("unicode/utf8.first", laid_unicode_utf8_first)], narrowed := true }
def ReplayDaysMatchSpecUptoSaid : Prop := replayDaysMatchSpecUptoRow.holds Tryd.pinned (OpenSpec.upto replayDaysMatchSpecSpec)

/-- 'ephemeralaw8.IndexMergesMatchSpec', WHERE WHAT IT READS IS OF BULK AT MOST 1048576: true; the input reads as it did. -/
def indexMergesMatchSpecUptoRow : OpenClaim := { program := "ytdciogjhkckigaadoor", sum := "0ef9f5ef7b446a6457708b28219075a768cb86020c1fd97eee3b2b87cc3971eb", func := "ephemera/ephemeralaw8.IndexMergesMatchSpec", spec := "indexMergesMatchSpec", inPlace := ["internal/bytealg.IndexByteString", "internal/bytealg.IndexString", "internal/bytealg.abigen_runtime_cmpstring"], unfollowed := true, recurses := true, named := ["unicode/utf8.first", "unicode/utf8.acceptRanges", "internal/bytealg.MaxLen"], apart := false, laid := [("unicode/utf8.acceptRanges", laid_unicode_utf8_acceptRanges), ("unicode/utf8.first", laid_unicode_utf8_first)], narrowed := true }
def IndexMergesMatchSpecUptoSaid : Prop := indexMergesMatchSpecUptoRow.holds Tryd.pinned (OpenSpec.upto indexMergesMatchSpecSpec)

/-- 'ephemeralaw8.IndexMergesHaveAll', WHERE WHAT IT READS IS OF BULK AT MOST 1048576: true; the input reads as it did. -/
def indexMergesHaveAllUptoRow : OpenClaim := { program := "ytdciogjhkckigaadoor", sum := "0ef9f5ef7b446a6457708b28219075a768cb86020c1fd97eee3b2b87cc3971eb", func := "ephemera/ephemeralaw8.IndexMergesHaveAll", spec := "indexMergesHaveAll", inPlace := ["internal/bytealg.IndexByteString", "internal/bytealg.IndexString", "internal/bytealg.abigen_runtime_cmpstring"], unfollowed := true, recurses := true, named := ["unicode/utf8.first", "unicode/utf8.acceptRanges", "internal/bytealg.MaxLen"], apart := false, laid := [("unicode/utf8.acceptRanges", laid_unicode_utf8_acceptRanges), ("unicode/utf8.first", laid_unicode_utf8_first)], narrowed := true }
def IndexMergesHaveAllUptoSaid : Prop := indexMergesHaveAllUptoRow.holds Tryd.pinned (OpenSpec.upto indexMergesHaveAllSpec)

/-- 'ephemeralaw8.IndexChecksMatchSpec', WHERE WHAT IT READS IS OF BULK AT MOST 1048576: true; the input reads as it did. -/
def indexChecksMatchSpecUptoRow : OpenClaim := { program := "ytdciogjhkckigaadoor", sum := "0ef9f5ef7b446a6457708b28219075a768cb86020c1fd97eee3b2b87cc3971eb", func := "ephemera/ephemeralaw8.IndexChecksMatchSpec", spec := "indexChecksMatchSpec", inPlace := ["internal/bytealg.IndexByteString", "internal/bytealg.IndexString", "internal/bytealg.abigen_runtime_cmpstring", "internal/abi.NoEscape", "internal/bytealg.MakeNoZero"], unfollowed := true, recurses := true, named := ["unicode/utf8.first", "unicode/utf8.acceptRanges", "internal/strconv.uint64pow10", "math/bits.deBruijn32tab", "math/bits.deBruijn64tab", "internal/bytealg.MaxLen"], apart := false, laid := [("math/bits.deBruijn32tab", laid_math_bits_deBruijn32tab), ("math/bits.deBruijn64tab", laid_math_bits_deBruijn64tab), ("internal/strconv.uint64pow10", laid_internal_strconv_uint64pow10), ("unicode/utf8.acceptRanges", laid_unicode_utf8_acceptRanges), ("unicode/utf8.first", laid_unicode_utf8_first)], narrowed := true }
def IndexChecksMatchSpecUptoSaid : Prop := indexChecksMatchSpecUptoRow.holds Tryd.pinned (OpenSpec.upto indexChecksMatchSpecSpec)

end Rows
end Go.Proofs.YtdciogjhkckigaaDoor
