/-
  NARROWER THAN 'FOR EVERY INPUT', by the rows' own cells (each row's printed sentence says how): TopParking: laid · StayPairs: laid · StayChecks: laid · StayUnpaid: laid · StayCounts: laid · StayTurns: laid · StayOnce: laid · StayPeaks: laid · StaySeconds: laid.
  DERIVED. THE GIVEN ROWS OF THIS SEAT. 9 by the template 'for every input the law returns true; each argument reads behind the call as it read before'; 0 by the template 'total and deterministic' (their statements: YtdoofgbeajkpaaaGreatDoorTotals.lean).
  GIVEN WITH THE SEED: the statements are not yours to turn. If you find one false, say at which input.
  Laid BY PROGRAM, IN A SANDBOX (cutbox-rows.mjs): the forced cells as the released guide's own fill.sh prints them over the translation f6b32aee86a63f9c… (all of the seat's roots in one cut). By AI agents, Wed Nov 11 2026. No macro, syntax, notation, axiom, sorry.
-/
import Derived.Test.YtdoofgbeajkpaaaGreatDoorChecked
import GoSem.Claim
import GoSem.ClaimJoined
import GoSem.ClaimMapViews
import Derived.JoinedTies
import Derived.KernelRfl
namespace Go.Proofs.YtdoofgbeajkpaaaGreatDoor
/- THE CELL 'sum', in the pinned program and in every row, IS THE sha256 OF THE DUMP (.gsa) THAT YtdoofgbeajkpaaaGreatDoorProg.lean LOADS. Nothing in Lean hashes anything: it is a label: what it is worth is what the hold of that sum in a sandbox is worth. -/
noncomputable def Tryz.pinned : Pinned := { name := "ytdoofgbeajkpaaagreatdoor", sum := "f6b32aee86a63f9cf95eb621c0879a41cb646868da68c2e5b344b9a90633848d", checked := Tryz.checked }
namespace Rows
def none {H : Type} : Left H := { results := [], args := [] }

/- WHAT THE LISTED PACKAGE-LEVEL VARIABLES READ AS WHEN THE CALL BEGINS. Each datum BY PROGRAM (the guide's laid-datum.mjs) off the statement by which the dump's own 'gosem.cut.vars' lays the variable. In a bare row this is a premise. The card (YtdoofgbeajkpaaaGreatDoorCards.lean) ties it to the program's text. -/
def laid_math_bits_deBruijn32tab {H : Type} : DataW H := .agg [.lit (.int .u8 0), .lit (.int .u8 1), .lit (.int .u8 28), .lit (.int .u8 2), .lit (.int .u8 29), .lit (.int .u8 14), .lit (.int .u8 24), .lit (.int .u8 3), .lit (.int .u8 30), .lit (.int .u8 22), .lit (.int .u8 20), .lit (.int .u8 15), .lit (.int .u8 25), .lit (.int .u8 17), .lit (.int .u8 4), .lit (.int .u8 8), .lit (.int .u8 31), .lit (.int .u8 27), .lit (.int .u8 13), .lit (.int .u8 23), .lit (.int .u8 21), .lit (.int .u8 19), .lit (.int .u8 16), .lit (.int .u8 7), .lit (.int .u8 26), .lit (.int .u8 12), .lit (.int .u8 18), .lit (.int .u8 6), .lit (.int .u8 11), .lit (.int .u8 5), .lit (.int .u8 10), .lit (.int .u8 9)]
def laid_math_bits_deBruijn64tab {H : Type} : DataW H := .agg [.lit (.int .u8 0), .lit (.int .u8 1), .lit (.int .u8 56), .lit (.int .u8 2), .lit (.int .u8 57), .lit (.int .u8 49), .lit (.int .u8 28), .lit (.int .u8 3), .lit (.int .u8 61), .lit (.int .u8 58), .lit (.int .u8 42), .lit (.int .u8 50), .lit (.int .u8 38), .lit (.int .u8 29), .lit (.int .u8 17), .lit (.int .u8 4), .lit (.int .u8 62), .lit (.int .u8 47), .lit (.int .u8 59), .lit (.int .u8 36), .lit (.int .u8 45), .lit (.int .u8 43), .lit (.int .u8 51), .lit (.int .u8 22), .lit (.int .u8 53), .lit (.int .u8 39), .lit (.int .u8 33), .lit (.int .u8 30), .lit (.int .u8 24), .lit (.int .u8 18), .lit (.int .u8 12), .lit (.int .u8 5), .lit (.int .u8 63), .lit (.int .u8 55), .lit (.int .u8 48), .lit (.int .u8 27), .lit (.int .u8 60), .lit (.int .u8 41), .lit (.int .u8 37), .lit (.int .u8 16), .lit (.int .u8 46), .lit (.int .u8 35), .lit (.int .u8 44), .lit (.int .u8 21), .lit (.int .u8 52), .lit (.int .u8 32), .lit (.int .u8 23), .lit (.int .u8 11), .lit (.int .u8 54), .lit (.int .u8 26), .lit (.int .u8 40), .lit (.int .u8 15), .lit (.int .u8 34), .lit (.int .u8 20), .lit (.int .u8 31), .lit (.int .u8 10), .lit (.int .u8 25), .lit (.int .u8 14), .lit (.int .u8 19), .lit (.int .u8 9), .lit (.int .u8 13), .lit (.int .u8 8), .lit (.int .u8 7), .lit (.int .u8 6)]
def laid_internal_strconv_uint64pow10 {H : Type} : DataW H := .agg [.lit (.int .u64 1), .lit (.int .u64 10), .lit (.int .u64 100), .lit (.int .u64 1000), .lit (.int .u64 10000), .lit (.int .u64 100000), .lit (.int .u64 1000000), .lit (.int .u64 10000000), .lit (.int .u64 100000000), .lit (.int .u64 1000000000), .lit (.int .u64 10000000000), .lit (.int .u64 100000000000), .lit (.int .u64 1000000000000), .lit (.int .u64 10000000000000), .lit (.int .u64 100000000000000), .lit (.int .u64 1000000000000000), .lit (.int .u64 10000000000000000), .lit (.int .u64 100000000000000000), .lit (.int .u64 1000000000000000000), .lit (.int .u64 10000000000000000000)]

/-- 'tollwaytop.TopParking': WHATEVER THE INPUT: true; the input reads as it did. -/
def topParkingSpec : ChangeSpec := { name := "topParking", fn := fun _ => fun
  | [d1, d2, d3, d4] => { results := [.lit (.bool true)], args := [d1, d2, d3, d4] }
  | _ => none }
def topParkingRow : OpenClaim := { program := "ytdoofgbeajkpaaagreatdoor", sum := "f6b32aee86a63f9cf95eb621c0879a41cb646868da68c2e5b344b9a90633848d", func := "tollway/tollwaytop.TopParking", spec := "topParking", inPlace := ["internal/abi.NoEscape", "internal/bytealg.MakeNoZero"], unfollowed := true, recurses := true, named := ["internal/strconv.uint64pow10", "math/bits.deBruijn32tab", "math/bits.deBruijn64tab"], plainKeys := false, apart := false, laid := [("math/bits.deBruijn32tab", laid_math_bits_deBruijn32tab), ("math/bits.deBruijn64tab", laid_math_bits_deBruijn64tab), ("internal/strconv.uint64pow10", laid_internal_strconv_uint64pow10)] }
def TopParkingSaid : Prop := topParkingRow.holds Tryz.pinned (OpenSpec.ofChange topParkingSpec)

/-- ITS FALSE NEIGHBOUR: 'it returns false'. Refute it at one input. -/
def topParkingWrong : ChangeSpec := { name := "topParking", fn := fun _ => fun
  | [d1, d2, d3, d4] => { results := [.lit (.bool false)], args := [d1, d2, d3, d4] }
  | _ => none }
def TopParkingWrongFalsely : Prop := topParkingRow.holds Tryz.pinned (OpenSpec.ofChange topParkingWrong)

/-- 'tollwaylaw30.StayPairs': WHATEVER THE INPUT: true; the input reads as it did. -/
def stayPairsSpec : ChangeSpec := { name := "stayPairs", fn := fun _ => fun
  | [d] => { results := [.lit (.bool true)], args := [d] }
  | _ => none }
def stayPairsRow : OpenClaim := { program := "ytdoofgbeajkpaaagreatdoor", sum := "f6b32aee86a63f9cf95eb621c0879a41cb646868da68c2e5b344b9a90633848d", func := "tollway/tollwaylaw30.StayPairs", spec := "stayPairs", inPlace := ["internal/abi.NoEscape", "internal/bytealg.MakeNoZero"], unfollowed := true, recurses := true, named := ["internal/strconv.uint64pow10", "math/bits.deBruijn32tab", "math/bits.deBruijn64tab"], plainKeys := false, apart := false, laid := [("math/bits.deBruijn32tab", laid_math_bits_deBruijn32tab), ("math/bits.deBruijn64tab", laid_math_bits_deBruijn64tab), ("internal/strconv.uint64pow10", laid_internal_strconv_uint64pow10)] }
def StayPairsSaid : Prop := stayPairsRow.holds Tryz.pinned (OpenSpec.ofChange stayPairsSpec)

/-- ITS FALSE NEIGHBOUR: 'it returns false'. Refute it at one input. -/
def stayPairsWrong : ChangeSpec := { name := "stayPairs", fn := fun _ => fun
  | [d] => { results := [.lit (.bool false)], args := [d] }
  | _ => none }
def StayPairsWrongFalsely : Prop := stayPairsRow.holds Tryz.pinned (OpenSpec.ofChange stayPairsWrong)

/-- 'tollwaylaw30.StayChecks': WHATEVER THE INPUT: true; the input reads as it did. -/
def stayChecksSpec : ChangeSpec := { name := "stayChecks", fn := fun _ => fun
  | [d1, d2] => { results := [.lit (.bool true)], args := [d1, d2] }
  | _ => none }
def stayChecksRow : OpenClaim := { program := "ytdoofgbeajkpaaagreatdoor", sum := "f6b32aee86a63f9cf95eb621c0879a41cb646868da68c2e5b344b9a90633848d", func := "tollway/tollwaylaw30.StayChecks", spec := "stayChecks", inPlace := ["internal/abi.NoEscape", "internal/bytealg.MakeNoZero"], unfollowed := true, recurses := true, named := ["internal/strconv.uint64pow10", "math/bits.deBruijn32tab", "math/bits.deBruijn64tab"], plainKeys := false, apart := false, laid := [("math/bits.deBruijn32tab", laid_math_bits_deBruijn32tab), ("math/bits.deBruijn64tab", laid_math_bits_deBruijn64tab), ("internal/strconv.uint64pow10", laid_internal_strconv_uint64pow10)] }
def StayChecksSaid : Prop := stayChecksRow.holds Tryz.pinned (OpenSpec.ofChange stayChecksSpec)

/-- ITS FALSE NEIGHBOUR: 'it returns false'. Refute it at one input. -/
def stayChecksWrong : ChangeSpec := { name := "stayChecks", fn := fun _ => fun
  | [d1, d2] => { results := [.lit (.bool false)], args := [d1, d2] }
  | _ => none }
def StayChecksWrongFalsely : Prop := stayChecksRow.holds Tryz.pinned (OpenSpec.ofChange stayChecksWrong)

/-- 'tollwaylaw30.StayUnpaid': WHATEVER THE INPUT: true; the input reads as it did. -/
def stayUnpaidSpec : ChangeSpec := { name := "stayUnpaid", fn := fun _ => fun
  | [d1, d2] => { results := [.lit (.bool true)], args := [d1, d2] }
  | _ => none }
def stayUnpaidRow : OpenClaim := { program := "ytdoofgbeajkpaaagreatdoor", sum := "f6b32aee86a63f9cf95eb621c0879a41cb646868da68c2e5b344b9a90633848d", func := "tollway/tollwaylaw30.StayUnpaid", spec := "stayUnpaid", inPlace := ["internal/abi.NoEscape", "internal/bytealg.MakeNoZero"], unfollowed := true, recurses := true, named := ["internal/strconv.uint64pow10", "math/bits.deBruijn32tab", "math/bits.deBruijn64tab"], plainKeys := false, apart := false, laid := [("math/bits.deBruijn32tab", laid_math_bits_deBruijn32tab), ("math/bits.deBruijn64tab", laid_math_bits_deBruijn64tab), ("internal/strconv.uint64pow10", laid_internal_strconv_uint64pow10)] }
def StayUnpaidSaid : Prop := stayUnpaidRow.holds Tryz.pinned (OpenSpec.ofChange stayUnpaidSpec)

/-- ITS FALSE NEIGHBOUR: 'it returns false'. Refute it at one input. -/
def stayUnpaidWrong : ChangeSpec := { name := "stayUnpaid", fn := fun _ => fun
  | [d1, d2] => { results := [.lit (.bool false)], args := [d1, d2] }
  | _ => none }
def StayUnpaidWrongFalsely : Prop := stayUnpaidRow.holds Tryz.pinned (OpenSpec.ofChange stayUnpaidWrong)

/-- 'tollwaylaw30.StayCounts': WHATEVER THE INPUT: true; the input reads as it did. -/
def stayCountsSpec : ChangeSpec := { name := "stayCounts", fn := fun _ => fun
  | [d1, d2, d3] => { results := [.lit (.bool true)], args := [d1, d2, d3] }
  | _ => none }
def stayCountsRow : OpenClaim := { program := "ytdoofgbeajkpaaagreatdoor", sum := "f6b32aee86a63f9cf95eb621c0879a41cb646868da68c2e5b344b9a90633848d", func := "tollway/tollwaylaw30.StayCounts", spec := "stayCounts", inPlace := ["internal/abi.NoEscape", "internal/bytealg.MakeNoZero"], unfollowed := true, recurses := true, named := ["internal/strconv.uint64pow10", "math/bits.deBruijn32tab", "math/bits.deBruijn64tab"], plainKeys := false, apart := false, laid := [("math/bits.deBruijn32tab", laid_math_bits_deBruijn32tab), ("math/bits.deBruijn64tab", laid_math_bits_deBruijn64tab), ("internal/strconv.uint64pow10", laid_internal_strconv_uint64pow10)] }
def StayCountsSaid : Prop := stayCountsRow.holds Tryz.pinned (OpenSpec.ofChange stayCountsSpec)

/-- ITS FALSE NEIGHBOUR: 'it returns false'. Refute it at one input. -/
def stayCountsWrong : ChangeSpec := { name := "stayCounts", fn := fun _ => fun
  | [d1, d2, d3] => { results := [.lit (.bool false)], args := [d1, d2, d3] }
  | _ => none }
def StayCountsWrongFalsely : Prop := stayCountsRow.holds Tryz.pinned (OpenSpec.ofChange stayCountsWrong)

/-- 'tollwaylaw30.StayTurns': WHATEVER THE INPUT: true; the input reads as it did. -/
def stayTurnsSpec : ChangeSpec := { name := "stayTurns", fn := fun _ => fun
  | [d1, d2] => { results := [.lit (.bool true)], args := [d1, d2] }
  | _ => none }
def stayTurnsRow : OpenClaim := { program := "ytdoofgbeajkpaaagreatdoor", sum := "f6b32aee86a63f9cf95eb621c0879a41cb646868da68c2e5b344b9a90633848d", func := "tollway/tollwaylaw30.StayTurns", spec := "stayTurns", inPlace := ["internal/abi.NoEscape", "internal/bytealg.MakeNoZero"], unfollowed := true, recurses := true, named := ["internal/strconv.uint64pow10", "math/bits.deBruijn32tab", "math/bits.deBruijn64tab"], plainKeys := false, apart := false, laid := [("math/bits.deBruijn32tab", laid_math_bits_deBruijn32tab), ("math/bits.deBruijn64tab", laid_math_bits_deBruijn64tab), ("internal/strconv.uint64pow10", laid_internal_strconv_uint64pow10)] }
def StayTurnsSaid : Prop := stayTurnsRow.holds Tryz.pinned (OpenSpec.ofChange stayTurnsSpec)

/-- ITS FALSE NEIGHBOUR: 'it returns false'. Refute it at one input. -/
def stayTurnsWrong : ChangeSpec := { name := "stayTurns", fn := fun _ => fun
  | [d1, d2] => { results := [.lit (.bool false)], args := [d1, d2] }
  | _ => none }
def StayTurnsWrongFalsely : Prop := stayTurnsRow.holds Tryz.pinned (OpenSpec.ofChange stayTurnsWrong)

/-- 'tollwaylaw30.StayOnce': WHATEVER THE INPUT: true; the input reads as it did. -/
def stayOnceSpec : ChangeSpec := { name := "stayOnce", fn := fun _ => fun
  | [d] => { results := [.lit (.bool true)], args := [d] }
  | _ => none }
def stayOnceRow : OpenClaim := { program := "ytdoofgbeajkpaaagreatdoor", sum := "f6b32aee86a63f9cf95eb621c0879a41cb646868da68c2e5b344b9a90633848d", func := "tollway/tollwaylaw30.StayOnce", spec := "stayOnce", inPlace := ["internal/abi.NoEscape", "internal/bytealg.MakeNoZero"], unfollowed := true, recurses := true, named := ["internal/strconv.uint64pow10", "math/bits.deBruijn32tab", "math/bits.deBruijn64tab"], plainKeys := false, apart := false, laid := [("math/bits.deBruijn32tab", laid_math_bits_deBruijn32tab), ("math/bits.deBruijn64tab", laid_math_bits_deBruijn64tab), ("internal/strconv.uint64pow10", laid_internal_strconv_uint64pow10)] }
def StayOnceSaid : Prop := stayOnceRow.holds Tryz.pinned (OpenSpec.ofChange stayOnceSpec)

/-- ITS FALSE NEIGHBOUR: 'it returns false'. Refute it at one input. -/
def stayOnceWrong : ChangeSpec := { name := "stayOnce", fn := fun _ => fun
  | [d] => { results := [.lit (.bool false)], args := [d] }
  | _ => none }
def StayOnceWrongFalsely : Prop := stayOnceRow.holds Tryz.pinned (OpenSpec.ofChange stayOnceWrong)

/-- 'tollwaylaw30.StayPeaks': WHATEVER THE INPUT: true; the input reads as it did. -/
def stayPeaksSpec : ChangeSpec := { name := "stayPeaks", fn := fun _ => fun
  | [d1, d2, d3] => { results := [.lit (.bool true)], args := [d1, d2, d3] }
  | _ => none }
def stayPeaksRow : OpenClaim := { program := "ytdoofgbeajkpaaagreatdoor", sum := "f6b32aee86a63f9cf95eb621c0879a41cb646868da68c2e5b344b9a90633848d", func := "tollway/tollwaylaw30.StayPeaks", spec := "stayPeaks", inPlace := ["internal/abi.NoEscape", "internal/bytealg.MakeNoZero"], unfollowed := true, recurses := true, named := ["internal/strconv.uint64pow10", "math/bits.deBruijn32tab", "math/bits.deBruijn64tab"], plainKeys := false, apart := false, laid := [("math/bits.deBruijn32tab", laid_math_bits_deBruijn32tab), ("math/bits.deBruijn64tab", laid_math_bits_deBruijn64tab), ("internal/strconv.uint64pow10", laid_internal_strconv_uint64pow10)] }
def StayPeaksSaid : Prop := stayPeaksRow.holds Tryz.pinned (OpenSpec.ofChange stayPeaksSpec)

/-- ITS FALSE NEIGHBOUR: 'it returns false'. Refute it at one input. -/
def stayPeaksWrong : ChangeSpec := { name := "stayPeaks", fn := fun _ => fun
  | [d1, d2, d3] => { results := [.lit (.bool false)], args := [d1, d2, d3] }
  | _ => none }
def StayPeaksWrongFalsely : Prop := stayPeaksRow.holds Tryz.pinned (OpenSpec.ofChange stayPeaksWrong)

/-- 'tollwaylaw30.StaySeconds': WHATEVER THE INPUT: true; the input reads as it did. -/
def staySecondsSpec : ChangeSpec := { name := "staySeconds", fn := fun _ => fun
  | [d1, d2, d3] => { results := [.lit (.bool true)], args := [d1, d2, d3] }
  | _ => none }
def staySecondsRow : OpenClaim := { program := "ytdoofgbeajkpaaagreatdoor", sum := "f6b32aee86a63f9cf95eb621c0879a41cb646868da68c2e5b344b9a90633848d", func := "tollway/tollwaylaw30.StaySeconds", spec := "staySeconds", inPlace := ["internal/abi.NoEscape", "internal/bytealg.MakeNoZero"], unfollowed := true, recurses := true, named := ["internal/strconv.uint64pow10", "math/bits.deBruijn32tab", "math/bits.deBruijn64tab"], plainKeys := false, apart := false, laid := [("math/bits.deBruijn32tab", laid_math_bits_deBruijn32tab), ("math/bits.deBruijn64tab", laid_math_bits_deBruijn64tab), ("internal/strconv.uint64pow10", laid_internal_strconv_uint64pow10)] }
def StaySecondsSaid : Prop := staySecondsRow.holds Tryz.pinned (OpenSpec.ofChange staySecondsSpec)

/-- ITS FALSE NEIGHBOUR: 'it returns false'. Refute it at one input. -/
def staySecondsWrong : ChangeSpec := { name := "staySeconds", fn := fun _ => fun
  | [d1, d2, d3] => { results := [.lit (.bool false)], args := [d1, d2, d3] }
  | _ => none }
def StaySecondsWrongFalsely : Prop := staySecondsRow.holds Tryz.pinned (OpenSpec.ofChange staySecondsWrong)

/- THE SECOND FORM. 'bulk': how many values and letters a reading holds, each counted each time it is reached (what is shared counts as often as it is met; a slice's spare places count too). A statement '..UptoSaid' is the law's where the arguments, and the package variables that the reading takes, are together of bulk at most 1048576: NARROWER than '..Said'. Prove '..Said' where nothing that the law and all that it calls make is longer than what came in: it says more and counts as full. Else prove '..UptoSaid'. A law counts once. -/
mutual
def uptoBulk {H : Type} : DataW H → Nat
  | .lit (.string bytes) => bytes.length + 1
  | .lit _ => 1
  | .nil => 1
  | .ptr d => uptoBulk d + 1
  | .slice elems spare => uptoBulkAll elems + uptoBulkAll spare + 1
  | .agg parts => uptoBulkAll parts + 1
  | .iface _ d => uptoBulk d + 1
  | .map entries => uptoBulkEntries entries + 1
  | .held _ => 1
def uptoBulkAll {H : Type} : List (DataW H) → Nat
  | [] => 0
  | d :: r => uptoBulk d + uptoBulkAll r
def uptoBulkEntries {H : Type} : List (Lit × DataW H) → Nat
  | [] => 0
  | x :: r => uptoBulkEntry x + uptoBulkEntries r
def uptoBulkEntry {H : Type} : Lit × DataW H → Nat
  | (.string bytes, d) => bytes.length + uptoBulk d + 1
  | (_, d) => uptoBulk d + 1
 end
def uptoSmall : (H : Type) → List (DataW H) → Bool := fun _ ds => decide (uptoBulkAll ds ≤ 1048576)
def OpenSpec.upto (s : _root_.Go.ChangeSpec) : _root_.Go.OpenSpec := { _root_.Go.OpenSpec.ofChange s with cond := some uptoSmall }

/-- 'tollwaytop.TopParking', WHERE WHAT IT READS IS OF BULK AT MOST 1048576: true; the input reads as it did. -/
def topParkingUptoRow : OpenClaim := { program := "ytdoofgbeajkpaaagreatdoor", sum := "f6b32aee86a63f9cf95eb621c0879a41cb646868da68c2e5b344b9a90633848d", func := "tollway/tollwaytop.TopParking", spec := "topParking", inPlace := ["internal/abi.NoEscape", "internal/bytealg.MakeNoZero"], unfollowed := true, recurses := true, named := ["internal/strconv.uint64pow10", "math/bits.deBruijn32tab", "math/bits.deBruijn64tab"], plainKeys := false, apart := false, laid := [("math/bits.deBruijn32tab", laid_math_bits_deBruijn32tab), ("math/bits.deBruijn64tab", laid_math_bits_deBruijn64tab), ("internal/strconv.uint64pow10", laid_internal_strconv_uint64pow10)], narrowed := true }
def TopParkingUptoSaid : Prop := topParkingUptoRow.holds Tryz.pinned (OpenSpec.upto topParkingSpec)

/-- 'tollwaylaw30.StayPairs', WHERE WHAT IT READS IS OF BULK AT MOST 1048576: true; the input reads as it did. -/
def stayPairsUptoRow : OpenClaim := { program := "ytdoofgbeajkpaaagreatdoor", sum := "f6b32aee86a63f9cf95eb621c0879a41cb646868da68c2e5b344b9a90633848d", func := "tollway/tollwaylaw30.StayPairs", spec := "stayPairs", inPlace := ["internal/abi.NoEscape", "internal/bytealg.MakeNoZero"], unfollowed := true, recurses := true, named := ["internal/strconv.uint64pow10", "math/bits.deBruijn32tab", "math/bits.deBruijn64tab"], plainKeys := false, apart := false, laid := [("math/bits.deBruijn32tab", laid_math_bits_deBruijn32tab), ("math/bits.deBruijn64tab", laid_math_bits_deBruijn64tab), ("internal/strconv.uint64pow10", laid_internal_strconv_uint64pow10)], narrowed := true }
def StayPairsUptoSaid : Prop := stayPairsUptoRow.holds Tryz.pinned (OpenSpec.upto stayPairsSpec)

/-- 'tollwaylaw30.StayChecks', WHERE WHAT IT READS IS OF BULK AT MOST 1048576: true; the input reads as it did. -/
def stayChecksUptoRow : OpenClaim := { program := "ytdoofgbeajkpaaagreatdoor", sum := "f6b32aee86a63f9cf95eb621c0879a41cb646868da68c2e5b344b9a90633848d", func := "tollway/tollwaylaw30.StayChecks", spec := "stayChecks", inPlace := ["internal/abi.NoEscape", "internal/bytealg.MakeNoZero"], unfollowed := true, recurses := true, named := ["internal/strconv.uint64pow10", "math/bits.deBruijn32tab", "math/bits.deBruijn64tab"], plainKeys := false, apart := false, laid := [("math/bits.deBruijn32tab", laid_math_bits_deBruijn32tab), ("math/bits.deBruijn64tab", laid_math_bits_deBruijn64tab), ("internal/strconv.uint64pow10", laid_internal_strconv_uint64pow10)], narrowed := true }
def StayChecksUptoSaid : Prop := stayChecksUptoRow.holds Tryz.pinned (OpenSpec.upto stayChecksSpec)

/-- 'tollwaylaw30.StayUnpaid', WHERE WHAT IT READS IS OF BULK AT MOST 1048576: true; the input reads as it did. -/
def stayUnpaidUptoRow : OpenClaim := { program := "ytdoofgbeajkpaaagreatdoor", sum := "f6b32aee86a63f9cf95eb621c0879a41cb646868da68c2e5b344b9a90633848d", func := "tollway/tollwaylaw30.StayUnpaid", spec := "stayUnpaid", inPlace := ["internal/abi.NoEscape", "internal/bytealg.MakeNoZero"], unfollowed := true, recurses := true, named := ["internal/strconv.uint64pow10", "math/bits.deBruijn32tab", "math/bits.deBruijn64tab"], plainKeys := false, apart := false, laid := [("math/bits.deBruijn32tab", laid_math_bits_deBruijn32tab), ("math/bits.deBruijn64tab", laid_math_bits_deBruijn64tab), ("internal/strconv.uint64pow10", laid_internal_strconv_uint64pow10)], narrowed := true }
def StayUnpaidUptoSaid : Prop := stayUnpaidUptoRow.holds Tryz.pinned (OpenSpec.upto stayUnpaidSpec)

/-- 'tollwaylaw30.StayCounts', WHERE WHAT IT READS IS OF BULK AT MOST 1048576: true; the input reads as it did. -/
def stayCountsUptoRow : OpenClaim := { program := "ytdoofgbeajkpaaagreatdoor", sum := "f6b32aee86a63f9cf95eb621c0879a41cb646868da68c2e5b344b9a90633848d", func := "tollway/tollwaylaw30.StayCounts", spec := "stayCounts", inPlace := ["internal/abi.NoEscape", "internal/bytealg.MakeNoZero"], unfollowed := true, recurses := true, named := ["internal/strconv.uint64pow10", "math/bits.deBruijn32tab", "math/bits.deBruijn64tab"], plainKeys := false, apart := false, laid := [("math/bits.deBruijn32tab", laid_math_bits_deBruijn32tab), ("math/bits.deBruijn64tab", laid_math_bits_deBruijn64tab), ("internal/strconv.uint64pow10", laid_internal_strconv_uint64pow10)], narrowed := true }
def StayCountsUptoSaid : Prop := stayCountsUptoRow.holds Tryz.pinned (OpenSpec.upto stayCountsSpec)

/-- 'tollwaylaw30.StayTurns', WHERE WHAT IT READS IS OF BULK AT MOST 1048576: true; the input reads as it did. -/
def stayTurnsUptoRow : OpenClaim := { program := "ytdoofgbeajkpaaagreatdoor", sum := "f6b32aee86a63f9cf95eb621c0879a41cb646868da68c2e5b344b9a90633848d", func := "tollway/tollwaylaw30.StayTurns", spec := "stayTurns", inPlace := ["internal/abi.NoEscape", "internal/bytealg.MakeNoZero"], unfollowed := true, recurses := true, named := ["internal/strconv.uint64pow10", "math/bits.deBruijn32tab", "math/bits.deBruijn64tab"], plainKeys := false, apart := false, laid := [("math/bits.deBruijn32tab", laid_math_bits_deBruijn32tab), ("math/bits.deBruijn64tab", laid_math_bits_deBruijn64tab), ("internal/strconv.uint64pow10", laid_internal_strconv_uint64pow10)], narrowed := true }
def StayTurnsUptoSaid : Prop := stayTurnsUptoRow.holds Tryz.pinned (OpenSpec.upto stayTurnsSpec)

/-- 'tollwaylaw30.StayOnce', WHERE WHAT IT READS IS OF BULK AT MOST 1048576: true; the input reads as it did. -/
def stayOnceUptoRow : OpenClaim := { program := "ytdoofgbeajkpaaagreatdoor", sum := "f6b32aee86a63f9cf95eb621c0879a41cb646868da68c2e5b344b9a90633848d", func := "tollway/tollwaylaw30.StayOnce", spec := "stayOnce", inPlace := ["internal/abi.NoEscape", "internal/bytealg.MakeNoZero"], unfollowed := true, recurses := true, named := ["internal/strconv.uint64pow10", "math/bits.deBruijn32tab", "math/bits.deBruijn64tab"], plainKeys := false, apart := false, laid := [("math/bits.deBruijn32tab", laid_math_bits_deBruijn32tab), ("math/bits.deBruijn64tab", laid_math_bits_deBruijn64tab), ("internal/strconv.uint64pow10", laid_internal_strconv_uint64pow10)], narrowed := true }
def StayOnceUptoSaid : Prop := stayOnceUptoRow.holds Tryz.pinned (OpenSpec.upto stayOnceSpec)

/-- 'tollwaylaw30.StayPeaks', WHERE WHAT IT READS IS OF BULK AT MOST 1048576: true; the input reads as it did. -/
def stayPeaksUptoRow : OpenClaim := { program := "ytdoofgbeajkpaaagreatdoor", sum := "f6b32aee86a63f9cf95eb621c0879a41cb646868da68c2e5b344b9a90633848d", func := "tollway/tollwaylaw30.StayPeaks", spec := "stayPeaks", inPlace := ["internal/abi.NoEscape", "internal/bytealg.MakeNoZero"], unfollowed := true, recurses := true, named := ["internal/strconv.uint64pow10", "math/bits.deBruijn32tab", "math/bits.deBruijn64tab"], plainKeys := false, apart := false, laid := [("math/bits.deBruijn32tab", laid_math_bits_deBruijn32tab), ("math/bits.deBruijn64tab", laid_math_bits_deBruijn64tab), ("internal/strconv.uint64pow10", laid_internal_strconv_uint64pow10)], narrowed := true }
def StayPeaksUptoSaid : Prop := stayPeaksUptoRow.holds Tryz.pinned (OpenSpec.upto stayPeaksSpec)

/-- 'tollwaylaw30.StaySeconds', WHERE WHAT IT READS IS OF BULK AT MOST 1048576: true; the input reads as it did. -/
def staySecondsUptoRow : OpenClaim := { program := "ytdoofgbeajkpaaagreatdoor", sum := "f6b32aee86a63f9cf95eb621c0879a41cb646868da68c2e5b344b9a90633848d", func := "tollway/tollwaylaw30.StaySeconds", spec := "staySeconds", inPlace := ["internal/abi.NoEscape", "internal/bytealg.MakeNoZero"], unfollowed := true, recurses := true, named := ["internal/strconv.uint64pow10", "math/bits.deBruijn32tab", "math/bits.deBruijn64tab"], plainKeys := false, apart := false, laid := [("math/bits.deBruijn32tab", laid_math_bits_deBruijn32tab), ("math/bits.deBruijn64tab", laid_math_bits_deBruijn64tab), ("internal/strconv.uint64pow10", laid_internal_strconv_uint64pow10)], narrowed := true }
def StaySecondsUptoSaid : Prop := staySecondsUptoRow.holds Tryz.pinned (OpenSpec.upto staySecondsSpec)

end Rows
end Go.Proofs.YtdoofgbeajkpaaaGreatDoor
