/-
  NARROWER THAN 'FOR EVERY INPUT', by the rows' own cells (each row's printed sentence says how): AggOrders: laid · AggSums: laid · AggOnce: laid · AggOwn: laid · AggPlays: laid · AggNils: laid · AggGauges: laid · AggSamples: laid · AggShards: laid.
  DERIVED. THE GIVEN ROWS OF THIS SEAT. 9 by the template 'for every input the law returns true; each argument reads behind the call as it read before'; 0 by the template 'total and deterministic' (their statements: YthbjpoiolmlpmaaGreatDoorTotals.lean).
  GIVEN WITH THE SEED: the statements are not yours to turn. If you find one false, say at which input.
  Laid BY PROGRAM, IN A SANDBOX (cutbox-rows.mjs): the forced cells as the released guide's own fill.sh prints them over the translation 626ef240384d849c… (all of the seat's roots in one cut). By AI agents, Wed Nov 11 2026. No macro, syntax, notation, axiom, sorry.
-/
import Derived.Test.YthbjpoiolmlpmaaGreatDoorChecked
import GoSem.PinnedTables
import GoSem.Claim
import GoSem.ClaimJoined
import GoSem.ClaimMapViews
import Derived.JoinedTies
import Derived.KernelRfl
namespace Go.Proofs.YthbjpoiolmlpmaaGreatDoor
/- THE CELL 'sum', in the pinned program and in every row, IS THE sha256 OF THE DUMP (.gsa) THAT YthbjpoiolmlpmaaGreatDoorProg.lean LOADS. Nothing in Lean hashes anything: it is a label: what it is worth is what the hold of that sum in a sandbox is worth. -/
noncomputable def Tryz.pinned : Pinned := { name := "ythbjpoiolmlpmaagreatdoor", sum := "626ef240384d849ca9740be8f97589953d0686100fdc0d5f57b9ff52edf90d18", checked := Tryz.checked }
namespace Rows
def none {H : Type} : Left H := { results := [], args := [] }

/- WHAT THE LISTED PACKAGE-LEVEL VARIABLES READ AS WHEN THE CALL BEGINS. Each datum BY PROGRAM (the guide's laid-datum.mjs) off the statement by which the dump's own 'gosem.cut.vars' lays the variable. In a bare row this is a premise. The card (YthbjpoiolmlpmaaGreatDoorCards.lean) ties it to the program's text. -/
def laid_unicode_utf8_acceptRanges {H : Type} : DataW H := .agg [.agg [.lit (.int .u8 128), .lit (.int .u8 191)], .agg [.lit (.int .u8 160), .lit (.int .u8 191)], .agg [.lit (.int .u8 128), .lit (.int .u8 159)], .agg [.lit (.int .u8 144), .lit (.int .u8 191)], .agg [.lit (.int .u8 128), .lit (.int .u8 143)], .agg [.lit (.int .u8 0), .lit (.int .u8 0)], .agg [.lit (.int .u8 0), .lit (.int .u8 0)], .agg [.lit (.int .u8 0), .lit (.int .u8 0)], .agg [.lit (.int .u8 0), .lit (.int .u8 0)], .agg [.lit (.int .u8 0), .lit (.int .u8 0)], .agg [.lit (.int .u8 0), .lit (.int .u8 0)], .agg [.lit (.int .u8 0), .lit (.int .u8 0)], .agg [.lit (.int .u8 0), .lit (.int .u8 0)], .agg [.lit (.int .u8 0), .lit (.int .u8 0)], .agg [.lit (.int .u8 0), .lit (.int .u8 0)], .agg [.lit (.int .u8 0), .lit (.int .u8 0)]]
/-- One of Go's own tables, pinned by name: the form's constant. -/
def laid_unicode_utf8_first : DataW Unit := Go.Pinned.utf8First

/-- 'tumblerlaw08.AggOrders': WHATEVER THE INPUT: true; the input reads as it did. -/
def aggOrdersSpec : ChangeSpec := { name := "aggOrders", fn := fun _ => fun
  | [d1, d2] => { results := [.lit (.bool true)], args := [d1, d2] }
  | _ => none }
def aggOrdersRow : OpenClaim := { program := "ythbjpoiolmlpmaagreatdoor", sum := "626ef240384d849ca9740be8f97589953d0686100fdc0d5f57b9ff52edf90d18", func := "tumbler/tumblerlaw08.AggOrders", spec := "aggOrders", inPlace := ["internal/bytealg.CountString", "internal/bytealg.IndexByteString", "internal/bytealg.IndexString"], unfollowed := true, recurses := true, named := ["unicode/utf8.first", "unicode/utf8.acceptRanges", "internal/bytealg.MaxLen"], plainKeys := false, apart := false, laid := [("unicode/utf8.acceptRanges", laid_unicode_utf8_acceptRanges), ("unicode/utf8.first", laid_unicode_utf8_first)] }
def AggOrdersSaid : Prop := aggOrdersRow.holds Tryz.pinned (OpenSpec.ofChange aggOrdersSpec)

/-- ITS FALSE NEIGHBOUR: 'it returns false'. Refute it at one input. -/
def aggOrdersWrong : ChangeSpec := { name := "aggOrders", fn := fun _ => fun
  | [d1, d2] => { results := [.lit (.bool false)], args := [d1, d2] }
  | _ => none }
def AggOrdersWrongFalsely : Prop := aggOrdersRow.holds Tryz.pinned (OpenSpec.ofChange aggOrdersWrong)

/-- 'tumblerlaw08.AggSums': WHATEVER THE INPUT: true; the input reads as it did. -/
def aggSumsSpec : ChangeSpec := { name := "aggSums", fn := fun _ => fun
  | [d1, d2] => { results := [.lit (.bool true)], args := [d1, d2] }
  | _ => none }
def aggSumsRow : OpenClaim := { program := "ythbjpoiolmlpmaagreatdoor", sum := "626ef240384d849ca9740be8f97589953d0686100fdc0d5f57b9ff52edf90d18", func := "tumbler/tumblerlaw08.AggSums", spec := "aggSums", inPlace := ["internal/bytealg.CountString", "internal/bytealg.IndexByteString", "internal/bytealg.IndexString", "math/bits.Sub64", "math/bits.Add64"], unfollowed := true, recurses := true, named := ["unicode/utf8.first", "unicode/utf8.acceptRanges", "internal/bytealg.MaxLen"], plainKeys := false, apart := false, laid := [("unicode/utf8.acceptRanges", laid_unicode_utf8_acceptRanges), ("unicode/utf8.first", laid_unicode_utf8_first)] }
def AggSumsSaid : Prop := aggSumsRow.holds Tryz.pinned (OpenSpec.ofChange aggSumsSpec)

/-- ITS FALSE NEIGHBOUR: 'it returns false'. Refute it at one input. -/
def aggSumsWrong : ChangeSpec := { name := "aggSums", fn := fun _ => fun
  | [d1, d2] => { results := [.lit (.bool false)], args := [d1, d2] }
  | _ => none }
def AggSumsWrongFalsely : Prop := aggSumsRow.holds Tryz.pinned (OpenSpec.ofChange aggSumsWrong)

/-- 'tumblerlaw08.AggOnce': WHATEVER THE INPUT: true; the input reads as it did. -/
def aggOnceSpec : ChangeSpec := { name := "aggOnce", fn := fun _ => fun
  | [d] => { results := [.lit (.bool true)], args := [d] }
  | _ => none }
def aggOnceRow : OpenClaim := { program := "ythbjpoiolmlpmaagreatdoor", sum := "626ef240384d849ca9740be8f97589953d0686100fdc0d5f57b9ff52edf90d18", func := "tumbler/tumblerlaw08.AggOnce", spec := "aggOnce", inPlace := ["internal/bytealg.CountString", "internal/bytealg.IndexByteString", "internal/bytealg.IndexString"], unfollowed := true, recurses := true, named := ["unicode/utf8.first", "unicode/utf8.acceptRanges", "internal/bytealg.MaxLen"], plainKeys := false, apart := false, laid := [("unicode/utf8.acceptRanges", laid_unicode_utf8_acceptRanges), ("unicode/utf8.first", laid_unicode_utf8_first)] }
def AggOnceSaid : Prop := aggOnceRow.holds Tryz.pinned (OpenSpec.ofChange aggOnceSpec)

/-- ITS FALSE NEIGHBOUR: 'it returns false'. Refute it at one input. -/
def aggOnceWrong : ChangeSpec := { name := "aggOnce", fn := fun _ => fun
  | [d] => { results := [.lit (.bool false)], args := [d] }
  | _ => none }
def AggOnceWrongFalsely : Prop := aggOnceRow.holds Tryz.pinned (OpenSpec.ofChange aggOnceWrong)

/-- 'tumblerlaw08.AggOwn': WHATEVER THE INPUT: true; the input reads as it did. -/
def aggOwnSpec : ChangeSpec := { name := "aggOwn", fn := fun _ => fun
  | [d] => { results := [.lit (.bool true)], args := [d] }
  | _ => none }
def aggOwnRow : OpenClaim := { program := "ythbjpoiolmlpmaagreatdoor", sum := "626ef240384d849ca9740be8f97589953d0686100fdc0d5f57b9ff52edf90d18", func := "tumbler/tumblerlaw08.AggOwn", spec := "aggOwn", inPlace := ["internal/bytealg.CountString", "internal/bytealg.IndexByteString", "internal/bytealg.IndexString"], unfollowed := true, recurses := true, named := ["unicode/utf8.first", "unicode/utf8.acceptRanges", "internal/bytealg.MaxLen"], plainKeys := false, apart := false, laid := [("unicode/utf8.acceptRanges", laid_unicode_utf8_acceptRanges), ("unicode/utf8.first", laid_unicode_utf8_first)] }
def AggOwnSaid : Prop := aggOwnRow.holds Tryz.pinned (OpenSpec.ofChange aggOwnSpec)

/-- ITS FALSE NEIGHBOUR: 'it returns false'. Refute it at one input. -/
def aggOwnWrong : ChangeSpec := { name := "aggOwn", fn := fun _ => fun
  | [d] => { results := [.lit (.bool false)], args := [d] }
  | _ => none }
def AggOwnWrongFalsely : Prop := aggOwnRow.holds Tryz.pinned (OpenSpec.ofChange aggOwnWrong)

/-- 'tumblerlaw08.AggPlays': WHATEVER THE INPUT: true; the input reads as it did. -/
def aggPlaysSpec : ChangeSpec := { name := "aggPlays", fn := fun _ => fun
  | [d] => { results := [.lit (.bool true)], args := [d] }
  | _ => none }
def aggPlaysRow : OpenClaim := { program := "ythbjpoiolmlpmaagreatdoor", sum := "626ef240384d849ca9740be8f97589953d0686100fdc0d5f57b9ff52edf90d18", func := "tumbler/tumblerlaw08.AggPlays", spec := "aggPlays", inPlace := ["internal/bytealg.CountString", "internal/bytealg.IndexByteString", "internal/bytealg.IndexString"], unfollowed := true, recurses := true, named := ["unicode/utf8.first", "unicode/utf8.acceptRanges", "internal/bytealg.MaxLen"], plainKeys := false, apart := false, laid := [("unicode/utf8.acceptRanges", laid_unicode_utf8_acceptRanges), ("unicode/utf8.first", laid_unicode_utf8_first)] }
def AggPlaysSaid : Prop := aggPlaysRow.holds Tryz.pinned (OpenSpec.ofChange aggPlaysSpec)

/-- ITS FALSE NEIGHBOUR: 'it returns false'. Refute it at one input. -/
def aggPlaysWrong : ChangeSpec := { name := "aggPlays", fn := fun _ => fun
  | [d] => { results := [.lit (.bool false)], args := [d] }
  | _ => none }
def AggPlaysWrongFalsely : Prop := aggPlaysRow.holds Tryz.pinned (OpenSpec.ofChange aggPlaysWrong)

/-- 'tumblerlaw08.AggNils': WHATEVER THE INPUT: true; the input reads as it did. -/
def aggNilsSpec : ChangeSpec := { name := "aggNils", fn := fun _ => fun
  | [d1, d2] => { results := [.lit (.bool true)], args := [d1, d2] }
  | _ => none }
def aggNilsRow : OpenClaim := { program := "ythbjpoiolmlpmaagreatdoor", sum := "626ef240384d849ca9740be8f97589953d0686100fdc0d5f57b9ff52edf90d18", func := "tumbler/tumblerlaw08.AggNils", spec := "aggNils", inPlace := ["internal/bytealg.CountString", "internal/bytealg.IndexByteString", "internal/bytealg.IndexString"], unfollowed := true, recurses := true, named := ["unicode/utf8.first", "unicode/utf8.acceptRanges", "internal/bytealg.MaxLen"], plainKeys := false, apart := false, laid := [("unicode/utf8.acceptRanges", laid_unicode_utf8_acceptRanges), ("unicode/utf8.first", laid_unicode_utf8_first)] }
def AggNilsSaid : Prop := aggNilsRow.holds Tryz.pinned (OpenSpec.ofChange aggNilsSpec)

/-- ITS FALSE NEIGHBOUR: 'it returns false'. Refute it at one input. -/
def aggNilsWrong : ChangeSpec := { name := "aggNils", fn := fun _ => fun
  | [d1, d2] => { results := [.lit (.bool false)], args := [d1, d2] }
  | _ => none }
def AggNilsWrongFalsely : Prop := aggNilsRow.holds Tryz.pinned (OpenSpec.ofChange aggNilsWrong)

/-- 'tumblerlaw08.AggGauges': WHATEVER THE INPUT: true; the input reads as it did. -/
def aggGaugesSpec : ChangeSpec := { name := "aggGauges", fn := fun _ => fun
  | [d1, d2] => { results := [.lit (.bool true)], args := [d1, d2] }
  | _ => none }
def aggGaugesRow : OpenClaim := { program := "ythbjpoiolmlpmaagreatdoor", sum := "626ef240384d849ca9740be8f97589953d0686100fdc0d5f57b9ff52edf90d18", func := "tumbler/tumblerlaw08.AggGauges", spec := "aggGauges", inPlace := ["internal/bytealg.CountString", "internal/bytealg.IndexByteString", "internal/bytealg.IndexString", "math/bits.Add64"], unfollowed := true, recurses := true, named := ["unicode/utf8.first", "unicode/utf8.acceptRanges", "internal/bytealg.MaxLen"], plainKeys := false, apart := false, laid := [("unicode/utf8.acceptRanges", laid_unicode_utf8_acceptRanges), ("unicode/utf8.first", laid_unicode_utf8_first)] }
def AggGaugesSaid : Prop := aggGaugesRow.holds Tryz.pinned (OpenSpec.ofChange aggGaugesSpec)

/-- ITS FALSE NEIGHBOUR: 'it returns false'. Refute it at one input. -/
def aggGaugesWrong : ChangeSpec := { name := "aggGauges", fn := fun _ => fun
  | [d1, d2] => { results := [.lit (.bool false)], args := [d1, d2] }
  | _ => none }
def AggGaugesWrongFalsely : Prop := aggGaugesRow.holds Tryz.pinned (OpenSpec.ofChange aggGaugesWrong)

/-- 'tumblerlaw08.AggSamples': WHATEVER THE INPUT: true; the input reads as it did. -/
def aggSamplesSpec : ChangeSpec := { name := "aggSamples", fn := fun _ => fun
  | [d] => { results := [.lit (.bool true)], args := [d] }
  | _ => none }
def aggSamplesRow : OpenClaim := { program := "ythbjpoiolmlpmaagreatdoor", sum := "626ef240384d849ca9740be8f97589953d0686100fdc0d5f57b9ff52edf90d18", func := "tumbler/tumblerlaw08.AggSamples", spec := "aggSamples", inPlace := ["internal/bytealg.CountString", "internal/bytealg.IndexByteString", "internal/bytealg.IndexString", "math/bits.Add64"], unfollowed := true, recurses := true, named := ["unicode/utf8.first", "unicode/utf8.acceptRanges", "internal/bytealg.MaxLen"], plainKeys := false, apart := false, laid := [("unicode/utf8.acceptRanges", laid_unicode_utf8_acceptRanges), ("unicode/utf8.first", laid_unicode_utf8_first)] }
def AggSamplesSaid : Prop := aggSamplesRow.holds Tryz.pinned (OpenSpec.ofChange aggSamplesSpec)

/-- ITS FALSE NEIGHBOUR: 'it returns false'. Refute it at one input. -/
def aggSamplesWrong : ChangeSpec := { name := "aggSamples", fn := fun _ => fun
  | [d] => { results := [.lit (.bool false)], args := [d] }
  | _ => none }
def AggSamplesWrongFalsely : Prop := aggSamplesRow.holds Tryz.pinned (OpenSpec.ofChange aggSamplesWrong)

/-- 'tumblerlaw08.AggShards': WHATEVER THE INPUT: true; the input reads as it did. -/
def aggShardsSpec : ChangeSpec := { name := "aggShards", fn := fun _ => fun
  | [d1, d2] => { results := [.lit (.bool true)], args := [d1, d2] }
  | _ => none }
def aggShardsRow : OpenClaim := { program := "ythbjpoiolmlpmaagreatdoor", sum := "626ef240384d849ca9740be8f97589953d0686100fdc0d5f57b9ff52edf90d18", func := "tumbler/tumblerlaw08.AggShards", spec := "aggShards", inPlace := ["internal/bytealg.CountString", "internal/bytealg.IndexByteString", "internal/bytealg.IndexString"], unfollowed := true, recurses := true, named := ["unicode/utf8.first", "unicode/utf8.acceptRanges", "internal/bytealg.MaxLen"], plainKeys := false, apart := false, laid := [("unicode/utf8.acceptRanges", laid_unicode_utf8_acceptRanges), ("unicode/utf8.first", laid_unicode_utf8_first)] }
def AggShardsSaid : Prop := aggShardsRow.holds Tryz.pinned (OpenSpec.ofChange aggShardsSpec)

/-- ITS FALSE NEIGHBOUR: 'it returns false'. Refute it at one input. -/
def aggShardsWrong : ChangeSpec := { name := "aggShards", fn := fun _ => fun
  | [d1, d2] => { results := [.lit (.bool false)], args := [d1, d2] }
  | _ => none }
def AggShardsWrongFalsely : Prop := aggShardsRow.holds Tryz.pinned (OpenSpec.ofChange aggShardsWrong)

/- THE SECOND FORM. 'bulk': how many values and letters a reading holds, each counted each time it is reached (what is shared counts as often as it is met; a slice's spare places count too). A statement '..UptoSaid' is the law's where the arguments, and the package variables that the reading takes, are together of bulk at most 1048576: NARROWER than '..Said'. Prove '..Said' where nothing that the law and all that it calls make is longer than what came in: it says more and counts as full. Else prove '..UptoSaid'. A law counts once. -/
mutual
def uptoBulk {H : Type} : DataW H → Nat
  | .lit (.string bytes) => bytes.length + 1
  | .lit _ => 1
  | .nil => 1
  | .ptr d => uptoBulk d + 1
  | .slice elems spare => uptoBulkAll elems + uptoBulkAll spare + 1
  | .agg parts => uptoBulkAll parts + 1
  | .iface _ d => uptoBulk d + 1
  | .map entries => uptoBulkEntries entries + 1
  | .held _ => 1
def uptoBulkAll {H : Type} : List (DataW H) → Nat
  | [] => 0
  | d :: r => uptoBulk d + uptoBulkAll r
def uptoBulkEntries {H : Type} : List (Lit × DataW H) → Nat
  | [] => 0
  | x :: r => uptoBulkEntry x + uptoBulkEntries r
def uptoBulkEntry {H : Type} : Lit × DataW H → Nat
  | (.string bytes, d) => bytes.length + uptoBulk d + 1
  | (_, d) => uptoBulk d + 1
 end
def uptoSmall : (H : Type) → List (DataW H) → Bool := fun _ ds => decide (uptoBulkAll ds ≤ 1048576)
def OpenSpec.upto (s : _root_.Go.ChangeSpec) : _root_.Go.OpenSpec := { _root_.Go.OpenSpec.ofChange s with cond := some uptoSmall }

/-- 'tumblerlaw08.AggOrders', WHERE WHAT IT READS IS OF BULK AT MOST 1048576: true; the input reads as it did. -/
def aggOrdersUptoRow : OpenClaim := { program := "ythbjpoiolmlpmaagreatdoor", sum := "626ef240384d849ca9740be8f97589953d0686100fdc0d5f57b9ff52edf90d18", func := "tumbler/tumblerlaw08.AggOrders", spec := "aggOrders", inPlace := ["internal/bytealg.CountString", "internal/bytealg.IndexByteString", "internal/bytealg.IndexString"], unfollowed := true, recurses := true, named := ["unicode/utf8.first", "unicode/utf8.acceptRanges", "internal/bytealg.MaxLen"], plainKeys := false, apart := false, laid := [("unicode/utf8.acceptRanges", laid_unicode_utf8_acceptRanges), ("unicode/utf8.first", laid_unicode_utf8_first)], narrowed := true }
def AggOrdersUptoSaid : Prop := aggOrdersUptoRow.holds Tryz.pinned (OpenSpec.upto aggOrdersSpec)

/-- 'tumblerlaw08.AggSums', WHERE WHAT IT READS IS OF BULK AT MOST 1048576: true; the input reads as it did. -/
def aggSumsUptoRow : OpenClaim := { program := "ythbjpoiolmlpmaagreatdoor", sum := "626ef240384d849ca9740be8f97589953d0686100fdc0d5f57b9ff52edf90d18", func := "tumbler/tumblerlaw08.AggSums", spec := "aggSums", inPlace := ["internal/bytealg.CountString", "internal/bytealg.IndexByteString", "internal/bytealg.IndexString", "math/bits.Sub64", "math/bits.Add64"], unfollowed := true, recurses := true, named := ["unicode/utf8.first", "unicode/utf8.acceptRanges", "internal/bytealg.MaxLen"], plainKeys := false, apart := false, laid := [("unicode/utf8.acceptRanges", laid_unicode_utf8_acceptRanges), ("unicode/utf8.first", laid_unicode_utf8_first)], narrowed := true }
def AggSumsUptoSaid : Prop := aggSumsUptoRow.holds Tryz.pinned (OpenSpec.upto aggSumsSpec)

/-- 'tumblerlaw08.AggOnce', WHERE WHAT IT READS IS OF BULK AT MOST 1048576: true; the input reads as it did. -/
def aggOnceUptoRow : OpenClaim := { program := "ythbjpoiolmlpmaagreatdoor", sum := "626ef240384d849ca9740be8f97589953d0686100fdc0d5f57b9ff52edf90d18", func := "tumbler/tumblerlaw08.AggOnce", spec := "aggOnce", inPlace := ["internal/bytealg.CountString", "internal/bytealg.IndexByteString", "internal/bytealg.IndexString"], unfollowed := true, recurses := true, named := ["unicode/utf8.first", "unicode/utf8.acceptRanges", "internal/bytealg.MaxLen"], plainKeys := false, apart := false, laid := [("unicode/utf8.acceptRanges", laid_unicode_utf8_acceptRanges), ("unicode/utf8.first", laid_unicode_utf8_first)], narrowed := true }
def AggOnceUptoSaid : Prop := aggOnceUptoRow.holds Tryz.pinned (OpenSpec.upto aggOnceSpec)

/-- 'tumblerlaw08.AggOwn', WHERE WHAT IT READS IS OF BULK AT MOST 1048576: true; the input reads as it did. -/
def aggOwnUptoRow : OpenClaim := { program := "ythbjpoiolmlpmaagreatdoor", sum := "626ef240384d849ca9740be8f97589953d0686100fdc0d5f57b9ff52edf90d18", func := "tumbler/tumblerlaw08.AggOwn", spec := "aggOwn", inPlace := ["internal/bytealg.CountString", "internal/bytealg.IndexByteString", "internal/bytealg.IndexString"], unfollowed := true, recurses := true, named := ["unicode/utf8.first", "unicode/utf8.acceptRanges", "internal/bytealg.MaxLen"], plainKeys := false, apart := false, laid := [("unicode/utf8.acceptRanges", laid_unicode_utf8_acceptRanges), ("unicode/utf8.first", laid_unicode_utf8_first)], narrowed := true }
def AggOwnUptoSaid : Prop := aggOwnUptoRow.holds Tryz.pinned (OpenSpec.upto aggOwnSpec)

/-- 'tumblerlaw08.AggPlays', WHERE WHAT IT READS IS OF BULK AT MOST 1048576: true; the input reads as it did. -/
def aggPlaysUptoRow : OpenClaim := { program := "ythbjpoiolmlpmaagreatdoor", sum := "626ef240384d849ca9740be8f97589953d0686100fdc0d5f57b9ff52edf90d18", func := "tumbler/tumblerlaw08.AggPlays", spec := "aggPlays", inPlace := ["internal/bytealg.CountString", "internal/bytealg.IndexByteString", "internal/bytealg.IndexString"], unfollowed := true, recurses := true, named := ["unicode/utf8.first", "unicode/utf8.acceptRanges", "internal/bytealg.MaxLen"], plainKeys := false, apart := false, laid := [("unicode/utf8.acceptRanges", laid_unicode_utf8_acceptRanges), ("unicode/utf8.first", laid_unicode_utf8_first)], narrowed := true }
def AggPlaysUptoSaid : Prop := aggPlaysUptoRow.holds Tryz.pinned (OpenSpec.upto aggPlaysSpec)

/-- 'tumblerlaw08.AggNils', WHERE WHAT IT READS IS OF BULK AT MOST 1048576: true; the input reads as it did. -/
def aggNilsUptoRow : OpenClaim := { program := "ythbjpoiolmlpmaagreatdoor", sum := "626ef240384d849ca9740be8f97589953d0686100fdc0d5f57b9ff52edf90d18", func := "tumbler/tumblerlaw08.AggNils", spec := "aggNils", inPlace := ["internal/bytealg.CountString", "internal/bytealg.IndexByteString", "internal/bytealg.IndexString"], unfollowed := true, recurses := true, named := ["unicode/utf8.first", "unicode/utf8.acceptRanges", "internal/bytealg.MaxLen"], plainKeys := false, apart := false, laid := [("unicode/utf8.acceptRanges", laid_unicode_utf8_acceptRanges), ("unicode/utf8.first", laid_unicode_utf8_first)], narrowed := true }
def AggNilsUptoSaid : Prop := aggNilsUptoRow.holds Tryz.pinned (OpenSpec.upto aggNilsSpec)

/-- 'tumblerlaw08.AggGauges', WHERE WHAT IT READS IS OF BULK AT MOST 1048576: true; the input reads as it did. -/
def aggGaugesUptoRow : OpenClaim := { program := "ythbjpoiolmlpmaagreatdoor", sum := "626ef240384d849ca9740be8f97589953d0686100fdc0d5f57b9ff52edf90d18", func := "tumbler/tumblerlaw08.AggGauges", spec := "aggGauges", inPlace := ["internal/bytealg.CountString", "internal/bytealg.IndexByteString", "internal/bytealg.IndexString", "math/bits.Add64"], unfollowed := true, recurses := true, named := ["unicode/utf8.first", "unicode/utf8.acceptRanges", "internal/bytealg.MaxLen"], plainKeys := false, apart := false, laid := [("unicode/utf8.acceptRanges", laid_unicode_utf8_acceptRanges), ("unicode/utf8.first", laid_unicode_utf8_first)], narrowed := true }
def AggGaugesUptoSaid : Prop := aggGaugesUptoRow.holds Tryz.pinned (OpenSpec.upto aggGaugesSpec)

/-- 'tumblerlaw08.AggSamples', WHERE WHAT IT READS IS OF BULK AT MOST 1048576: true; the input reads as it did. -/
def aggSamplesUptoRow : OpenClaim := { program := "ythbjpoiolmlpmaagreatdoor", sum := "626ef240384d849ca9740be8f97589953d0686100fdc0d5f57b9ff52edf90d18", func := "tumbler/tumblerlaw08.AggSamples", spec := "aggSamples", inPlace := ["internal/bytealg.CountString", "internal/bytealg.IndexByteString", "internal/bytealg.IndexString", "math/bits.Add64"], unfollowed := true, recurses := true, named := ["unicode/utf8.first", "unicode/utf8.acceptRanges", "internal/bytealg.MaxLen"], plainKeys := false, apart := false, laid := [("unicode/utf8.acceptRanges", laid_unicode_utf8_acceptRanges), ("unicode/utf8.first", laid_unicode_utf8_first)], narrowed := true }
def AggSamplesUptoSaid : Prop := aggSamplesUptoRow.holds Tryz.pinned (OpenSpec.upto aggSamplesSpec)

/-- 'tumblerlaw08.AggShards', WHERE WHAT IT READS IS OF BULK AT MOST 1048576: true; the input reads as it did. -/
def aggShardsUptoRow : OpenClaim := { program := "ythbjpoiolmlpmaagreatdoor", sum := "626ef240384d849ca9740be8f97589953d0686100fdc0d5f57b9ff52edf90d18", func := "tumbler/tumblerlaw08.AggShards", spec := "aggShards", inPlace := ["internal/bytealg.CountString", "internal/bytealg.IndexByteString", "internal/bytealg.IndexString"], unfollowed := true, recurses := true, named := ["unicode/utf8.first", "unicode/utf8.acceptRanges", "internal/bytealg.MaxLen"], plainKeys := false, apart := false, laid := [("unicode/utf8.acceptRanges", laid_unicode_utf8_acceptRanges), ("unicode/utf8.first", laid_unicode_utf8_first)], narrowed := true }
def AggShardsUptoSaid : Prop := aggShardsUptoRow.holds Tryz.pinned (OpenSpec.upto aggShardsSpec)

end Rows
end Go.Proofs.YthbjpoiolmlpmaaGreatDoor
