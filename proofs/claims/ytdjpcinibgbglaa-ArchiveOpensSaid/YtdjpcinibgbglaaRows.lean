/-
  No cell of these rows narrows 'for every input' (looked for: loops, veiled, ifaces, maps, wideKeys, modest, calm, conditions, laid).
  DERIVED. THE GIVEN ROWS OF THIS SEAT. 9 by the template 'for every input the law returns true; each argument reads behind the call as it read before'; 0 by the template 'total and deterministic' (their statements: YtdjpcinibgbglaaTotals.lean).
  GIVEN WITH THE SEED: the statements are not yours to turn. If you find one false, say at which input.
  Laid BY PROGRAM, IN A SANDBOX (cutbox-rows.mjs): the forced cells as the released guide's own fill.sh prints them over the translation 8877899c16eb56a9… (all of the seat's roots in one cut). By AI agents, Wed Nov 11 2026. No macro, syntax, notation, axiom, sorry.
-/
import Derived.Test.YtdjpcinibgbglaaChecked
import GoSem.Claim
import GoSem.ClaimJoined
import GoSem.ClaimMapViews
import Derived.JoinedTies
import Derived.KernelRfl
namespace Go.Proofs.Ytdjpcinibgbglaa
/- THE CELL 'sum', in the pinned program and in every row, IS THE sha256 OF THE DUMP (.gsa) THAT YtdjpcinibgbglaaProg.lean LOADS. Nothing in Lean hashes anything: it is a label: what it is worth is what the hold of that sum in a sandbox is worth. -/
noncomputable def Try.pinned : Pinned := { name := "ytdjpcinibgbglaa", sum := "8877899c16eb56a9f242f790b3117476bee945cf95bb462295c1decb2eb5392f", checked := Try.checked }
namespace Rows
def none {H : Type} : Left H := { results := [], args := [] }

/-- 'tumblerlaw19.ArchiveChecks': WHATEVER THE INPUT: true; the input reads as it did. -/
def archiveChecksSpec : ChangeSpec := { name := "archiveChecks", fn := fun _ => fun
  | [d] => { results := [.lit (.bool true)], args := [d] }
  | _ => none }
def archiveChecksRow : OpenClaim := { program := "ytdjpcinibgbglaa", sum := "8877899c16eb56a9f242f790b3117476bee945cf95bb462295c1decb2eb5392f", func := "tumbler/tumblerlaw19.ArchiveChecks", spec := "archiveChecks", inPlace := ["math/bits.Add64", "math/bits.Sub64"], unfollowed := true, recurses := true, apart := false }
def ArchiveChecksSaid : Prop := archiveChecksRow.holds Try.pinned (OpenSpec.ofChange archiveChecksSpec)

/-- ITS FALSE NEIGHBOUR: 'it returns false'. Refute it at one input. -/
def archiveChecksWrong : ChangeSpec := { name := "archiveChecks", fn := fun _ => fun
  | [d] => { results := [.lit (.bool false)], args := [d] }
  | _ => none }
def ArchiveChecksWrongFalsely : Prop := archiveChecksRow.holds Try.pinned (OpenSpec.ofChange archiveChecksWrong)

/-- 'tumblerlaw19.ArchiveSize': WHATEVER THE INPUT: true; the input reads as it did. -/
def archiveSizeSpec : ChangeSpec := { name := "archiveSize", fn := fun _ => fun
  | [d1, d2, d3, d4] => { results := [.lit (.bool true)], args := [d1, d2, d3, d4] }
  | _ => none }
def archiveSizeRow : OpenClaim := { program := "ytdjpcinibgbglaa", sum := "8877899c16eb56a9f242f790b3117476bee945cf95bb462295c1decb2eb5392f", func := "tumbler/tumblerlaw19.ArchiveSize", spec := "archiveSize", inPlace := ["math/bits.Add64", "math/bits.Sub64"], unfollowed := true, recurses := true, apart := false }
def ArchiveSizeSaid : Prop := archiveSizeRow.holds Try.pinned (OpenSpec.ofChange archiveSizeSpec)

/-- ITS FALSE NEIGHBOUR: 'it returns false'. Refute it at one input. -/
def archiveSizeWrong : ChangeSpec := { name := "archiveSize", fn := fun _ => fun
  | [d1, d2, d3, d4] => { results := [.lit (.bool false)], args := [d1, d2, d3, d4] }
  | _ => none }
def ArchiveSizeWrongFalsely : Prop := archiveSizeRow.holds Try.pinned (OpenSpec.ofChange archiveSizeWrong)

/-- 'tumblerlaw19.ArchiveSums': WHATEVER THE INPUT: true; the input reads as it did. -/
def archiveSumsSpec : ChangeSpec := { name := "archiveSums", fn := fun _ => fun
  | [d1, d2, d3, d4] => { results := [.lit (.bool true)], args := [d1, d2, d3, d4] }
  | _ => none }
def archiveSumsRow : OpenClaim := { program := "ytdjpcinibgbglaa", sum := "8877899c16eb56a9f242f790b3117476bee945cf95bb462295c1decb2eb5392f", func := "tumbler/tumblerlaw19.ArchiveSums", spec := "archiveSums", inPlace := ["math/bits.Add64", "math/bits.Sub64"], unfollowed := true, recurses := true, apart := false }
def ArchiveSumsSaid : Prop := archiveSumsRow.holds Try.pinned (OpenSpec.ofChange archiveSumsSpec)

/-- ITS FALSE NEIGHBOUR: 'it returns false'. Refute it at one input. -/
def archiveSumsWrong : ChangeSpec := { name := "archiveSums", fn := fun _ => fun
  | [d1, d2, d3, d4] => { results := [.lit (.bool false)], args := [d1, d2, d3, d4] }
  | _ => none }
def ArchiveSumsWrongFalsely : Prop := archiveSumsRow.holds Try.pinned (OpenSpec.ofChange archiveSumsWrong)

/-- 'tumblerlaw19.ArchiveFinds': WHATEVER THE INPUT: true; the input reads as it did. -/
def archiveFindsSpec : ChangeSpec := { name := "archiveFinds", fn := fun _ => fun
  | [d1, d2, d3, d4, d5] => { results := [.lit (.bool true)], args := [d1, d2, d3, d4, d5] }
  | _ => none }
def archiveFindsRow : OpenClaim := { program := "ytdjpcinibgbglaa", sum := "8877899c16eb56a9f242f790b3117476bee945cf95bb462295c1decb2eb5392f", func := "tumbler/tumblerlaw19.ArchiveFinds", spec := "archiveFinds", inPlace := ["math/bits.Add64", "math/bits.Sub64"], unfollowed := true, recurses := true, apart := false }
def ArchiveFindsSaid : Prop := archiveFindsRow.holds Try.pinned (OpenSpec.ofChange archiveFindsSpec)

/-- ITS FALSE NEIGHBOUR: 'it returns false'. Refute it at one input. -/
def archiveFindsWrong : ChangeSpec := { name := "archiveFinds", fn := fun _ => fun
  | [d1, d2, d3, d4, d5] => { results := [.lit (.bool false)], args := [d1, d2, d3, d4, d5] }
  | _ => none }
def ArchiveFindsWrongFalsely : Prop := archiveFindsRow.holds Try.pinned (OpenSpec.ofChange archiveFindsWrong)

/-- 'tumblerlaw19.ArchiveNobody': WHATEVER THE INPUT: true; the input reads as it did. -/
def archiveNobodySpec : ChangeSpec := { name := "archiveNobody", fn := fun _ => fun
  | [d] => { results := [.lit (.bool true)], args := [d] }
  | _ => none }
def archiveNobodyRow : OpenClaim := { program := "ytdjpcinibgbglaa", sum := "8877899c16eb56a9f242f790b3117476bee945cf95bb462295c1decb2eb5392f", func := "tumbler/tumblerlaw19.ArchiveNobody", spec := "archiveNobody", inPlace := ["math/bits.Add64", "math/bits.Sub64"], unfollowed := true, recurses := true, apart := false }
def ArchiveNobodySaid : Prop := archiveNobodyRow.holds Try.pinned (OpenSpec.ofChange archiveNobodySpec)

/-- ITS FALSE NEIGHBOUR: 'it returns false'. Refute it at one input. -/
def archiveNobodyWrong : ChangeSpec := { name := "archiveNobody", fn := fun _ => fun
  | [d] => { results := [.lit (.bool false)], args := [d] }
  | _ => none }
def ArchiveNobodyWrongFalsely : Prop := archiveNobodyRow.holds Try.pinned (OpenSpec.ofChange archiveNobodyWrong)

/-- 'tumblerlaw19.ArchiveTold': WHATEVER THE INPUT: true; the input reads as it did. -/
def archiveToldSpec : ChangeSpec := { name := "archiveTold", fn := fun _ => fun
  | [d1, d2, d3, d4, d5, d6] => { results := [.lit (.bool true)], args := [d1, d2, d3, d4, d5, d6] }
  | _ => none }
def archiveToldRow : OpenClaim := { program := "ytdjpcinibgbglaa", sum := "8877899c16eb56a9f242f790b3117476bee945cf95bb462295c1decb2eb5392f", func := "tumbler/tumblerlaw19.ArchiveTold", spec := "archiveTold", inPlace := ["math/bits.Add64", "math/bits.Sub64"], unfollowed := true, recurses := true, apart := false }
def ArchiveToldSaid : Prop := archiveToldRow.holds Try.pinned (OpenSpec.ofChange archiveToldSpec)

/-- ITS FALSE NEIGHBOUR: 'it returns false'. Refute it at one input. -/
def archiveToldWrong : ChangeSpec := { name := "archiveTold", fn := fun _ => fun
  | [d1, d2, d3, d4, d5, d6] => { results := [.lit (.bool false)], args := [d1, d2, d3, d4, d5, d6] }
  | _ => none }
def ArchiveToldWrongFalsely : Prop := archiveToldRow.holds Try.pinned (OpenSpec.ofChange archiveToldWrong)

/-- 'tumblerlaw19.ArchiveOpens': WHATEVER THE INPUT: true; the input reads as it did. -/
def archiveOpensSpec : ChangeSpec := { name := "archiveOpens", fn := fun _ => fun
  | [d] => { results := [.lit (.bool true)], args := [d] }
  | _ => none }
def archiveOpensRow : OpenClaim := { program := "ytdjpcinibgbglaa", sum := "8877899c16eb56a9f242f790b3117476bee945cf95bb462295c1decb2eb5392f", func := "tumbler/tumblerlaw19.ArchiveOpens", spec := "archiveOpens", inPlace := ["math/bits.Add64", "math/bits.Sub64"], unfollowed := true, recurses := true, apart := false }
def ArchiveOpensSaid : Prop := archiveOpensRow.holds Try.pinned (OpenSpec.ofChange archiveOpensSpec)

/-- ITS FALSE NEIGHBOUR: 'it returns false'. Refute it at one input. -/
def archiveOpensWrong : ChangeSpec := { name := "archiveOpens", fn := fun _ => fun
  | [d] => { results := [.lit (.bool false)], args := [d] }
  | _ => none }
def ArchiveOpensWrongFalsely : Prop := archiveOpensRow.holds Try.pinned (OpenSpec.ofChange archiveOpensWrong)

/-- 'tumblerlaw19.ArchiveOwn': WHATEVER THE INPUT: true; the input reads as it did. -/
def archiveOwnSpec : ChangeSpec := { name := "archiveOwn", fn := fun _ => fun
  | [d1, d2, d3, d4] => { results := [.lit (.bool true)], args := [d1, d2, d3, d4] }
  | _ => none }
def archiveOwnRow : OpenClaim := { program := "ytdjpcinibgbglaa", sum := "8877899c16eb56a9f242f790b3117476bee945cf95bb462295c1decb2eb5392f", func := "tumbler/tumblerlaw19.ArchiveOwn", spec := "archiveOwn", inPlace := ["math/bits.Add64", "math/bits.Sub64"], unfollowed := true, recurses := true, apart := false }
def ArchiveOwnSaid : Prop := archiveOwnRow.holds Try.pinned (OpenSpec.ofChange archiveOwnSpec)

/-- ITS FALSE NEIGHBOUR: 'it returns false'. Refute it at one input. -/
def archiveOwnWrong : ChangeSpec := { name := "archiveOwn", fn := fun _ => fun
  | [d1, d2, d3, d4] => { results := [.lit (.bool false)], args := [d1, d2, d3, d4] }
  | _ => none }
def ArchiveOwnWrongFalsely : Prop := archiveOwnRow.holds Try.pinned (OpenSpec.ofChange archiveOwnWrong)

/-- 'tumblerlaw19.ArchiveBack': WHATEVER THE INPUT: true; the input reads as it did. -/
def archiveBackSpec : ChangeSpec := { name := "archiveBack", fn := fun _ => fun
  | [d1, d2, d3, d4, d5] => { results := [.lit (.bool true)], args := [d1, d2, d3, d4, d5] }
  | _ => none }
def archiveBackRow : OpenClaim := { program := "ytdjpcinibgbglaa", sum := "8877899c16eb56a9f242f790b3117476bee945cf95bb462295c1decb2eb5392f", func := "tumbler/tumblerlaw19.ArchiveBack", spec := "archiveBack", inPlace := ["math/bits.Add64", "math/bits.Sub64"], unfollowed := true, recurses := true, apart := false }
def ArchiveBackSaid : Prop := archiveBackRow.holds Try.pinned (OpenSpec.ofChange archiveBackSpec)

/-- ITS FALSE NEIGHBOUR: 'it returns false'. Refute it at one input. -/
def archiveBackWrong : ChangeSpec := { name := "archiveBack", fn := fun _ => fun
  | [d1, d2, d3, d4, d5] => { results := [.lit (.bool false)], args := [d1, d2, d3, d4, d5] }
  | _ => none }
def ArchiveBackWrongFalsely : Prop := archiveBackRow.holds Try.pinned (OpenSpec.ofChange archiveBackWrong)

/- THE SECOND FORM. 'bulk': how many values and letters a reading holds, each counted each time it is reached (what is shared counts as often as it is met; a slice's spare places count too). A statement '..UptoSaid' is the law's where the arguments, and the package variables that the reading takes, are together of bulk at most 1048576: NARROWER than '..Said'. Prove '..Said' where nothing that the law and all that it calls make is longer than what came in: it says more and counts as full. Else prove '..UptoSaid'. A law counts once. -/
mutual
def uptoBulk {H : Type} : DataW H → Nat
  | .lit (.string bytes) => bytes.length + 1
  | .lit _ => 1
  | .nil => 1
  | .ptr d => uptoBulk d + 1
  | .slice elems spare => uptoBulkAll elems + uptoBulkAll spare + 1
  | .agg parts => uptoBulkAll parts + 1
  | .iface _ d => uptoBulk d + 1
  | .map entries => uptoBulkEntries entries + 1
  | .held _ => 1
def uptoBulkAll {H : Type} : List (DataW H) → Nat
  | [] => 0
  | d :: r => uptoBulk d + uptoBulkAll r
def uptoBulkEntries {H : Type} : List (Lit × DataW H) → Nat
  | [] => 0
  | x :: r => uptoBulkEntry x + uptoBulkEntries r
def uptoBulkEntry {H : Type} : Lit × DataW H → Nat
  | (.string bytes, d) => bytes.length + uptoBulk d + 1
  | (_, d) => uptoBulk d + 1
 end
def uptoSmall : (H : Type) → List (DataW H) → Bool := fun _ ds => decide (uptoBulkAll ds ≤ 1048576)
def OpenSpec.upto (s : _root_.Go.ChangeSpec) : _root_.Go.OpenSpec := { _root_.Go.OpenSpec.ofChange s with cond := some uptoSmall }

/-- 'tumblerlaw19.ArchiveChecks', WHERE WHAT IT READS IS OF BULK AT MOST 1048576: true; the input reads as it did. -/
def archiveChecksUptoRow : OpenClaim := { program := "ytdjpcinibgbglaa", sum := "8877899c16eb56a9f242f790b3117476bee945cf95bb462295c1decb2eb5392f", func := "tumbler/tumblerlaw19.ArchiveChecks", spec := "archiveChecks", inPlace := ["math/bits.Add64", "math/bits.Sub64"], unfollowed := true, recurses := true, apart := false, narrowed := true }
def ArchiveChecksUptoSaid : Prop := archiveChecksUptoRow.holds Try.pinned (OpenSpec.upto archiveChecksSpec)

/-- 'tumblerlaw19.ArchiveSize', WHERE WHAT IT READS IS OF BULK AT MOST 1048576: true; the input reads as it did. -/
def archiveSizeUptoRow : OpenClaim := { program := "ytdjpcinibgbglaa", sum := "8877899c16eb56a9f242f790b3117476bee945cf95bb462295c1decb2eb5392f", func := "tumbler/tumblerlaw19.ArchiveSize", spec := "archiveSize", inPlace := ["math/bits.Add64", "math/bits.Sub64"], unfollowed := true, recurses := true, apart := false, narrowed := true }
def ArchiveSizeUptoSaid : Prop := archiveSizeUptoRow.holds Try.pinned (OpenSpec.upto archiveSizeSpec)

/-- 'tumblerlaw19.ArchiveSums', WHERE WHAT IT READS IS OF BULK AT MOST 1048576: true; the input reads as it did. -/
def archiveSumsUptoRow : OpenClaim := { program := "ytdjpcinibgbglaa", sum := "8877899c16eb56a9f242f790b3117476bee945cf95bb462295c1decb2eb5392f", func := "tumbler/tumblerlaw19.ArchiveSums", spec := "archiveSums", inPlace := ["math/bits.Add64", "math/bits.Sub64"], unfollowed := true, recurses := true, apart := false, narrowed := true }
def ArchiveSumsUptoSaid : Prop := archiveSumsUptoRow.holds Try.pinned (OpenSpec.upto archiveSumsSpec)

/-- 'tumblerlaw19.ArchiveFinds', WHERE WHAT IT READS IS OF BULK AT MOST 1048576: true; the input reads as it did. -/
def archiveFindsUptoRow : OpenClaim := { program := "ytdjpcinibgbglaa", sum := "8877899c16eb56a9f242f790b3117476bee945cf95bb462295c1decb2eb5392f", func := "tumbler/tumblerlaw19.ArchiveFinds", spec := "archiveFinds", inPlace := ["math/bits.Add64", "math/bits.Sub64"], unfollowed := true, recurses := true, apart := false, narrowed := true }
def ArchiveFindsUptoSaid : Prop := archiveFindsUptoRow.holds Try.pinned (OpenSpec.upto archiveFindsSpec)

/-- 'tumblerlaw19.ArchiveNobody', WHERE WHAT IT READS IS OF BULK AT MOST 1048576: true; the input reads as it did. -/
def archiveNobodyUptoRow : OpenClaim := { program := "ytdjpcinibgbglaa", sum := "8877899c16eb56a9f242f790b3117476bee945cf95bb462295c1decb2eb5392f", func := "tumbler/tumblerlaw19.ArchiveNobody", spec := "archiveNobody", inPlace := ["math/bits.Add64", "math/bits.Sub64"], unfollowed := true, recurses := true, apart := false, narrowed := true }
def ArchiveNobodyUptoSaid : Prop := archiveNobodyUptoRow.holds Try.pinned (OpenSpec.upto archiveNobodySpec)

/-- 'tumblerlaw19.ArchiveTold', WHERE WHAT IT READS IS OF BULK AT MOST 1048576: true; the input reads as it did. -/
def archiveToldUptoRow : OpenClaim := { program := "ytdjpcinibgbglaa", sum := "8877899c16eb56a9f242f790b3117476bee945cf95bb462295c1decb2eb5392f", func := "tumbler/tumblerlaw19.ArchiveTold", spec := "archiveTold", inPlace := ["math/bits.Add64", "math/bits.Sub64"], unfollowed := true, recurses := true, apart := false, narrowed := true }
def ArchiveToldUptoSaid : Prop := archiveToldUptoRow.holds Try.pinned (OpenSpec.upto archiveToldSpec)

/-- 'tumblerlaw19.ArchiveOpens', WHERE WHAT IT READS IS OF BULK AT MOST 1048576: true; the input reads as it did. -/
def archiveOpensUptoRow : OpenClaim := { program := "ytdjpcinibgbglaa", sum := "8877899c16eb56a9f242f790b3117476bee945cf95bb462295c1decb2eb5392f", func := "tumbler/tumblerlaw19.ArchiveOpens", spec := "archiveOpens", inPlace := ["math/bits.Add64", "math/bits.Sub64"], unfollowed := true, recurses := true, apart := false, narrowed := true }
def ArchiveOpensUptoSaid : Prop := archiveOpensUptoRow.holds Try.pinned (OpenSpec.upto archiveOpensSpec)

/-- 'tumblerlaw19.ArchiveOwn', WHERE WHAT IT READS IS OF BULK AT MOST 1048576: true; the input reads as it did. -/
def archiveOwnUptoRow : OpenClaim := { program := "ytdjpcinibgbglaa", sum := "8877899c16eb56a9f242f790b3117476bee945cf95bb462295c1decb2eb5392f", func := "tumbler/tumblerlaw19.ArchiveOwn", spec := "archiveOwn", inPlace := ["math/bits.Add64", "math/bits.Sub64"], unfollowed := true, recurses := true, apart := false, narrowed := true }
def ArchiveOwnUptoSaid : Prop := archiveOwnUptoRow.holds Try.pinned (OpenSpec.upto archiveOwnSpec)

/-- 'tumblerlaw19.ArchiveBack', WHERE WHAT IT READS IS OF BULK AT MOST 1048576: true; the input reads as it did. -/
def archiveBackUptoRow : OpenClaim := { program := "ytdjpcinibgbglaa", sum := "8877899c16eb56a9f242f790b3117476bee945cf95bb462295c1decb2eb5392f", func := "tumbler/tumblerlaw19.ArchiveBack", spec := "archiveBack", inPlace := ["math/bits.Add64", "math/bits.Sub64"], unfollowed := true, recurses := true, apart := false, narrowed := true }
def ArchiveBackUptoSaid : Prop := archiveBackUptoRow.holds Try.pinned (OpenSpec.upto archiveBackSpec)

end Rows
end Go.Proofs.Ytdjpcinibgbglaa
