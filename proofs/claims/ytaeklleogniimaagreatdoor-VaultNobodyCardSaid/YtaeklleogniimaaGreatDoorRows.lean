/-
  NARROWER THAN 'FOR EVERY INPUT', by the rows' own cells (each row's printed sentence says how): VaultNobody: laid · VaultNarrow: laid · VaultPlays: laid · VaultRises: laid · VaultStale: laid · VaultSpoilt: laid.
  DERIVED. THE GIVEN ROWS OF THIS SEAT. 6 by the template 'for every input the law returns true; each argument reads behind the call as it read before'; 0 by the template 'total and deterministic' (their statements: YtaeklleogniimaaGreatDoorTotals.lean).
  GIVEN WITH THE SEED: the statements are not yours to turn. If you find one false, say at which input.
  Laid BY PROGRAM, IN A SANDBOX (cutbox-rows.mjs): the forced cells as the released guide's own fill.sh prints them over the translation ed31ae96fbf822a4… (all of the seat's roots in one cut). By AI agents, Wed Nov 11 2026. No macro, syntax, notation, axiom, sorry.
-/
import Derived.Test.YtaeklleogniimaaGreatDoorChecked
import GoSem.PinnedTables
import GoSem.Claim
import GoSem.ClaimJoined
import GoSem.ClaimMapViews
import Derived.JoinedTies
import Derived.KernelRfl
namespace Go.Proofs.YtaeklleogniimaaGreatDoor
/- THE CELL 'sum', in the pinned program and in every row, IS THE sha256 OF THE DUMP (.gsa) THAT YtaeklleogniimaaGreatDoorProg.lean LOADS. Nothing in Lean hashes anything: it is a label: what it is worth is what the hold of that sum in a sandbox is worth. -/
noncomputable def Tryz.pinned : Pinned := { name := "ytaeklleogniimaagreatdoor", sum := "ed31ae96fbf822a4de378ae2a20e600c724bd2f681b9eb856ff31b0ae69cdfc4", checked := Tryz.checked }
namespace Rows
def none {H : Type} : Left H := { results := [], args := [] }

/- WHAT THE LISTED PACKAGE-LEVEL VARIABLES READ AS WHEN THE CALL BEGINS. Each datum BY PROGRAM (the guide's laid-datum.mjs) off the statement by which the dump's own 'gosem.cut.vars' lays the variable. In a bare row this is a premise. The card (YtaeklleogniimaaGreatDoorCards.lean) ties it to the program's text. -/
def laid_unicode_utf8_acceptRanges {H : Type} : DataW H := .agg [.agg [.lit (.int .u8 128), .lit (.int .u8 191)], .agg [.lit (.int .u8 160), .lit (.int .u8 191)], .agg [.lit (.int .u8 128), .lit (.int .u8 159)], .agg [.lit (.int .u8 144), .lit (.int .u8 191)], .agg [.lit (.int .u8 128), .lit (.int .u8 143)], .agg [.lit (.int .u8 0), .lit (.int .u8 0)], .agg [.lit (.int .u8 0), .lit (.int .u8 0)], .agg [.lit (.int .u8 0), .lit (.int .u8 0)], .agg [.lit (.int .u8 0), .lit (.int .u8 0)], .agg [.lit (.int .u8 0), .lit (.int .u8 0)], .agg [.lit (.int .u8 0), .lit (.int .u8 0)], .agg [.lit (.int .u8 0), .lit (.int .u8 0)], .agg [.lit (.int .u8 0), .lit (.int .u8 0)], .agg [.lit (.int .u8 0), .lit (.int .u8 0)], .agg [.lit (.int .u8 0), .lit (.int .u8 0)], .agg [.lit (.int .u8 0), .lit (.int .u8 0)]]
/-- One of Go's own tables, pinned by name: the form's constant. -/
def laid_unicode_utf8_first : DataW Unit := Go.Pinned.utf8First

/-- 'barquelaw18.VaultNobody': WHATEVER THE INPUT: true; the input reads as it did. -/
def vaultNobodySpec : ChangeSpec := { name := "vaultNobody", fn := fun _ => fun
  | [d1, d2] => { results := [.lit (.bool true)], args := [d1, d2] }
  | _ => none }
def vaultNobodyRow : OpenClaim := { program := "ytaeklleogniimaagreatdoor", sum := "ed31ae96fbf822a4de378ae2a20e600c724bd2f681b9eb856ff31b0ae69cdfc4", func := "barque/barquelaw18.VaultNobody", spec := "vaultNobody", inPlace := ["internal/bytealg.abigen_runtime_cmpstring", "slices.overlaps[*barque/disk.file]", "internal/abi.NoEscape", "internal/bytealg.IndexByteString", "internal/bytealg.IndexString", "internal/bytealg.MakeNoZero", "slices.overlaps[barque/api.Entry]", "slices.overlaps[barque/store.gen]", "internal/reflectlite.TypeOf"], unfollowed := true, recurses := true, named := ["unicode/utf8.first", "unicode/utf8.acceptRanges", "internal/bytealg.MaxLen"], apart := false, laid := [("unicode/utf8.acceptRanges", laid_unicode_utf8_acceptRanges), ("unicode/utf8.first", laid_unicode_utf8_first)] }
def VaultNobodySaid : Prop := vaultNobodyRow.holds Tryz.pinned (OpenSpec.ofChange vaultNobodySpec)

/-- ITS FALSE NEIGHBOUR: 'it returns false'. Refute it at one input. -/
def vaultNobodyWrong : ChangeSpec := { name := "vaultNobody", fn := fun _ => fun
  | [d1, d2] => { results := [.lit (.bool false)], args := [d1, d2] }
  | _ => none }
def VaultNobodyWrongFalsely : Prop := vaultNobodyRow.holds Tryz.pinned (OpenSpec.ofChange vaultNobodyWrong)

/-- 'barquelaw18.VaultNarrow': WHATEVER THE INPUT: true; the input reads as it did. -/
def vaultNarrowSpec : ChangeSpec := { name := "vaultNarrow", fn := fun _ => fun
  | [d1, d2] => { results := [.lit (.bool true)], args := [d1, d2] }
  | _ => none }
def vaultNarrowRow : OpenClaim := { program := "ytaeklleogniimaagreatdoor", sum := "ed31ae96fbf822a4de378ae2a20e600c724bd2f681b9eb856ff31b0ae69cdfc4", func := "barque/barquelaw18.VaultNarrow", spec := "vaultNarrow", inPlace := ["internal/bytealg.abigen_runtime_cmpstring", "slices.overlaps[*barque/disk.file]", "internal/abi.NoEscape", "internal/reflectlite.TypeOf", "slices.overlaps[barque/api.Entry]", "slices.overlaps[barque/store.gen]", "internal/bytealg.MakeNoZero", "internal/bytealg.IndexByteString", "internal/bytealg.IndexString"], unfollowed := true, recurses := true, named := ["unicode/utf8.first", "unicode/utf8.acceptRanges", "internal/bytealg.MaxLen"], apart := false, laid := [("unicode/utf8.acceptRanges", laid_unicode_utf8_acceptRanges), ("unicode/utf8.first", laid_unicode_utf8_first)] }
def VaultNarrowSaid : Prop := vaultNarrowRow.holds Tryz.pinned (OpenSpec.ofChange vaultNarrowSpec)

/-- ITS FALSE NEIGHBOUR: 'it returns false'. Refute it at one input. -/
def vaultNarrowWrong : ChangeSpec := { name := "vaultNarrow", fn := fun _ => fun
  | [d1, d2] => { results := [.lit (.bool false)], args := [d1, d2] }
  | _ => none }
def VaultNarrowWrongFalsely : Prop := vaultNarrowRow.holds Tryz.pinned (OpenSpec.ofChange vaultNarrowWrong)

/-- 'barquelaw18.VaultPlays': WHATEVER THE INPUT: true; the input reads as it did. -/
def vaultPlaysSpec : ChangeSpec := { name := "vaultPlays", fn := fun _ => fun
  | [d] => { results := [.lit (.bool true)], args := [d] }
  | _ => none }
def vaultPlaysRow : OpenClaim := { program := "ytaeklleogniimaagreatdoor", sum := "ed31ae96fbf822a4de378ae2a20e600c724bd2f681b9eb856ff31b0ae69cdfc4", func := "barque/barquelaw18.VaultPlays", spec := "vaultPlays", inPlace := ["internal/bytealg.abigen_runtime_cmpstring", "slices.overlaps[*barque/disk.file]", "internal/abi.NoEscape", "internal/bytealg.IndexByteString", "internal/bytealg.IndexString", "internal/bytealg.MakeNoZero", "slices.overlaps[barque/api.Entry]", "slices.overlaps[barque/store.gen]", "internal/reflectlite.TypeOf"], unfollowed := true, recurses := true, named := ["unicode/utf8.first", "unicode/utf8.acceptRanges", "internal/bytealg.MaxLen"], apart := false, laid := [("unicode/utf8.acceptRanges", laid_unicode_utf8_acceptRanges), ("unicode/utf8.first", laid_unicode_utf8_first)] }
def VaultPlaysSaid : Prop := vaultPlaysRow.holds Tryz.pinned (OpenSpec.ofChange vaultPlaysSpec)

/-- ITS FALSE NEIGHBOUR: 'it returns false'. Refute it at one input. -/
def vaultPlaysWrong : ChangeSpec := { name := "vaultPlays", fn := fun _ => fun
  | [d] => { results := [.lit (.bool false)], args := [d] }
  | _ => none }
def VaultPlaysWrongFalsely : Prop := vaultPlaysRow.holds Tryz.pinned (OpenSpec.ofChange vaultPlaysWrong)

/-- 'barquelaw18.VaultRises': WHATEVER THE INPUT: true; the input reads as it did. -/
def vaultRisesSpec : ChangeSpec := { name := "vaultRises", fn := fun _ => fun
  | [d] => { results := [.lit (.bool true)], args := [d] }
  | _ => none }
def vaultRisesRow : OpenClaim := { program := "ytaeklleogniimaagreatdoor", sum := "ed31ae96fbf822a4de378ae2a20e600c724bd2f681b9eb856ff31b0ae69cdfc4", func := "barque/barquelaw18.VaultRises", spec := "vaultRises", inPlace := ["internal/bytealg.abigen_runtime_cmpstring", "slices.overlaps[*barque/disk.file]", "internal/abi.NoEscape", "internal/bytealg.IndexByteString", "internal/bytealg.IndexString", "internal/bytealg.MakeNoZero", "slices.overlaps[barque/api.Entry]", "slices.overlaps[barque/store.gen]", "internal/reflectlite.TypeOf"], unfollowed := true, recurses := true, named := ["unicode/utf8.first", "unicode/utf8.acceptRanges", "internal/bytealg.MaxLen"], apart := false, laid := [("unicode/utf8.acceptRanges", laid_unicode_utf8_acceptRanges), ("unicode/utf8.first", laid_unicode_utf8_first)] }
def VaultRisesSaid : Prop := vaultRisesRow.holds Tryz.pinned (OpenSpec.ofChange vaultRisesSpec)

/-- ITS FALSE NEIGHBOUR: 'it returns false'. Refute it at one input. -/
def vaultRisesWrong : ChangeSpec := { name := "vaultRises", fn := fun _ => fun
  | [d] => { results := [.lit (.bool false)], args := [d] }
  | _ => none }
def VaultRisesWrongFalsely : Prop := vaultRisesRow.holds Tryz.pinned (OpenSpec.ofChange vaultRisesWrong)

/-- 'barquelaw18.VaultStale': WHATEVER THE INPUT: true; the input reads as it did. -/
def vaultStaleSpec : ChangeSpec := { name := "vaultStale", fn := fun _ => fun
  | [d1, d2] => { results := [.lit (.bool true)], args := [d1, d2] }
  | _ => none }
def vaultStaleRow : OpenClaim := { program := "ytaeklleogniimaagreatdoor", sum := "ed31ae96fbf822a4de378ae2a20e600c724bd2f681b9eb856ff31b0ae69cdfc4", func := "barque/barquelaw18.VaultStale", spec := "vaultStale", inPlace := ["internal/bytealg.abigen_runtime_cmpstring", "slices.overlaps[*barque/disk.file]", "internal/abi.NoEscape", "internal/bytealg.IndexByteString", "internal/bytealg.IndexString", "internal/bytealg.MakeNoZero", "slices.overlaps[barque/api.Entry]", "slices.overlaps[barque/store.gen]", "internal/reflectlite.TypeOf"], unfollowed := true, recurses := true, named := ["unicode/utf8.first", "unicode/utf8.acceptRanges", "internal/bytealg.MaxLen"], apart := false, laid := [("unicode/utf8.acceptRanges", laid_unicode_utf8_acceptRanges), ("unicode/utf8.first", laid_unicode_utf8_first)] }
def VaultStaleSaid : Prop := vaultStaleRow.holds Tryz.pinned (OpenSpec.ofChange vaultStaleSpec)

/-- ITS FALSE NEIGHBOUR: 'it returns false'. Refute it at one input. -/
def vaultStaleWrong : ChangeSpec := { name := "vaultStale", fn := fun _ => fun
  | [d1, d2] => { results := [.lit (.bool false)], args := [d1, d2] }
  | _ => none }
def VaultStaleWrongFalsely : Prop := vaultStaleRow.holds Tryz.pinned (OpenSpec.ofChange vaultStaleWrong)

/-- 'barquelaw18.VaultSpoilt': WHATEVER THE INPUT: true; the input reads as it did. -/
def vaultSpoiltSpec : ChangeSpec := { name := "vaultSpoilt", fn := fun _ => fun
  | [d1, d2, d3] => { results := [.lit (.bool true)], args := [d1, d2, d3] }
  | _ => none }
def vaultSpoiltRow : OpenClaim := { program := "ytaeklleogniimaagreatdoor", sum := "ed31ae96fbf822a4de378ae2a20e600c724bd2f681b9eb856ff31b0ae69cdfc4", func := "barque/barquelaw18.VaultSpoilt", spec := "vaultSpoilt", inPlace := ["internal/bytealg.abigen_runtime_cmpstring", "slices.overlaps[*barque/disk.file]", "internal/abi.NoEscape", "internal/bytealg.IndexByteString", "internal/bytealg.IndexString", "internal/bytealg.MakeNoZero", "slices.overlaps[barque/api.Entry]", "slices.overlaps[barque/store.gen]", "internal/reflectlite.TypeOf"], unfollowed := true, recurses := true, named := ["unicode/utf8.first", "unicode/utf8.acceptRanges", "internal/bytealg.MaxLen"], apart := false, laid := [("unicode/utf8.acceptRanges", laid_unicode_utf8_acceptRanges), ("unicode/utf8.first", laid_unicode_utf8_first)] }
def VaultSpoiltSaid : Prop := vaultSpoiltRow.holds Tryz.pinned (OpenSpec.ofChange vaultSpoiltSpec)

/-- ITS FALSE NEIGHBOUR: 'it returns false'. Refute it at one input. -/
def vaultSpoiltWrong : ChangeSpec := { name := "vaultSpoilt", fn := fun _ => fun
  | [d1, d2, d3] => { results := [.lit (.bool false)], args := [d1, d2, d3] }
  | _ => none }
def VaultSpoiltWrongFalsely : Prop := vaultSpoiltRow.holds Tryz.pinned (OpenSpec.ofChange vaultSpoiltWrong)

/- THE SECOND FORM. 'bulk': how many values and letters a reading holds, each counted each time it is reached (what is shared counts as often as it is met; a slice's spare places count too). A statement '..UptoSaid' is the law's where the arguments, and the package variables that the reading takes, are together of bulk at most 1048576: NARROWER than '..Said'. Prove '..Said' where nothing that the law and all that it calls make is longer than what came in: it says more and counts as full. Else prove '..UptoSaid'. A law counts once. -/
mutual
def uptoBulk {H : Type} : DataW H → Nat
  | .lit (.string bytes) => bytes.length + 1
  | .lit _ => 1
  | .nil => 1
  | .ptr d => uptoBulk d + 1
  | .slice elems spare => uptoBulkAll elems + uptoBulkAll spare + 1
  | .agg parts => uptoBulkAll parts + 1
  | .iface _ d => uptoBulk d + 1
  | .map entries => uptoBulkEntries entries + 1
  | .held _ => 1
def uptoBulkAll {H : Type} : List (DataW H) → Nat
  | [] => 0
  | d :: r => uptoBulk d + uptoBulkAll r
def uptoBulkEntries {H : Type} : List (Lit × DataW H) → Nat
  | [] => 0
  | x :: r => uptoBulkEntry x + uptoBulkEntries r
def uptoBulkEntry {H : Type} : Lit × DataW H → Nat
  | (.string bytes, d) => bytes.length + uptoBulk d + 1
  | (_, d) => uptoBulk d + 1
 end
def uptoSmall : (H : Type) → List (DataW H) → Bool := fun _ ds => decide (uptoBulkAll ds ≤ 1048576)
def OpenSpec.upto (s : _root_.Go.ChangeSpec) : _root_.Go.OpenSpec := { _root_.Go.OpenSpec.ofChange s with cond := some uptoSmall }

/-- 'barquelaw18.VaultNobody', WHERE WHAT IT READS IS OF BULK AT MOST 1048576: true; the input reads as it did. -/
def vaultNobodyUptoRow : OpenClaim := { program := "ytaeklleogniimaagreatdoor", sum := "ed31ae96fbf822a4de378ae2a20e600c724bd2f681b9eb856ff31b0ae69cdfc4", func := "barque/barquelaw18.VaultNobody", spec := "vaultNobody", inPlace := ["internal/bytealg.abigen_runtime_cmpstring", "slices.overlaps[*barque/disk.file]", "internal/abi.NoEscape", "internal/bytealg.IndexByteString", "internal/bytealg.IndexString", "internal/bytealg.MakeNoZero", "slices.overlaps[barque/api.Entry]", "slices.overlaps[barque/store.gen]", "internal/reflectlite.TypeOf"], unfollowed := true, recurses := true, named := ["unicode/utf8.first", "unicode/utf8.acceptRanges", "internal/bytealg.MaxLen"], apart := false, laid := [("unicode/utf8.acceptRanges", laid_unicode_utf8_acceptRanges), ("unicode/utf8.first", laid_unicode_utf8_first)], narrowed := true }
def VaultNobodyUptoSaid : Prop := vaultNobodyUptoRow.holds Tryz.pinned (OpenSpec.upto vaultNobodySpec)

/-- 'barquelaw18.VaultNarrow', WHERE WHAT IT READS IS OF BULK AT MOST 1048576: true; the input reads as it did. -/
def vaultNarrowUptoRow : OpenClaim := { program := "ytaeklleogniimaagreatdoor", sum := "ed31ae96fbf822a4de378ae2a20e600c724bd2f681b9eb856ff31b0ae69cdfc4", func := "barque/barquelaw18.VaultNarrow", spec := "vaultNarrow", inPlace := ["internal/bytealg.abigen_runtime_cmpstring", "slices.overlaps[*barque/disk.file]", "internal/abi.NoEscape", "internal/reflectlite.TypeOf", "slices.overlaps[barque/api.Entry]", "slices.overlaps[barque/store.gen]", "internal/bytealg.MakeNoZero", "internal/bytealg.IndexByteString", "internal/bytealg.IndexString"], unfollowed := true, recurses := true, named := ["unicode/utf8.first", "unicode/utf8.acceptRanges", "internal/bytealg.MaxLen"], apart := false, laid := [("unicode/utf8.acceptRanges", laid_unicode_utf8_acceptRanges), ("unicode/utf8.first", laid_unicode_utf8_first)], narrowed := true }
def VaultNarrowUptoSaid : Prop := vaultNarrowUptoRow.holds Tryz.pinned (OpenSpec.upto vaultNarrowSpec)

/-- 'barquelaw18.VaultPlays', WHERE WHAT IT READS IS OF BULK AT MOST 1048576: true; the input reads as it did. -/
def vaultPlaysUptoRow : OpenClaim := { program := "ytaeklleogniimaagreatdoor", sum := "ed31ae96fbf822a4de378ae2a20e600c724bd2f681b9eb856ff31b0ae69cdfc4", func := "barque/barquelaw18.VaultPlays", spec := "vaultPlays", inPlace := ["internal/bytealg.abigen_runtime_cmpstring", "slices.overlaps[*barque/disk.file]", "internal/abi.NoEscape", "internal/bytealg.IndexByteString", "internal/bytealg.IndexString", "internal/bytealg.MakeNoZero", "slices.overlaps[barque/api.Entry]", "slices.overlaps[barque/store.gen]", "internal/reflectlite.TypeOf"], unfollowed := true, recurses := true, named := ["unicode/utf8.first", "unicode/utf8.acceptRanges", "internal/bytealg.MaxLen"], apart := false, laid := [("unicode/utf8.acceptRanges", laid_unicode_utf8_acceptRanges), ("unicode/utf8.first", laid_unicode_utf8_first)], narrowed := true }
def VaultPlaysUptoSaid : Prop := vaultPlaysUptoRow.holds Tryz.pinned (OpenSpec.upto vaultPlaysSpec)

/-- 'barquelaw18.VaultRises', WHERE WHAT IT READS IS OF BULK AT MOST 1048576: true; the input reads as it did. -/
def vaultRisesUptoRow : OpenClaim := { program := "ytaeklleogniimaagreatdoor", sum := "ed31ae96fbf822a4de378ae2a20e600c724bd2f681b9eb856ff31b0ae69cdfc4", func := "barque/barquelaw18.VaultRises", spec := "vaultRises", inPlace := ["internal/bytealg.abigen_runtime_cmpstring", "slices.overlaps[*barque/disk.file]", "internal/abi.NoEscape", "internal/bytealg.IndexByteString", "internal/bytealg.IndexString", "internal/bytealg.MakeNoZero", "slices.overlaps[barque/api.Entry]", "slices.overlaps[barque/store.gen]", "internal/reflectlite.TypeOf"], unfollowed := true, recurses := true, named := ["unicode/utf8.first", "unicode/utf8.acceptRanges", "internal/bytealg.MaxLen"], apart := false, laid := [("unicode/utf8.acceptRanges", laid_unicode_utf8_acceptRanges), ("unicode/utf8.first", laid_unicode_utf8_first)], narrowed := true }
def VaultRisesUptoSaid : Prop := vaultRisesUptoRow.holds Tryz.pinned (OpenSpec.upto vaultRisesSpec)

/-- 'barquelaw18.VaultStale', WHERE WHAT IT READS IS OF BULK AT MOST 1048576: true; the input reads as it did. -/
def vaultStaleUptoRow : OpenClaim := { program := "ytaeklleogniimaagreatdoor", sum := "ed31ae96fbf822a4de378ae2a20e600c724bd2f681b9eb856ff31b0ae69cdfc4", func := "barque/barquelaw18.VaultStale", spec := "vaultStale", inPlace := ["internal/bytealg.abigen_runtime_cmpstring", "slices.overlaps[*barque/disk.file]", "internal/abi.NoEscape", "internal/bytealg.IndexByteString", "internal/bytealg.IndexString", "internal/bytealg.MakeNoZero", "slices.overlaps[barque/api.Entry]", "slices.overlaps[barque/store.gen]", "internal/reflectlite.TypeOf"], unfollowed := true, recurses := true, named := ["unicode/utf8.first", "unicode/utf8.acceptRanges", "internal/bytealg.MaxLen"], apart := false, laid := [("unicode/utf8.acceptRanges", laid_unicode_utf8_acceptRanges), ("unicode/utf8.first", laid_unicode_utf8_first)], narrowed := true }
def VaultStaleUptoSaid : Prop := vaultStaleUptoRow.holds Tryz.pinned (OpenSpec.upto vaultStaleSpec)

/-- 'barquelaw18.VaultSpoilt', WHERE WHAT IT READS IS OF BULK AT MOST 1048576: true; the input reads as it did. -/
def vaultSpoiltUptoRow : OpenClaim := { program := "ytaeklleogniimaagreatdoor", sum := "ed31ae96fbf822a4de378ae2a20e600c724bd2f681b9eb856ff31b0ae69cdfc4", func := "barque/barquelaw18.VaultSpoilt", spec := "vaultSpoilt", inPlace := ["internal/bytealg.abigen_runtime_cmpstring", "slices.overlaps[*barque/disk.file]", "internal/abi.NoEscape", "internal/bytealg.IndexByteString", "internal/bytealg.IndexString", "internal/bytealg.MakeNoZero", "slices.overlaps[barque/api.Entry]", "slices.overlaps[barque/store.gen]", "internal/reflectlite.TypeOf"], unfollowed := true, recurses := true, named := ["unicode/utf8.first", "unicode/utf8.acceptRanges", "internal/bytealg.MaxLen"], apart := false, laid := [("unicode/utf8.acceptRanges", laid_unicode_utf8_acceptRanges), ("unicode/utf8.first", laid_unicode_utf8_first)], narrowed := true }
def VaultSpoiltUptoSaid : Prop := vaultSpoiltUptoRow.holds Tryz.pinned (OpenSpec.upto vaultSpoiltSpec)

end Rows
end Go.Proofs.YtaeklleogniimaaGreatDoor
