/-
  No cell of these rows narrows 'for every input' (looked for: loops, veiled, ifaces, maps, wideKeys, modest, calm, conditions, laid).
  DERIVED. THE GIVEN ROWS OF THIS SEAT. 7 by the template 'for every input the law returns true; each argument reads behind the call as it read before'; 0 by the template 'total and deterministic' (their statements: YtlmodbaeoheiiaaTotals.lean).
  GIVEN WITH THE SEED: the statements are not yours to turn. If you find one false, say at which input.
  Laid BY PROGRAM, IN A SANDBOX (cutbox-rows.mjs): the forced cells as the released guide's own fill.sh prints them over the translation 325431a3e8d077a0… (all of the seat's roots in one cut). By AI agents, Wed Nov 11 2026. No macro, syntax, notation, axiom, sorry.
-/
import Derived.Test.YtlmodbaeoheiiaaChecked
import GoSem.Claim
import GoSem.ClaimJoined
import GoSem.ClaimMapViews
import Derived.JoinedTies
import Derived.KernelRfl
namespace Go.Proofs.Ytlmodbaeoheiiaa
/- THE CELL 'sum', in the pinned program and in every row, IS THE sha256 OF THE DUMP (.gsa) THAT YtlmodbaeoheiiaaProg.lean LOADS. Nothing in Lean hashes anything: it is a label: what it is worth is what the hold of that sum in a sandbox is worth. -/
noncomputable def Try.pinned : Pinned := { name := "ytlmodbaeoheiiaa", sum := "325431a3e8d077a006fcf57ccd22ce32655c94f3d03c36b27a0ba1199489132f", checked := Try.checked }
namespace Rows
def none {H : Type} : Left H := { results := [], args := [] }

/-- 'barquelaw14.DiskTorn': WHATEVER THE INPUT: true; the input reads as it did. -/
def diskTornSpec : ChangeSpec := { name := "diskTorn", fn := fun _ => fun
  | [d1, d2, d3] => { results := [.lit (.bool true)], args := [d1, d2, d3] }
  | _ => none }
def diskTornRow : OpenClaim := { program := "ytlmodbaeoheiiaa", sum := "325431a3e8d077a006fcf57ccd22ce32655c94f3d03c36b27a0ba1199489132f", func := "barque/barquelaw14.DiskTorn", spec := "diskTorn", inPlace := ["internal/bytealg.abigen_runtime_cmpstring", "slices.overlaps[*barque/disk.file]"], unfollowed := true, recurses := true, apart := false }
def DiskTornSaid : Prop := diskTornRow.holds Try.pinned (OpenSpec.ofChange diskTornSpec)

/-- ITS FALSE NEIGHBOUR: 'it returns false'. Refute it at one input. -/
def diskTornWrong : ChangeSpec := { name := "diskTorn", fn := fun _ => fun
  | [d1, d2, d3] => { results := [.lit (.bool false)], args := [d1, d2, d3] }
  | _ => none }
def DiskTornWrongFalsely : Prop := diskTornRow.holds Try.pinned (OpenSpec.ofChange diskTornWrong)

/-- 'barquelaw14.DiskFull': WHATEVER THE INPUT: true; the input reads as it did. -/
def diskFullSpec : ChangeSpec := { name := "diskFull", fn := fun _ => fun
  | [d1, d2, d3] => { results := [.lit (.bool true)], args := [d1, d2, d3] }
  | _ => none }
def diskFullRow : OpenClaim := { program := "ytlmodbaeoheiiaa", sum := "325431a3e8d077a006fcf57ccd22ce32655c94f3d03c36b27a0ba1199489132f", func := "barque/barquelaw14.DiskFull", spec := "diskFull", inPlace := ["internal/bytealg.abigen_runtime_cmpstring", "slices.overlaps[*barque/disk.file]"], unfollowed := true, recurses := true, apart := false }
def DiskFullSaid : Prop := diskFullRow.holds Try.pinned (OpenSpec.ofChange diskFullSpec)

/-- ITS FALSE NEIGHBOUR: 'it returns false'. Refute it at one input. -/
def diskFullWrong : ChangeSpec := { name := "diskFull", fn := fun _ => fun
  | [d1, d2, d3] => { results := [.lit (.bool false)], args := [d1, d2, d3] }
  | _ => none }
def DiskFullWrongFalsely : Prop := diskFullRow.holds Try.pinned (OpenSpec.ofChange diskFullWrong)

/-- 'barquelaw14.DiskFuse': WHATEVER THE INPUT: true; the input reads as it did. -/
def diskFuseSpec : ChangeSpec := { name := "diskFuse", fn := fun _ => fun
  | [d] => { results := [.lit (.bool true)], args := [d] }
  | _ => none }
def diskFuseRow : OpenClaim := { program := "ytlmodbaeoheiiaa", sum := "325431a3e8d077a006fcf57ccd22ce32655c94f3d03c36b27a0ba1199489132f", func := "barque/barquelaw14.DiskFuse", spec := "diskFuse", inPlace := ["internal/bytealg.abigen_runtime_cmpstring", "slices.overlaps[*barque/disk.file]"], unfollowed := true, recurses := true, apart := false }
def DiskFuseSaid : Prop := diskFuseRow.holds Try.pinned (OpenSpec.ofChange diskFuseSpec)

/-- ITS FALSE NEIGHBOUR: 'it returns false'. Refute it at one input. -/
def diskFuseWrong : ChangeSpec := { name := "diskFuse", fn := fun _ => fun
  | [d] => { results := [.lit (.bool false)], args := [d] }
  | _ => none }
def DiskFuseWrongFalsely : Prop := diskFuseRow.holds Try.pinned (OpenSpec.ofChange diskFuseWrong)

/-- 'barquelaw14.DiskKeeps': WHATEVER THE INPUT: true; the input reads as it did. -/
def diskKeepsSpec : ChangeSpec := { name := "diskKeeps", fn := fun _ => fun
  | [d1, d2, d3] => { results := [.lit (.bool true)], args := [d1, d2, d3] }
  | _ => none }
def diskKeepsRow : OpenClaim := { program := "ytlmodbaeoheiiaa", sum := "325431a3e8d077a006fcf57ccd22ce32655c94f3d03c36b27a0ba1199489132f", func := "barque/barquelaw14.DiskKeeps", spec := "diskKeeps", inPlace := ["internal/bytealg.abigen_runtime_cmpstring", "slices.overlaps[*barque/disk.file]"], unfollowed := true, recurses := true, apart := false }
def DiskKeepsSaid : Prop := diskKeepsRow.holds Try.pinned (OpenSpec.ofChange diskKeepsSpec)

/-- ITS FALSE NEIGHBOUR: 'it returns false'. Refute it at one input. -/
def diskKeepsWrong : ChangeSpec := { name := "diskKeeps", fn := fun _ => fun
  | [d1, d2, d3] => { results := [.lit (.bool false)], args := [d1, d2, d3] }
  | _ => none }
def DiskKeepsWrongFalsely : Prop := diskKeepsRow.holds Try.pinned (OpenSpec.ofChange diskKeepsWrong)

/-- 'barquelaw14.DiskPlays': WHATEVER THE INPUT: true; the input reads as it did. -/
def diskPlaysSpec : ChangeSpec := { name := "diskPlays", fn := fun _ => fun
  | [d1, d2] => { results := [.lit (.bool true)], args := [d1, d2] }
  | _ => none }
def diskPlaysRow : OpenClaim := { program := "ytlmodbaeoheiiaa", sum := "325431a3e8d077a006fcf57ccd22ce32655c94f3d03c36b27a0ba1199489132f", func := "barque/barquelaw14.DiskPlays", spec := "diskPlays", inPlace := ["internal/bytealg.abigen_runtime_cmpstring", "slices.overlaps[*barque/disk.file]"], unfollowed := true, recurses := true, apart := false }
def DiskPlaysSaid : Prop := diskPlaysRow.holds Try.pinned (OpenSpec.ofChange diskPlaysSpec)

/-- ITS FALSE NEIGHBOUR: 'it returns false'. Refute it at one input. -/
def diskPlaysWrong : ChangeSpec := { name := "diskPlays", fn := fun _ => fun
  | [d1, d2] => { results := [.lit (.bool false)], args := [d1, d2] }
  | _ => none }
def DiskPlaysWrongFalsely : Prop := diskPlaysRow.holds Try.pinned (OpenSpec.ofChange diskPlaysWrong)

/-- 'barquelaw14.DiskCopies': WHATEVER THE INPUT: true; the input reads as it did. -/
def diskCopiesSpec : ChangeSpec := { name := "diskCopies", fn := fun _ => fun
  | [d1, d2, d3] => { results := [.lit (.bool true)], args := [d1, d2, d3] }
  | _ => none }
def diskCopiesRow : OpenClaim := { program := "ytlmodbaeoheiiaa", sum := "325431a3e8d077a006fcf57ccd22ce32655c94f3d03c36b27a0ba1199489132f", func := "barque/barquelaw14.DiskCopies", spec := "diskCopies", inPlace := ["internal/bytealg.abigen_runtime_cmpstring", "slices.overlaps[*barque/disk.file]"], unfollowed := true, recurses := true, apart := false }
def DiskCopiesSaid : Prop := diskCopiesRow.holds Try.pinned (OpenSpec.ofChange diskCopiesSpec)

/-- ITS FALSE NEIGHBOUR: 'it returns false'. Refute it at one input. -/
def diskCopiesWrong : ChangeSpec := { name := "diskCopies", fn := fun _ => fun
  | [d1, d2, d3] => { results := [.lit (.bool false)], args := [d1, d2, d3] }
  | _ => none }
def DiskCopiesWrongFalsely : Prop := diskCopiesRow.holds Try.pinned (OpenSpec.ofChange diskCopiesWrong)

/-- 'barquelaw14.DiskNobody': WHATEVER THE INPUT: true; the input reads as it did. -/
def diskNobodySpec : ChangeSpec := { name := "diskNobody", fn := fun _ => fun
  | [d1, d2] => { results := [.lit (.bool true)], args := [d1, d2] }
  | _ => none }
def diskNobodyRow : OpenClaim := { program := "ytlmodbaeoheiiaa", sum := "325431a3e8d077a006fcf57ccd22ce32655c94f3d03c36b27a0ba1199489132f", func := "barque/barquelaw14.DiskNobody", spec := "diskNobody", inPlace := ["internal/bytealg.abigen_runtime_cmpstring", "slices.overlaps[*barque/disk.file]"], unfollowed := true, recurses := true, apart := false }
def DiskNobodySaid : Prop := diskNobodyRow.holds Try.pinned (OpenSpec.ofChange diskNobodySpec)

/-- ITS FALSE NEIGHBOUR: 'it returns false'. Refute it at one input. -/
def diskNobodyWrong : ChangeSpec := { name := "diskNobody", fn := fun _ => fun
  | [d1, d2] => { results := [.lit (.bool false)], args := [d1, d2] }
  | _ => none }
def DiskNobodyWrongFalsely : Prop := diskNobodyRow.holds Try.pinned (OpenSpec.ofChange diskNobodyWrong)

/- THE SECOND FORM. 'bulk': how many values and letters a reading holds, each counted each time it is reached (what is shared counts as often as it is met; a slice's spare places count too). A statement '..UptoSaid' is the law's where the arguments, and the package variables that the reading takes, are together of bulk at most 1048576: NARROWER than '..Said'. Prove '..Said' where nothing that the law and all that it calls make is longer than what came in: it says more and counts as full. Else prove '..UptoSaid'. A law counts once. -/
mutual
def uptoBulk {H : Type} : DataW H → Nat
  | .lit (.string bytes) => bytes.length + 1
  | .lit _ => 1
  | .nil => 1
  | .ptr d => uptoBulk d + 1
  | .slice elems spare => uptoBulkAll elems + uptoBulkAll spare + 1
  | .agg parts => uptoBulkAll parts + 1
  | .iface _ d => uptoBulk d + 1
  | .map entries => uptoBulkEntries entries + 1
  | .held _ => 1
def uptoBulkAll {H : Type} : List (DataW H) → Nat
  | [] => 0
  | d :: r => uptoBulk d + uptoBulkAll r
def uptoBulkEntries {H : Type} : List (Lit × DataW H) → Nat
  | [] => 0
  | x :: r => uptoBulkEntry x + uptoBulkEntries r
def uptoBulkEntry {H : Type} : Lit × DataW H → Nat
  | (.string bytes, d) => bytes.length + uptoBulk d + 1
  | (_, d) => uptoBulk d + 1
 end
def uptoSmall : (H : Type) → List (DataW H) → Bool := fun _ ds => decide (uptoBulkAll ds ≤ 1048576)
def OpenSpec.upto (s : _root_.Go.ChangeSpec) : _root_.Go.OpenSpec := { _root_.Go.OpenSpec.ofChange s with cond := some uptoSmall }

/-- 'barquelaw14.DiskTorn', WHERE WHAT IT READS IS OF BULK AT MOST 1048576: true; the input reads as it did. -/
def diskTornUptoRow : OpenClaim := { program := "ytlmodbaeoheiiaa", sum := "325431a3e8d077a006fcf57ccd22ce32655c94f3d03c36b27a0ba1199489132f", func := "barque/barquelaw14.DiskTorn", spec := "diskTorn", inPlace := ["internal/bytealg.abigen_runtime_cmpstring", "slices.overlaps[*barque/disk.file]"], unfollowed := true, recurses := true, apart := false, narrowed := true }
def DiskTornUptoSaid : Prop := diskTornUptoRow.holds Try.pinned (OpenSpec.upto diskTornSpec)

/-- 'barquelaw14.DiskFull', WHERE WHAT IT READS IS OF BULK AT MOST 1048576: true; the input reads as it did. -/
def diskFullUptoRow : OpenClaim := { program := "ytlmodbaeoheiiaa", sum := "325431a3e8d077a006fcf57ccd22ce32655c94f3d03c36b27a0ba1199489132f", func := "barque/barquelaw14.DiskFull", spec := "diskFull", inPlace := ["internal/bytealg.abigen_runtime_cmpstring", "slices.overlaps[*barque/disk.file]"], unfollowed := true, recurses := true, apart := false, narrowed := true }
def DiskFullUptoSaid : Prop := diskFullUptoRow.holds Try.pinned (OpenSpec.upto diskFullSpec)

/-- 'barquelaw14.DiskFuse', WHERE WHAT IT READS IS OF BULK AT MOST 1048576: true; the input reads as it did. -/
def diskFuseUptoRow : OpenClaim := { program := "ytlmodbaeoheiiaa", sum := "325431a3e8d077a006fcf57ccd22ce32655c94f3d03c36b27a0ba1199489132f", func := "barque/barquelaw14.DiskFuse", spec := "diskFuse", inPlace := ["internal/bytealg.abigen_runtime_cmpstring", "slices.overlaps[*barque/disk.file]"], unfollowed := true, recurses := true, apart := false, narrowed := true }
def DiskFuseUptoSaid : Prop := diskFuseUptoRow.holds Try.pinned (OpenSpec.upto diskFuseSpec)

/-- 'barquelaw14.DiskKeeps', WHERE WHAT IT READS IS OF BULK AT MOST 1048576: true; the input reads as it did. -/
def diskKeepsUptoRow : OpenClaim := { program := "ytlmodbaeoheiiaa", sum := "325431a3e8d077a006fcf57ccd22ce32655c94f3d03c36b27a0ba1199489132f", func := "barque/barquelaw14.DiskKeeps", spec := "diskKeeps", inPlace := ["internal/bytealg.abigen_runtime_cmpstring", "slices.overlaps[*barque/disk.file]"], unfollowed := true, recurses := true, apart := false, narrowed := true }
def DiskKeepsUptoSaid : Prop := diskKeepsUptoRow.holds Try.pinned (OpenSpec.upto diskKeepsSpec)

/-- 'barquelaw14.DiskPlays', WHERE WHAT IT READS IS OF BULK AT MOST 1048576: true; the input reads as it did. -/
def diskPlaysUptoRow : OpenClaim := { program := "ytlmodbaeoheiiaa", sum := "325431a3e8d077a006fcf57ccd22ce32655c94f3d03c36b27a0ba1199489132f", func := "barque/barquelaw14.DiskPlays", spec := "diskPlays", inPlace := ["internal/bytealg.abigen_runtime_cmpstring", "slices.overlaps[*barque/disk.file]"], unfollowed := true, recurses := true, apart := false, narrowed := true }
def DiskPlaysUptoSaid : Prop := diskPlaysUptoRow.holds Try.pinned (OpenSpec.upto diskPlaysSpec)

/-- 'barquelaw14.DiskCopies', WHERE WHAT IT READS IS OF BULK AT MOST 1048576: true; the input reads as it did. -/
def diskCopiesUptoRow : OpenClaim := { program := "ytlmodbaeoheiiaa", sum := "325431a3e8d077a006fcf57ccd22ce32655c94f3d03c36b27a0ba1199489132f", func := "barque/barquelaw14.DiskCopies", spec := "diskCopies", inPlace := ["internal/bytealg.abigen_runtime_cmpstring", "slices.overlaps[*barque/disk.file]"], unfollowed := true, recurses := true, apart := false, narrowed := true }
def DiskCopiesUptoSaid : Prop := diskCopiesUptoRow.holds Try.pinned (OpenSpec.upto diskCopiesSpec)

/-- 'barquelaw14.DiskNobody', WHERE WHAT IT READS IS OF BULK AT MOST 1048576: true; the input reads as it did. -/
def diskNobodyUptoRow : OpenClaim := { program := "ytlmodbaeoheiiaa", sum := "325431a3e8d077a006fcf57ccd22ce32655c94f3d03c36b27a0ba1199489132f", func := "barque/barquelaw14.DiskNobody", spec := "diskNobody", inPlace := ["internal/bytealg.abigen_runtime_cmpstring", "slices.overlaps[*barque/disk.file]"], unfollowed := true, recurses := true, apart := false, narrowed := true }
def DiskNobodyUptoSaid : Prop := diskNobodyUptoRow.holds Try.pinned (OpenSpec.upto diskNobodySpec)

end Rows
end Go.Proofs.Ytlmodbaeoheiiaa
