/-
  No cell of these rows narrows 'for every input' (looked for: loops, veiled, ifaces, maps, wideKeys, modest, calm, conditions, laid).
  DERIVED. THE GIVEN ROWS OF THIS SEAT. 7 by the template 'for every input the law returns true; each argument reads behind the call as it read before'; 0 by the template 'total and deterministic' (their statements: YtkgkjhhhgcpgkaaTotals.lean).
  GIVEN WITH THE SEED: the statements are not yours to turn. If you find one false, say at which input.
  Laid BY PROGRAM, IN A SANDBOX (cutbox-rows.mjs): the forced cells as the released guide's own fill.sh prints them over the translation c0b2b1fdf1c30d27… (all of the seat's roots in one cut). By AI agents, Wed Nov 11 2026. No macro, syntax, notation, axiom, sorry.
-/
import Derived.Test.YtkgkjhhhgcpgkaaChecked
import GoSem.Claim
import GoSem.ClaimJoined
import GoSem.ClaimMapViews
import Derived.JoinedTies
import Derived.KernelRfl
namespace Go.Proofs.Ytkgkjhhhgcpgkaa
/- THE CELL 'sum', in the pinned program and in every row, IS THE sha256 OF THE DUMP (.gsa) THAT YtkgkjhhhgcpgkaaProg.lean LOADS. Nothing in Lean hashes anything: it is a label: what it is worth is what the hold of that sum in a sandbox is worth. -/
noncomputable def Try.pinned : Pinned := { name := "ytkgkjhhhgcpgkaa", sum := "c0b2b1fdf1c30d27db83b872ac40243a503b8ddd821f6dd69d9f16669ed467d5", checked := Try.checked }
namespace Rows
def none {H : Type} : Left H := { results := [], args := [] }

/-- 'amphoralaw06.PlateReads': WHATEVER THE INPUT: true; the input reads as it did. -/
def plateReadsSpec : ChangeSpec := { name := "plateReads", fn := fun _ => fun
  | [d1, d2] => { results := [.lit (.bool true)], args := [d1, d2] }
  | _ => none }
def plateReadsRow : OpenClaim := { program := "ytkgkjhhhgcpgkaa", sum := "c0b2b1fdf1c30d27db83b872ac40243a503b8ddd821f6dd69d9f16669ed467d5", func := "amphora/amphoralaw06.PlateReads", spec := "plateReads", unfollowed := true, recurses := true, apart := false }
def PlateReadsSaid : Prop := plateReadsRow.holds Try.pinned (OpenSpec.ofChange plateReadsSpec)

/-- ITS FALSE NEIGHBOUR: 'it returns false'. Refute it at one input. -/
def plateReadsWrong : ChangeSpec := { name := "plateReads", fn := fun _ => fun
  | [d1, d2] => { results := [.lit (.bool false)], args := [d1, d2] }
  | _ => none }
def PlateReadsWrongFalsely : Prop := plateReadsRow.holds Try.pinned (OpenSpec.ofChange plateReadsWrong)

/-- 'amphoralaw06.PlateMade': WHATEVER THE INPUT: true; the input reads as it did. -/
def plateMadeSpec : ChangeSpec := { name := "plateMade", fn := fun _ => fun
  | [d1, d2] => { results := [.lit (.bool true)], args := [d1, d2] }
  | _ => none }
def plateMadeRow : OpenClaim := { program := "ytkgkjhhhgcpgkaa", sum := "c0b2b1fdf1c30d27db83b872ac40243a503b8ddd821f6dd69d9f16669ed467d5", func := "amphora/amphoralaw06.PlateMade", spec := "plateMade", unfollowed := true, recurses := true, apart := false }
def PlateMadeSaid : Prop := plateMadeRow.holds Try.pinned (OpenSpec.ofChange plateMadeSpec)

/-- ITS FALSE NEIGHBOUR: 'it returns false'. Refute it at one input. -/
def plateMadeWrong : ChangeSpec := { name := "plateMade", fn := fun _ => fun
  | [d1, d2] => { results := [.lit (.bool false)], args := [d1, d2] }
  | _ => none }
def PlateMadeWrongFalsely : Prop := plateMadeRow.holds Try.pinned (OpenSpec.ofChange plateMadeWrong)

/-- 'amphoralaw06.PlateCrashes': WHATEVER THE INPUT: true; the input reads as it did. -/
def plateCrashesSpec : ChangeSpec := { name := "plateCrashes", fn := fun _ => fun
  | [d1, d2, d3, d4] => { results := [.lit (.bool true)], args := [d1, d2, d3, d4] }
  | _ => none }
def plateCrashesRow : OpenClaim := { program := "ytkgkjhhhgcpgkaa", sum := "c0b2b1fdf1c30d27db83b872ac40243a503b8ddd821f6dd69d9f16669ed467d5", func := "amphora/amphoralaw06.PlateCrashes", spec := "plateCrashes", unfollowed := true, recurses := true, apart := false }
def PlateCrashesSaid : Prop := plateCrashesRow.holds Try.pinned (OpenSpec.ofChange plateCrashesSpec)

/-- ITS FALSE NEIGHBOUR: 'it returns false'. Refute it at one input. -/
def plateCrashesWrong : ChangeSpec := { name := "plateCrashes", fn := fun _ => fun
  | [d1, d2, d3, d4] => { results := [.lit (.bool false)], args := [d1, d2, d3, d4] }
  | _ => none }
def PlateCrashesWrongFalsely : Prop := plateCrashesRow.holds Try.pinned (OpenSpec.ofChange plateCrashesWrong)

/-- 'amphoralaw06.PlateSettles': WHATEVER THE INPUT: true; the input reads as it did. -/
def plateSettlesSpec : ChangeSpec := { name := "plateSettles", fn := fun _ => fun
  | [d] => { results := [.lit (.bool true)], args := [d] }
  | _ => none }
def plateSettlesRow : OpenClaim := { program := "ytkgkjhhhgcpgkaa", sum := "c0b2b1fdf1c30d27db83b872ac40243a503b8ddd821f6dd69d9f16669ed467d5", func := "amphora/amphoralaw06.PlateSettles", spec := "plateSettles", unfollowed := true, recurses := true, apart := false }
def PlateSettlesSaid : Prop := plateSettlesRow.holds Try.pinned (OpenSpec.ofChange plateSettlesSpec)

/-- ITS FALSE NEIGHBOUR: 'it returns false'. Refute it at one input. -/
def plateSettlesWrong : ChangeSpec := { name := "plateSettles", fn := fun _ => fun
  | [d] => { results := [.lit (.bool false)], args := [d] }
  | _ => none }
def PlateSettlesWrongFalsely : Prop := plateSettlesRow.holds Try.pinned (OpenSpec.ofChange plateSettlesWrong)

/-- 'amphoralaw06.PlateDead': WHATEVER THE INPUT: true; the input reads as it did. -/
def plateDeadSpec : ChangeSpec := { name := "plateDead", fn := fun _ => fun
  | [d1, d2] => { results := [.lit (.bool true)], args := [d1, d2] }
  | _ => none }
def plateDeadRow : OpenClaim := { program := "ytkgkjhhhgcpgkaa", sum := "c0b2b1fdf1c30d27db83b872ac40243a503b8ddd821f6dd69d9f16669ed467d5", func := "amphora/amphoralaw06.PlateDead", spec := "plateDead", unfollowed := true, recurses := true, apart := false }
def PlateDeadSaid : Prop := plateDeadRow.holds Try.pinned (OpenSpec.ofChange plateDeadSpec)

/-- ITS FALSE NEIGHBOUR: 'it returns false'. Refute it at one input. -/
def plateDeadWrong : ChangeSpec := { name := "plateDead", fn := fun _ => fun
  | [d1, d2] => { results := [.lit (.bool false)], args := [d1, d2] }
  | _ => none }
def PlateDeadWrongFalsely : Prop := plateDeadRow.holds Try.pinned (OpenSpec.ofChange plateDeadWrong)

/-- 'amphoralaw06.PlateNobody': WHATEVER THE INPUT: true; the input reads as it did. -/
def plateNobodySpec : ChangeSpec := { name := "plateNobody", fn := fun _ => fun
  | [d] => { results := [.lit (.bool true)], args := [d] }
  | _ => none }
def plateNobodyRow : OpenClaim := { program := "ytkgkjhhhgcpgkaa", sum := "c0b2b1fdf1c30d27db83b872ac40243a503b8ddd821f6dd69d9f16669ed467d5", func := "amphora/amphoralaw06.PlateNobody", spec := "plateNobody", unfollowed := true, recurses := true, apart := false }
def PlateNobodySaid : Prop := plateNobodyRow.holds Try.pinned (OpenSpec.ofChange plateNobodySpec)

/-- ITS FALSE NEIGHBOUR: 'it returns false'. Refute it at one input. -/
def plateNobodyWrong : ChangeSpec := { name := "plateNobody", fn := fun _ => fun
  | [d] => { results := [.lit (.bool false)], args := [d] }
  | _ => none }
def PlateNobodyWrongFalsely : Prop := plateNobodyRow.holds Try.pinned (OpenSpec.ofChange plateNobodyWrong)

/-- 'amphoralaw06.PlatePlays': WHATEVER THE INPUT: true; the input reads as it did. -/
def platePlaysSpec : ChangeSpec := { name := "platePlays", fn := fun _ => fun
  | [d1, d2] => { results := [.lit (.bool true)], args := [d1, d2] }
  | _ => none }
def platePlaysRow : OpenClaim := { program := "ytkgkjhhhgcpgkaa", sum := "c0b2b1fdf1c30d27db83b872ac40243a503b8ddd821f6dd69d9f16669ed467d5", func := "amphora/amphoralaw06.PlatePlays", spec := "platePlays", unfollowed := true, recurses := true, apart := false }
def PlatePlaysSaid : Prop := platePlaysRow.holds Try.pinned (OpenSpec.ofChange platePlaysSpec)

/-- ITS FALSE NEIGHBOUR: 'it returns false'. Refute it at one input. -/
def platePlaysWrong : ChangeSpec := { name := "platePlays", fn := fun _ => fun
  | [d1, d2] => { results := [.lit (.bool false)], args := [d1, d2] }
  | _ => none }
def PlatePlaysWrongFalsely : Prop := platePlaysRow.holds Try.pinned (OpenSpec.ofChange platePlaysWrong)

/- THE SECOND FORM. 'bulk': how many values and letters a reading holds, each counted each time it is reached (what is shared counts as often as it is met; a slice's spare places count too). A statement '..UptoSaid' is the law's where the arguments, and the package variables that the reading takes, are together of bulk at most 1048576: NARROWER than '..Said'. Prove '..Said' where nothing that the law and all that it calls make is longer than what came in: it says more and counts as full. Else prove '..UptoSaid'. A law counts once. -/
mutual
def uptoBulk {H : Type} : DataW H → Nat
  | .lit (.string bytes) => bytes.length + 1
  | .lit _ => 1
  | .nil => 1
  | .ptr d => uptoBulk d + 1
  | .slice elems spare => uptoBulkAll elems + uptoBulkAll spare + 1
  | .agg parts => uptoBulkAll parts + 1
  | .iface _ d => uptoBulk d + 1
  | .map entries => uptoBulkEntries entries + 1
  | .held _ => 1
def uptoBulkAll {H : Type} : List (DataW H) → Nat
  | [] => 0
  | d :: r => uptoBulk d + uptoBulkAll r
def uptoBulkEntries {H : Type} : List (Lit × DataW H) → Nat
  | [] => 0
  | x :: r => uptoBulkEntry x + uptoBulkEntries r
def uptoBulkEntry {H : Type} : Lit × DataW H → Nat
  | (.string bytes, d) => bytes.length + uptoBulk d + 1
  | (_, d) => uptoBulk d + 1
 end
def uptoSmall : (H : Type) → List (DataW H) → Bool := fun _ ds => decide (uptoBulkAll ds ≤ 1048576)
def OpenSpec.upto (s : _root_.Go.ChangeSpec) : _root_.Go.OpenSpec := { _root_.Go.OpenSpec.ofChange s with cond := some uptoSmall }

/-- 'amphoralaw06.PlateReads', WHERE WHAT IT READS IS OF BULK AT MOST 1048576: true; the input reads as it did. -/
def plateReadsUptoRow : OpenClaim := { program := "ytkgkjhhhgcpgkaa", sum := "c0b2b1fdf1c30d27db83b872ac40243a503b8ddd821f6dd69d9f16669ed467d5", func := "amphora/amphoralaw06.PlateReads", spec := "plateReads", unfollowed := true, recurses := true, apart := false, narrowed := true }
def PlateReadsUptoSaid : Prop := plateReadsUptoRow.holds Try.pinned (OpenSpec.upto plateReadsSpec)

/-- 'amphoralaw06.PlateMade', WHERE WHAT IT READS IS OF BULK AT MOST 1048576: true; the input reads as it did. -/
def plateMadeUptoRow : OpenClaim := { program := "ytkgkjhhhgcpgkaa", sum := "c0b2b1fdf1c30d27db83b872ac40243a503b8ddd821f6dd69d9f16669ed467d5", func := "amphora/amphoralaw06.PlateMade", spec := "plateMade", unfollowed := true, recurses := true, apart := false, narrowed := true }
def PlateMadeUptoSaid : Prop := plateMadeUptoRow.holds Try.pinned (OpenSpec.upto plateMadeSpec)

/-- 'amphoralaw06.PlateCrashes', WHERE WHAT IT READS IS OF BULK AT MOST 1048576: true; the input reads as it did. -/
def plateCrashesUptoRow : OpenClaim := { program := "ytkgkjhhhgcpgkaa", sum := "c0b2b1fdf1c30d27db83b872ac40243a503b8ddd821f6dd69d9f16669ed467d5", func := "amphora/amphoralaw06.PlateCrashes", spec := "plateCrashes", unfollowed := true, recurses := true, apart := false, narrowed := true }
def PlateCrashesUptoSaid : Prop := plateCrashesUptoRow.holds Try.pinned (OpenSpec.upto plateCrashesSpec)

/-- 'amphoralaw06.PlateSettles', WHERE WHAT IT READS IS OF BULK AT MOST 1048576: true; the input reads as it did. -/
def plateSettlesUptoRow : OpenClaim := { program := "ytkgkjhhhgcpgkaa", sum := "c0b2b1fdf1c30d27db83b872ac40243a503b8ddd821f6dd69d9f16669ed467d5", func := "amphora/amphoralaw06.PlateSettles", spec := "plateSettles", unfollowed := true, recurses := true, apart := false, narrowed := true }
def PlateSettlesUptoSaid : Prop := plateSettlesUptoRow.holds Try.pinned (OpenSpec.upto plateSettlesSpec)

/-- 'amphoralaw06.PlateDead', WHERE WHAT IT READS IS OF BULK AT MOST 1048576: true; the input reads as it did. -/
def plateDeadUptoRow : OpenClaim := { program := "ytkgkjhhhgcpgkaa", sum := "c0b2b1fdf1c30d27db83b872ac40243a503b8ddd821f6dd69d9f16669ed467d5", func := "amphora/amphoralaw06.PlateDead", spec := "plateDead", unfollowed := true, recurses := true, apart := false, narrowed := true }
def PlateDeadUptoSaid : Prop := plateDeadUptoRow.holds Try.pinned (OpenSpec.upto plateDeadSpec)

/-- 'amphoralaw06.PlateNobody', WHERE WHAT IT READS IS OF BULK AT MOST 1048576: true; the input reads as it did. -/
def plateNobodyUptoRow : OpenClaim := { program := "ytkgkjhhhgcpgkaa", sum := "c0b2b1fdf1c30d27db83b872ac40243a503b8ddd821f6dd69d9f16669ed467d5", func := "amphora/amphoralaw06.PlateNobody", spec := "plateNobody", unfollowed := true, recurses := true, apart := false, narrowed := true }
def PlateNobodyUptoSaid : Prop := plateNobodyUptoRow.holds Try.pinned (OpenSpec.upto plateNobodySpec)

/-- 'amphoralaw06.PlatePlays', WHERE WHAT IT READS IS OF BULK AT MOST 1048576: true; the input reads as it did. -/
def platePlaysUptoRow : OpenClaim := { program := "ytkgkjhhhgcpgkaa", sum := "c0b2b1fdf1c30d27db83b872ac40243a503b8ddd821f6dd69d9f16669ed467d5", func := "amphora/amphoralaw06.PlatePlays", spec := "platePlays", unfollowed := true, recurses := true, apart := false, narrowed := true }
def PlatePlaysUptoSaid : Prop := platePlaysUptoRow.holds Try.pinned (OpenSpec.upto platePlaysSpec)

end Rows
end Go.Proofs.Ytkgkjhhhgcpgkaa
