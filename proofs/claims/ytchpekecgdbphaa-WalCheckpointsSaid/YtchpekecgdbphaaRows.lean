/-
  No cell of these rows narrows 'for every input' (looked for: loops, veiled, ifaces, maps, wideKeys, modest, calm, conditions, laid).
  DERIVED. THE GIVEN ROWS OF THIS SEAT. 4 by the template 'for every input the law returns true; each argument reads behind the call as it read before'; 0 by the template 'total and deterministic' (their statements: YtchpekecgdbphaaTotals.lean).
  GIVEN WITH THE SEED: the statements are not yours to turn. If you find one false, say at which input.
  Laid BY PROGRAM, IN A SANDBOX (cutbox-rows.mjs): the forced cells as the released guide's own fill.sh prints them over the translation 9837462cba304a90… (all of the seat's roots in one cut). By AI agents, Wed Nov 11 2026. No macro, syntax, notation, axiom, sorry.
-/
import Derived.Test.YtchpekecgdbphaaChecked
import GoSem.Claim
import GoSem.ClaimJoined
import GoSem.ClaimMapViews
import Derived.JoinedTies
import Derived.KernelRfl
namespace Go.Proofs.Ytchpekecgdbphaa
/- THE CELL 'sum', in the pinned program and in every row, IS THE sha256 OF THE DUMP (.gsa) THAT YtchpekecgdbphaaProg.lean LOADS. Nothing in Lean hashes anything: it is a label: what it is worth is what the hold of that sum in a sandbox is worth. -/
noncomputable def Try.pinned : Pinned := { name := "ytchpekecgdbphaa", sum := "9837462cba304a90de3d4d4a8421c25847b6227f84903e9ff8bcf50ebba68504", checked := Try.checked }
namespace Rows
def none {H : Type} : Left H := { results := [], args := [] }

/-- 'amphoralaw07.WalRoom': WHATEVER THE INPUT: true; the input reads as it did. -/
def walRoomSpec : ChangeSpec := { name := "walRoom", fn := fun _ => fun
  | [d1, d2] => { results := [.lit (.bool true)], args := [d1, d2] }
  | _ => none }
def walRoomRow : OpenClaim := { program := "ytchpekecgdbphaa", sum := "9837462cba304a90de3d4d4a8421c25847b6227f84903e9ff8bcf50ebba68504", func := "amphora/amphoralaw07.WalRoom", spec := "walRoom", unfollowed := true, recurses := true, apart := false }
def WalRoomSaid : Prop := walRoomRow.holds Try.pinned (OpenSpec.ofChange walRoomSpec)

/-- ITS FALSE NEIGHBOUR: 'it returns false'. Refute it at one input. -/
def walRoomWrong : ChangeSpec := { name := "walRoom", fn := fun _ => fun
  | [d1, d2] => { results := [.lit (.bool false)], args := [d1, d2] }
  | _ => none }
def WalRoomWrongFalsely : Prop := walRoomRow.holds Try.pinned (OpenSpec.ofChange walRoomWrong)

/-- 'amphoralaw07.WalAnew': WHATEVER THE INPUT: true; the input reads as it did. -/
def walAnewSpec : ChangeSpec := { name := "walAnew", fn := fun _ => fun
  | [d] => { results := [.lit (.bool true)], args := [d] }
  | _ => none }
def walAnewRow : OpenClaim := { program := "ytchpekecgdbphaa", sum := "9837462cba304a90de3d4d4a8421c25847b6227f84903e9ff8bcf50ebba68504", func := "amphora/amphoralaw07.WalAnew", spec := "walAnew", unfollowed := true, recurses := true, apart := false }
def WalAnewSaid : Prop := walAnewRow.holds Try.pinned (OpenSpec.ofChange walAnewSpec)

/-- ITS FALSE NEIGHBOUR: 'it returns false'. Refute it at one input. -/
def walAnewWrong : ChangeSpec := { name := "walAnew", fn := fun _ => fun
  | [d] => { results := [.lit (.bool false)], args := [d] }
  | _ => none }
def WalAnewWrongFalsely : Prop := walAnewRow.holds Try.pinned (OpenSpec.ofChange walAnewWrong)

/-- 'amphoralaw07.WalSynced': WHATEVER THE INPUT: true; the input reads as it did. -/
def walSyncedSpec : ChangeSpec := { name := "walSynced", fn := fun _ => fun
  | [d1, d2, d3, d4, d5] => { results := [.lit (.bool true)], args := [d1, d2, d3, d4, d5] }
  | _ => none }
def walSyncedRow : OpenClaim := { program := "ytchpekecgdbphaa", sum := "9837462cba304a90de3d4d4a8421c25847b6227f84903e9ff8bcf50ebba68504", func := "amphora/amphoralaw07.WalSynced", spec := "walSynced", unfollowed := true, recurses := true, apart := false }
def WalSyncedSaid : Prop := walSyncedRow.holds Try.pinned (OpenSpec.ofChange walSyncedSpec)

/-- ITS FALSE NEIGHBOUR: 'it returns false'. Refute it at one input. -/
def walSyncedWrong : ChangeSpec := { name := "walSynced", fn := fun _ => fun
  | [d1, d2, d3, d4, d5] => { results := [.lit (.bool false)], args := [d1, d2, d3, d4, d5] }
  | _ => none }
def WalSyncedWrongFalsely : Prop := walSyncedRow.holds Try.pinned (OpenSpec.ofChange walSyncedWrong)

/-- 'amphoralaw07.WalCheckpoints': WHATEVER THE INPUT: true; the input reads as it did. -/
def walCheckpointsSpec : ChangeSpec := { name := "walCheckpoints", fn := fun _ => fun
  | [d1, d2, d3, d4] => { results := [.lit (.bool true)], args := [d1, d2, d3, d4] }
  | _ => none }
def walCheckpointsRow : OpenClaim := { program := "ytchpekecgdbphaa", sum := "9837462cba304a90de3d4d4a8421c25847b6227f84903e9ff8bcf50ebba68504", func := "amphora/amphoralaw07.WalCheckpoints", spec := "walCheckpoints", unfollowed := true, recurses := true, apart := false }
def WalCheckpointsSaid : Prop := walCheckpointsRow.holds Try.pinned (OpenSpec.ofChange walCheckpointsSpec)

/-- ITS FALSE NEIGHBOUR: 'it returns false'. Refute it at one input. -/
def walCheckpointsWrong : ChangeSpec := { name := "walCheckpoints", fn := fun _ => fun
  | [d1, d2, d3, d4] => { results := [.lit (.bool false)], args := [d1, d2, d3, d4] }
  | _ => none }
def WalCheckpointsWrongFalsely : Prop := walCheckpointsRow.holds Try.pinned (OpenSpec.ofChange walCheckpointsWrong)

/- THE SECOND FORM. 'bulk': how many values and letters a reading holds, each counted each time it is reached (what is shared counts as often as it is met; a slice's spare places count too). A statement '..UptoSaid' is the law's where the arguments, and the package variables that the reading takes, are together of bulk at most 1048576: NARROWER than '..Said'. Prove '..Said' where nothing that the law and all that it calls make is longer than what came in: it says more and counts as full. Else prove '..UptoSaid'. A law counts once. -/
mutual
def uptoBulk {H : Type} : DataW H → Nat
  | .lit (.string bytes) => bytes.length + 1
  | .lit _ => 1
  | .nil => 1
  | .ptr d => uptoBulk d + 1
  | .slice elems spare => uptoBulkAll elems + uptoBulkAll spare + 1
  | .agg parts => uptoBulkAll parts + 1
  | .iface _ d => uptoBulk d + 1
  | .map entries => uptoBulkEntries entries + 1
  | .held _ => 1
def uptoBulkAll {H : Type} : List (DataW H) → Nat
  | [] => 0
  | d :: r => uptoBulk d + uptoBulkAll r
def uptoBulkEntries {H : Type} : List (Lit × DataW H) → Nat
  | [] => 0
  | x :: r => uptoBulkEntry x + uptoBulkEntries r
def uptoBulkEntry {H : Type} : Lit × DataW H → Nat
  | (.string bytes, d) => bytes.length + uptoBulk d + 1
  | (_, d) => uptoBulk d + 1
 end
def uptoSmall : (H : Type) → List (DataW H) → Bool := fun _ ds => decide (uptoBulkAll ds ≤ 1048576)
def OpenSpec.upto (s : _root_.Go.ChangeSpec) : _root_.Go.OpenSpec := { _root_.Go.OpenSpec.ofChange s with cond := some uptoSmall }

/-- 'amphoralaw07.WalRoom', WHERE WHAT IT READS IS OF BULK AT MOST 1048576: true; the input reads as it did. -/
def walRoomUptoRow : OpenClaim := { program := "ytchpekecgdbphaa", sum := "9837462cba304a90de3d4d4a8421c25847b6227f84903e9ff8bcf50ebba68504", func := "amphora/amphoralaw07.WalRoom", spec := "walRoom", unfollowed := true, recurses := true, apart := false, narrowed := true }
def WalRoomUptoSaid : Prop := walRoomUptoRow.holds Try.pinned (OpenSpec.upto walRoomSpec)

/-- 'amphoralaw07.WalAnew', WHERE WHAT IT READS IS OF BULK AT MOST 1048576: true; the input reads as it did. -/
def walAnewUptoRow : OpenClaim := { program := "ytchpekecgdbphaa", sum := "9837462cba304a90de3d4d4a8421c25847b6227f84903e9ff8bcf50ebba68504", func := "amphora/amphoralaw07.WalAnew", spec := "walAnew", unfollowed := true, recurses := true, apart := false, narrowed := true }
def WalAnewUptoSaid : Prop := walAnewUptoRow.holds Try.pinned (OpenSpec.upto walAnewSpec)

/-- 'amphoralaw07.WalSynced', WHERE WHAT IT READS IS OF BULK AT MOST 1048576: true; the input reads as it did. -/
def walSyncedUptoRow : OpenClaim := { program := "ytchpekecgdbphaa", sum := "9837462cba304a90de3d4d4a8421c25847b6227f84903e9ff8bcf50ebba68504", func := "amphora/amphoralaw07.WalSynced", spec := "walSynced", unfollowed := true, recurses := true, apart := false, narrowed := true }
def WalSyncedUptoSaid : Prop := walSyncedUptoRow.holds Try.pinned (OpenSpec.upto walSyncedSpec)

/-- 'amphoralaw07.WalCheckpoints', WHERE WHAT IT READS IS OF BULK AT MOST 1048576: true; the input reads as it did. -/
def walCheckpointsUptoRow : OpenClaim := { program := "ytchpekecgdbphaa", sum := "9837462cba304a90de3d4d4a8421c25847b6227f84903e9ff8bcf50ebba68504", func := "amphora/amphoralaw07.WalCheckpoints", spec := "walCheckpoints", unfollowed := true, recurses := true, apart := false, narrowed := true }
def WalCheckpointsUptoSaid : Prop := walCheckpointsUptoRow.holds Try.pinned (OpenSpec.upto walCheckpointsSpec)

end Rows
end Go.Proofs.Ytchpekecgdbphaa
