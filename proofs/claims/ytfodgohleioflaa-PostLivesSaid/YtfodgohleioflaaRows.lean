/-
  No cell of these rows narrows 'for every input' (looked for: loops, veiled, ifaces, maps, wideKeys, modest, calm, conditions, laid).
  DERIVED. THE GIVEN ROWS OF THIS SEAT. 4 by the template 'for every input the law returns true; each argument reads behind the call as it read before'; 0 by the template 'total and deterministic' (their statements: YtfodgohleioflaaTotals.lean).
  GIVEN WITH THE SEED: the statements are not yours to turn. If you find one false, say at which input.
  Laid BY PROGRAM, IN A SANDBOX (cutbox-rows.mjs): the forced cells as the released guide's own fill.sh prints them over the translation 8d92dc3d7457182a… (all of the seat's roots in one cut). By AI agents, Wed Nov 11 2026. No macro, syntax, notation, axiom, sorry.
-/
import Derived.Test.YtfodgohleioflaaChecked
import GoSem.Claim
import GoSem.ClaimJoined
import GoSem.ClaimMapViews
import Derived.JoinedTies
import Derived.KernelRfl
namespace Go.Proofs.Ytfodgohleioflaa
/- THE CELL 'sum', in the pinned program and in every row, IS THE sha256 OF THE DUMP (.gsa) THAT YtfodgohleioflaaProg.lean LOADS. Nothing in Lean hashes anything: it is a label: what it is worth is what the hold of that sum in a sandbox is worth. -/
noncomputable def Try.pinned : Pinned := { name := "ytfodgohleioflaa", sum := "8d92dc3d7457182af59f76ca6c06be1960e830c8c1981144bef8bbd59b068535", checked := Try.checked }
namespace Rows
def none {H : Type} : Left H := { results := [], args := [] }

/-- 'amphoralaw09.PostTaken': WHATEVER THE INPUT: true; the input reads as it did. -/
def postTakenSpec : ChangeSpec := { name := "postTaken", fn := fun _ => fun
  | [d] => { results := [.lit (.bool true)], args := [d] }
  | _ => none }
def postTakenRow : OpenClaim := { program := "ytfodgohleioflaa", sum := "8d92dc3d7457182af59f76ca6c06be1960e830c8c1981144bef8bbd59b068535", func := "amphora/amphoralaw09.PostTaken", spec := "postTaken", unfollowed := true, recurses := true, apart := false }
def PostTakenSaid : Prop := postTakenRow.holds Try.pinned (OpenSpec.ofChange postTakenSpec)

/-- ITS FALSE NEIGHBOUR: 'it returns false'. Refute it at one input. -/
def postTakenWrong : ChangeSpec := { name := "postTaken", fn := fun _ => fun
  | [d] => { results := [.lit (.bool false)], args := [d] }
  | _ => none }
def PostTakenWrongFalsely : Prop := postTakenRow.holds Try.pinned (OpenSpec.ofChange postTakenWrong)

/-- 'amphoralaw09.PostLives': WHATEVER THE INPUT: true; the input reads as it did. -/
def postLivesSpec : ChangeSpec := { name := "postLives", fn := fun _ => fun
  | [d] => { results := [.lit (.bool true)], args := [d] }
  | _ => none }
def postLivesRow : OpenClaim := { program := "ytfodgohleioflaa", sum := "8d92dc3d7457182af59f76ca6c06be1960e830c8c1981144bef8bbd59b068535", func := "amphora/amphoralaw09.PostLives", spec := "postLives", unfollowed := true, recurses := true, apart := false }
def PostLivesSaid : Prop := postLivesRow.holds Try.pinned (OpenSpec.ofChange postLivesSpec)

/-- ITS FALSE NEIGHBOUR: 'it returns false'. Refute it at one input. -/
def postLivesWrong : ChangeSpec := { name := "postLives", fn := fun _ => fun
  | [d] => { results := [.lit (.bool false)], args := [d] }
  | _ => none }
def PostLivesWrongFalsely : Prop := postLivesRow.holds Try.pinned (OpenSpec.ofChange postLivesWrong)

/-- 'amphoralaw09.PostNumbers': WHATEVER THE INPUT: true; the input reads as it did. -/
def postNumbersSpec : ChangeSpec := { name := "postNumbers", fn := fun _ => fun
  | [d1, d2] => { results := [.lit (.bool true)], args := [d1, d2] }
  | _ => none }
def postNumbersRow : OpenClaim := { program := "ytfodgohleioflaa", sum := "8d92dc3d7457182af59f76ca6c06be1960e830c8c1981144bef8bbd59b068535", func := "amphora/amphoralaw09.PostNumbers", spec := "postNumbers", unfollowed := true, recurses := true, apart := false }
def PostNumbersSaid : Prop := postNumbersRow.holds Try.pinned (OpenSpec.ofChange postNumbersSpec)

/-- ITS FALSE NEIGHBOUR: 'it returns false'. Refute it at one input. -/
def postNumbersWrong : ChangeSpec := { name := "postNumbers", fn := fun _ => fun
  | [d1, d2] => { results := [.lit (.bool false)], args := [d1, d2] }
  | _ => none }
def PostNumbersWrongFalsely : Prop := postNumbersRow.holds Try.pinned (OpenSpec.ofChange postNumbersWrong)

/-- 'amphoralaw09.PostNobody': WHATEVER THE INPUT: true; the input reads as it did. -/
def postNobodySpec : ChangeSpec := { name := "postNobody", fn := fun _ => fun
  | [d1, d2] => { results := [.lit (.bool true)], args := [d1, d2] }
  | _ => none }
def postNobodyRow : OpenClaim := { program := "ytfodgohleioflaa", sum := "8d92dc3d7457182af59f76ca6c06be1960e830c8c1981144bef8bbd59b068535", func := "amphora/amphoralaw09.PostNobody", spec := "postNobody", unfollowed := true, recurses := true, apart := false }
def PostNobodySaid : Prop := postNobodyRow.holds Try.pinned (OpenSpec.ofChange postNobodySpec)

/-- ITS FALSE NEIGHBOUR: 'it returns false'. Refute it at one input. -/
def postNobodyWrong : ChangeSpec := { name := "postNobody", fn := fun _ => fun
  | [d1, d2] => { results := [.lit (.bool false)], args := [d1, d2] }
  | _ => none }
def PostNobodyWrongFalsely : Prop := postNobodyRow.holds Try.pinned (OpenSpec.ofChange postNobodyWrong)

/- THE SECOND FORM. 'bulk': how many values and letters a reading holds, each counted each time it is reached (what is shared counts as often as it is met; a slice's spare places count too). A statement '..UptoSaid' is the law's where the arguments, and the package variables that the reading takes, are together of bulk at most 1048576: NARROWER than '..Said'. Prove '..Said' where nothing that the law and all that it calls make is longer than what came in: it says more and counts as full. Else prove '..UptoSaid'. A law counts once. -/
mutual
def uptoBulk {H : Type} : DataW H → Nat
  | .lit (.string bytes) => bytes.length + 1
  | .lit _ => 1
  | .nil => 1
  | .ptr d => uptoBulk d + 1
  | .slice elems spare => uptoBulkAll elems + uptoBulkAll spare + 1
  | .agg parts => uptoBulkAll parts + 1
  | .iface _ d => uptoBulk d + 1
  | .map entries => uptoBulkEntries entries + 1
  | .held _ => 1
def uptoBulkAll {H : Type} : List (DataW H) → Nat
  | [] => 0
  | d :: r => uptoBulk d + uptoBulkAll r
def uptoBulkEntries {H : Type} : List (Lit × DataW H) → Nat
  | [] => 0
  | x :: r => uptoBulkEntry x + uptoBulkEntries r
def uptoBulkEntry {H : Type} : Lit × DataW H → Nat
  | (.string bytes, d) => bytes.length + uptoBulk d + 1
  | (_, d) => uptoBulk d + 1
 end
def uptoSmall : (H : Type) → List (DataW H) → Bool := fun _ ds => decide (uptoBulkAll ds ≤ 1048576)
def OpenSpec.upto (s : _root_.Go.ChangeSpec) : _root_.Go.OpenSpec := { _root_.Go.OpenSpec.ofChange s with cond := some uptoSmall }

/-- 'amphoralaw09.PostTaken', WHERE WHAT IT READS IS OF BULK AT MOST 1048576: true; the input reads as it did. -/
def postTakenUptoRow : OpenClaim := { program := "ytfodgohleioflaa", sum := "8d92dc3d7457182af59f76ca6c06be1960e830c8c1981144bef8bbd59b068535", func := "amphora/amphoralaw09.PostTaken", spec := "postTaken", unfollowed := true, recurses := true, apart := false, narrowed := true }
def PostTakenUptoSaid : Prop := postTakenUptoRow.holds Try.pinned (OpenSpec.upto postTakenSpec)

/-- 'amphoralaw09.PostLives', WHERE WHAT IT READS IS OF BULK AT MOST 1048576: true; the input reads as it did. -/
def postLivesUptoRow : OpenClaim := { program := "ytfodgohleioflaa", sum := "8d92dc3d7457182af59f76ca6c06be1960e830c8c1981144bef8bbd59b068535", func := "amphora/amphoralaw09.PostLives", spec := "postLives", unfollowed := true, recurses := true, apart := false, narrowed := true }
def PostLivesUptoSaid : Prop := postLivesUptoRow.holds Try.pinned (OpenSpec.upto postLivesSpec)

/-- 'amphoralaw09.PostNumbers', WHERE WHAT IT READS IS OF BULK AT MOST 1048576: true; the input reads as it did. -/
def postNumbersUptoRow : OpenClaim := { program := "ytfodgohleioflaa", sum := "8d92dc3d7457182af59f76ca6c06be1960e830c8c1981144bef8bbd59b068535", func := "amphora/amphoralaw09.PostNumbers", spec := "postNumbers", unfollowed := true, recurses := true, apart := false, narrowed := true }
def PostNumbersUptoSaid : Prop := postNumbersUptoRow.holds Try.pinned (OpenSpec.upto postNumbersSpec)

/-- 'amphoralaw09.PostNobody', WHERE WHAT IT READS IS OF BULK AT MOST 1048576: true; the input reads as it did. -/
def postNobodyUptoRow : OpenClaim := { program := "ytfodgohleioflaa", sum := "8d92dc3d7457182af59f76ca6c06be1960e830c8c1981144bef8bbd59b068535", func := "amphora/amphoralaw09.PostNobody", spec := "postNobody", unfollowed := true, recurses := true, apart := false, narrowed := true }
def PostNobodyUptoSaid : Prop := postNobodyUptoRow.holds Try.pinned (OpenSpec.upto postNobodySpec)

end Rows
end Go.Proofs.Ytfodgohleioflaa
