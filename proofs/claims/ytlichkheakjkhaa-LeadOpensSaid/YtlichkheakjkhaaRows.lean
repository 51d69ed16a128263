/-
  No cell of these rows narrows 'for every input' (looked for: loops, veiled, ifaces, maps, wideKeys, modest, calm, conditions, laid).
  DERIVED. THE GIVEN ROWS OF THIS SEAT. 6 by the template 'for every input the law returns true; each argument reads behind the call as it read before'; 0 by the template 'total and deterministic' (their statements: YtlichkheakjkhaaTotals.lean).
  GIVEN WITH THE SEED: the statements are not yours to turn. If you find one false, say at which input.
  Laid BY PROGRAM, IN A SANDBOX (cutbox-rows.mjs): the forced cells as the released guide's own fill.sh prints them over the translation 476a86535ec670b1… (all of the seat's roots in one cut). By AI agents, Wed Nov 11 2026. No macro, syntax, notation, axiom, sorry.
-/
import Derived.Test.YtlichkheakjkhaaChecked
import GoSem.Claim
import GoSem.ClaimJoined
import GoSem.ClaimMapViews
import Derived.JoinedTies
import Derived.KernelRfl
namespace Go.Proofs.Ytlichkheakjkhaa
/- THE CELL 'sum', in the pinned program and in every row, IS THE sha256 OF THE DUMP (.gsa) THAT YtlichkheakjkhaaProg.lean LOADS. Nothing in Lean hashes anything: it is a label: what it is worth is what the hold of that sum in a sandbox is worth. -/
noncomputable def Try.pinned : Pinned := { name := "ytlichkheakjkhaa", sum := "476a86535ec670b12b43aa228a8dbc064a36830ab61dfe48ceceb99b147e22a8", checked := Try.checked }
namespace Rows
def none {H : Type} : Left H := { results := [], args := [] }

/-- 'amphoralaw12.LeadBinds': WHATEVER THE INPUT: true; the input reads as it did. -/
def leadBindsSpec : ChangeSpec := { name := "leadBinds", fn := fun _ => fun
  | [d] => { results := [.lit (.bool true)], args := [d] }
  | _ => none }
def leadBindsRow : OpenClaim := { program := "ytlichkheakjkhaa", sum := "476a86535ec670b12b43aa228a8dbc064a36830ab61dfe48ceceb99b147e22a8", func := "amphora/amphoralaw12.LeadBinds", spec := "leadBinds", unfollowed := true, recurses := true, apart := false }
def LeadBindsSaid : Prop := leadBindsRow.holds Try.pinned (OpenSpec.ofChange leadBindsSpec)

/-- ITS FALSE NEIGHBOUR: 'it returns false'. Refute it at one input. -/
def leadBindsWrong : ChangeSpec := { name := "leadBinds", fn := fun _ => fun
  | [d] => { results := [.lit (.bool false)], args := [d] }
  | _ => none }
def LeadBindsWrongFalsely : Prop := leadBindsRow.holds Try.pinned (OpenSpec.ofChange leadBindsWrong)

/-- 'amphoralaw12.LeadOpens': WHATEVER THE INPUT: true; the input reads as it did. -/
def leadOpensSpec : ChangeSpec := { name := "leadOpens", fn := fun _ => fun
  | [d1, d2] => { results := [.lit (.bool true)], args := [d1, d2] }
  | _ => none }
def leadOpensRow : OpenClaim := { program := "ytlichkheakjkhaa", sum := "476a86535ec670b12b43aa228a8dbc064a36830ab61dfe48ceceb99b147e22a8", func := "amphora/amphoralaw12.LeadOpens", spec := "leadOpens", unfollowed := true, recurses := true, apart := false }
def LeadOpensSaid : Prop := leadOpensRow.holds Try.pinned (OpenSpec.ofChange leadOpensSpec)

/-- ITS FALSE NEIGHBOUR: 'it returns false'. Refute it at one input. -/
def leadOpensWrong : ChangeSpec := { name := "leadOpens", fn := fun _ => fun
  | [d1, d2] => { results := [.lit (.bool false)], args := [d1, d2] }
  | _ => none }
def LeadOpensWrongFalsely : Prop := leadOpensRow.holds Try.pinned (OpenSpec.ofChange leadOpensWrong)

/-- 'amphoralaw12.LeadMeets': WHATEVER THE INPUT: true; the input reads as it did. -/
def leadMeetsSpec : ChangeSpec := { name := "leadMeets", fn := fun _ => fun
  | [d1, d2, d3] => { results := [.lit (.bool true)], args := [d1, d2, d3] }
  | _ => none }
def leadMeetsRow : OpenClaim := { program := "ytlichkheakjkhaa", sum := "476a86535ec670b12b43aa228a8dbc064a36830ab61dfe48ceceb99b147e22a8", func := "amphora/amphoralaw12.LeadMeets", spec := "leadMeets", unfollowed := true, recurses := true, apart := false }
def LeadMeetsSaid : Prop := leadMeetsRow.holds Try.pinned (OpenSpec.ofChange leadMeetsSpec)

/-- ITS FALSE NEIGHBOUR: 'it returns false'. Refute it at one input. -/
def leadMeetsWrong : ChangeSpec := { name := "leadMeets", fn := fun _ => fun
  | [d1, d2, d3] => { results := [.lit (.bool false)], args := [d1, d2, d3] }
  | _ => none }
def LeadMeetsWrongFalsely : Prop := leadMeetsRow.holds Try.pinned (OpenSpec.ofChange leadMeetsWrong)

/-- 'amphoralaw12.LeadChooses': WHATEVER THE INPUT: true; the input reads as it did. -/
def leadChoosesSpec : ChangeSpec := { name := "leadChooses", fn := fun _ => fun
  | [d1, d2] => { results := [.lit (.bool true)], args := [d1, d2] }
  | _ => none }
def leadChoosesRow : OpenClaim := { program := "ytlichkheakjkhaa", sum := "476a86535ec670b12b43aa228a8dbc064a36830ab61dfe48ceceb99b147e22a8", func := "amphora/amphoralaw12.LeadChooses", spec := "leadChooses", unfollowed := true, recurses := true, apart := false }
def LeadChoosesSaid : Prop := leadChoosesRow.holds Try.pinned (OpenSpec.ofChange leadChoosesSpec)

/-- ITS FALSE NEIGHBOUR: 'it returns false'. Refute it at one input. -/
def leadChoosesWrong : ChangeSpec := { name := "leadChooses", fn := fun _ => fun
  | [d1, d2] => { results := [.lit (.bool false)], args := [d1, d2] }
  | _ => none }
def LeadChoosesWrongFalsely : Prop := leadChoosesRow.holds Try.pinned (OpenSpec.ofChange leadChoosesWrong)

/-- 'amphoralaw12.LeadNobody': WHATEVER THE INPUT: true; the input reads as it did. -/
def leadNobodySpec : ChangeSpec := { name := "leadNobody", fn := fun _ => fun
  | [d1, d2, d3] => { results := [.lit (.bool true)], args := [d1, d2, d3] }
  | _ => none }
def leadNobodyRow : OpenClaim := { program := "ytlichkheakjkhaa", sum := "476a86535ec670b12b43aa228a8dbc064a36830ab61dfe48ceceb99b147e22a8", func := "amphora/amphoralaw12.LeadNobody", spec := "leadNobody", unfollowed := true, recurses := true, apart := false }
def LeadNobodySaid : Prop := leadNobodyRow.holds Try.pinned (OpenSpec.ofChange leadNobodySpec)

/-- ITS FALSE NEIGHBOUR: 'it returns false'. Refute it at one input. -/
def leadNobodyWrong : ChangeSpec := { name := "leadNobody", fn := fun _ => fun
  | [d1, d2, d3] => { results := [.lit (.bool false)], args := [d1, d2, d3] }
  | _ => none }
def LeadNobodyWrongFalsely : Prop := leadNobodyRow.holds Try.pinned (OpenSpec.ofChange leadNobodyWrong)

/-- 'amphoralaw12.LeadLives': WHATEVER THE INPUT: true; the input reads as it did. -/
def leadLivesSpec : ChangeSpec := { name := "leadLives", fn := fun _ => fun
  | [d1, d2, d3, d4] => { results := [.lit (.bool true)], args := [d1, d2, d3, d4] }
  | _ => none }
def leadLivesRow : OpenClaim := { program := "ytlichkheakjkhaa", sum := "476a86535ec670b12b43aa228a8dbc064a36830ab61dfe48ceceb99b147e22a8", func := "amphora/amphoralaw12.LeadLives", spec := "leadLives", unfollowed := true, recurses := true, apart := false }
def LeadLivesSaid : Prop := leadLivesRow.holds Try.pinned (OpenSpec.ofChange leadLivesSpec)

/-- ITS FALSE NEIGHBOUR: 'it returns false'. Refute it at one input. -/
def leadLivesWrong : ChangeSpec := { name := "leadLives", fn := fun _ => fun
  | [d1, d2, d3, d4] => { results := [.lit (.bool false)], args := [d1, d2, d3, d4] }
  | _ => none }
def LeadLivesWrongFalsely : Prop := leadLivesRow.holds Try.pinned (OpenSpec.ofChange leadLivesWrong)

/- THE SECOND FORM. 'bulk': how many values and letters a reading holds, each counted each time it is reached (what is shared counts as often as it is met; a slice's spare places count too). A statement '..UptoSaid' is the law's where the arguments, and the package variables that the reading takes, are together of bulk at most 1048576: NARROWER than '..Said'. Prove '..Said' where nothing that the law and all that it calls make is longer than what came in: it says more and counts as full. Else prove '..UptoSaid'. A law counts once. -/
mutual
def uptoBulk {H : Type} : DataW H → Nat
  | .lit (.string bytes) => bytes.length + 1
  | .lit _ => 1
  | .nil => 1
  | .ptr d => uptoBulk d + 1
  | .slice elems spare => uptoBulkAll elems + uptoBulkAll spare + 1
  | .agg parts => uptoBulkAll parts + 1
  | .iface _ d => uptoBulk d + 1
  | .map entries => uptoBulkEntries entries + 1
  | .held _ => 1
def uptoBulkAll {H : Type} : List (DataW H) → Nat
  | [] => 0
  | d :: r => uptoBulk d + uptoBulkAll r
def uptoBulkEntries {H : Type} : List (Lit × DataW H) → Nat
  | [] => 0
  | x :: r => uptoBulkEntry x + uptoBulkEntries r
def uptoBulkEntry {H : Type} : Lit × DataW H → Nat
  | (.string bytes, d) => bytes.length + uptoBulk d + 1
  | (_, d) => uptoBulk d + 1
 end
def uptoSmall : (H : Type) → List (DataW H) → Bool := fun _ ds => decide (uptoBulkAll ds ≤ 1048576)
def OpenSpec.upto (s : _root_.Go.ChangeSpec) : _root_.Go.OpenSpec := { _root_.Go.OpenSpec.ofChange s with cond := some uptoSmall }

/-- 'amphoralaw12.LeadBinds', WHERE WHAT IT READS IS OF BULK AT MOST 1048576: true; the input reads as it did. -/
def leadBindsUptoRow : OpenClaim := { program := "ytlichkheakjkhaa", sum := "476a86535ec670b12b43aa228a8dbc064a36830ab61dfe48ceceb99b147e22a8", func := "amphora/amphoralaw12.LeadBinds", spec := "leadBinds", unfollowed := true, recurses := true, apart := false, narrowed := true }
def LeadBindsUptoSaid : Prop := leadBindsUptoRow.holds Try.pinned (OpenSpec.upto leadBindsSpec)

/-- 'amphoralaw12.LeadOpens', WHERE WHAT IT READS IS OF BULK AT MOST 1048576: true; the input reads as it did. -/
def leadOpensUptoRow : OpenClaim := { program := "ytlichkheakjkhaa", sum := "476a86535ec670b12b43aa228a8dbc064a36830ab61dfe48ceceb99b147e22a8", func := "amphora/amphoralaw12.LeadOpens", spec := "leadOpens", unfollowed := true, recurses := true, apart := false, narrowed := true }
def LeadOpensUptoSaid : Prop := leadOpensUptoRow.holds Try.pinned (OpenSpec.upto leadOpensSpec)

/-- 'amphoralaw12.LeadMeets', WHERE WHAT IT READS IS OF BULK AT MOST 1048576: true; the input reads as it did. -/
def leadMeetsUptoRow : OpenClaim := { program := "ytlichkheakjkhaa", sum := "476a86535ec670b12b43aa228a8dbc064a36830ab61dfe48ceceb99b147e22a8", func := "amphora/amphoralaw12.LeadMeets", spec := "leadMeets", unfollowed := true, recurses := true, apart := false, narrowed := true }
def LeadMeetsUptoSaid : Prop := leadMeetsUptoRow.holds Try.pinned (OpenSpec.upto leadMeetsSpec)

/-- 'amphoralaw12.LeadChooses', WHERE WHAT IT READS IS OF BULK AT MOST 1048576: true; the input reads as it did. -/
def leadChoosesUptoRow : OpenClaim := { program := "ytlichkheakjkhaa", sum := "476a86535ec670b12b43aa228a8dbc064a36830ab61dfe48ceceb99b147e22a8", func := "amphora/amphoralaw12.LeadChooses", spec := "leadChooses", unfollowed := true, recurses := true, apart := false, narrowed := true }
def LeadChoosesUptoSaid : Prop := leadChoosesUptoRow.holds Try.pinned (OpenSpec.upto leadChoosesSpec)

/-- 'amphoralaw12.LeadNobody', WHERE WHAT IT READS IS OF BULK AT MOST 1048576: true; the input reads as it did. -/
def leadNobodyUptoRow : OpenClaim := { program := "ytlichkheakjkhaa", sum := "476a86535ec670b12b43aa228a8dbc064a36830ab61dfe48ceceb99b147e22a8", func := "amphora/amphoralaw12.LeadNobody", spec := "leadNobody", unfollowed := true, recurses := true, apart := false, narrowed := true }
def LeadNobodyUptoSaid : Prop := leadNobodyUptoRow.holds Try.pinned (OpenSpec.upto leadNobodySpec)

/-- 'amphoralaw12.LeadLives', WHERE WHAT IT READS IS OF BULK AT MOST 1048576: true; the input reads as it did. -/
def leadLivesUptoRow : OpenClaim := { program := "ytlichkheakjkhaa", sum := "476a86535ec670b12b43aa228a8dbc064a36830ab61dfe48ceceb99b147e22a8", func := "amphora/amphoralaw12.LeadLives", spec := "leadLives", unfollowed := true, recurses := true, apart := false, narrowed := true }
def LeadLivesUptoSaid : Prop := leadLivesUptoRow.holds Try.pinned (OpenSpec.upto leadLivesSpec)

end Rows
end Go.Proofs.Ytlichkheakjkhaa
