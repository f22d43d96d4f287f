/-
  No cell of these rows narrows 'for every input' (looked for: loops, veiled, ifaces, maps, wideKeys, modest, calm, conditions, laid).
  DERIVED. THE GIVEN ROWS OF THIS SEAT. 6 by the template 'for every input the law returns true; each argument reads behind the call as it read before'; 0 by the template 'total and deterministic' (their statements: YtlofmgdjnaajjaaTotals.lean).
  GIVEN WITH THE SEED: the statements are not yours to turn. If you find one false, say at which input.
  Laid BY PROGRAM, IN A SANDBOX (cutbox-rows.mjs): the forced cells as the released guide's own fill.sh prints them over the translation 59851a2141eddbb5… (all of the seat's roots in one cut). By AI agents, Wed Nov 11 2026. No macro, syntax, notation, axiom, sorry.
-/
import Derived.Test.YtlofmgdjnaajjaaChecked
import GoSem.Claim
import GoSem.ClaimJoined
import GoSem.ClaimMapViews
import Derived.JoinedTies
import Derived.KernelRfl
namespace Go.Proofs.Ytlofmgdjnaajjaa
/- THE CELL 'sum', in the pinned program and in every row, IS THE sha256 OF THE DUMP (.gsa) THAT YtlofmgdjnaajjaaProg.lean LOADS. Nothing in Lean hashes anything: it is a label: what it is worth is what the hold of that sum in a sandbox is worth. -/
noncomputable def Try.pinned : Pinned := { name := "ytlofmgdjnaajjaa", sum := "59851a2141eddbb5b3b1292c0e34dd3210bddfc41f5d269c7794b9f4a8018193", checked := Try.checked }
namespace Rows
def none {H : Type} : Left H := { results := [], args := [] }

/-- 'wireloomlaw45.MonitorMatchesReference': WHATEVER THE INPUT: true; the input reads as it did. -/
def monitorMatchesReferenceSpec : ChangeSpec := { name := "monitorMatchesReference", fn := fun _ => fun
  | [d1, d2, d3] => { results := [.lit (.bool true)], args := [d1, d2, d3] }
  | _ => none }
def monitorMatchesReferenceRow : OpenClaim := { program := "ytlofmgdjnaajjaa", sum := "59851a2141eddbb5b3b1292c0e34dd3210bddfc41f5d269c7794b9f4a8018193", func := "wireloom/wireloomlaw45.MonitorMatchesReference", spec := "monitorMatchesReference", unfollowed := true, recurses := true, apart := false }
def MonitorMatchesReferenceSaid : Prop := monitorMatchesReferenceRow.holds Try.pinned (OpenSpec.ofChange monitorMatchesReferenceSpec)

/-- ITS FALSE NEIGHBOUR: 'it returns false'. Refute it at one input. -/
def monitorMatchesReferenceWrong : ChangeSpec := { name := "monitorMatchesReference", fn := fun _ => fun
  | [d1, d2, d3] => { results := [.lit (.bool false)], args := [d1, d2, d3] }
  | _ => none }
def MonitorMatchesReferenceWrongFalsely : Prop := monitorMatchesReferenceRow.holds Try.pinned (OpenSpec.ofChange monitorMatchesReferenceWrong)

/-- 'wireloomlaw45.MonitorMonotone': WHATEVER THE INPUT: true; the input reads as it did. -/
def monitorMonotoneSpec : ChangeSpec := { name := "monitorMonotone", fn := fun _ => fun
  | [d1, d2] => { results := [.lit (.bool true)], args := [d1, d2] }
  | _ => none }
def monitorMonotoneRow : OpenClaim := { program := "ytlofmgdjnaajjaa", sum := "59851a2141eddbb5b3b1292c0e34dd3210bddfc41f5d269c7794b9f4a8018193", func := "wireloom/wireloomlaw45.MonitorMonotone", spec := "monitorMonotone", unfollowed := true, recurses := true, apart := false }
def MonitorMonotoneSaid : Prop := monitorMonotoneRow.holds Try.pinned (OpenSpec.ofChange monitorMonotoneSpec)

/-- ITS FALSE NEIGHBOUR: 'it returns false'. Refute it at one input. -/
def monitorMonotoneWrong : ChangeSpec := { name := "monitorMonotone", fn := fun _ => fun
  | [d1, d2] => { results := [.lit (.bool false)], args := [d1, d2] }
  | _ => none }
def MonitorMonotoneWrongFalsely : Prop := monitorMonotoneRow.holds Try.pinned (OpenSpec.ofChange monitorMonotoneWrong)

/-- 'wireloomlaw45.MonitorMisses': WHATEVER THE INPUT: true; the input reads as it did. -/
def monitorMissesSpec : ChangeSpec := { name := "monitorMisses", fn := fun _ => fun
  | [d1, d2] => { results := [.lit (.bool true)], args := [d1, d2] }
  | _ => none }
def monitorMissesRow : OpenClaim := { program := "ytlofmgdjnaajjaa", sum := "59851a2141eddbb5b3b1292c0e34dd3210bddfc41f5d269c7794b9f4a8018193", func := "wireloom/wireloomlaw45.MonitorMisses", spec := "monitorMisses", unfollowed := true, recurses := true, apart := false }
def MonitorMissesSaid : Prop := monitorMissesRow.holds Try.pinned (OpenSpec.ofChange monitorMissesSpec)

/-- ITS FALSE NEIGHBOUR: 'it returns false'. Refute it at one input. -/
def monitorMissesWrong : ChangeSpec := { name := "monitorMisses", fn := fun _ => fun
  | [d1, d2] => { results := [.lit (.bool false)], args := [d1, d2] }
  | _ => none }
def MonitorMissesWrongFalsely : Prop := monitorMissesRow.holds Try.pinned (OpenSpec.ofChange monitorMissesWrong)

/-- 'wireloomlaw45.MonitorSafe': WHATEVER THE INPUT: true; the input reads as it did. -/
def monitorSafeSpec : ChangeSpec := { name := "monitorSafe", fn := fun _ => fun
  | [d1, d2] => { results := [.lit (.bool true)], args := [d1, d2] }
  | _ => none }
def monitorSafeRow : OpenClaim := { program := "ytlofmgdjnaajjaa", sum := "59851a2141eddbb5b3b1292c0e34dd3210bddfc41f5d269c7794b9f4a8018193", func := "wireloom/wireloomlaw45.MonitorSafe", spec := "monitorSafe", unfollowed := true, recurses := true, apart := false }
def MonitorSafeSaid : Prop := monitorSafeRow.holds Try.pinned (OpenSpec.ofChange monitorSafeSpec)

/-- ITS FALSE NEIGHBOUR: 'it returns false'. Refute it at one input. -/
def monitorSafeWrong : ChangeSpec := { name := "monitorSafe", fn := fun _ => fun
  | [d1, d2] => { results := [.lit (.bool false)], args := [d1, d2] }
  | _ => none }
def MonitorSafeWrongFalsely : Prop := monitorSafeRow.holds Try.pinned (OpenSpec.ofChange monitorSafeWrong)

/-- 'wireloomlaw45.MonitorBounds': WHATEVER THE INPUT: true; the input reads as it did. -/
def monitorBoundsSpec : ChangeSpec := { name := "monitorBounds", fn := fun _ => fun
  | [d1, d2] => { results := [.lit (.bool true)], args := [d1, d2] }
  | _ => none }
def monitorBoundsRow : OpenClaim := { program := "ytlofmgdjnaajjaa", sum := "59851a2141eddbb5b3b1292c0e34dd3210bddfc41f5d269c7794b9f4a8018193", func := "wireloom/wireloomlaw45.MonitorBounds", spec := "monitorBounds", unfollowed := true, recurses := true, apart := false }
def MonitorBoundsSaid : Prop := monitorBoundsRow.holds Try.pinned (OpenSpec.ofChange monitorBoundsSpec)

/-- ITS FALSE NEIGHBOUR: 'it returns false'. Refute it at one input. -/
def monitorBoundsWrong : ChangeSpec := { name := "monitorBounds", fn := fun _ => fun
  | [d1, d2] => { results := [.lit (.bool false)], args := [d1, d2] }
  | _ => none }
def MonitorBoundsWrongFalsely : Prop := monitorBoundsRow.holds Try.pinned (OpenSpec.ofChange monitorBoundsWrong)

/-- 'wireloomlaw45.MonitorNeeded': WHATEVER THE INPUT: true; the input reads as it did. -/
def monitorNeededSpec : ChangeSpec := { name := "monitorNeeded", fn := fun _ => fun
  | [d] => { results := [.lit (.bool true)], args := [d] }
  | _ => none }
def monitorNeededRow : OpenClaim := { program := "ytlofmgdjnaajjaa", sum := "59851a2141eddbb5b3b1292c0e34dd3210bddfc41f5d269c7794b9f4a8018193", func := "wireloom/wireloomlaw45.MonitorNeeded", spec := "monitorNeeded", unfollowed := true, recurses := true, apart := false }
def MonitorNeededSaid : Prop := monitorNeededRow.holds Try.pinned (OpenSpec.ofChange monitorNeededSpec)

/-- ITS FALSE NEIGHBOUR: 'it returns false'. Refute it at one input. -/
def monitorNeededWrong : ChangeSpec := { name := "monitorNeeded", fn := fun _ => fun
  | [d] => { results := [.lit (.bool false)], args := [d] }
  | _ => none }
def MonitorNeededWrongFalsely : Prop := monitorNeededRow.holds Try.pinned (OpenSpec.ofChange monitorNeededWrong)

/- THE SECOND FORM. 'bulk': how many values and letters a reading holds, each counted each time it is reached (what is shared counts as often as it is met; a slice's spare places count too). A statement '..UptoSaid' is the law's where the arguments, and the package variables that the reading takes, are together of bulk at most 1048576: NARROWER than '..Said'. Prove '..Said' where nothing that the law and all that it calls make is longer than what came in: it says more and counts as full. Else prove '..UptoSaid'. A law counts once. -/
mutual
def uptoBulk {H : Type} : DataW H → Nat
  | .lit (.string bytes) => bytes.length + 1
  | .lit _ => 1
  | .nil => 1
  | .ptr d => uptoBulk d + 1
  | .slice elems spare => uptoBulkAll elems + uptoBulkAll spare + 1
  | .agg parts => uptoBulkAll parts + 1
  | .iface _ d => uptoBulk d + 1
  | .map entries => uptoBulkEntries entries + 1
  | .held _ => 1
def uptoBulkAll {H : Type} : List (DataW H) → Nat
  | [] => 0
  | d :: r => uptoBulk d + uptoBulkAll r
def uptoBulkEntries {H : Type} : List (Lit × DataW H) → Nat
  | [] => 0
  | x :: r => uptoBulkEntry x + uptoBulkEntries r
def uptoBulkEntry {H : Type} : Lit × DataW H → Nat
  | (.string bytes, d) => bytes.length + uptoBulk d + 1
  | (_, d) => uptoBulk d + 1
 end
def uptoSmall : (H : Type) → List (DataW H) → Bool := fun _ ds => decide (uptoBulkAll ds ≤ 1048576)
def OpenSpec.upto (s : _root_.Go.ChangeSpec) : _root_.Go.OpenSpec := { _root_.Go.OpenSpec.ofChange s with cond := some uptoSmall }

/-- 'wireloomlaw45.MonitorMatchesReference', WHERE WHAT IT READS IS OF BULK AT MOST 1048576: true; the input reads as it did. -/
def monitorMatchesReferenceUptoRow : OpenClaim := { program := "ytlofmgdjnaajjaa", sum := "59851a2141eddbb5b3b1292c0e34dd3210bddfc41f5d269c7794b9f4a8018193", func := "wireloom/wireloomlaw45.MonitorMatchesReference", spec := "monitorMatchesReference", unfollowed := true, recurses := true, apart := false, narrowed := true }
def MonitorMatchesReferenceUptoSaid : Prop := monitorMatchesReferenceUptoRow.holds Try.pinned (OpenSpec.upto monitorMatchesReferenceSpec)

/-- 'wireloomlaw45.MonitorMonotone', WHERE WHAT IT READS IS OF BULK AT MOST 1048576: true; the input reads as it did. -/
def monitorMonotoneUptoRow : OpenClaim := { program := "ytlofmgdjnaajjaa", sum := "59851a2141eddbb5b3b1292c0e34dd3210bddfc41f5d269c7794b9f4a8018193", func := "wireloom/wireloomlaw45.MonitorMonotone", spec := "monitorMonotone", unfollowed := true, recurses := true, apart := false, narrowed := true }
def MonitorMonotoneUptoSaid : Prop := monitorMonotoneUptoRow.holds Try.pinned (OpenSpec.upto monitorMonotoneSpec)

/-- 'wireloomlaw45.MonitorMisses', WHERE WHAT IT READS IS OF BULK AT MOST 1048576: true; the input reads as it did. -/
def monitorMissesUptoRow : OpenClaim := { program := "ytlofmgdjnaajjaa", sum := "59851a2141eddbb5b3b1292c0e34dd3210bddfc41f5d269c7794b9f4a8018193", func := "wireloom/wireloomlaw45.MonitorMisses", spec := "monitorMisses", unfollowed := true, recurses := true, apart := false, narrowed := true }
def MonitorMissesUptoSaid : Prop := monitorMissesUptoRow.holds Try.pinned (OpenSpec.upto monitorMissesSpec)

/-- 'wireloomlaw45.MonitorSafe', WHERE WHAT IT READS IS OF BULK AT MOST 1048576: true; the input reads as it did. -/
def monitorSafeUptoRow : OpenClaim := { program := "ytlofmgdjnaajjaa", sum := "59851a2141eddbb5b3b1292c0e34dd3210bddfc41f5d269c7794b9f4a8018193", func := "wireloom/wireloomlaw45.MonitorSafe", spec := "monitorSafe", unfollowed := true, recurses := true, apart := false, narrowed := true }
def MonitorSafeUptoSaid : Prop := monitorSafeUptoRow.holds Try.pinned (OpenSpec.upto monitorSafeSpec)

/-- 'wireloomlaw45.MonitorBounds', WHERE WHAT IT READS IS OF BULK AT MOST 1048576: true; the input reads as it did. -/
def monitorBoundsUptoRow : OpenClaim := { program := "ytlofmgdjnaajjaa", sum := "59851a2141eddbb5b3b1292c0e34dd3210bddfc41f5d269c7794b9f4a8018193", func := "wireloom/wireloomlaw45.MonitorBounds", spec := "monitorBounds", unfollowed := true, recurses := true, apart := false, narrowed := true }
def MonitorBoundsUptoSaid : Prop := monitorBoundsUptoRow.holds Try.pinned (OpenSpec.upto monitorBoundsSpec)

/-- 'wireloomlaw45.MonitorNeeded', WHERE WHAT IT READS IS OF BULK AT MOST 1048576: true; the input reads as it did. -/
def monitorNeededUptoRow : OpenClaim := { program := "ytlofmgdjnaajjaa", sum := "59851a2141eddbb5b3b1292c0e34dd3210bddfc41f5d269c7794b9f4a8018193", func := "wireloom/wireloomlaw45.MonitorNeeded", spec := "monitorNeeded", unfollowed := true, recurses := true, apart := false, narrowed := true }
def MonitorNeededUptoSaid : Prop := monitorNeededUptoRow.holds Try.pinned (OpenSpec.upto monitorNeededSpec)

end Rows
end Go.Proofs.Ytlofmgdjnaajjaa
