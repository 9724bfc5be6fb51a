/-
  No cell of these rows narrows 'for every input' (looked for: loops, veiled, ifaces, maps, wideKeys, modest, calm, conditions, laid).
  DERIVED. THE GIVEN ROWS OF THIS SEAT. 7 by the template 'for every input the law returns true; each argument reads behind the call as it read before'; 0 by the template 'total and deterministic' (their statements: YtkakhjaaakophaaTotals.lean).
  GIVEN WITH THE SEED: the statements are not yours to turn. If you find one false, say at which input.
  Laid BY PROGRAM, IN A SANDBOX (cutbox-rows.mjs): the forced cells as the released guide's own fill.sh prints them over the translation eca321504ccd96c8… (all of the seat's roots in one cut). By AI agents, Wed Nov 11 2026. No macro, syntax, notation, axiom, sorry.
-/
import Derived.Test.YtkakhjaaakophaaChecked
import GoSem.Claim
import GoSem.ClaimJoined
import GoSem.ClaimMapViews
import Derived.JoinedTies
import Derived.KernelRfl
namespace Go.Proofs.Ytkakhjaaakophaa
/- THE CELL 'sum', in the pinned program and in every row, IS THE sha256 OF THE DUMP (.gsa) THAT YtkakhjaaakophaaProg.lean LOADS. Nothing in Lean hashes anything: it is a label: what it is worth is what the hold of that sum in a sandbox is worth. -/
noncomputable def Try.pinned : Pinned := { name := "ytkakhjaaakophaa", sum := "eca321504ccd96c85bb67290824c845cc173a1ba6cc137f71def6d887ce4b60b", checked := Try.checked }
namespace Rows
def none {H : Type} : Left H := { results := [], args := [] }

/-- 'sumplaw02.PolicyRises': WHATEVER THE INPUT: true; the input reads as it did. -/
def policyRisesSpec : ChangeSpec := { name := "policyRises", fn := fun _ => fun
  | [d1, d2, d3] => { results := [.lit (.bool true)], args := [d1, d2, d3] }
  | _ => none }
def policyRisesRow : OpenClaim := { program := "ytkakhjaaakophaa", sum := "eca321504ccd96c85bb67290824c845cc173a1ba6cc137f71def6d887ce4b60b", func := "sump/sumplaw02.PolicyRises", spec := "policyRises", unfollowed := true, recurses := true, apart := false }
def PolicyRisesSaid : Prop := policyRisesRow.holds Try.pinned (OpenSpec.ofChange policyRisesSpec)

/-- ITS FALSE NEIGHBOUR: 'it returns false'. Refute it at one input. -/
def policyRisesWrong : ChangeSpec := { name := "policyRises", fn := fun _ => fun
  | [d1, d2, d3] => { results := [.lit (.bool false)], args := [d1, d2, d3] }
  | _ => none }
def PolicyRisesWrongFalsely : Prop := policyRisesRow.holds Try.pinned (OpenSpec.ofChange policyRisesWrong)

/-- 'sumplaw06.GeomRoots': WHATEVER THE INPUT: true; the input reads as it did. -/
def geomRootsSpec : ChangeSpec := { name := "geomRoots", fn := fun _ => fun
  | [d1, d2, d3, d4] => { results := [.lit (.bool true)], args := [d1, d2, d3, d4] }
  | _ => none }
def geomRootsRow : OpenClaim := { program := "ytkakhjaaakophaa", sum := "eca321504ccd96c85bb67290824c845cc173a1ba6cc137f71def6d887ce4b60b", func := "sump/sumplaw06.GeomRoots", spec := "geomRoots", apart := false }
def GeomRootsSaid : Prop := geomRootsRow.holds Try.pinned (OpenSpec.ofChange geomRootsSpec)

/-- ITS FALSE NEIGHBOUR: 'it returns false'. Refute it at one input. -/
def geomRootsWrong : ChangeSpec := { name := "geomRoots", fn := fun _ => fun
  | [d1, d2, d3, d4] => { results := [.lit (.bool false)], args := [d1, d2, d3, d4] }
  | _ => none }
def GeomRootsWrongFalsely : Prop := geomRootsRow.holds Try.pinned (OpenSpec.ofChange geomRootsWrong)

/-- 'sumplaw06.GeomApart': WHATEVER THE INPUT: true; the input reads as it did. -/
def geomApartSpec : ChangeSpec := { name := "geomApart", fn := fun _ => fun
  | [d1, d2, d3] => { results := [.lit (.bool true)], args := [d1, d2, d3] }
  | _ => none }
def geomApartRow : OpenClaim := { program := "ytkakhjaaakophaa", sum := "eca321504ccd96c85bb67290824c845cc173a1ba6cc137f71def6d887ce4b60b", func := "sump/sumplaw06.GeomApart", spec := "geomApart", unfollowed := true, recurses := true, apart := false }
def GeomApartSaid : Prop := geomApartRow.holds Try.pinned (OpenSpec.ofChange geomApartSpec)

/-- ITS FALSE NEIGHBOUR: 'it returns false'. Refute it at one input. -/
def geomApartWrong : ChangeSpec := { name := "geomApart", fn := fun _ => fun
  | [d1, d2, d3] => { results := [.lit (.bool false)], args := [d1, d2, d3] }
  | _ => none }
def GeomApartWrongFalsely : Prop := geomApartRow.holds Try.pinned (OpenSpec.ofChange geomApartWrong)

/-- 'sumplaw02.PolicySteps': WHATEVER THE INPUT: true; the input reads as it did. -/
def policyStepsSpec : ChangeSpec := { name := "policySteps", fn := fun _ => fun
  | [d1, d2, d3, d4] => { results := [.lit (.bool true)], args := [d1, d2, d3, d4] }
  | _ => none }
def policyStepsRow : OpenClaim := { program := "ytkakhjaaakophaa", sum := "eca321504ccd96c85bb67290824c845cc173a1ba6cc137f71def6d887ce4b60b", func := "sump/sumplaw02.PolicySteps", spec := "policySteps", unfollowed := true, recurses := true, apart := false }
def PolicyStepsSaid : Prop := policyStepsRow.holds Try.pinned (OpenSpec.ofChange policyStepsSpec)

/-- ITS FALSE NEIGHBOUR: 'it returns false'. Refute it at one input. -/
def policyStepsWrong : ChangeSpec := { name := "policySteps", fn := fun _ => fun
  | [d1, d2, d3, d4] => { results := [.lit (.bool false)], args := [d1, d2, d3, d4] }
  | _ => none }
def PolicyStepsWrongFalsely : Prop := policyStepsRow.holds Try.pinned (OpenSpec.ofChange policyStepsWrong)

/-- 'sumplaw02.PolicyRuns': WHATEVER THE INPUT: true; the input reads as it did. -/
def policyRunsSpec : ChangeSpec := { name := "policyRuns", fn := fun _ => fun
  | [d1, d2] => { results := [.lit (.bool true)], args := [d1, d2] }
  | _ => none }
def policyRunsRow : OpenClaim := { program := "ytkakhjaaakophaa", sum := "eca321504ccd96c85bb67290824c845cc173a1ba6cc137f71def6d887ce4b60b", func := "sump/sumplaw02.PolicyRuns", spec := "policyRuns", unfollowed := true, recurses := true, apart := false }
def PolicyRunsSaid : Prop := policyRunsRow.holds Try.pinned (OpenSpec.ofChange policyRunsSpec)

/-- ITS FALSE NEIGHBOUR: 'it returns false'. Refute it at one input. -/
def policyRunsWrong : ChangeSpec := { name := "policyRuns", fn := fun _ => fun
  | [d1, d2] => { results := [.lit (.bool false)], args := [d1, d2] }
  | _ => none }
def PolicyRunsWrongFalsely : Prop := policyRunsRow.holds Try.pinned (OpenSpec.ofChange policyRunsWrong)

/-- 'sumplaw02.PolicyFirst': WHATEVER THE INPUT: true; the input reads as it did. -/
def policyFirstSpec : ChangeSpec := { name := "policyFirst", fn := fun _ => fun
  | [d1, d2] => { results := [.lit (.bool true)], args := [d1, d2] }
  | _ => none }
def policyFirstRow : OpenClaim := { program := "ytkakhjaaakophaa", sum := "eca321504ccd96c85bb67290824c845cc173a1ba6cc137f71def6d887ce4b60b", func := "sump/sumplaw02.PolicyFirst", spec := "policyFirst", unfollowed := true, recurses := true, apart := false }
def PolicyFirstSaid : Prop := policyFirstRow.holds Try.pinned (OpenSpec.ofChange policyFirstSpec)

/-- ITS FALSE NEIGHBOUR: 'it returns false'. Refute it at one input. -/
def policyFirstWrong : ChangeSpec := { name := "policyFirst", fn := fun _ => fun
  | [d1, d2] => { results := [.lit (.bool false)], args := [d1, d2] }
  | _ => none }
def PolicyFirstWrongFalsely : Prop := policyFirstRow.holds Try.pinned (OpenSpec.ofChange policyFirstWrong)

/-- 'sumplaw06.GeomPlaces': WHATEVER THE INPUT: true; the input reads as it did. -/
def geomPlacesSpec : ChangeSpec := { name := "geomPlaces", fn := fun _ => fun
  | [d1, d2, d3, d4, d5] => { results := [.lit (.bool true)], args := [d1, d2, d3, d4, d5] }
  | _ => none }
def geomPlacesRow : OpenClaim := { program := "ytkakhjaaakophaa", sum := "eca321504ccd96c85bb67290824c845cc173a1ba6cc137f71def6d887ce4b60b", func := "sump/sumplaw06.GeomPlaces", spec := "geomPlaces", unfollowed := true, recurses := true, apart := false }
def GeomPlacesSaid : Prop := geomPlacesRow.holds Try.pinned (OpenSpec.ofChange geomPlacesSpec)

/-- ITS FALSE NEIGHBOUR: 'it returns false'. Refute it at one input. -/
def geomPlacesWrong : ChangeSpec := { name := "geomPlaces", fn := fun _ => fun
  | [d1, d2, d3, d4, d5] => { results := [.lit (.bool false)], args := [d1, d2, d3, d4, d5] }
  | _ => none }
def GeomPlacesWrongFalsely : Prop := geomPlacesRow.holds Try.pinned (OpenSpec.ofChange geomPlacesWrong)

/- THE SECOND FORM. 'bulk': how many values and letters a reading holds, each counted each time it is reached (what is shared counts as often as it is met; a slice's spare places count too). A statement '..UptoSaid' is the law's where the arguments, and the package variables that the reading takes, are together of bulk at most 1048576: NARROWER than '..Said'. Prove '..Said' where nothing that the law and all that it calls make is longer than what came in: it says more and counts as full. Else prove '..UptoSaid'. A law counts once. -/
mutual
def uptoBulk {H : Type} : DataW H → Nat
  | .lit (.string bytes) => bytes.length + 1
  | .lit _ => 1
  | .nil => 1
  | .ptr d => uptoBulk d + 1
  | .slice elems spare => uptoBulkAll elems + uptoBulkAll spare + 1
  | .agg parts => uptoBulkAll parts + 1
  | .iface _ d => uptoBulk d + 1
  | .map entries => uptoBulkEntries entries + 1
  | .held _ => 1
def uptoBulkAll {H : Type} : List (DataW H) → Nat
  | [] => 0
  | d :: r => uptoBulk d + uptoBulkAll r
def uptoBulkEntries {H : Type} : List (Lit × DataW H) → Nat
  | [] => 0
  | x :: r => uptoBulkEntry x + uptoBulkEntries r
def uptoBulkEntry {H : Type} : Lit × DataW H → Nat
  | (.string bytes, d) => bytes.length + uptoBulk d + 1
  | (_, d) => uptoBulk d + 1
 end
def uptoSmall : (H : Type) → List (DataW H) → Bool := fun _ ds => decide (uptoBulkAll ds ≤ 1048576)
def OpenSpec.upto (s : _root_.Go.ChangeSpec) : _root_.Go.OpenSpec := { _root_.Go.OpenSpec.ofChange s with cond := some uptoSmall }

/-- 'sumplaw02.PolicyRises', WHERE WHAT IT READS IS OF BULK AT MOST 1048576: true; the input reads as it did. -/
def policyRisesUptoRow : OpenClaim := { program := "ytkakhjaaakophaa", sum := "eca321504ccd96c85bb67290824c845cc173a1ba6cc137f71def6d887ce4b60b", func := "sump/sumplaw02.PolicyRises", spec := "policyRises", unfollowed := true, recurses := true, apart := false, narrowed := true }
def PolicyRisesUptoSaid : Prop := policyRisesUptoRow.holds Try.pinned (OpenSpec.upto policyRisesSpec)

/-- 'sumplaw06.GeomRoots', WHERE WHAT IT READS IS OF BULK AT MOST 1048576: true; the input reads as it did. -/
def geomRootsUptoRow : OpenClaim := { program := "ytkakhjaaakophaa", sum := "eca321504ccd96c85bb67290824c845cc173a1ba6cc137f71def6d887ce4b60b", func := "sump/sumplaw06.GeomRoots", spec := "geomRoots", apart := false, narrowed := true }
def GeomRootsUptoSaid : Prop := geomRootsUptoRow.holds Try.pinned (OpenSpec.upto geomRootsSpec)

/-- 'sumplaw06.GeomApart', WHERE WHAT IT READS IS OF BULK AT MOST 1048576: true; the input reads as it did. -/
def geomApartUptoRow : OpenClaim := { program := "ytkakhjaaakophaa", sum := "eca321504ccd96c85bb67290824c845cc173a1ba6cc137f71def6d887ce4b60b", func := "sump/sumplaw06.GeomApart", spec := "geomApart", unfollowed := true, recurses := true, apart := false, narrowed := true }
def GeomApartUptoSaid : Prop := geomApartUptoRow.holds Try.pinned (OpenSpec.upto geomApartSpec)

/-- 'sumplaw02.PolicySteps', WHERE WHAT IT READS IS OF BULK AT MOST 1048576: true; the input reads as it did. -/
def policyStepsUptoRow : OpenClaim := { program := "ytkakhjaaakophaa", sum := "eca321504ccd96c85bb67290824c845cc173a1ba6cc137f71def6d887ce4b60b", func := "sump/sumplaw02.PolicySteps", spec := "policySteps", unfollowed := true, recurses := true, apart := false, narrowed := true }
def PolicyStepsUptoSaid : Prop := policyStepsUptoRow.holds Try.pinned (OpenSpec.upto policyStepsSpec)

/-- 'sumplaw02.PolicyRuns', WHERE WHAT IT READS IS OF BULK AT MOST 1048576: true; the input reads as it did. -/
def policyRunsUptoRow : OpenClaim := { program := "ytkakhjaaakophaa", sum := "eca321504ccd96c85bb67290824c845cc173a1ba6cc137f71def6d887ce4b60b", func := "sump/sumplaw02.PolicyRuns", spec := "policyRuns", unfollowed := true, recurses := true, apart := false, narrowed := true }
def PolicyRunsUptoSaid : Prop := policyRunsUptoRow.holds Try.pinned (OpenSpec.upto policyRunsSpec)

/-- 'sumplaw02.PolicyFirst', WHERE WHAT IT READS IS OF BULK AT MOST 1048576: true; the input reads as it did. -/
def policyFirstUptoRow : OpenClaim := { program := "ytkakhjaaakophaa", sum := "eca321504ccd96c85bb67290824c845cc173a1ba6cc137f71def6d887ce4b60b", func := "sump/sumplaw02.PolicyFirst", spec := "policyFirst", unfollowed := true, recurses := true, apart := false, narrowed := true }
def PolicyFirstUptoSaid : Prop := policyFirstUptoRow.holds Try.pinned (OpenSpec.upto policyFirstSpec)

/-- 'sumplaw06.GeomPlaces', WHERE WHAT IT READS IS OF BULK AT MOST 1048576: true; the input reads as it did. -/
def geomPlacesUptoRow : OpenClaim := { program := "ytkakhjaaakophaa", sum := "eca321504ccd96c85bb67290824c845cc173a1ba6cc137f71def6d887ce4b60b", func := "sump/sumplaw06.GeomPlaces", spec := "geomPlaces", unfollowed := true, recurses := true, apart := false, narrowed := true }
def GeomPlacesUptoSaid : Prop := geomPlacesUptoRow.holds Try.pinned (OpenSpec.upto geomPlacesSpec)

end Rows
end Go.Proofs.Ytkakhjaaakophaa
