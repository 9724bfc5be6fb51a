/-
  No cell of these rows narrows 'for every input' (looked for: loops, veiled, ifaces, maps, wideKeys, modest, calm, conditions, laid).
  DERIVED. THE GIVEN ROWS OF THIS SEAT. 3 by the template 'for every input the law returns true; each argument reads behind the call as it read before'; 0 by the template 'total and deterministic' (their statements: YtdnmacehfbjiiaaTotals.lean).
  GIVEN WITH THE SEED: the statements are not yours to turn. If you find one false, say at which input.
  Laid BY PROGRAM, IN A SANDBOX (cutbox-rows.mjs): the forced cells as the released guide's own fill.sh prints them over the translation 5f678780b43cb28d… (all of the seat's roots in one cut). By AI agents, Wed Nov 11 2026. No macro, syntax, notation, axiom, sorry.
-/
import Derived.Test.YtdnmacehfbjiiaaChecked
import GoSem.Claim
import GoSem.ClaimJoined
import GoSem.ClaimMapViews
import Derived.JoinedTies
import Derived.KernelRfl
namespace Go.Proofs.Ytdnmacehfbjiiaa
/- THE CELL 'sum', in the pinned program and in every row, IS THE sha256 OF THE DUMP (.gsa) THAT YtdnmacehfbjiiaaProg.lean LOADS. Nothing in Lean hashes anything: it is a label: what it is worth is what the hold of that sum in a sandbox is worth. -/
noncomputable def Try.pinned : Pinned := { name := "ytdnmacehfbjiiaa", sum := "5f678780b43cb28d5e9d6a15b049151ad1a7a1b5858339f1773f4cb0012f5779", checked := Try.checked }
namespace Rows
def none {H : Type} : Left H := { results := [], args := [] }

/-- 'sumplaw41.DiffDoes': WHATEVER THE INPUT: true; the input reads as it did. -/
def diffDoesSpec : ChangeSpec := { name := "diffDoes", fn := fun _ => fun
  | [d1, d2, d3] => { results := [.lit (.bool true)], args := [d1, d2, d3] }
  | _ => none }
def diffDoesRow : OpenClaim := { program := "ytdnmacehfbjiiaa", sum := "5f678780b43cb28d5e9d6a15b049151ad1a7a1b5858339f1773f4cb0012f5779", func := "sump/sumplaw41.DiffDoes", spec := "diffDoes", unfollowed := true, recurses := true, apart := false }
def DiffDoesSaid : Prop := diffDoesRow.holds Try.pinned (OpenSpec.ofChange diffDoesSpec)

/-- ITS FALSE NEIGHBOUR: 'it returns false'. Refute it at one input. -/
def diffDoesWrong : ChangeSpec := { name := "diffDoes", fn := fun _ => fun
  | [d1, d2, d3] => { results := [.lit (.bool false)], args := [d1, d2, d3] }
  | _ => none }
def DiffDoesWrongFalsely : Prop := diffDoesRow.holds Try.pinned (OpenSpec.ofChange diffDoesWrong)

/-- 'sumplaw41.DiffBytes': WHATEVER THE INPUT: true; the input reads as it did. -/
def diffBytesSpec : ChangeSpec := { name := "diffBytes", fn := fun _ => fun
  | [d1, d2] => { results := [.lit (.bool true)], args := [d1, d2] }
  | _ => none }
def diffBytesRow : OpenClaim := { program := "ytdnmacehfbjiiaa", sum := "5f678780b43cb28d5e9d6a15b049151ad1a7a1b5858339f1773f4cb0012f5779", func := "sump/sumplaw41.DiffBytes", spec := "diffBytes", unfollowed := true, recurses := true, apart := false }
def DiffBytesSaid : Prop := diffBytesRow.holds Try.pinned (OpenSpec.ofChange diffBytesSpec)

/-- ITS FALSE NEIGHBOUR: 'it returns false'. Refute it at one input. -/
def diffBytesWrong : ChangeSpec := { name := "diffBytes", fn := fun _ => fun
  | [d1, d2] => { results := [.lit (.bool false)], args := [d1, d2] }
  | _ => none }
def DiffBytesWrongFalsely : Prop := diffBytesRow.holds Try.pinned (OpenSpec.ofChange diffBytesWrong)

/-- 'sumplaw41.DiffBack': WHATEVER THE INPUT: true; the input reads as it did. -/
def diffBackSpec : ChangeSpec := { name := "diffBack", fn := fun _ => fun
  | [d1, d2, d3, d4] => { results := [.lit (.bool true)], args := [d1, d2, d3, d4] }
  | _ => none }
def diffBackRow : OpenClaim := { program := "ytdnmacehfbjiiaa", sum := "5f678780b43cb28d5e9d6a15b049151ad1a7a1b5858339f1773f4cb0012f5779", func := "sump/sumplaw41.DiffBack", spec := "diffBack", unfollowed := true, recurses := true, apart := false }
def DiffBackSaid : Prop := diffBackRow.holds Try.pinned (OpenSpec.ofChange diffBackSpec)

/-- ITS FALSE NEIGHBOUR: 'it returns false'. Refute it at one input. -/
def diffBackWrong : ChangeSpec := { name := "diffBack", fn := fun _ => fun
  | [d1, d2, d3, d4] => { results := [.lit (.bool false)], args := [d1, d2, d3, d4] }
  | _ => none }
def DiffBackWrongFalsely : Prop := diffBackRow.holds Try.pinned (OpenSpec.ofChange diffBackWrong)

/- THE SECOND FORM. 'bulk': how many values and letters a reading holds, each counted each time it is reached (what is shared counts as often as it is met; a slice's spare places count too). A statement '..UptoSaid' is the law's where the arguments, and the package variables that the reading takes, are together of bulk at most 1048576: NARROWER than '..Said'. Prove '..Said' where nothing that the law and all that it calls make is longer than what came in: it says more and counts as full. Else prove '..UptoSaid'. A law counts once. -/
mutual
def uptoBulk {H : Type} : DataW H → Nat
  | .lit (.string bytes) => bytes.length + 1
  | .lit _ => 1
  | .nil => 1
  | .ptr d => uptoBulk d + 1
  | .slice elems spare => uptoBulkAll elems + uptoBulkAll spare + 1
  | .agg parts => uptoBulkAll parts + 1
  | .iface _ d => uptoBulk d + 1
  | .map entries => uptoBulkEntries entries + 1
  | .held _ => 1
def uptoBulkAll {H : Type} : List (DataW H) → Nat
  | [] => 0
  | d :: r => uptoBulk d + uptoBulkAll r
def uptoBulkEntries {H : Type} : List (Lit × DataW H) → Nat
  | [] => 0
  | x :: r => uptoBulkEntry x + uptoBulkEntries r
def uptoBulkEntry {H : Type} : Lit × DataW H → Nat
  | (.string bytes, d) => bytes.length + uptoBulk d + 1
  | (_, d) => uptoBulk d + 1
 end
def uptoSmall : (H : Type) → List (DataW H) → Bool := fun _ ds => decide (uptoBulkAll ds ≤ 1048576)
def OpenSpec.upto (s : _root_.Go.ChangeSpec) : _root_.Go.OpenSpec := { _root_.Go.OpenSpec.ofChange s with cond := some uptoSmall }

/-- 'sumplaw41.DiffDoes', WHERE WHAT IT READS IS OF BULK AT MOST 1048576: true; the input reads as it did. -/
def diffDoesUptoRow : OpenClaim := { program := "ytdnmacehfbjiiaa", sum := "5f678780b43cb28d5e9d6a15b049151ad1a7a1b5858339f1773f4cb0012f5779", func := "sump/sumplaw41.DiffDoes", spec := "diffDoes", unfollowed := true, recurses := true, apart := false, narrowed := true }
def DiffDoesUptoSaid : Prop := diffDoesUptoRow.holds Try.pinned (OpenSpec.upto diffDoesSpec)

/-- 'sumplaw41.DiffBytes', WHERE WHAT IT READS IS OF BULK AT MOST 1048576: true; the input reads as it did. -/
def diffBytesUptoRow : OpenClaim := { program := "ytdnmacehfbjiiaa", sum := "5f678780b43cb28d5e9d6a15b049151ad1a7a1b5858339f1773f4cb0012f5779", func := "sump/sumplaw41.DiffBytes", spec := "diffBytes", unfollowed := true, recurses := true, apart := false, narrowed := true }
def DiffBytesUptoSaid : Prop := diffBytesUptoRow.holds Try.pinned (OpenSpec.upto diffBytesSpec)

/-- 'sumplaw41.DiffBack', WHERE WHAT IT READS IS OF BULK AT MOST 1048576: true; the input reads as it did. -/
def diffBackUptoRow : OpenClaim := { program := "ytdnmacehfbjiiaa", sum := "5f678780b43cb28d5e9d6a15b049151ad1a7a1b5858339f1773f4cb0012f5779", func := "sump/sumplaw41.DiffBack", spec := "diffBack", unfollowed := true, recurses := true, apart := false, narrowed := true }
def DiffBackUptoSaid : Prop := diffBackUptoRow.holds Try.pinned (OpenSpec.upto diffBackSpec)

end Rows
end Go.Proofs.Ytdnmacehfbjiiaa
