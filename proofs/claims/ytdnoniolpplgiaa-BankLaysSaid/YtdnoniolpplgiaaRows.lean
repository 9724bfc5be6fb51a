/-
  No cell of these rows narrows 'for every input' (looked for: loops, veiled, ifaces, maps, wideKeys, modest, calm, conditions, laid).
  DERIVED. THE GIVEN ROWS OF THIS SEAT. 8 by the template 'for every input the law returns true; each argument reads behind the call as it read before'; 0 by the template 'total and deterministic' (their statements: YtdnoniolpplgiaaTotals.lean).
  GIVEN WITH THE SEED: the statements are not yours to turn. If you find one false, say at which input.
  Laid BY PROGRAM, IN A SANDBOX (cutbox-rows.mjs): the forced cells as the released guide's own fill.sh prints them over the translation ba3203c898ecd80c… (all of the seat's roots in one cut). By AI agents, Wed Nov 11 2026. No macro, syntax, notation, axiom, sorry.
-/
import Derived.Test.YtdnoniolpplgiaaChecked
import GoSem.Claim
import GoSem.ClaimJoined
import GoSem.ClaimMapViews
import Derived.JoinedTies
import Derived.KernelRfl
namespace Go.Proofs.Ytdnoniolpplgiaa
/- THE CELL 'sum', in the pinned program and in every row, IS THE sha256 OF THE DUMP (.gsa) THAT YtdnoniolpplgiaaProg.lean LOADS. Nothing in Lean hashes anything: it is a label: what it is worth is what the hold of that sum in a sandbox is worth. -/
noncomputable def Try.pinned : Pinned := { name := "ytdnoniolpplgiaa", sum := "ba3203c898ecd80c2f1ab4a803aec3036d4f4f1b3db1de6cc36dfd084e8cce3e", checked := Try.checked }
namespace Rows
def none {H : Type} : Left H := { results := [], args := [] }

/-- 'sumplaw04.PmemArmed': WHATEVER THE INPUT: true; the input reads as it did. -/
def pmemArmedSpec : ChangeSpec := { name := "pmemArmed", fn := fun _ => fun
  | [d1, d2] => { results := [.lit (.bool true)], args := [d1, d2] }
  | _ => none }
def pmemArmedRow : OpenClaim := { program := "ytdnoniolpplgiaa", sum := "ba3203c898ecd80c2f1ab4a803aec3036d4f4f1b3db1de6cc36dfd084e8cce3e", func := "sump/sumplaw04.PmemArmed", spec := "pmemArmed", unfollowed := true, recurses := true, apart := false }
def PmemArmedSaid : Prop := pmemArmedRow.holds Try.pinned (OpenSpec.ofChange pmemArmedSpec)

/-- ITS FALSE NEIGHBOUR: 'it returns false'. Refute it at one input. -/
def pmemArmedWrong : ChangeSpec := { name := "pmemArmed", fn := fun _ => fun
  | [d1, d2] => { results := [.lit (.bool false)], args := [d1, d2] }
  | _ => none }
def PmemArmedWrongFalsely : Prop := pmemArmedRow.holds Try.pinned (OpenSpec.ofChange pmemArmedWrong)

/-- 'sumplaw04.PmemStays': WHATEVER THE INPUT: true; the input reads as it did. -/
def pmemStaysSpec : ChangeSpec := { name := "pmemStays", fn := fun _ => fun
  | [d1, d2, d3, d4, d5] => { results := [.lit (.bool true)], args := [d1, d2, d3, d4, d5] }
  | _ => none }
def pmemStaysRow : OpenClaim := { program := "ytdnoniolpplgiaa", sum := "ba3203c898ecd80c2f1ab4a803aec3036d4f4f1b3db1de6cc36dfd084e8cce3e", func := "sump/sumplaw04.PmemStays", spec := "pmemStays", unfollowed := true, recurses := true, apart := false }
def PmemStaysSaid : Prop := pmemStaysRow.holds Try.pinned (OpenSpec.ofChange pmemStaysSpec)

/-- ITS FALSE NEIGHBOUR: 'it returns false'. Refute it at one input. -/
def pmemStaysWrong : ChangeSpec := { name := "pmemStays", fn := fun _ => fun
  | [d1, d2, d3, d4, d5] => { results := [.lit (.bool false)], args := [d1, d2, d3, d4, d5] }
  | _ => none }
def PmemStaysWrongFalsely : Prop := pmemStaysRow.holds Try.pinned (OpenSpec.ofChange pmemStaysWrong)

/-- 'sumplaw04.PmemDoes': WHATEVER THE INPUT: true; the input reads as it did. -/
def pmemDoesSpec : ChangeSpec := { name := "pmemDoes", fn := fun _ => fun
  | [d1, d2] => { results := [.lit (.bool true)], args := [d1, d2] }
  | _ => none }
def pmemDoesRow : OpenClaim := { program := "ytdnoniolpplgiaa", sum := "ba3203c898ecd80c2f1ab4a803aec3036d4f4f1b3db1de6cc36dfd084e8cce3e", func := "sump/sumplaw04.PmemDoes", spec := "pmemDoes", inPlace := ["maps.clone"], unfollowed := true, recurses := true, apart := false }
def PmemDoesSaid : Prop := pmemDoesRow.holds Try.pinned (OpenSpec.ofChange pmemDoesSpec)

/-- ITS FALSE NEIGHBOUR: 'it returns false'. Refute it at one input. -/
def pmemDoesWrong : ChangeSpec := { name := "pmemDoes", fn := fun _ => fun
  | [d1, d2] => { results := [.lit (.bool false)], args := [d1, d2] }
  | _ => none }
def PmemDoesWrongFalsely : Prop := pmemDoesRow.holds Try.pinned (OpenSpec.ofChange pmemDoesWrong)

/-- 'sumplaw04.PmemOnly': WHATEVER THE INPUT: true; the input reads as it did. -/
def pmemOnlySpec : ChangeSpec := { name := "pmemOnly", fn := fun _ => fun
  | [d1, d2, d3] => { results := [.lit (.bool true)], args := [d1, d2, d3] }
  | _ => none }
def pmemOnlyRow : OpenClaim := { program := "ytdnoniolpplgiaa", sum := "ba3203c898ecd80c2f1ab4a803aec3036d4f4f1b3db1de6cc36dfd084e8cce3e", func := "sump/sumplaw04.PmemOnly", spec := "pmemOnly", inPlace := ["maps.clone"], unfollowed := true, recurses := true, apart := false }
def PmemOnlySaid : Prop := pmemOnlyRow.holds Try.pinned (OpenSpec.ofChange pmemOnlySpec)

/-- ITS FALSE NEIGHBOUR: 'it returns false'. Refute it at one input. -/
def pmemOnlyWrong : ChangeSpec := { name := "pmemOnly", fn := fun _ => fun
  | [d1, d2, d3] => { results := [.lit (.bool false)], args := [d1, d2, d3] }
  | _ => none }
def PmemOnlyWrongFalsely : Prop := pmemOnlyRow.holds Try.pinned (OpenSpec.ofChange pmemOnlyWrong)

/-- 'sumplaw11.BankWhole': WHATEVER THE INPUT: true; the input reads as it did. -/
def bankWholeSpec : ChangeSpec := { name := "bankWhole", fn := fun _ => fun
  | [d1, d2, d3, d4, d5, d6] => { results := [.lit (.bool true)], args := [d1, d2, d3, d4, d5, d6] }
  | _ => none }
def bankWholeRow : OpenClaim := { program := "ytdnoniolpplgiaa", sum := "ba3203c898ecd80c2f1ab4a803aec3036d4f4f1b3db1de6cc36dfd084e8cce3e", func := "sump/sumplaw11.BankWhole", spec := "bankWhole", unfollowed := true, recurses := true, apart := false }
def BankWholeSaid : Prop := bankWholeRow.holds Try.pinned (OpenSpec.ofChange bankWholeSpec)

/-- ITS FALSE NEIGHBOUR: 'it returns false'. Refute it at one input. -/
def bankWholeWrong : ChangeSpec := { name := "bankWhole", fn := fun _ => fun
  | [d1, d2, d3, d4, d5, d6] => { results := [.lit (.bool false)], args := [d1, d2, d3, d4, d5, d6] }
  | _ => none }
def BankWholeWrongFalsely : Prop := bankWholeRow.holds Try.pinned (OpenSpec.ofChange bankWholeWrong)

/-- 'sumplaw11.BankReads': WHATEVER THE INPUT: true; the input reads as it did. -/
def bankReadsSpec : ChangeSpec := { name := "bankReads", fn := fun _ => fun
  | [d1, d2, d3] => { results := [.lit (.bool true)], args := [d1, d2, d3] }
  | _ => none }
def bankReadsRow : OpenClaim := { program := "ytdnoniolpplgiaa", sum := "ba3203c898ecd80c2f1ab4a803aec3036d4f4f1b3db1de6cc36dfd084e8cce3e", func := "sump/sumplaw11.BankReads", spec := "bankReads", unfollowed := true, recurses := true, apart := false }
def BankReadsSaid : Prop := bankReadsRow.holds Try.pinned (OpenSpec.ofChange bankReadsSpec)

/-- ITS FALSE NEIGHBOUR: 'it returns false'. Refute it at one input. -/
def bankReadsWrong : ChangeSpec := { name := "bankReads", fn := fun _ => fun
  | [d1, d2, d3] => { results := [.lit (.bool false)], args := [d1, d2, d3] }
  | _ => none }
def BankReadsWrongFalsely : Prop := bankReadsRow.holds Try.pinned (OpenSpec.ofChange bankReadsWrong)

/-- 'sumplaw11.BankLays': WHATEVER THE INPUT: true; the input reads as it did. -/
def bankLaysSpec : ChangeSpec := { name := "bankLays", fn := fun _ => fun
  | [d1, d2, d3, d4, d5] => { results := [.lit (.bool true)], args := [d1, d2, d3, d4, d5] }
  | _ => none }
def bankLaysRow : OpenClaim := { program := "ytdnoniolpplgiaa", sum := "ba3203c898ecd80c2f1ab4a803aec3036d4f4f1b3db1de6cc36dfd084e8cce3e", func := "sump/sumplaw11.BankLays", spec := "bankLays", unfollowed := true, recurses := true, apart := false }
def BankLaysSaid : Prop := bankLaysRow.holds Try.pinned (OpenSpec.ofChange bankLaysSpec)

/-- ITS FALSE NEIGHBOUR: 'it returns false'. Refute it at one input. -/
def bankLaysWrong : ChangeSpec := { name := "bankLays", fn := fun _ => fun
  | [d1, d2, d3, d4, d5] => { results := [.lit (.bool false)], args := [d1, d2, d3, d4, d5] }
  | _ => none }
def BankLaysWrongFalsely : Prop := bankLaysRow.holds Try.pinned (OpenSpec.ofChange bankLaysWrong)

/-- 'sumplaw11.BankSwitch': WHATEVER THE INPUT: true; the input reads as it did. -/
def bankSwitchSpec : ChangeSpec := { name := "bankSwitch", fn := fun _ => fun
  | [d1, d2, d3, d4, d5] => { results := [.lit (.bool true)], args := [d1, d2, d3, d4, d5] }
  | _ => none }
def bankSwitchRow : OpenClaim := { program := "ytdnoniolpplgiaa", sum := "ba3203c898ecd80c2f1ab4a803aec3036d4f4f1b3db1de6cc36dfd084e8cce3e", func := "sump/sumplaw11.BankSwitch", spec := "bankSwitch", unfollowed := true, recurses := true, apart := false }
def BankSwitchSaid : Prop := bankSwitchRow.holds Try.pinned (OpenSpec.ofChange bankSwitchSpec)

/-- ITS FALSE NEIGHBOUR: 'it returns false'. Refute it at one input. -/
def bankSwitchWrong : ChangeSpec := { name := "bankSwitch", fn := fun _ => fun
  | [d1, d2, d3, d4, d5] => { results := [.lit (.bool false)], args := [d1, d2, d3, d4, d5] }
  | _ => none }
def BankSwitchWrongFalsely : Prop := bankSwitchRow.holds Try.pinned (OpenSpec.ofChange bankSwitchWrong)

/- THE SECOND FORM. 'bulk': how many values and letters a reading holds, each counted each time it is reached (what is shared counts as often as it is met; a slice's spare places count too). A statement '..UptoSaid' is the law's where the arguments, and the package variables that the reading takes, are together of bulk at most 1048576: NARROWER than '..Said'. Prove '..Said' where nothing that the law and all that it calls make is longer than what came in: it says more and counts as full. Else prove '..UptoSaid'. A law counts once. -/
mutual
def uptoBulk {H : Type} : DataW H → Nat
  | .lit (.string bytes) => bytes.length + 1
  | .lit _ => 1
  | .nil => 1
  | .ptr d => uptoBulk d + 1
  | .slice elems spare => uptoBulkAll elems + uptoBulkAll spare + 1
  | .agg parts => uptoBulkAll parts + 1
  | .iface _ d => uptoBulk d + 1
  | .map entries => uptoBulkEntries entries + 1
  | .held _ => 1
def uptoBulkAll {H : Type} : List (DataW H) → Nat
  | [] => 0
  | d :: r => uptoBulk d + uptoBulkAll r
def uptoBulkEntries {H : Type} : List (Lit × DataW H) → Nat
  | [] => 0
  | x :: r => uptoBulkEntry x + uptoBulkEntries r
def uptoBulkEntry {H : Type} : Lit × DataW H → Nat
  | (.string bytes, d) => bytes.length + uptoBulk d + 1
  | (_, d) => uptoBulk d + 1
 end
def uptoSmall : (H : Type) → List (DataW H) → Bool := fun _ ds => decide (uptoBulkAll ds ≤ 1048576)
def OpenSpec.upto (s : _root_.Go.ChangeSpec) : _root_.Go.OpenSpec := { _root_.Go.OpenSpec.ofChange s with cond := some uptoSmall }

/-- 'sumplaw04.PmemArmed', WHERE WHAT IT READS IS OF BULK AT MOST 1048576: true; the input reads as it did. -/
def pmemArmedUptoRow : OpenClaim := { program := "ytdnoniolpplgiaa", sum := "ba3203c898ecd80c2f1ab4a803aec3036d4f4f1b3db1de6cc36dfd084e8cce3e", func := "sump/sumplaw04.PmemArmed", spec := "pmemArmed", unfollowed := true, recurses := true, apart := false, narrowed := true }
def PmemArmedUptoSaid : Prop := pmemArmedUptoRow.holds Try.pinned (OpenSpec.upto pmemArmedSpec)

/-- 'sumplaw04.PmemStays', WHERE WHAT IT READS IS OF BULK AT MOST 1048576: true; the input reads as it did. -/
def pmemStaysUptoRow : OpenClaim := { program := "ytdnoniolpplgiaa", sum := "ba3203c898ecd80c2f1ab4a803aec3036d4f4f1b3db1de6cc36dfd084e8cce3e", func := "sump/sumplaw04.PmemStays", spec := "pmemStays", unfollowed := true, recurses := true, apart := false, narrowed := true }
def PmemStaysUptoSaid : Prop := pmemStaysUptoRow.holds Try.pinned (OpenSpec.upto pmemStaysSpec)

/-- 'sumplaw04.PmemDoes', WHERE WHAT IT READS IS OF BULK AT MOST 1048576: true; the input reads as it did. -/
def pmemDoesUptoRow : OpenClaim := { program := "ytdnoniolpplgiaa", sum := "ba3203c898ecd80c2f1ab4a803aec3036d4f4f1b3db1de6cc36dfd084e8cce3e", func := "sump/sumplaw04.PmemDoes", spec := "pmemDoes", inPlace := ["maps.clone"], unfollowed := true, recurses := true, apart := false, narrowed := true }
def PmemDoesUptoSaid : Prop := pmemDoesUptoRow.holds Try.pinned (OpenSpec.upto pmemDoesSpec)

/-- 'sumplaw04.PmemOnly', WHERE WHAT IT READS IS OF BULK AT MOST 1048576: true; the input reads as it did. -/
def pmemOnlyUptoRow : OpenClaim := { program := "ytdnoniolpplgiaa", sum := "ba3203c898ecd80c2f1ab4a803aec3036d4f4f1b3db1de6cc36dfd084e8cce3e", func := "sump/sumplaw04.PmemOnly", spec := "pmemOnly", inPlace := ["maps.clone"], unfollowed := true, recurses := true, apart := false, narrowed := true }
def PmemOnlyUptoSaid : Prop := pmemOnlyUptoRow.holds Try.pinned (OpenSpec.upto pmemOnlySpec)

/-- 'sumplaw11.BankWhole', WHERE WHAT IT READS IS OF BULK AT MOST 1048576: true; the input reads as it did. -/
def bankWholeUptoRow : OpenClaim := { program := "ytdnoniolpplgiaa", sum := "ba3203c898ecd80c2f1ab4a803aec3036d4f4f1b3db1de6cc36dfd084e8cce3e", func := "sump/sumplaw11.BankWhole", spec := "bankWhole", unfollowed := true, recurses := true, apart := false, narrowed := true }
def BankWholeUptoSaid : Prop := bankWholeUptoRow.holds Try.pinned (OpenSpec.upto bankWholeSpec)

/-- 'sumplaw11.BankReads', WHERE WHAT IT READS IS OF BULK AT MOST 1048576: true; the input reads as it did. -/
def bankReadsUptoRow : OpenClaim := { program := "ytdnoniolpplgiaa", sum := "ba3203c898ecd80c2f1ab4a803aec3036d4f4f1b3db1de6cc36dfd084e8cce3e", func := "sump/sumplaw11.BankReads", spec := "bankReads", unfollowed := true, recurses := true, apart := false, narrowed := true }
def BankReadsUptoSaid : Prop := bankReadsUptoRow.holds Try.pinned (OpenSpec.upto bankReadsSpec)

/-- 'sumplaw11.BankLays', WHERE WHAT IT READS IS OF BULK AT MOST 1048576: true; the input reads as it did. -/
def bankLaysUptoRow : OpenClaim := { program := "ytdnoniolpplgiaa", sum := "ba3203c898ecd80c2f1ab4a803aec3036d4f4f1b3db1de6cc36dfd084e8cce3e", func := "sump/sumplaw11.BankLays", spec := "bankLays", unfollowed := true, recurses := true, apart := false, narrowed := true }
def BankLaysUptoSaid : Prop := bankLaysUptoRow.holds Try.pinned (OpenSpec.upto bankLaysSpec)

/-- 'sumplaw11.BankSwitch', WHERE WHAT IT READS IS OF BULK AT MOST 1048576: true; the input reads as it did. -/
def bankSwitchUptoRow : OpenClaim := { program := "ytdnoniolpplgiaa", sum := "ba3203c898ecd80c2f1ab4a803aec3036d4f4f1b3db1de6cc36dfd084e8cce3e", func := "sump/sumplaw11.BankSwitch", spec := "bankSwitch", unfollowed := true, recurses := true, apart := false, narrowed := true }
def BankSwitchUptoSaid : Prop := bankSwitchUptoRow.holds Try.pinned (OpenSpec.upto bankSwitchSpec)

end Rows
end Go.Proofs.Ytdnoniolpplgiaa
