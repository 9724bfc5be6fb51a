/-
  No cell of these rows narrows 'for every input' (looked for: loops, veiled, ifaces, maps, wideKeys, modest, calm, conditions, laid).
  DERIVED. THE GIVEN ROWS OF THIS SEAT. 4 by the template 'for every input the law returns true; each argument reads behind the call as it read before'; 0 by the template 'total and deterministic' (their statements: YtcleabnbdfhmnaaTotals.lean).
  GIVEN WITH THE SEED: the statements are not yours to turn. If you find one false, say at which input.
  Laid BY PROGRAM, IN A SANDBOX (cutbox-rows.mjs): the forced cells as the released guide's own fill.sh prints them over the translation 62d509f861fe6770… (all of the seat's roots in one cut). By AI agents, Wed Nov 11 2026. No macro, syntax, notation, axiom, sorry.
-/
import Derived.Test.YtcleabnbdfhmnaaChecked
import GoSem.Claim
import GoSem.ClaimJoined
import GoSem.ClaimMapViews
import Derived.JoinedTies
import Derived.KernelRfl
namespace Go.Proofs.Ytcleabnbdfhmnaa
/- THE CELL 'sum', in the pinned program and in every row, IS THE sha256 OF THE DUMP (.gsa) THAT YtcleabnbdfhmnaaProg.lean LOADS. Nothing in Lean hashes anything: it is a label: what it is worth is what the hold of that sum in a sandbox is worth. -/
noncomputable def Try.pinned : Pinned := { name := "ytcleabnbdfhmnaa", sum := "62d509f861fe677033a563489709bd2e07b96d28817eb2545ee75535bc2c8a47", checked := Try.checked }
namespace Rows
def none {H : Type} : Left H := { results := [], args := [] }

/-- 'sumplaw29.LocksDoes': WHATEVER THE INPUT: true; the input reads as it did. -/
def locksDoesSpec : ChangeSpec := { name := "locksDoes", fn := fun _ => fun
  | [d] => { results := [.lit (.bool true)], args := [d] }
  | _ => none }
def locksDoesRow : OpenClaim := { program := "ytcleabnbdfhmnaa", sum := "62d509f861fe677033a563489709bd2e07b96d28817eb2545ee75535bc2c8a47", func := "sump/sumplaw29.LocksDoes", spec := "locksDoes", unfollowed := true, recurses := true, apart := false }
def LocksDoesSaid : Prop := locksDoesRow.holds Try.pinned (OpenSpec.ofChange locksDoesSpec)

/-- ITS FALSE NEIGHBOUR: 'it returns false'. Refute it at one input. -/
def locksDoesWrong : ChangeSpec := { name := "locksDoes", fn := fun _ => fun
  | [d] => { results := [.lit (.bool false)], args := [d] }
  | _ => none }
def LocksDoesWrongFalsely : Prop := locksDoesRow.holds Try.pinned (OpenSpec.ofChange locksDoesWrong)

/-- 'sumplaw29.LocksRight': WHATEVER THE INPUT: true; the input reads as it did. -/
def locksRightSpec : ChangeSpec := { name := "locksRight", fn := fun _ => fun
  | [d1, d2] => { results := [.lit (.bool true)], args := [d1, d2] }
  | _ => none }
def locksRightRow : OpenClaim := { program := "ytcleabnbdfhmnaa", sum := "62d509f861fe677033a563489709bd2e07b96d28817eb2545ee75535bc2c8a47", func := "sump/sumplaw29.LocksRight", spec := "locksRight", unfollowed := true, recurses := true, apart := false }
def LocksRightSaid : Prop := locksRightRow.holds Try.pinned (OpenSpec.ofChange locksRightSpec)

/-- ITS FALSE NEIGHBOUR: 'it returns false'. Refute it at one input. -/
def locksRightWrong : ChangeSpec := { name := "locksRight", fn := fun _ => fun
  | [d1, d2] => { results := [.lit (.bool false)], args := [d1, d2] }
  | _ => none }
def LocksRightWrongFalsely : Prop := locksRightRow.holds Try.pinned (OpenSpec.ofChange locksRightWrong)

/-- 'sumplaw20.CacheDoes': WHATEVER THE INPUT: true; the input reads as it did. -/
def cacheDoesSpec : ChangeSpec := { name := "cacheDoes", fn := fun _ => fun
  | [d1, d2, d3] => { results := [.lit (.bool true)], args := [d1, d2, d3] }
  | _ => none }
def cacheDoesRow : OpenClaim := { program := "ytcleabnbdfhmnaa", sum := "62d509f861fe677033a563489709bd2e07b96d28817eb2545ee75535bc2c8a47", func := "sump/sumplaw20.CacheDoes", spec := "cacheDoes", unfollowed := true, recurses := true, apart := false }
def CacheDoesSaid : Prop := cacheDoesRow.holds Try.pinned (OpenSpec.ofChange cacheDoesSpec)

/-- ITS FALSE NEIGHBOUR: 'it returns false'. Refute it at one input. -/
def cacheDoesWrong : ChangeSpec := { name := "cacheDoes", fn := fun _ => fun
  | [d1, d2, d3] => { results := [.lit (.bool false)], args := [d1, d2, d3] }
  | _ => none }
def CacheDoesWrongFalsely : Prop := cacheDoesRow.holds Try.pinned (OpenSpec.ofChange cacheDoesWrong)

/-- 'sumplaw20.CacheMost': WHATEVER THE INPUT: true; the input reads as it did. -/
def cacheMostSpec : ChangeSpec := { name := "cacheMost", fn := fun _ => fun
  | [d1, d2, d3] => { results := [.lit (.bool true)], args := [d1, d2, d3] }
  | _ => none }
def cacheMostRow : OpenClaim := { program := "ytcleabnbdfhmnaa", sum := "62d509f861fe677033a563489709bd2e07b96d28817eb2545ee75535bc2c8a47", func := "sump/sumplaw20.CacheMost", spec := "cacheMost", unfollowed := true, recurses := true, apart := false }
def CacheMostSaid : Prop := cacheMostRow.holds Try.pinned (OpenSpec.ofChange cacheMostSpec)

/-- ITS FALSE NEIGHBOUR: 'it returns false'. Refute it at one input. -/
def cacheMostWrong : ChangeSpec := { name := "cacheMost", fn := fun _ => fun
  | [d1, d2, d3] => { results := [.lit (.bool false)], args := [d1, d2, d3] }
  | _ => none }
def CacheMostWrongFalsely : Prop := cacheMostRow.holds Try.pinned (OpenSpec.ofChange cacheMostWrong)

/- THE SECOND FORM. 'bulk': how many values and letters a reading holds, each counted each time it is reached (what is shared counts as often as it is met; a slice's spare places count too). A statement '..UptoSaid' is the law's where the arguments, and the package variables that the reading takes, are together of bulk at most 1048576: NARROWER than '..Said'. Prove '..Said' where nothing that the law and all that it calls make is longer than what came in: it says more and counts as full. Else prove '..UptoSaid'. A law counts once. -/
mutual
def uptoBulk {H : Type} : DataW H → Nat
  | .lit (.string bytes) => bytes.length + 1
  | .lit _ => 1
  | .nil => 1
  | .ptr d => uptoBulk d + 1
  | .slice elems spare => uptoBulkAll elems + uptoBulkAll spare + 1
  | .agg parts => uptoBulkAll parts + 1
  | .iface _ d => uptoBulk d + 1
  | .map entries => uptoBulkEntries entries + 1
  | .held _ => 1
def uptoBulkAll {H : Type} : List (DataW H) → Nat
  | [] => 0
  | d :: r => uptoBulk d + uptoBulkAll r
def uptoBulkEntries {H : Type} : List (Lit × DataW H) → Nat
  | [] => 0
  | x :: r => uptoBulkEntry x + uptoBulkEntries r
def uptoBulkEntry {H : Type} : Lit × DataW H → Nat
  | (.string bytes, d) => bytes.length + uptoBulk d + 1
  | (_, d) => uptoBulk d + 1
 end
def uptoSmall : (H : Type) → List (DataW H) → Bool := fun _ ds => decide (uptoBulkAll ds ≤ 1048576)
def OpenSpec.upto (s : _root_.Go.ChangeSpec) : _root_.Go.OpenSpec := { _root_.Go.OpenSpec.ofChange s with cond := some uptoSmall }

/-- 'sumplaw29.LocksDoes', WHERE WHAT IT READS IS OF BULK AT MOST 1048576: true; the input reads as it did. -/
def locksDoesUptoRow : OpenClaim := { program := "ytcleabnbdfhmnaa", sum := "62d509f861fe677033a563489709bd2e07b96d28817eb2545ee75535bc2c8a47", func := "sump/sumplaw29.LocksDoes", spec := "locksDoes", unfollowed := true, recurses := true, apart := false, narrowed := true }
def LocksDoesUptoSaid : Prop := locksDoesUptoRow.holds Try.pinned (OpenSpec.upto locksDoesSpec)

/-- 'sumplaw29.LocksRight', WHERE WHAT IT READS IS OF BULK AT MOST 1048576: true; the input reads as it did. -/
def locksRightUptoRow : OpenClaim := { program := "ytcleabnbdfhmnaa", sum := "62d509f861fe677033a563489709bd2e07b96d28817eb2545ee75535bc2c8a47", func := "sump/sumplaw29.LocksRight", spec := "locksRight", unfollowed := true, recurses := true, apart := false, narrowed := true }
def LocksRightUptoSaid : Prop := locksRightUptoRow.holds Try.pinned (OpenSpec.upto locksRightSpec)

/-- 'sumplaw20.CacheDoes', WHERE WHAT IT READS IS OF BULK AT MOST 1048576: true; the input reads as it did. -/
def cacheDoesUptoRow : OpenClaim := { program := "ytcleabnbdfhmnaa", sum := "62d509f861fe677033a563489709bd2e07b96d28817eb2545ee75535bc2c8a47", func := "sump/sumplaw20.CacheDoes", spec := "cacheDoes", unfollowed := true, recurses := true, apart := false, narrowed := true }
def CacheDoesUptoSaid : Prop := cacheDoesUptoRow.holds Try.pinned (OpenSpec.upto cacheDoesSpec)

/-- 'sumplaw20.CacheMost', WHERE WHAT IT READS IS OF BULK AT MOST 1048576: true; the input reads as it did. -/
def cacheMostUptoRow : OpenClaim := { program := "ytcleabnbdfhmnaa", sum := "62d509f861fe677033a563489709bd2e07b96d28817eb2545ee75535bc2c8a47", func := "sump/sumplaw20.CacheMost", spec := "cacheMost", unfollowed := true, recurses := true, apart := false, narrowed := true }
def CacheMostUptoSaid : Prop := cacheMostUptoRow.holds Try.pinned (OpenSpec.upto cacheMostSpec)

end Rows
end Go.Proofs.Ytcleabnbdfhmnaa
