/-
  No cell of these rows narrows 'for every input' (looked for: loops, veiled, ifaces, maps, wideKeys, modest, calm, conditions, laid).
  DERIVED. THE GIVEN ROWS OF THIS SEAT. 4 by the template 'for every input the law returns true; each argument reads behind the call as it read before'; 0 by the template 'total and deterministic' (their statements: YtobkhhpccakmfaaTotals.lean).
  GIVEN WITH THE SEED: the statements are not yours to turn. If you find one false, say at which input.
  Laid BY PROGRAM, IN A SANDBOX (cutbox-rows.mjs): the forced cells as the released guide's own fill.sh prints them over the translation 43a3e9bd8f5037d7… (all of the seat's roots in one cut). By AI agents, Wed Nov 11 2026. No macro, syntax, notation, axiom, sorry.
-/
import Derived.Test.YtobkhhpccakmfaaChecked
import GoSem.Claim
import GoSem.ClaimJoined
import GoSem.ClaimMapViews
import Derived.JoinedTies
import Derived.KernelRfl
namespace Go.Proofs.Ytobkhhpccakmfaa
/- THE CELL 'sum', in the pinned program and in every row, IS THE sha256 OF THE DUMP (.gsa) THAT YtobkhhpccakmfaaProg.lean LOADS. Nothing in Lean hashes anything: it is a label: what it is worth is what the hold of that sum in a sandbox is worth. -/
noncomputable def Try.pinned : Pinned := { name := "ytobkhhpccakmfaa", sum := "43a3e9bd8f5037d7b98182279eef0d395e97bdd9522cc6a7f55300fd8ffd357a", checked := Try.checked }
namespace Rows
def none {H : Type} : Left H := { results := [], args := [] }

/-- 'fairwaylaw03.PrefixOrder': WHATEVER THE INPUT: true; the input reads as it did. -/
def prefixOrderSpec : ChangeSpec := { name := "prefixOrder", fn := fun _ => fun
  | [d1, d2, d3] => { results := [.lit (.bool true)], args := [d1, d2, d3] }
  | _ => none }
def prefixOrderRow : OpenClaim := { program := "ytobkhhpccakmfaa", sum := "43a3e9bd8f5037d7b98182279eef0d395e97bdd9522cc6a7f55300fd8ffd357a", func := "fairway/fairwaylaw03.PrefixOrder", spec := "prefixOrder", apart := false }
def PrefixOrderSaid : Prop := prefixOrderRow.holds Try.pinned (OpenSpec.ofChange prefixOrderSpec)

/-- ITS FALSE NEIGHBOUR: 'it returns false'. Refute it at one input. -/
def prefixOrderWrong : ChangeSpec := { name := "prefixOrder", fn := fun _ => fun
  | [d1, d2, d3] => { results := [.lit (.bool false)], args := [d1, d2, d3] }
  | _ => none }
def PrefixOrderWrongFalsely : Prop := prefixOrderRow.holds Try.pinned (OpenSpec.ofChange prefixOrderWrong)

/-- 'fairwaylaw03.PrefixAsks': WHATEVER THE INPUT: true; the input reads as it did. -/
def prefixAsksSpec : ChangeSpec := { name := "prefixAsks", fn := fun _ => fun
  | [d1, d2, d3] => { results := [.lit (.bool true)], args := [d1, d2, d3] }
  | _ => none }
def prefixAsksRow : OpenClaim := { program := "ytobkhhpccakmfaa", sum := "43a3e9bd8f5037d7b98182279eef0d395e97bdd9522cc6a7f55300fd8ffd357a", func := "fairway/fairwaylaw03.PrefixAsks", spec := "prefixAsks", apart := false }
def PrefixAsksSaid : Prop := prefixAsksRow.holds Try.pinned (OpenSpec.ofChange prefixAsksSpec)

/-- ITS FALSE NEIGHBOUR: 'it returns false'. Refute it at one input. -/
def prefixAsksWrong : ChangeSpec := { name := "prefixAsks", fn := fun _ => fun
  | [d1, d2, d3] => { results := [.lit (.bool false)], args := [d1, d2, d3] }
  | _ => none }
def PrefixAsksWrongFalsely : Prop := prefixAsksRow.holds Try.pinned (OpenSpec.ofChange prefixAsksWrong)

/-- 'fairwaylaw03.PrefixReads': WHATEVER THE INPUT: true; the input reads as it did. -/
def prefixReadsSpec : ChangeSpec := { name := "prefixReads", fn := fun _ => fun
  | [d] => { results := [.lit (.bool true)], args := [d] }
  | _ => none }
def prefixReadsRow : OpenClaim := { program := "ytobkhhpccakmfaa", sum := "43a3e9bd8f5037d7b98182279eef0d395e97bdd9522cc6a7f55300fd8ffd357a", func := "fairway/fairwaylaw03.PrefixReads", spec := "prefixReads", apart := false }
def PrefixReadsSaid : Prop := prefixReadsRow.holds Try.pinned (OpenSpec.ofChange prefixReadsSpec)

/-- ITS FALSE NEIGHBOUR: 'it returns false'. Refute it at one input. -/
def prefixReadsWrong : ChangeSpec := { name := "prefixReads", fn := fun _ => fun
  | [d] => { results := [.lit (.bool false)], args := [d] }
  | _ => none }
def PrefixReadsWrongFalsely : Prop := prefixReadsRow.holds Try.pinned (OpenSpec.ofChange prefixReadsWrong)

/-- 'fairwaylaw03.PrefixRows': WHATEVER THE INPUT: true; the input reads as it did. -/
def prefixRowsSpec : ChangeSpec := { name := "prefixRows", fn := fun _ => fun
  | [d] => { results := [.lit (.bool true)], args := [d] }
  | _ => none }
def prefixRowsRow : OpenClaim := { program := "ytobkhhpccakmfaa", sum := "43a3e9bd8f5037d7b98182279eef0d395e97bdd9522cc6a7f55300fd8ffd357a", func := "fairway/fairwaylaw03.PrefixRows", spec := "prefixRows", unfollowed := true, recurses := true, apart := false }
def PrefixRowsSaid : Prop := prefixRowsRow.holds Try.pinned (OpenSpec.ofChange prefixRowsSpec)

/-- ITS FALSE NEIGHBOUR: 'it returns false'. Refute it at one input. -/
def prefixRowsWrong : ChangeSpec := { name := "prefixRows", fn := fun _ => fun
  | [d] => { results := [.lit (.bool false)], args := [d] }
  | _ => none }
def PrefixRowsWrongFalsely : Prop := prefixRowsRow.holds Try.pinned (OpenSpec.ofChange prefixRowsWrong)

/- THE SECOND FORM. 'bulk': how many values and letters a reading holds, each counted each time it is reached (what is shared counts as often as it is met; a slice's spare places count too). A statement '..UptoSaid' is the law's where the arguments, and the package variables that the reading takes, are together of bulk at most 1048576: NARROWER than '..Said'. Prove '..Said' where nothing that the law and all that it calls make is longer than what came in: it says more and counts as full. Else prove '..UptoSaid'. A law counts once. -/
mutual
def uptoBulk {H : Type} : DataW H → Nat
  | .lit (.string bytes) => bytes.length + 1
  | .lit _ => 1
  | .nil => 1
  | .ptr d => uptoBulk d + 1
  | .slice elems spare => uptoBulkAll elems + uptoBulkAll spare + 1
  | .agg parts => uptoBulkAll parts + 1
  | .iface _ d => uptoBulk d + 1
  | .map entries => uptoBulkEntries entries + 1
  | .held _ => 1
def uptoBulkAll {H : Type} : List (DataW H) → Nat
  | [] => 0
  | d :: r => uptoBulk d + uptoBulkAll r
def uptoBulkEntries {H : Type} : List (Lit × DataW H) → Nat
  | [] => 0
  | x :: r => uptoBulkEntry x + uptoBulkEntries r
def uptoBulkEntry {H : Type} : Lit × DataW H → Nat
  | (.string bytes, d) => bytes.length + uptoBulk d + 1
  | (_, d) => uptoBulk d + 1
 end
def uptoSmall : (H : Type) → List (DataW H) → Bool := fun _ ds => decide (uptoBulkAll ds ≤ 1048576)
def OpenSpec.upto (s : _root_.Go.ChangeSpec) : _root_.Go.OpenSpec := { _root_.Go.OpenSpec.ofChange s with cond := some uptoSmall }

/-- 'fairwaylaw03.PrefixOrder', WHERE WHAT IT READS IS OF BULK AT MOST 1048576: true; the input reads as it did. -/
def prefixOrderUptoRow : OpenClaim := { program := "ytobkhhpccakmfaa", sum := "43a3e9bd8f5037d7b98182279eef0d395e97bdd9522cc6a7f55300fd8ffd357a", func := "fairway/fairwaylaw03.PrefixOrder", spec := "prefixOrder", apart := false, narrowed := true }
def PrefixOrderUptoSaid : Prop := prefixOrderUptoRow.holds Try.pinned (OpenSpec.upto prefixOrderSpec)

/-- 'fairwaylaw03.PrefixAsks', WHERE WHAT IT READS IS OF BULK AT MOST 1048576: true; the input reads as it did. -/
def prefixAsksUptoRow : OpenClaim := { program := "ytobkhhpccakmfaa", sum := "43a3e9bd8f5037d7b98182279eef0d395e97bdd9522cc6a7f55300fd8ffd357a", func := "fairway/fairwaylaw03.PrefixAsks", spec := "prefixAsks", apart := false, narrowed := true }
def PrefixAsksUptoSaid : Prop := prefixAsksUptoRow.holds Try.pinned (OpenSpec.upto prefixAsksSpec)

/-- 'fairwaylaw03.PrefixReads', WHERE WHAT IT READS IS OF BULK AT MOST 1048576: true; the input reads as it did. -/
def prefixReadsUptoRow : OpenClaim := { program := "ytobkhhpccakmfaa", sum := "43a3e9bd8f5037d7b98182279eef0d395e97bdd9522cc6a7f55300fd8ffd357a", func := "fairway/fairwaylaw03.PrefixReads", spec := "prefixReads", apart := false, narrowed := true }
def PrefixReadsUptoSaid : Prop := prefixReadsUptoRow.holds Try.pinned (OpenSpec.upto prefixReadsSpec)

/-- 'fairwaylaw03.PrefixRows', WHERE WHAT IT READS IS OF BULK AT MOST 1048576: true; the input reads as it did. -/
def prefixRowsUptoRow : OpenClaim := { program := "ytobkhhpccakmfaa", sum := "43a3e9bd8f5037d7b98182279eef0d395e97bdd9522cc6a7f55300fd8ffd357a", func := "fairway/fairwaylaw03.PrefixRows", spec := "prefixRows", unfollowed := true, recurses := true, apart := false, narrowed := true }
def PrefixRowsUptoSaid : Prop := prefixRowsUptoRow.holds Try.pinned (OpenSpec.upto prefixRowsSpec)

end Rows
end Go.Proofs.Ytobkhhpccakmfaa
