/-
  No cell of these rows narrows 'for every input' (looked for: loops, veiled, ifaces, maps, wideKeys, modest, calm, conditions, laid).
  DERIVED. THE GIVEN ROWS OF THIS SEAT. 2 by the template 'for every input the law returns true; each argument reads behind the call as it read before'; 0 by the template 'total and deterministic' (their statements: YtgconkbnokbinaaTotals.lean).
  GIVEN WITH THE SEED: the statements are not yours to turn. If you find one false, say at which input.
  Laid BY PROGRAM, IN A SANDBOX (cutbox-rows.mjs): the forced cells as the released guide's own fill.sh prints them over the translation c7950df178425f42… (all of the seat's roots in one cut). By AI agents, Wed Nov 11 2026. No macro, syntax, notation, axiom, sorry.
-/
import Derived.Test.YtgconkbnokbinaaChecked
import GoSem.Claim
import GoSem.ClaimJoined
import GoSem.ClaimMapViews
import Derived.JoinedTies
import Derived.KernelRfl
namespace Go.Proofs.Ytgconkbnokbinaa
/- THE CELL 'sum', in the pinned program and in every row, IS THE sha256 OF THE DUMP (.gsa) THAT YtgconkbnokbinaaProg.lean LOADS. Nothing in Lean hashes anything: it is a label: what it is worth is what the hold of that sum in a sandbox is worth. -/
noncomputable def Try.pinned : Pinned := { name := "ytgconkbnokbinaa", sum := "c7950df178425f42dc8341a5c18c6d2a981a7c45649132f141a40218c2bd8556", checked := Try.checked }
namespace Rows
def none {H : Type} : Left H := { results := [], args := [] }

/-- 'fairwaylaw26.SiblingBest': WHATEVER THE INPUT: true; the input reads as it did. -/
def siblingBestSpec : ChangeSpec := { name := "siblingBest", fn := fun _ => fun
  | [d1, d2] => { results := [.lit (.bool true)], args := [d1, d2] }
  | _ => none }
def siblingBestRow : OpenClaim := { program := "ytgconkbnokbinaa", sum := "c7950df178425f42dc8341a5c18c6d2a981a7c45649132f141a40218c2bd8556", func := "fairway/fairwaylaw26.SiblingBest", spec := "siblingBest", unfollowed := true, recurses := true, apart := false }
def SiblingBestSaid : Prop := siblingBestRow.holds Try.pinned (OpenSpec.ofChange siblingBestSpec)

/-- ITS FALSE NEIGHBOUR: 'it returns false'. Refute it at one input. -/
def siblingBestWrong : ChangeSpec := { name := "siblingBest", fn := fun _ => fun
  | [d1, d2] => { results := [.lit (.bool false)], args := [d1, d2] }
  | _ => none }
def SiblingBestWrongFalsely : Prop := siblingBestRow.holds Try.pinned (OpenSpec.ofChange siblingBestWrong)

/-- 'fairwaylaw26.SiblingActs': WHATEVER THE INPUT: true; the input reads as it did. -/
def siblingActsSpec : ChangeSpec := { name := "siblingActs", fn := fun _ => fun
  | [d1, d2, d3] => { results := [.lit (.bool true)], args := [d1, d2, d3] }
  | _ => none }
def siblingActsRow : OpenClaim := { program := "ytgconkbnokbinaa", sum := "c7950df178425f42dc8341a5c18c6d2a981a7c45649132f141a40218c2bd8556", func := "fairway/fairwaylaw26.SiblingActs", spec := "siblingActs", inPlace := ["maps.clone"], unfollowed := true, recurses := true, apart := false }
def SiblingActsSaid : Prop := siblingActsRow.holds Try.pinned (OpenSpec.ofChange siblingActsSpec)

/-- ITS FALSE NEIGHBOUR: 'it returns false'. Refute it at one input. -/
def siblingActsWrong : ChangeSpec := { name := "siblingActs", fn := fun _ => fun
  | [d1, d2, d3] => { results := [.lit (.bool false)], args := [d1, d2, d3] }
  | _ => none }
def SiblingActsWrongFalsely : Prop := siblingActsRow.holds Try.pinned (OpenSpec.ofChange siblingActsWrong)

/- THE SECOND FORM. 'bulk': how many values and letters a reading holds, each counted each time it is reached (what is shared counts as often as it is met; a slice's spare places count too). A statement '..UptoSaid' is the law's where the arguments, and the package variables that the reading takes, are together of bulk at most 1048576: NARROWER than '..Said'. Prove '..Said' where nothing that the law and all that it calls make is longer than what came in: it says more and counts as full. Else prove '..UptoSaid'. A law counts once. -/
mutual
def uptoBulk {H : Type} : DataW H → Nat
  | .lit (.string bytes) => bytes.length + 1
  | .lit _ => 1
  | .nil => 1
  | .ptr d => uptoBulk d + 1
  | .slice elems spare => uptoBulkAll elems + uptoBulkAll spare + 1
  | .agg parts => uptoBulkAll parts + 1
  | .iface _ d => uptoBulk d + 1
  | .map entries => uptoBulkEntries entries + 1
  | .held _ => 1
def uptoBulkAll {H : Type} : List (DataW H) → Nat
  | [] => 0
  | d :: r => uptoBulk d + uptoBulkAll r
def uptoBulkEntries {H : Type} : List (Lit × DataW H) → Nat
  | [] => 0
  | x :: r => uptoBulkEntry x + uptoBulkEntries r
def uptoBulkEntry {H : Type} : Lit × DataW H → Nat
  | (.string bytes, d) => bytes.length + uptoBulk d + 1
  | (_, d) => uptoBulk d + 1
 end
def uptoSmall : (H : Type) → List (DataW H) → Bool := fun _ ds => decide (uptoBulkAll ds ≤ 1048576)
def OpenSpec.upto (s : _root_.Go.ChangeSpec) : _root_.Go.OpenSpec := { _root_.Go.OpenSpec.ofChange s with cond := some uptoSmall }

/-- 'fairwaylaw26.SiblingBest', WHERE WHAT IT READS IS OF BULK AT MOST 1048576: true; the input reads as it did. -/
def siblingBestUptoRow : OpenClaim := { program := "ytgconkbnokbinaa", sum := "c7950df178425f42dc8341a5c18c6d2a981a7c45649132f141a40218c2bd8556", func := "fairway/fairwaylaw26.SiblingBest", spec := "siblingBest", unfollowed := true, recurses := true, apart := false, narrowed := true }
def SiblingBestUptoSaid : Prop := siblingBestUptoRow.holds Try.pinned (OpenSpec.upto siblingBestSpec)

/-- 'fairwaylaw26.SiblingActs', WHERE WHAT IT READS IS OF BULK AT MOST 1048576: true; the input reads as it did. -/
def siblingActsUptoRow : OpenClaim := { program := "ytgconkbnokbinaa", sum := "c7950df178425f42dc8341a5c18c6d2a981a7c45649132f141a40218c2bd8556", func := "fairway/fairwaylaw26.SiblingActs", spec := "siblingActs", inPlace := ["maps.clone"], unfollowed := true, recurses := true, apart := false, narrowed := true }
def SiblingActsUptoSaid : Prop := siblingActsUptoRow.holds Try.pinned (OpenSpec.upto siblingActsSpec)

end Rows
end Go.Proofs.Ytgconkbnokbinaa
