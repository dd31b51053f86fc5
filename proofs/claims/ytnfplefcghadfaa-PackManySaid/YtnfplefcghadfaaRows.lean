/-
  No cell of these rows narrows 'for every input' (looked for: loops, veiled, ifaces, maps, wideKeys, modest, calm, conditions, laid).
  DERIVED. THE GIVEN ROWS OF THIS SEAT. 4 by the template 'for every input the law returns true; each argument reads behind the call as it read before'; 0 by the template 'total and deterministic' (their statements: YtnfplefcghadfaaTotals.lean).
  GIVEN WITH THE SEED: the statements are not yours to turn. If you find one false, say at which input.
  Laid BY PROGRAM, IN A SANDBOX (cutbox-rows.mjs): the forced cells as the released guide's own fill.sh prints them over the translation 1bb7424552350029… (all of the seat's roots in one cut). By AI agents, Wed Nov 11 2026. No macro, syntax, notation, axiom, sorry.
-/
import Derived.Test.YtnfplefcghadfaaChecked
import GoSem.Claim
import GoSem.ClaimJoined
import GoSem.ClaimMapViews
import Derived.JoinedTies
import Derived.KernelRfl
namespace Go.Proofs.Ytnfplefcghadfaa
/- THE CELL 'sum', in the pinned program and in every row, IS THE sha256 OF THE DUMP (.gsa) THAT YtnfplefcghadfaaProg.lean LOADS. Nothing in Lean hashes anything: it is a label: what it is worth is what the hold of that sum in a sandbox is worth. -/
noncomputable def Try.pinned : Pinned := { name := "ytnfplefcghadfaa", sum := "1bb7424552350029227a05318c73b40aab73dbf2b89b4a51aecc5d592a26280e", checked := Try.checked }
namespace Rows
def none {H : Type} : Left H := { results := [], args := [] }

/-- 'fairwaylaw19.RibEven': WHATEVER THE INPUT: true; the input reads as it did. -/
def ribEvenSpec : ChangeSpec := { name := "ribEven", fn := fun _ => fun
  | [d] => { results := [.lit (.bool true)], args := [d] }
  | _ => none }
def ribEvenRow : OpenClaim := { program := "ytnfplefcghadfaa", sum := "1bb7424552350029227a05318c73b40aab73dbf2b89b4a51aecc5d592a26280e", func := "fairway/fairwaylaw19.RibEven", spec := "ribEven", unfollowed := true, recurses := true, plainKeys := false, apart := false }
def RibEvenSaid : Prop := ribEvenRow.holds Try.pinned (OpenSpec.ofChange ribEvenSpec)

/-- ITS FALSE NEIGHBOUR: 'it returns false'. Refute it at one input. -/
def ribEvenWrong : ChangeSpec := { name := "ribEven", fn := fun _ => fun
  | [d] => { results := [.lit (.bool false)], args := [d] }
  | _ => none }
def RibEvenWrongFalsely : Prop := ribEvenRow.holds Try.pinned (OpenSpec.ofChange ribEvenWrong)

/-- 'fairwaylaw19.RibActs': WHATEVER THE INPUT: true; the input reads as it did. -/
def ribActsSpec : ChangeSpec := { name := "ribActs", fn := fun _ => fun
  | [d1, d2] => { results := [.lit (.bool true)], args := [d1, d2] }
  | _ => none }
def ribActsRow : OpenClaim := { program := "ytnfplefcghadfaa", sum := "1bb7424552350029227a05318c73b40aab73dbf2b89b4a51aecc5d592a26280e", func := "fairway/fairwaylaw19.RibActs", spec := "ribActs", inPlace := ["maps.clone"], unfollowed := true, recurses := true, plainKeys := false, apart := false }
def RibActsSaid : Prop := ribActsRow.holds Try.pinned (OpenSpec.ofChange ribActsSpec)

/-- ITS FALSE NEIGHBOUR: 'it returns false'. Refute it at one input. -/
def ribActsWrong : ChangeSpec := { name := "ribActs", fn := fun _ => fun
  | [d1, d2] => { results := [.lit (.bool false)], args := [d1, d2] }
  | _ => none }
def RibActsWrongFalsely : Prop := ribActsRow.holds Try.pinned (OpenSpec.ofChange ribActsWrong)

/-- 'fairwaylaw18.PackMany': WHATEVER THE INPUT: true; the input reads as it did. -/
def packManySpec : ChangeSpec := { name := "packMany", fn := fun _ => fun
  | [d1, d2, d3] => { results := [.lit (.bool true)], args := [d1, d2, d3] }
  | _ => none }
def packManyRow : OpenClaim := { program := "ytnfplefcghadfaa", sum := "1bb7424552350029227a05318c73b40aab73dbf2b89b4a51aecc5d592a26280e", func := "fairway/fairwaylaw18.PackMany", spec := "packMany", unfollowed := true, recurses := true, plainKeys := false, apart := false }
def PackManySaid : Prop := packManyRow.holds Try.pinned (OpenSpec.ofChange packManySpec)

/-- ITS FALSE NEIGHBOUR: 'it returns false'. Refute it at one input. -/
def packManyWrong : ChangeSpec := { name := "packMany", fn := fun _ => fun
  | [d1, d2, d3] => { results := [.lit (.bool false)], args := [d1, d2, d3] }
  | _ => none }
def PackManyWrongFalsely : Prop := packManyRow.holds Try.pinned (OpenSpec.ofChange packManyWrong)

/-- 'fairwaylaw18.PackWhole': WHATEVER THE INPUT: true; the input reads as it did. -/
def packWholeSpec : ChangeSpec := { name := "packWhole", fn := fun _ => fun
  | [d] => { results := [.lit (.bool true)], args := [d] }
  | _ => none }
def packWholeRow : OpenClaim := { program := "ytnfplefcghadfaa", sum := "1bb7424552350029227a05318c73b40aab73dbf2b89b4a51aecc5d592a26280e", func := "fairway/fairwaylaw18.PackWhole", spec := "packWhole", unfollowed := true, recurses := true, plainKeys := false, apart := false }
def PackWholeSaid : Prop := packWholeRow.holds Try.pinned (OpenSpec.ofChange packWholeSpec)

/-- ITS FALSE NEIGHBOUR: 'it returns false'. Refute it at one input. -/
def packWholeWrong : ChangeSpec := { name := "packWhole", fn := fun _ => fun
  | [d] => { results := [.lit (.bool false)], args := [d] }
  | _ => none }
def PackWholeWrongFalsely : Prop := packWholeRow.holds Try.pinned (OpenSpec.ofChange packWholeWrong)

/- THE SECOND FORM. 'bulk': how many values and letters a reading holds, each counted each time it is reached (what is shared counts as often as it is met; a slice's spare places count too). A statement '..UptoSaid' is the law's where the arguments, and the package variables that the reading takes, are together of bulk at most 1048576: NARROWER than '..Said'. Prove '..Said' where nothing that the law and all that it calls make is longer than what came in: it says more and counts as full. Else prove '..UptoSaid'. A law counts once. -/
mutual
def uptoBulk {H : Type} : DataW H → Nat
  | .lit (.string bytes) => bytes.length + 1
  | .lit _ => 1
  | .nil => 1
  | .ptr d => uptoBulk d + 1
  | .slice elems spare => uptoBulkAll elems + uptoBulkAll spare + 1
  | .agg parts => uptoBulkAll parts + 1
  | .iface _ d => uptoBulk d + 1
  | .map entries => uptoBulkEntries entries + 1
  | .held _ => 1
def uptoBulkAll {H : Type} : List (DataW H) → Nat
  | [] => 0
  | d :: r => uptoBulk d + uptoBulkAll r
def uptoBulkEntries {H : Type} : List (Lit × DataW H) → Nat
  | [] => 0
  | x :: r => uptoBulkEntry x + uptoBulkEntries r
def uptoBulkEntry {H : Type} : Lit × DataW H → Nat
  | (.string bytes, d) => bytes.length + uptoBulk d + 1
  | (_, d) => uptoBulk d + 1
 end
def uptoSmall : (H : Type) → List (DataW H) → Bool := fun _ ds => decide (uptoBulkAll ds ≤ 1048576)
def OpenSpec.upto (s : _root_.Go.ChangeSpec) : _root_.Go.OpenSpec := { _root_.Go.OpenSpec.ofChange s with cond := some uptoSmall }

/-- 'fairwaylaw19.RibEven', WHERE WHAT IT READS IS OF BULK AT MOST 1048576: true; the input reads as it did. -/
def ribEvenUptoRow : OpenClaim := { program := "ytnfplefcghadfaa", sum := "1bb7424552350029227a05318c73b40aab73dbf2b89b4a51aecc5d592a26280e", func := "fairway/fairwaylaw19.RibEven", spec := "ribEven", unfollowed := true, recurses := true, plainKeys := false, apart := false, narrowed := true }
def RibEvenUptoSaid : Prop := ribEvenUptoRow.holds Try.pinned (OpenSpec.upto ribEvenSpec)

/-- 'fairwaylaw19.RibActs', WHERE WHAT IT READS IS OF BULK AT MOST 1048576: true; the input reads as it did. -/
def ribActsUptoRow : OpenClaim := { program := "ytnfplefcghadfaa", sum := "1bb7424552350029227a05318c73b40aab73dbf2b89b4a51aecc5d592a26280e", func := "fairway/fairwaylaw19.RibActs", spec := "ribActs", inPlace := ["maps.clone"], unfollowed := true, recurses := true, plainKeys := false, apart := false, narrowed := true }
def RibActsUptoSaid : Prop := ribActsUptoRow.holds Try.pinned (OpenSpec.upto ribActsSpec)

/-- 'fairwaylaw18.PackMany', WHERE WHAT IT READS IS OF BULK AT MOST 1048576: true; the input reads as it did. -/
def packManyUptoRow : OpenClaim := { program := "ytnfplefcghadfaa", sum := "1bb7424552350029227a05318c73b40aab73dbf2b89b4a51aecc5d592a26280e", func := "fairway/fairwaylaw18.PackMany", spec := "packMany", unfollowed := true, recurses := true, plainKeys := false, apart := false, narrowed := true }
def PackManyUptoSaid : Prop := packManyUptoRow.holds Try.pinned (OpenSpec.upto packManySpec)

/-- 'fairwaylaw18.PackWhole', WHERE WHAT IT READS IS OF BULK AT MOST 1048576: true; the input reads as it did. -/
def packWholeUptoRow : OpenClaim := { program := "ytnfplefcghadfaa", sum := "1bb7424552350029227a05318c73b40aab73dbf2b89b4a51aecc5d592a26280e", func := "fairway/fairwaylaw18.PackWhole", spec := "packWhole", unfollowed := true, recurses := true, plainKeys := false, apart := false, narrowed := true }
def PackWholeUptoSaid : Prop := packWholeUptoRow.holds Try.pinned (OpenSpec.upto packWholeSpec)

end Rows
end Go.Proofs.Ytnfplefcghadfaa
