/-
  No cell of these rows narrows 'for every input' (looked for: loops, veiled, ifaces, maps, wideKeys, modest, calm, conditions, laid).
  DERIVED. THE GIVEN ROWS OF THIS SEAT. 5 by the template 'for every input the law returns true; each argument reads behind the call as it read before'; 0 by the template 'total and deterministic' (their statements: YtdabfiichejkpaaTotals.lean).
  GIVEN WITH THE SEED: the statements are not yours to turn. If you find one false, say at which input.
  Laid BY PROGRAM, IN A SANDBOX (cutbox-rows.mjs): the forced cells as the released guide's own fill.sh prints them over the translation 4bc0d1f1b408032d… (all of the seat's roots in one cut). By AI agents, Wed Nov 11 2026. No macro, syntax, notation, axiom, sorry.
-/
import Derived.Test.YtdabfiichejkpaaChecked
import GoSem.Claim
import GoSem.ClaimJoined
import GoSem.ClaimMapViews
import Derived.JoinedTies
import Derived.KernelRfl
namespace Go.Proofs.Ytdabfiichejkpaa
/- THE CELL 'sum', in the pinned program and in every row, IS THE sha256 OF THE DUMP (.gsa) THAT YtdabfiichejkpaaProg.lean LOADS. Nothing in Lean hashes anything: it is a label: what it is worth is what the hold of that sum in a sandbox is worth. -/
noncomputable def Try.pinned : Pinned := { name := "ytdabfiichejkpaa", sum := "4bc0d1f1b408032daf0497aafaf5a61d8c2a0c44fdfb5d52a2ee06f514583e23", checked := Try.checked }
namespace Rows
def none {H : Type} : Left H := { results := [], args := [] }

/-- 'fairwaylaw28.ScoreStays': WHATEVER THE INPUT: true; the input reads as it did. -/
def scoreStaysSpec : ChangeSpec := { name := "scoreStays", fn := fun _ => fun
  | [d1, d2, d3] => { results := [.lit (.bool true)], args := [d1, d2, d3] }
  | _ => none }
def scoreStaysRow : OpenClaim := { program := "ytdabfiichejkpaa", sum := "4bc0d1f1b408032daf0497aafaf5a61d8c2a0c44fdfb5d52a2ee06f514583e23", func := "fairway/fairwaylaw28.ScoreStays", spec := "scoreStays", unfollowed := true, recurses := true, apart := false }
def ScoreStaysSaid : Prop := scoreStaysRow.holds Try.pinned (OpenSpec.ofChange scoreStaysSpec)

/-- ITS FALSE NEIGHBOUR: 'it returns false'. Refute it at one input. -/
def scoreStaysWrong : ChangeSpec := { name := "scoreStays", fn := fun _ => fun
  | [d1, d2, d3] => { results := [.lit (.bool false)], args := [d1, d2, d3] }
  | _ => none }
def ScoreStaysWrongFalsely : Prop := scoreStaysRow.holds Try.pinned (OpenSpec.ofChange scoreStaysWrong)

/-- 'fairwaylaw28.ScoreWeighs': WHATEVER THE INPUT: true; the input reads as it did. -/
def scoreWeighsSpec : ChangeSpec := { name := "scoreWeighs", fn := fun _ => fun
  | [d1, d2, d3] => { results := [.lit (.bool true)], args := [d1, d2, d3] }
  | _ => none }
def scoreWeighsRow : OpenClaim := { program := "ytdabfiichejkpaa", sum := "4bc0d1f1b408032daf0497aafaf5a61d8c2a0c44fdfb5d52a2ee06f514583e23", func := "fairway/fairwaylaw28.ScoreWeighs", spec := "scoreWeighs", unfollowed := true, recurses := true, apart := false }
def ScoreWeighsSaid : Prop := scoreWeighsRow.holds Try.pinned (OpenSpec.ofChange scoreWeighsSpec)

/-- ITS FALSE NEIGHBOUR: 'it returns false'. Refute it at one input. -/
def scoreWeighsWrong : ChangeSpec := { name := "scoreWeighs", fn := fun _ => fun
  | [d1, d2, d3] => { results := [.lit (.bool false)], args := [d1, d2, d3] }
  | _ => none }
def ScoreWeighsWrongFalsely : Prop := scoreWeighsRow.holds Try.pinned (OpenSpec.ofChange scoreWeighsWrong)

/-- 'fairwaylaw28.ScoreAll': WHATEVER THE INPUT: true; the input reads as it did. -/
def scoreAllSpec : ChangeSpec := { name := "scoreAll", fn := fun _ => fun
  | [d1, d2, d3] => { results := [.lit (.bool true)], args := [d1, d2, d3] }
  | _ => none }
def scoreAllRow : OpenClaim := { program := "ytdabfiichejkpaa", sum := "4bc0d1f1b408032daf0497aafaf5a61d8c2a0c44fdfb5d52a2ee06f514583e23", func := "fairway/fairwaylaw28.ScoreAll", spec := "scoreAll", unfollowed := true, recurses := true, apart := false }
def ScoreAllSaid : Prop := scoreAllRow.holds Try.pinned (OpenSpec.ofChange scoreAllSpec)

/-- ITS FALSE NEIGHBOUR: 'it returns false'. Refute it at one input. -/
def scoreAllWrong : ChangeSpec := { name := "scoreAll", fn := fun _ => fun
  | [d1, d2, d3] => { results := [.lit (.bool false)], args := [d1, d2, d3] }
  | _ => none }
def ScoreAllWrongFalsely : Prop := scoreAllRow.holds Try.pinned (OpenSpec.ofChange scoreAllWrong)

/-- 'fairwaylaw28.ScorePicks': WHATEVER THE INPUT: true; the input reads as it did. -/
def scorePicksSpec : ChangeSpec := { name := "scorePicks", fn := fun _ => fun
  | [d1, d2] => { results := [.lit (.bool true)], args := [d1, d2] }
  | _ => none }
def scorePicksRow : OpenClaim := { program := "ytdabfiichejkpaa", sum := "4bc0d1f1b408032daf0497aafaf5a61d8c2a0c44fdfb5d52a2ee06f514583e23", func := "fairway/fairwaylaw28.ScorePicks", spec := "scorePicks", unfollowed := true, recurses := true, apart := false }
def ScorePicksSaid : Prop := scorePicksRow.holds Try.pinned (OpenSpec.ofChange scorePicksSpec)

/-- ITS FALSE NEIGHBOUR: 'it returns false'. Refute it at one input. -/
def scorePicksWrong : ChangeSpec := { name := "scorePicks", fn := fun _ => fun
  | [d1, d2] => { results := [.lit (.bool false)], args := [d1, d2] }
  | _ => none }
def ScorePicksWrongFalsely : Prop := scorePicksRow.holds Try.pinned (OpenSpec.ofChange scorePicksWrong)

/-- 'fairwaylaw28.ScoreRanks': WHATEVER THE INPUT: true; the input reads as it did. -/
def scoreRanksSpec : ChangeSpec := { name := "scoreRanks", fn := fun _ => fun
  | [d1, d2] => { results := [.lit (.bool true)], args := [d1, d2] }
  | _ => none }
def scoreRanksRow : OpenClaim := { program := "ytdabfiichejkpaa", sum := "4bc0d1f1b408032daf0497aafaf5a61d8c2a0c44fdfb5d52a2ee06f514583e23", func := "fairway/fairwaylaw28.ScoreRanks", spec := "scoreRanks", unfollowed := true, recurses := true, apart := false }
def ScoreRanksSaid : Prop := scoreRanksRow.holds Try.pinned (OpenSpec.ofChange scoreRanksSpec)

/-- ITS FALSE NEIGHBOUR: 'it returns false'. Refute it at one input. -/
def scoreRanksWrong : ChangeSpec := { name := "scoreRanks", fn := fun _ => fun
  | [d1, d2] => { results := [.lit (.bool false)], args := [d1, d2] }
  | _ => none }
def ScoreRanksWrongFalsely : Prop := scoreRanksRow.holds Try.pinned (OpenSpec.ofChange scoreRanksWrong)

/- THE SECOND FORM. 'bulk': how many values and letters a reading holds, each counted each time it is reached (what is shared counts as often as it is met; a slice's spare places count too). A statement '..UptoSaid' is the law's where the arguments, and the package variables that the reading takes, are together of bulk at most 1048576: NARROWER than '..Said'. Prove '..Said' where nothing that the law and all that it calls make is longer than what came in: it says more and counts as full. Else prove '..UptoSaid'. A law counts once. -/
mutual
def uptoBulk {H : Type} : DataW H → Nat
  | .lit (.string bytes) => bytes.length + 1
  | .lit _ => 1
  | .nil => 1
  | .ptr d => uptoBulk d + 1
  | .slice elems spare => uptoBulkAll elems + uptoBulkAll spare + 1
  | .agg parts => uptoBulkAll parts + 1
  | .iface _ d => uptoBulk d + 1
  | .map entries => uptoBulkEntries entries + 1
  | .held _ => 1
def uptoBulkAll {H : Type} : List (DataW H) → Nat
  | [] => 0
  | d :: r => uptoBulk d + uptoBulkAll r
def uptoBulkEntries {H : Type} : List (Lit × DataW H) → Nat
  | [] => 0
  | x :: r => uptoBulkEntry x + uptoBulkEntries r
def uptoBulkEntry {H : Type} : Lit × DataW H → Nat
  | (.string bytes, d) => bytes.length + uptoBulk d + 1
  | (_, d) => uptoBulk d + 1
 end
def uptoSmall : (H : Type) → List (DataW H) → Bool := fun _ ds => decide (uptoBulkAll ds ≤ 1048576)
def OpenSpec.upto (s : _root_.Go.ChangeSpec) : _root_.Go.OpenSpec := { _root_.Go.OpenSpec.ofChange s with cond := some uptoSmall }

/-- 'fairwaylaw28.ScoreStays', WHERE WHAT IT READS IS OF BULK AT MOST 1048576: true; the input reads as it did. -/
def scoreStaysUptoRow : OpenClaim := { program := "ytdabfiichejkpaa", sum := "4bc0d1f1b408032daf0497aafaf5a61d8c2a0c44fdfb5d52a2ee06f514583e23", func := "fairway/fairwaylaw28.ScoreStays", spec := "scoreStays", unfollowed := true, recurses := true, apart := false, narrowed := true }
def ScoreStaysUptoSaid : Prop := scoreStaysUptoRow.holds Try.pinned (OpenSpec.upto scoreStaysSpec)

/-- 'fairwaylaw28.ScoreWeighs', WHERE WHAT IT READS IS OF BULK AT MOST 1048576: true; the input reads as it did. -/
def scoreWeighsUptoRow : OpenClaim := { program := "ytdabfiichejkpaa", sum := "4bc0d1f1b408032daf0497aafaf5a61d8c2a0c44fdfb5d52a2ee06f514583e23", func := "fairway/fairwaylaw28.ScoreWeighs", spec := "scoreWeighs", unfollowed := true, recurses := true, apart := false, narrowed := true }
def ScoreWeighsUptoSaid : Prop := scoreWeighsUptoRow.holds Try.pinned (OpenSpec.upto scoreWeighsSpec)

/-- 'fairwaylaw28.ScoreAll', WHERE WHAT IT READS IS OF BULK AT MOST 1048576: true; the input reads as it did. -/
def scoreAllUptoRow : OpenClaim := { program := "ytdabfiichejkpaa", sum := "4bc0d1f1b408032daf0497aafaf5a61d8c2a0c44fdfb5d52a2ee06f514583e23", func := "fairway/fairwaylaw28.ScoreAll", spec := "scoreAll", unfollowed := true, recurses := true, apart := false, narrowed := true }
def ScoreAllUptoSaid : Prop := scoreAllUptoRow.holds Try.pinned (OpenSpec.upto scoreAllSpec)

/-- 'fairwaylaw28.ScorePicks', WHERE WHAT IT READS IS OF BULK AT MOST 1048576: true; the input reads as it did. -/
def scorePicksUptoRow : OpenClaim := { program := "ytdabfiichejkpaa", sum := "4bc0d1f1b408032daf0497aafaf5a61d8c2a0c44fdfb5d52a2ee06f514583e23", func := "fairway/fairwaylaw28.ScorePicks", spec := "scorePicks", unfollowed := true, recurses := true, apart := false, narrowed := true }
def ScorePicksUptoSaid : Prop := scorePicksUptoRow.holds Try.pinned (OpenSpec.upto scorePicksSpec)

/-- 'fairwaylaw28.ScoreRanks', WHERE WHAT IT READS IS OF BULK AT MOST 1048576: true; the input reads as it did. -/
def scoreRanksUptoRow : OpenClaim := { program := "ytdabfiichejkpaa", sum := "4bc0d1f1b408032daf0497aafaf5a61d8c2a0c44fdfb5d52a2ee06f514583e23", func := "fairway/fairwaylaw28.ScoreRanks", spec := "scoreRanks", unfollowed := true, recurses := true, apart := false, narrowed := true }
def ScoreRanksUptoSaid : Prop := scoreRanksUptoRow.holds Try.pinned (OpenSpec.upto scoreRanksSpec)

end Rows
end Go.Proofs.Ytdabfiichejkpaa
