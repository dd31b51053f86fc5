/-
  NARROWER THAN 'FOR EVERY INPUT', by the rows' own cells (each row's printed sentence says how): FramePieces: laid · ViewPieces: laid.
  DERIVED. THE GIVEN ROWS OF THIS SEAT. 2 by the template 'for every input the law returns true; each argument reads behind the call as it read before'; 0 by the template 'total and deterministic' (their statements: YtaijldpbpimdlaaGreatDoorTotals.lean).
  GIVEN WITH THE SEED: the statements are not yours to turn. If you find one false, say at which input.
  Laid BY PROGRAM, IN A SANDBOX (cutbox-rows.mjs): the forced cells as the released guide's own fill.sh prints them over the translation 5d75ec86555023f7… (all of the seat's roots in one cut). By AI agents, Wed Nov 11 2026. No macro, syntax, notation, axiom, sorry.
-/
import Derived.Test.YtaijldpbpimdlaaGreatDoorChecked
import GoSem.Claim
import GoSem.ClaimJoined
import GoSem.ClaimMapViews
import Derived.JoinedTies
import Derived.KernelRfl
namespace Go.Proofs.YtaijldpbpimdlaaGreatDoor
/- THE CELL 'sum', in the pinned program and in every row, IS THE sha256 OF THE DUMP (.gsa) THAT YtaijldpbpimdlaaGreatDoorProg.lean LOADS. Nothing in Lean hashes anything: it is a label: what it is worth is what the hold of that sum in a sandbox is worth. -/
noncomputable def Tryz.pinned : Pinned := { name := "ytaijldpbpimdlaagreatdoor", sum := "5d75ec86555023f77f1bd80f51460b3eb8599de431d449d1922c2331a7412b4b", checked := Tryz.checked }
namespace Rows
def none {H : Type} : Left H := { results := [], args := [] }

/- WHAT THE LISTED PACKAGE-LEVEL VARIABLES READ AS WHEN THE CALL BEGINS. Each datum BY PROGRAM (the guide's laid-datum.mjs) off the statement by which the dump's own 'gosem.cut.vars' lays the variable. In a bare row this is a premise. The card (YtaijldpbpimdlaaGreatDoorCards.lean) ties it to the program's text. -/
def laid_fairway_message_least {H : Type} : DataW H := .agg [.lit (.int .i64 0), .lit (.int .i64 29), .lit (.int .i64 23), .lit (.int .i64 21), .lit (.int .i64 19)]

/-- 'fairwaylaw12.FramePieces': WHATEVER THE INPUT: true; the input reads as it did. -/
def framePiecesSpec : ChangeSpec := { name := "framePieces", fn := fun _ => fun
  | [d1, d2, d3] => { results := [.lit (.bool true)], args := [d1, d2, d3] }
  | _ => none }
def framePiecesRow : OpenClaim := { program := "ytaijldpbpimdlaagreatdoor", sum := "5d75ec86555023f77f1bd80f51460b3eb8599de431d449d1922c2331a7412b4b", func := "fairway/fairwaylaw12.FramePieces", spec := "framePieces", inPlace := ["sync/atomic.AddInt64", "sync/atomic.LoadInt64"], unfollowed := true, recurses := true, named := ["fairway/message.least"], plainKeys := false, apart := false, laid := [("fairway/message.least", laid_fairway_message_least)] }
def FramePiecesSaid : Prop := framePiecesRow.holds Tryz.pinned (OpenSpec.ofChange framePiecesSpec)

/-- ITS FALSE NEIGHBOUR: 'it returns false'. Refute it at one input. -/
def framePiecesWrong : ChangeSpec := { name := "framePieces", fn := fun _ => fun
  | [d1, d2, d3] => { results := [.lit (.bool false)], args := [d1, d2, d3] }
  | _ => none }
def FramePiecesWrongFalsely : Prop := framePiecesRow.holds Tryz.pinned (OpenSpec.ofChange framePiecesWrong)

/-- 'fairwaylaw22.ViewPieces': WHATEVER THE INPUT: true; the input reads as it did. -/
def viewPiecesSpec : ChangeSpec := { name := "viewPieces", fn := fun _ => fun
  | [d1, d2, d3] => { results := [.lit (.bool true)], args := [d1, d2, d3] }
  | _ => none }
def viewPiecesRow : OpenClaim := { program := "ytaijldpbpimdlaagreatdoor", sum := "5d75ec86555023f77f1bd80f51460b3eb8599de431d449d1922c2331a7412b4b", func := "fairway/fairwaylaw22.ViewPieces", spec := "viewPieces", inPlace := ["sync/atomic.AddInt64"], unfollowed := true, recurses := true, named := ["fairway/message.least"], plainKeys := false, apart := false, laid := [("fairway/message.least", laid_fairway_message_least)] }
def ViewPiecesSaid : Prop := viewPiecesRow.holds Tryz.pinned (OpenSpec.ofChange viewPiecesSpec)

/-- ITS FALSE NEIGHBOUR: 'it returns false'. Refute it at one input. -/
def viewPiecesWrong : ChangeSpec := { name := "viewPieces", fn := fun _ => fun
  | [d1, d2, d3] => { results := [.lit (.bool false)], args := [d1, d2, d3] }
  | _ => none }
def ViewPiecesWrongFalsely : Prop := viewPiecesRow.holds Tryz.pinned (OpenSpec.ofChange viewPiecesWrong)

/- THE SECOND FORM. 'bulk': how many values and letters a reading holds, each counted each time it is reached (what is shared counts as often as it is met; a slice's spare places count too). A statement '..UptoSaid' is the law's where the arguments, and the package variables that the reading takes, are together of bulk at most 1048576: NARROWER than '..Said'. Prove '..Said' where nothing that the law and all that it calls make is longer than what came in: it says more and counts as full. Else prove '..UptoSaid'. A law counts once. -/
mutual
def uptoBulk {H : Type} : DataW H → Nat
  | .lit (.string bytes) => bytes.length + 1
  | .lit _ => 1
  | .nil => 1
  | .ptr d => uptoBulk d + 1
  | .slice elems spare => uptoBulkAll elems + uptoBulkAll spare + 1
  | .agg parts => uptoBulkAll parts + 1
  | .iface _ d => uptoBulk d + 1
  | .map entries => uptoBulkEntries entries + 1
  | .held _ => 1
def uptoBulkAll {H : Type} : List (DataW H) → Nat
  | [] => 0
  | d :: r => uptoBulk d + uptoBulkAll r
def uptoBulkEntries {H : Type} : List (Lit × DataW H) → Nat
  | [] => 0
  | x :: r => uptoBulkEntry x + uptoBulkEntries r
def uptoBulkEntry {H : Type} : Lit × DataW H → Nat
  | (.string bytes, d) => bytes.length + uptoBulk d + 1
  | (_, d) => uptoBulk d + 1
 end
def uptoSmall : (H : Type) → List (DataW H) → Bool := fun _ ds => decide (uptoBulkAll ds ≤ 1048576)
def OpenSpec.upto (s : _root_.Go.ChangeSpec) : _root_.Go.OpenSpec := { _root_.Go.OpenSpec.ofChange s with cond := some uptoSmall }

/-- 'fairwaylaw12.FramePieces', WHERE WHAT IT READS IS OF BULK AT MOST 1048576: true; the input reads as it did. -/
def framePiecesUptoRow : OpenClaim := { program := "ytaijldpbpimdlaagreatdoor", sum := "5d75ec86555023f77f1bd80f51460b3eb8599de431d449d1922c2331a7412b4b", func := "fairway/fairwaylaw12.FramePieces", spec := "framePieces", inPlace := ["sync/atomic.AddInt64", "sync/atomic.LoadInt64"], unfollowed := true, recurses := true, named := ["fairway/message.least"], plainKeys := false, apart := false, laid := [("fairway/message.least", laid_fairway_message_least)], narrowed := true }
def FramePiecesUptoSaid : Prop := framePiecesUptoRow.holds Tryz.pinned (OpenSpec.upto framePiecesSpec)

/-- 'fairwaylaw22.ViewPieces', WHERE WHAT IT READS IS OF BULK AT MOST 1048576: true; the input reads as it did. -/
def viewPiecesUptoRow : OpenClaim := { program := "ytaijldpbpimdlaagreatdoor", sum := "5d75ec86555023f77f1bd80f51460b3eb8599de431d449d1922c2331a7412b4b", func := "fairway/fairwaylaw22.ViewPieces", spec := "viewPieces", inPlace := ["sync/atomic.AddInt64"], unfollowed := true, recurses := true, named := ["fairway/message.least"], plainKeys := false, apart := false, laid := [("fairway/message.least", laid_fairway_message_least)], narrowed := true }
def ViewPiecesUptoSaid : Prop := viewPiecesUptoRow.holds Tryz.pinned (OpenSpec.upto viewPiecesSpec)

end Rows
end Go.Proofs.YtaijldpbpimdlaaGreatDoor
