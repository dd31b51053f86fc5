/- PrefixRows: what the kernel leaves of the law; the law returns true. -/
import Derived.Test.YtjkagifpnieehaaMrPRCpt
import Derived.Test.YtjkagifpnieehaaMrPRSort
import Derived.Test.YtjkagifpnieehaaMrPRAll2
import Derived.Test.YtjkagifpnieehaaMrPROpen
namespace Go.Proofs.Ytjkagifpnieehaa
open Go.RowKit

set_option maxRecDepth 100000 in
theorem ev_prL (R : Prop) (L S B : List (List TV)) (zs : List Int) : vcallF Try.prog noGl (prC R L S B) (tell [(999998, .dead), (15, .val (.string (bstrZ zs))), (18, .val (.string (bstrZ zs)))]) 300 noLp 0 prF [.vec 2 L .none] ⟨[],[]⟩ isTrueV =
(bif decide ((↑(List.length L) : Int) > (200 : Int))
 then True
 else (R ∧
 ((@Eq (List TV) [(.vec 2 (L) .none)] [(.vec 2 (L) .none)]) ∧
 (R ∧
 ((@Eq (List TV) [(.vec 2 (L) .none)] [(.vec 2 (L) .none)]) ∧
 (R ∧
 ((@Eq (List TV) [(.vec 2 (S) .none), (.vec 2 (S) .none)] [(.vec 2 (S) .none), (.vec 2 (S) .none)]) ∧
 (R ∧
 ((@Eq (List TV) [(.vec 2 (L) .none)] [(.vec 2 (L) .none)]) ∧
 (OConv Try.prog ⟨[], []⟩ 26 9 (.vec 1 (B) .none) (.val (.string (bstrZ zs))) ∧
 (R ∧
 ((@Eq (List TV) [(.vec 2 (L) .none)] [(.vec 2 (L) .none)]) ∧
 (((@Eq (Option TV) (vread2 Try.prog ⟨[], []⟩ (.convert 26 9 (.tmp 14)) (evOf (fun _ => none) [(14, .vec 1 B .none)])) (vread2 Try.prog ⟨[], []⟩ (.convert 26 9 (.tmp 14)) (evOf (fun _ => none) [(14, .vec 1 B .none)]))) ∧
 True ) ∧
 (OConv Try.prog ⟨[], []⟩ 26 9 (.vec 1 (B) .none) (.val (.string (bstrZ zs))) ∧
 (bif eqRes BinOp.eql (keyEq (Value.string (bstrZ zs)) (Value.string (bstrZ zs)))
 then True
 else False ))))))))))))))) := by kernel_rfl
end Go.Proofs.Ytjkagifpnieehaa
