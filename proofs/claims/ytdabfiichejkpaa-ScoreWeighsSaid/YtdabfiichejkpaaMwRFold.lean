/- The reference's Pick, as a fold. -/
import Derived.Test.YtdabfiichejkpaaMwSeatV
namespace Go.Proofs.Ytdabfiichejkpaa
open Go.RowKit

/-- what one backend does to the best place and its score -/
def rstep (key : Int) (l : List Bk) (st : Int × Int) (j : Nat) (b : Bk) : Int × Int :=
  if b.2.2 < 1 then st else
  if st.1 < 0 then ((j : Int), scoreZ key b.1 b.2.2) else
  if scoreZ key b.1 b.2.2 > st.2 then ((j : Int), scoreZ key b.1 b.2.2) else
  if scoreZ key b.1 b.2.2 = st.2 ∧ b.1 < (l[st.1.toNat]!).1 then ((j : Int), scoreZ key b.1 b.2.2) else st
def rfold (key : Int) (l : List Bk) : Nat → Int × Int
  | 0 => (-1, 0)
  | j + 1 => rstep key l (rfold key l j) j l[j]!
theorem rfold_lt (key : Int) (l : List Bk) : ∀ j, (rfold key l j).1 < 0 ∨ (0 ≤ (rfold key l j).1 ∧ (rfold key l j).1.toNat < j)
  | 0 => .inl (by simp [rfold])
  | j + 1 => by
    have h := rfold_lt key l j
    have hs : 0 ≤ (j : Int) ∧ (j : Int).toNat < j + 1 := by omega
    simp only [rfold, rstep]
    split
    · omega
    · split
      · exact .inr hs
      · split
        · exact .inr hs
        · split
          · exact .inr hs
          · omega
theorem vrkeyP (pr s d sp dp : Int) : VCalls Try.prog 13 [flowE pr s d sp dp] ⟨[], []⟩ fun x T' => x = .val (.int .u64 (flowK pr s d sp dp)) ∧ T' = ⟨[], []⟩ :=
  VCalls.of_grT (us := [.agg #[.int .i64 pr, .int .u32 s, .int .u32 d, .int .i64 sp, .int .i64 dp]]) rfl (fun w => rkey pr s d sp dp _ _ _ _ _ rfl rfl rfl rfl rfl w) _
theorem vrscoreP (key id wt : Int) : VCalls Try.prog 17 [.val (.int .u64 key), .val (.int .i64 id), .val (.int .i64 wt)] ⟨[], []⟩ fun x T' => x = .val (.int .u64 (scoreZ key id wt)) ∧ T' = ⟨[], []⟩ :=
  VCalls.of_eq (us := [_, _, _]) (fun w => rscore key id wt w) _
end Go.Proofs.Ytdabfiichejkpaa
