/- Siblings: Capacity's contract in a round of able. -/
import Derived.Test.YtgconkbnokbinaaMbSbAblE
namespace Go.Proofs.Ytgconkbnokbinaa
open Go.RowKit Go.Maps Go.Sort

theorem cpW_ok {lk lk2 : Value → Option TV} {es es2 : List (Value × TV × Nat)} {ck ck2 : Nat} {S : List SiT} {st : List Nat} {R : RpM} (h : SitesOk lk es ck S st) (h2 : RepsOk lk2 es2 R) (i n : Int) :
    ∀ ro ys T K, cpW (sT lk lk2 es es2 ck ck2).objs i n (capR R i n) ro ys T K → VCx Try.prog noGl ro cpF ys T K := by
  rintro ro ys ⟨os, tl⟩ K ⟨⟨rfl, rfl, hos⟩, hk⟩
  have q1 := h.ren (nameIn [0, 1, 2]) (nameIn [])
  have q2 := h2.ren ck2 (nameIn [0, 1, 2]) (nameIn [])
  match os, hos with
  | o0 :: o1 :: o2 :: l, hos =>
    simp only [List.take_succ_cons, List.take_zero, sT, List.cons.injEq, and_true] at hos
    obtain ⟨rfl, rfl, rfl⟩ := hos
    refine (VCx.lift (xs := [.ptr 0 0, .val (.int .i64 i), .val (.int .i64 n)]) [0, 1, 2] [] gvals_noGl (by decide) List.nodup_nil (fun k hk => ?_) (by simp) (fun _ _ => Nat.zero_le _) rfl ?_ (Q := fun x T' => x = .val (.int .i64 (capR R i n)) ∧ T' = sT lk lk2 es es2 ck ck2) (fun x T' hq => ?_)).mono ?_
    · simp only [List.mem_cons, List.not_mem_nil, or_false] at hk
      rcases hk with rfl | rfl | rfl
      · exact ⟨_, rfl, rfl⟩
      · exact ⟨_, rfl, rfl⟩
      · exact ⟨_, rfl, rfl⟩
    · have hg : VT.give ⟨.cells [.map 1, .map 2] :: .map kI lk es ck :: .map kI lk2 es2 ck2 :: l, tl⟩ [0, 1, 2] [] = sT lk lk2 es es2 ck ck2 := by
        simp only [VT.give, List.map_cons, List.map_nil, List.getElem?_cons_zero, List.getElem?_cons_succ, Option.getD_some, q1, q2, sT]
        rfl
      rw [hg]
      exact cp_vcx h h2 i n
    · rw [hq.2]; exact ⟨Nat.le_refl 3, Nat.zero_le _⟩
    · rintro x T' ⟨y, T2, ⟨rfl, rfl⟩, rfl, rfl⟩
      have r1 := h.ren (nameOut (l.length + 1 + 1 + 1) [0, 1, 2]) (nameOut tl.length [])
      have r2 := h2.ren ck2 (nameOut (l.length + 1 + 1 + 1) [0, 1, 2]) (nameOut tl.length [])
      have hb : VT.back ⟨.cells [.map 1, .map 2] :: .map kI lk es ck :: .map kI lk2 es2 ck2 :: l, tl⟩ [0, 1, 2] [] (sT lk lk2 es es2 ck ck2) = ⟨.cells [.map 1, .map 2] :: .map kI lk es ck :: .map kI lk2 es2 ck2 :: l, tl⟩ := by
        simp only [VT.back, sT, List.length_cons, List.map_cons, List.map_nil, r1, r2, giveBack]
        simp [VO.ren, TV.ren, renL, nameOut]
      rw [hb]
      exact hk
end Go.Proofs.Ytgconkbnokbinaa
