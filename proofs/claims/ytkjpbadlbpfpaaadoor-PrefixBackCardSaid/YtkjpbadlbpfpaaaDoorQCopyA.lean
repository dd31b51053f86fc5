/- Copying into an array. -/
import Derived.Test.YtkjpbadlbpfpaaaDoorQBlk
namespace Go.Proofs.YtkjpbadlbpfpaaaDoor
open Go.RowKit
section
variable {P : Program} {w : World} {a : Act} {dst : Option Tmp} {ty : TypeId} {pos : String} {after : Array Edge} {gd : Option (Nat × Bool)}

theorem wp_copyA {K : Act → World → Prop} {Q : Exit → Act → World → Prop} {d s : Operand} {dT sT : TypeId}
    (e : TypeId) (hu : P.underlying dT = some (.slice e)) (hsz : (P.info? e).map (·.size) = some 1)
    (g : Nat) (t : TypeId) (xs : List Value) (n cap : Nat) (hd : a.eval d = .slice (some ⟨g, 0, none⟩) n cap) (hb : Blk w g t xs) (hn : xs.length = n)
    (y : Value) (m : Nat) (ys : List Value) (hx : a.eval s = y) (hy : Rd w 1 y m ys) (h1 : ∀ u ∈ ys, u.oneCell' = true) (hmn : m ≤ n)
    (h : ∀ w', Blk w' g t (ys ++ xs.drop m) → Gb g w w' → K (a.put dst (goInt m)) w') : Oper.wp P ⟨dst, .call { callee := .builtin .copy, args := #[d, s], argTypes := #[dT, sT] }, ty, pos, after, gd⟩ a w K Q := by
  obtain ⟨hl, p, c, rfl, h2, h3, h4, h5⟩ := hy
  simp only [Nat.mul_one] at hl
  rcases Nat.eq_zero_or_pos m with rfl | hm
  · have : ys = [] := List.eq_nil_of_length_eq_zero hl
    subst this
    have hrun := run_copy_none (P := P) w dT sT ty e (some ⟨g, 0, none⟩) p n cap 0 c hu hsz (Nat.zero_min _)
    unfold Oper.wp
    simp [execOp, resolve, invoke, builtin, hd, hx, hrun, Result.andThen]
    exact h w hb (Gb.refl g w)
  · cases p with
    | none => obtain ⟨rfl, rfl⟩ := h4 rfl; omega
    | some ad =>
      obtain ⟨hs5, hc5⟩ := h5 ad rfl
      have hadd : ∀ j, ad.add j = ⟨ad.block, ad.off + j, none⟩ := by
        intro j
        obtain ⟨b, of, sp⟩ := ad
        simp only at hs5
        subst hs5
        unfold Addr.add; split <;> simp_all
      have hmin : ys.length = Nat.min m n := by rw [hl]; exact (Nat.min_eq_left hmn).symm
      have hrun := run_copy_row (P := P) w dT sT ty e g 0 n cap ad m c xs.toArray t ys hu hsz hb hmin
        (fun j u hu => by rw [hadd]; exact hc5 j u hu) (by simp; omega) h1
      rw [hl] at hrun
      unfold Oper.wp
      simp only [execOp, resolve, invoke, builtin, hd, hx, Sem.run_bind, Sem.run_pure, Result.andThen_ok, List.map_toArray, List.map_cons, List.map_nil, hrun]
      simp only [List.take_zero, List.nil_append, Nat.zero_add]
      exact h _ (setRow_heap w g _ _ t _ hb) ⟨rfl, rfl, rfl, by simp [World.setRow], fun k hk hne => setRow_other w g k _ (fun e => hne (by rw [e]))⟩

/-- the same in a plan whose worlds are free -/
theorem wpD_copyA {ops : Array Oper} {S : World → Prop} {Q : Act → World → Prop} {rest : List (Oper × Bool)} {d s : Operand} {dT sT : TypeId} (hS : ∀ w', S w')
    (hw : Region.wanted ⟨dst, .call { callee := .builtin .copy, args := #[d, s], argTypes := #[dT, sT] }, ty, pos, after, gd⟩ (yielded ops a.tmps) = true)
    (e : TypeId) (hu : P.underlying dT = some (.slice e)) (hsz : (P.info? e).map (·.size) = some 1)
    (g : Nat) (t : TypeId) (xs : List Value) (n cap : Nat) (hd : a.eval d = .slice (some ⟨g, 0, none⟩) n cap) (hb : Blk w g t xs) (hn : xs.length = n)
    (y : Value) (m : Nat) (ys : List Value) (hx : a.eval s = y) (hy : Rd w 1 y m ys) (h1 : ∀ u ∈ ys, u.oneCell' = true) (hmn : m ≤ n)
    (h : ∀ w', Blk w' g t (ys ++ xs.drop m) → Gb g w w' → wpPlan P ops S Q rest (a.put dst (goInt m)) w') :
    wpPlan P ops S Q ((⟨dst, .call { callee := .builtin .copy, args := #[d, s], argTypes := #[dT, sT] }, ty, pos, after, gd⟩, false) :: rest) a w :=
  wpPlan_do hw fun _ hK => wp_copyA e hu hsz g t xs n cap hd hb hn y m ys hx hy h1 hmn fun w' a1 a2 => hK _ _ (hS w') fun _ => h w' a1 a2
end
end Go.Proofs.YtkjpbadlbpfpaaaDoor
