/- Rows of prefixes: bytes. -/
import Derived.Test.YtjkagifpnieehaaMrPRRef
import Derived.Test.YtjkagifpnieehaaBytes
import Derived.Test.YtjkagifpnieehaaMr4
namespace Go.Proofs.Ytjkagifpnieehaa
open Go.RowKit

def bE (l : List Nat) : List (List TV) := l.map fun z : Nat => [.val (.int .u8 (z : Int))]
theorem ren_bE (f h : Nat → Option Nat) (l : List Nat) : renLL f h (bE l) = bE l := by
  induction l with
  | nil => rfl
  | cons a l ih => simp only [bE, List.map_cons, renLL] at *; rw [ih]; rfl
theorem bE_len (l : List Nat) : (bE l).length = l.length := by simp [bE]
def pxIn (p : Px) : Prop := 0 ≤ p.1 ∧ p.1 < 4294967296
theorem pb_vcx (p : Px) (hp : pxIn p) : VCx Try.prog noGl 0 pbF [.agg (pxc p.1 p.2)] ⟨[], []⟩ fun x T' => x = .vec 1 (bE (pbytes p.1.toNat p.2)) .none ∧ T' = ⟨[], []⟩ := by
  obtain ⟨a, n⟩ := p
  obtain ⟨h0, h1⟩ := hp
  simp only at h0 h1 ⊢
  obtain ⟨a, rfl⟩ := Int.eq_ofNat_of_zero_le h0
  have hlen : (pbytes a n).length ≤ 5 := by simp [pbytes, putB]; omega
  have h := VCx.ofRetsT (P := Try.prog) (G := noGl) (f := pbF) (xs := [.agg (pxc a n)]) (us := [.agg #[.int .u32 a, .int .i64 n]]) rfl (vs := u8s (pbytes a n)) (ty := 5) (u8s_one _) (by simp [u8s, maxLen]; omega)
    (fun w => by have := pbytes_any a (by omega) n w; simpa [u8s] using this)
  have e : (u8s (pbytes a n)).map (fun v => [TV.val v]) = bE (pbytes a n) := by simp [u8s, bE, Function.comp_def]
  rw [e] at h
  exact h
theorem quo8 (c : Nat) (hc : c ≤ 32) (k : Nat) (hk : (c + 7) / 8 = k) : OPure Try.prog (fun _ => none) (.binOp .quo 3 (.tmp 15) (.const (.int .i64 8)) 3) [(15, .val (.int .i64 (IntKind.wrap .i64 ((c : Int) + 7))))] (.val (.int .i64 (k : Int))) := by
  refine ⟨?_⟩
  have hw : IntKind.wrap .i64 ((c : Int) + 7) = ((c + 7 : Nat) : Int) := by simp only [IntKind.wrap, IntKind.bits, IntKind.signed]; simp; omega
  have h1 : vEq Try.prog .quo 3 (.val (.int .i64 ((c + 7 : Nat) : Int))) (.val (.int .i64 8)) = none := by simp [vEq, isEq]
  have h2 : vNil Try.prog .quo 3 (.val (.int .i64 ((c + 7 : Nat) : Int))) (.val (.int .i64 8)) = none := by simp [vNil]
  have hx : evOf (fun _ => none) [(15, .val (.int .i64 ((c + 7 : Nat) : Int)))] (.tmp 15) = .val (.int .i64 ((c + 7 : Nat) : Int)) := rfl
  have hy : evOf (fun _ => none) [(15, .val (.int .i64 ((c + 7 : Nat) : Int)))] (.const (.int .i64 8)) = .val (.int .i64 8) := rfl
  rw [hw]
  simp only [vpure2, hx, hy, h1, h2]
  have h3 := vbin_quo (P := Try.prog) 3 (.tmp 15) (.const (.int .i64 8)) .i64 ((c + 7 : Nat) : Int) 8 (by decide)
  have h4 : IntKind.wrap .i64 (((c + 7 : Nat) : Int).tdiv 8) = (k : Int) := by
    have : ((c + 7 : Nat) : Int).tdiv 8 = (((c + 7) / 8 : Nat) : Int) := rfl
    rw [this, hk]
    simp only [IntKind.wrap, IntKind.bits, IntKind.signed]; simp; omega
  rw [h4] at h3
  exact h3
theorem shb (h s : Nat) : IntKind.wrap .u8 (Int.fdiv (h : Int) ((2 : Int) ^ s)) = ((h / 2 ^ s % 256 : Nat) : Int) := by
  have e : Int.fdiv (h : Int) ((2 : Int) ^ s) = ((h / 2 ^ s : Nat) : Int) := by
    have : ((2 : Int) ^ s) = ((2 ^ s : Nat) : Int) := by norm_cast
    rw [this, Int.fdiv_eq_ediv_of_nonneg _ (Int.natCast_nonneg _)]
    norm_cast
  rw [e]
  simp only [IntKind.wrap, IntKind.bits, IntKind.signed]
  simp
theorem clb (c : Nat) (hc : c ≤ 32) : IntKind.wrap .u8 (c : Int) = (c : Int) := by
  simp only [IntKind.wrap, IntKind.bits, IntKind.signed]; simp; omega
theorem rb_vcx (p : Px) (hp : pxIn p) : VCx Try.prog noGl 0 rbF [.agg (pxc p.1 p.2)] ⟨[], []⟩ fun x T' => x = .vec 1 (bE (pbytes p.1.toNat p.2)) .none ∧ T' = ⟨[], []⟩ := by
  obtain ⟨a, n⟩ := p
  obtain ⟨h0, h1⟩ := hp
  simp only at h0 h1 ⊢
  obtain ⟨a, rfl⟩ := Int.eq_ofNat_of_zero_le h0
  show VCx Try.prog noGl 0 rbF [.agg (pxc (a : Int) n)] ⟨[], []⟩ fun x T' => x = .vec 1 (bE (pbytes a n)) .none ∧ T' = ⟨[], []⟩
  refine VCx.toVec (fun f h => ren_bE f h _) ?_
  have hC : SpecsOk Try.prog noGl (rbC a n (hd a n : Nat) (cl n : Nat)) := specs_ok fun q hq => by
    obtain rfl := List.mem_singleton.1 hq
    exact pureAt_ok gvals_noGl rfl (fun _ _ => rfl) (VCx.ofAgg (us := [.agg #[.int .u32 a, .int .i64 n]]) (vs := [.int .u32 (hd a n : Nat), .int .i64 (cl n : Nat)]) rfl fun w => rcanon a (by omega) n w)
  have hcl := cl_le n
  have hb : pbytes a n = cl n :: (putB (hd a n) 4).take ((cl n + 7) / 8) := rfl
  rw [hb]
  generalize hd a n = H at *
  generalize cl n = c at *
  have p4 : putB H 4 = [H / 2 ^ 24 % 256, H / 2 ^ 16 % 256, H / 2 ^ 8 % 256, H / 2 ^ 0 % 256] := rfl
  rw [p4]
  have s0 : min (Int.toNat (IntKind.wrap IntKind.u64 (IntKind.wrap IntKind.i64 ((24 : Int) - IntKind.wrap IntKind.i64 ((8 : Int) * (0 : Int)))))) (IntKind.bits IntKind.u32) = 24 := by decide
  have s1 : min (Int.toNat (IntKind.wrap IntKind.u64 (IntKind.wrap IntKind.i64 ((24 : Int) - IntKind.wrap IntKind.i64 ((8 : Int) * IntKind.wrap IntKind.i64 ((0 : Int) + (1 : Int))))))) (IntKind.bits IntKind.u32) = 16 := by decide
  have s2 : min (Int.toNat (IntKind.wrap IntKind.u64 (IntKind.wrap IntKind.i64 ((24 : Int) - IntKind.wrap IntKind.i64 ((8 : Int) * IntKind.wrap IntKind.i64 (IntKind.wrap IntKind.i64 ((0 : Int) + (1 : Int)) + (1 : Int))))))) (IntKind.bits IntKind.u32) = 8 := by decide
  have s3 : min (Int.toNat (IntKind.wrap IntKind.u64 (IntKind.wrap IntKind.i64 ((24 : Int) - IntKind.wrap IntKind.i64 ((8 : Int) * IntKind.wrap IntKind.i64 (IntKind.wrap IntKind.i64 (IntKind.wrap IntKind.i64 ((0 : Int) + (1 : Int)) + (1 : Int)) + (1 : Int))))))) (IntKind.bits IntKind.u32) = 0 := by decide
  have hcb := clb c hcl
  have hk : (c + 7) / 8 = 0 ∨ (c + 7) / 8 = 1 ∨ (c + 7) / 8 = 2 ∨ (c + 7) / 8 = 3 ∨ (c + 7) / 8 = 4 := by omega
  rcases hk with hk | hk | hk | hk | hk
  · have q := quo8 c hcl 0 hk
    refine vcallF_is mixedR_Try bodiesR_Try hC lsOk_none (ev_rb0 a n H c _) ⟨rfl, q, .inr (.inl ⟨.full, ?_⟩)⟩
    rw [hk, hcb]; rfl
  · have q := quo8 c hcl 1 hk
    refine vcallF_is mixedR_Try bodiesR_Try hC lsOk_none (ev_rb1 a n H c _) ⟨rfl, q, q, .inr (.inr ?_)⟩
    rw [hk, hcb, s0, shb]; rfl
  · have q := quo8 c hcl 2 hk
    refine vcallF_is mixedR_Try bodiesR_Try hC lsOk_none (ev_rb2 a n H c _) ⟨rfl, q, q, q, .inr (.inr ?_)⟩
    rw [hk, hcb, s0, s1, shb, shb]; rfl
  · have q := quo8 c hcl 3 hk
    refine vcallF_is mixedR_Try bodiesR_Try hC lsOk_none (ev_rb3 a n H c _) ⟨rfl, q, q, q, q, .inr (.inr ?_)⟩
    rw [hk, hcb, s0, s1, s2, shb, shb, shb]; rfl
  · have q := quo8 c hcl 4 hk
    refine vcallF_is mixedR_Try bodiesR_Try hC lsOk_none (ev_rb4 a n H c _) ⟨rfl, q, q, q, q, q, .inr (.inr ?_)⟩
    rw [hk, hcb, s0, s1, s2, s3, shb, shb, shb, shb]; rfl
end Go.Proofs.Ytjkagifpnieehaa
