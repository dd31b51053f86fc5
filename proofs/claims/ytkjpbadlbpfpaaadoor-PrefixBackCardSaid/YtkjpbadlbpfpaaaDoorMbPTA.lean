/- Texts of prefixes: addresses. -/
import Derived.Test.YtkjpbadlbpfpaaaDoorMbPTC
import Derived.Test.YtkjpbadlbpfpaaaDoorMbPTEv
import Derived.Test.YtkjpbadlbpfpaaaDoorMbPTDg
namespace Go.Proofs.YtkjpbadlbpfpaaaDoor
open Go.RowKit

/-- an address's text -/
def addrT (a : Nat) : List UInt8 := d3 (a / 2 ^ 24) ++ [46] ++ d3 (a / 2 ^ 16 % 256) ++ [46] ++ d3 (a / 2 ^ 8 % 256) ++ [46] ++ d3 (a % 256)
theorem d3_len (b : Nat) : (d3 b).length ≤ 3 := by
  unfold d3
  cases Nat.blt b 10 <;> cases Nat.blt b 100 <;> simp
theorem shbT (h s : Nat) : IntKind.wrap .u8 (Int.fdiv (h : Int) ((2 : Int) ^ s)) = ((h / 2 ^ s % 256 : Nat) : Int) := by
  have e : Int.fdiv (h : Int) ((2 : Int) ^ s) = ((h / 2 ^ s : Nat) : Int) := by
    have : ((2 : Int) ^ s) = ((2 ^ s : Nat) : Int) := by norm_cast
    rw [this, Int.fdiv_eq_ediv_of_nonneg _ (Int.natCast_nonneg _)]
    norm_cast
  rw [e]
  simp only [IntKind.wrap, IntKind.bits, IntKind.signed]
  simp
theorem fdT (h s : Nat) : Int.fdiv (h : Int) ((2 : Int) ^ s) = ((h / 2 ^ s : Nat) : Int) := by
  have : ((2 : Int) ^ s) = ((2 ^ s : Nat) : Int) := by norm_cast
  rw [this, Int.fdiv_eq_ediv_of_nonneg _ (Int.natCast_nonneg _)]
  norm_cast
theorem w64s (n : Nat) (h : n < 4294967296) : IntKind.wrap .i64 (n : Int) = (n : Int) := by
  simp only [IntKind.wrap, IntKind.bits, IntKind.signed]; simp; omega
theorem o1_nat (a s : Nat) : o1 (a : Int) s = ((a / 2 ^ s % 256 : Nat) : Int) := by
  unfold o1
  rw [shbT, w64s _ (by omega)]
theorem o2_nat (x : Nat) : o2 (x : Int) = ((x % 256 : Nat) : Int) := by
  unfold o2
  have e : BitVec.toNat (BitVec.ofInt (IntKind.bits .u32) (x : Int) &&& BitVec.ofInt (IntKind.bits .u32) (255 : Int)) = x % 256 := by
    have h1 : BitVec.ofInt (IntKind.bits .u32) (x : Int) = BitVec.ofNat 32 x := BitVec.ofInt_natCast 32 x
    have h2 : BitVec.ofInt (IntKind.bits .u32) (255 : Int) = BitVec.ofNat 32 255 := rfl
    rw [h1, h2]
    show (BitVec.ofNat 32 x &&& BitVec.ofNat 32 255).toNat = x % 256
    rw [BitVec.toNat_and, BitVec.toNat_ofNat, BitVec.toNat_ofNat]
    show x % 2 ^ 32 &&& 255 = x % 256
    rw [show (255 : Nat) = 2 ^ 8 - 1 from rfl, Nat.and_two_pow_sub_one_eq_mod]
    omega
  rw [e]
  have h : IntKind.wrap .u32 ((x % 256 : Nat) : Int) = ((x % 256 : Nat) : Int) := by
    simp only [IntKind.wrap, IntKind.bits, IntKind.signed]; simp; omega
  rw [h, w64s _ (by omega)]
theorem orS_nat (z n : Nat) (hz : z < 16777216) (hn : n < 256) : orS (z : Int) (n : Int) = ((z * 256 + n : Nat) : Int) := by
  unfold orS
  have hm : min (Int.toNat (8 : Int)) (IntKind.bits .u32) = 8 := rfl
  have w1 : IntKind.wrap .u32 ((z : Int) * (2 : Int) ^ 8) = ((z * 256 : Nat) : Int) := by
    simp only [IntKind.wrap, IntKind.bits, IntKind.signed]; simp; omega
  have w2 : IntKind.wrap .u32 (n : Int) = ((n : Nat) : Int) := by
    simp only [IntKind.wrap, IntKind.bits, IntKind.signed]; simp; omega
  rw [hm, w1, w2]
  have e : BitVec.toNat (BitVec.ofInt (IntKind.bits .u32) ((z * 256 : Nat) : Int) ||| BitVec.ofInt (IntKind.bits .u32) ((n : Nat) : Int)) = z * 256 + n := by
    have h1 : BitVec.ofInt (IntKind.bits .u32) ((z * 256 : Nat) : Int) = BitVec.ofNat 32 (z * 256) := BitVec.ofInt_natCast 32 _
    have h2 : BitVec.ofInt (IntKind.bits .u32) ((n : Nat) : Int) = BitVec.ofNat 32 n := BitVec.ofInt_natCast 32 _
    rw [h1, h2]
    show (BitVec.ofNat 32 (z * 256) ||| BitVec.ofNat 32 n).toNat = _
    rw [BitVec.toNat_or, BitVec.toNat_ofNat, BitVec.toNat_ofNat, Nat.mod_eq_of_lt (by omega), Nat.mod_eq_of_lt (by omega)]
    have h3 := Nat.shiftLeft_add_eq_or_of_lt (b := n) (i := 8) (by omega) z
    rw [Nat.shiftLeft_eq] at h3
    exact h3.symm
  rw [e]
  simp only [IntKind.wrap, IntKind.bits, IntKind.signed]; simp; omega
theorem jn_vcx (m : Int) (x0 x1 x2 x3 : List UInt8) (h0 : x0.length ≤ 1000) (h1 : x1.length ≤ 1000) (h2 : x2.length ≤ 1000) (h3 : x3.length ≤ 1000) : VCx Tryd.prog (ptG m) 0 jnF [.row 1 0 0 4, .val (.string ⟨#[46]⟩)] ⟨[.row [bsT x0, bsT x1, bsT x2, bsT x3]], []⟩
    fun x T' => x = bsT (x0 ++ [46] ++ x1 ++ [46] ++ x2 ++ [46] ++ x3) ∧ T' = ⟨[.row [bsT x0, bsT x1, bsT x2, bsT x3]], []⟩ := by
  intro g w us r hG hx
  match us, hx.1 with
  | [u, s], _ =>
    obtain ⟨b, c, f1, f2, f3, f4, f5, rfl⟩ := (hx.2 0 _ u rfl rfl).row_inv
    obtain rfl := (hx.2 1 _ s rfl rfl).val_inv
    obtain ⟨b', q1, ⟨us, ty, q2, q3, q4, q5⟩, _⟩ := r.obj 0 _ rfl rfl
    rw [f1] at q1; injection q1 with q1; subst q1
    have hcell : ∀ (j : Nat) (x : List UInt8), [bsT x0, bsT x1, bsT x2, bsT x3][j]? = some (bsT x) → w.cell? ⟨b, 0 * 1 + j, none⟩ = some (.string ⟨x.toArray⟩) := fun j x hj => by
      have hj4 : j < 4 := (List.getElem?_eq_some_iff.1 hj).1
      have hl : j < us.length := by simp at q3; omega
      have hu : (us.take 4)[j]? = some us[j] := by rw [List.getElem?_take, if_pos hj4, List.getElem?_eq_getElem hl]
      have h := q4.2 j _ us[j] hj hu
      have h := h.val_inv
      unfold World.cell?
      simp only [q2]
      rw [show 0 * 1 + j = j by omega]
      simp [hl, h]
    have hj := Tryd.strings_Join b (0 * 1) c [⟨x0.toArray⟩, ⟨x1.toArray⟩, ⟨x2.toArray⟩, ⟨x3.toArray⟩] ⟨#[46]⟩ w
      (fun j x hx => by
        match j, hx with
        | 0, hx => simp at hx; subst hx; exact hcell 0 x0 rfl
        | 1, hx => simp at hx; subst hx; exact hcell 1 x1 rfl
        | 2, hx => simp at hx; subst hx; exact hcell 2 x2 rfl
        | 3, hx => simp at hx; subst hx; exact hcell 3 x3 rfl
        | j + 4, hx => simp at hx)
      f2 (by simp) f3 (by simp [Lib.join, List.intercalate]; omega)
    refine Calls.mono hj ?_
    rintro e w' ⟨rfl, gr⟩
    refine ⟨_, _, g, _, rfl, ⟨rfl, rfl⟩, Evo.of_gr r gr, r.gr gr, ?_, ⟨by simp, fun i hi => absurd hi (Nat.not_lt_zero i), fun i o b hi => absurd hi (Nat.not_lt_zero i)⟩⟩
    have e : (Lib.join ([⟨x0.toArray⟩, ⟨x1.toArray⟩, ⟨x2.toArray⟩, ⟨x3.toArray⟩].map fun x : ByteArray => x.data.toList) (ByteArray.mk #[46]).data.toList) = x0 ++ [46] ++ x1 ++ [46] ++ x2 ++ [46] ++ x3 := by
      simp [Lib.join, List.intercalate]
    rw [e]
    exact .val _
theorem numW_ok (m : Int) {f : FuncId} (h : ∀ n : Nat, n < 256 → VCx Tryd.prog (ptG m) 0 f [.val (.int .i64 (n : Int))] ⟨[], []⟩ fun x T' => x = .val (.string ⟨(d3 n).toArray⟩) ∧ T' = ⟨[], []⟩) : ∀ ro ys T K, numW d3 ro ys T K → VCx Tryd.prog (ptG m) ro f ys T K := by
  intro ro ys T K hk
  unfold numW at hk
  split at hk
  · rename_i z
    obtain ⟨⟨h0, h1⟩, hk⟩ := hk
    obtain ⟨n, rfl⟩ := Int.eq_ofNat_of_zero_le h0
    exact VCx.liftPure (ptG_vals m) (h n (by omega)) rfl (fun _ _ => rfl) hk
  · exact hk.elim
theorem adW_ok (m : Int) {f : FuncId} (h : ∀ a : Nat, a < 4294967296 → VCx Tryd.prog (ptG m) 0 f [.val (.int .u32 (a : Int))] ⟨[], []⟩ fun x T' => x = bsT (addrT a) ∧ T' = ⟨[], []⟩) : ∀ ro ys T K, adW addrT ro ys T K → VCx Tryd.prog (ptG m) ro f ys T K := by
  intro ro ys T K hk
  unfold adW at hk
  split at hk
  · rename_i z
    obtain ⟨⟨h0, h1⟩, hk⟩ := hk
    obtain ⟨n, rfl⟩ := Int.eq_ofNat_of_zero_le h0
    exact VCx.liftPure (ptG_vals m) (h n (by omega)) rfl (fun _ _ => rfl) hk
  · exact hk.elim
theorem pa_vcx (m : Int) (a : Nat) (ha : a < 4294967296) : VCx Tryd.prog (ptG m) 0 paF [.val (.int .u32 (a : Int))] ⟨[], []⟩ fun x T' => x = bsT (addrT a) ∧ T' = ⟨[], []⟩ := by
  have hC : SpecsOk Tryd.prog (ptG m) (paC d3 [bsT (d3 (a / 2 ^ 24)), bsT (d3 (a / 2 ^ 16 % 256)), bsT (d3 (a / 2 ^ 8 % 256)), bsT (d3 (a % 256))] (addrT a)) := specs_ok fun p hp => by
    simp only [List.mem_cons, List.not_mem_nil, or_false] at hp
    rcases hp with rfl | rfl
    · exact numW_ok m fun n hn => it_vcx m n hn
    · rintro ro ys T K ⟨⟨rfl, rfl, rfl⟩, hk⟩
      have l := fun b => Nat.le_trans (d3_len b) (show 3 ≤ 1000 by omega)
      exact (jn_vcx m _ _ _ _ (l _) (l _) (l _) (l _)).mono fun x T' ⟨h1, h2⟩ => by subst h1 h2; exact hk
  refine VCx.keepQ 0 0 (Nat.le_refl _) (Nat.le_refl _) (vcallF_is mixedT_Tryd bodiesT_Tryd hC lsOk_none (ev_pa (ptG m) d3 a _ (addrT a) _) ?_)
  have e0 : a / 2 ^ 24 % 256 = a / 2 ^ 24 := Nat.mod_eq_of_lt (by omega)
  have e3 : a / 2 ^ 0 % 256 = a % 256 := by simp
  rw [o1_nat, o1_nat, o1_nat, o1_nat, e0, e3]
  exact ⟨⟨by omega, by omega⟩, ⟨by omega, by omega⟩, ⟨by omega, by omega⟩, ⟨by omega, by omega⟩, ⟨rfl, rfl, rfl⟩, rfl, rfl⟩
end Go.Proofs.YtkjpbadlbpfpaaaDoor
