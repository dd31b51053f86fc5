/- Texts of prefixes: texts. -/
import Derived.Test.YtkjpbadlbpfpaaaDoorMbPTA
import Derived.Test.YtkjpbadlbpfpaaaDoorPfxR
import Derived.Test.YtkjpbadlbpfpaaaDoorMb4
namespace Go.Proofs.YtkjpbadlbpfpaaaDoor
open Go.RowKit

theorem opure_sadd {G : Globs} {x y : Operand} {l : List (Nat × TV)} {a b c : List UInt8} (hx : evOf G l x = bsT a) (hy : evOf G l y = bsT b) (hc : c = a ++ b) (hn : a.length + b.length ≤ 1000000) : OPure Tryd.prog G (.binOp .add 9 x y 9) l (bsT c) := by
  subst hc
  refine ⟨?_⟩
  have h1 : vEq Tryd.prog .add 9 (bsT a) (bsT b) = none := by simp [vEq, isEq]
  have h2 : vNil Tryd.prog .add 9 (bsT a) (bsT b) = none := by simp [vNil]
  have h3 : vbin Tryd.prog .add 9 x y (.val (.string ⟨a.toArray⟩)) (.val (.string ⟨b.toArray⟩)) = some (.val (.string (ByteArray.mk a.toArray ++ ByteArray.mk b.toArray))) := by
    have e : (do eqGuard .add 9 x y (.string ⟨a.toArray⟩) (.string ⟨b.toArray⟩); binOp .add 9 (.string ⟨a.toArray⟩) (.string ⟨b.toArray⟩) : Sem Value) = Op.stringOp .add ⟨a.toArray⟩ ⟨b.toArray⟩ := rfl
    have hs : ¬ (((ByteArray.mk a.toArray).size + (ByteArray.mk b.toArray).size : Nat) : Int) > IntKind.i64.max := by
      have : IntKind.i64.max = 9223372036854775807 := by decide
      rw [this]
      simp [ByteArray.size]
      omega
    simp only [vbin, toVal]; rw [e]; simp only [Op.stringOp]; rw [if_neg hs]; rfl
  simp only [vpure2, hx, hy, h1, h2]
  rw [show bsT a = .val (.string ⟨a.toArray⟩) from rfl, show bsT b = .val (.string ⟨b.toArray⟩) from rfl, h3]
  have e : (ByteArray.mk a.toArray ++ ByteArray.mk b.toArray) = ByteArray.mk (a ++ b).toArray := by
    have h4 : (ByteArray.mk a.toArray ++ ByteArray.mk b.toArray).data = (a ++ b).toArray := by
      rw [ByteArray.data_append]
      simp
    rw [← h4]
  rw [e]; rfl
theorem ra_vcx (m : Int) (a : Nat) (ha : a < 4294967296) : VCx Tryd.prog (ptG m) 0 raF [.val (.int .u32 (a : Int))] ⟨[], []⟩ fun x T' => x = bsT (addrT a) ∧ T' = ⟨[], []⟩ := by
  have hC : SpecsOk Tryd.prog (ptG m) (specs [(rdF, numW d3)]) := specs_ok fun p hp => by
    obtain rfl := List.mem_singleton.1 hp
    exact numW_ok m fun n hn => dg_vcx m n hn
  refine VCx.keepQ 0 0 (Nat.le_refl _) (Nat.le_refl _) (vcallF_is mixedT_Tryd bodiesT_Tryd hC lsOk_none (ev_ra (ptG m) d3 a (d3 (a / 2 ^ 24) ++ [46]) (d3 (a / 2 ^ 24) ++ [46] ++ d3 (a / 2 ^ 16 % 256)) (d3 (a / 2 ^ 24) ++ [46] ++ d3 (a / 2 ^ 16 % 256) ++ [46]) (d3 (a / 2 ^ 24) ++ [46] ++ d3 (a / 2 ^ 16 % 256) ++ [46] ++ d3 (a / 2 ^ 8 % 256)) (d3 (a / 2 ^ 24) ++ [46] ++ d3 (a / 2 ^ 16 % 256) ++ [46] ++ d3 (a / 2 ^ 8 % 256) ++ [46]) (addrT a) _) ?_)
  have z0 : IntKind.wrap .i64 (Int.fdiv (a : Int) ((2 : Int) ^ 24)) = ((a / 2 ^ 24 : Nat) : Int) := by rw [fdT, w64s _ (by omega)]
  rw [z0, fdT, fdT, o2_nat, o2_nat, o2_nat]
  have l0 := d3_len (a / 2 ^ 24)
  have l1 := d3_len (a / 2 ^ 16 % 256)
  have l2 := d3_len (a / 2 ^ 8 % 256)
  have l3 := d3_len (a % 256)
  refine ⟨⟨by omega, by omega⟩, opure_sadd rfl rfl rfl (by simp only [List.length_cons, List.length_nil, Int.toNat_natCast]; omega), ⟨by omega, by omega⟩, opure_sadd rfl rfl rfl (by simp only [List.length_append, List.length_cons, List.length_nil, Int.toNat_natCast]; omega), opure_sadd rfl rfl rfl (by simp only [List.length_append, List.length_cons, List.length_nil]; omega), ⟨by omega, by omega⟩, opure_sadd rfl rfl rfl (by simp only [List.length_append, List.length_cons, List.length_nil, Int.toNat_natCast]; omega), opure_sadd rfl rfl rfl (by simp only [List.length_append, List.length_cons, List.length_nil]; omega), ⟨by omega, by omega⟩, opure_sadd rfl rfl rfl (by simp only [List.length_append, List.length_cons, List.length_nil, Int.toNat_natCast]; omega), rfl, rfl⟩
theorem addrT_len (a : Nat) : (addrT a).length ≤ 15 := by
  have l0 := d3_len (a / 2 ^ 24)
  have l1 := d3_len (a / 2 ^ 16 % 256)
  have l2 := d3_len (a / 2 ^ 8 % 256)
  have l3 := d3_len (a % 256)
  simp only [addrT, List.length_append, List.length_cons, List.length_nil]
  omega
/-- a prefix's text -/
def pfxT (a : Nat) (n : Int) : List UInt8 := addrT (hd a n) ++ [47] ++ d3 (cl n)
theorem text_of (m : Int) (f g d : FuncId) (a : Nat) (ha : a < 4294967296) (n : Int) (hf : ∀ w, Calls Tryd.prog f #[.agg #[.int .u32 a, .int .i64 n]] w fun e w' => e = .returned (.agg #[.int .u32 (hd a n : Nat), .int .i64 (cl n : Nat)]) ∧ Gr w w')
    (hg : ∀ a : Nat, a < 4294967296 → VCx Tryd.prog (ptG m) 0 g [.val (.int .u32 (a : Int))] ⟨[], []⟩ fun x T' => x = bsT (addrT a) ∧ T' = ⟨[], []⟩)
    (hd' : ∀ n : Nat, n < 256 → VCx Tryd.prog (ptG m) 0 d [.val (.int .i64 (n : Int))] ⟨[], []⟩ fun x T' => x = .val (.string ⟨(d3 n).toArray⟩) ∧ T' = ⟨[], []⟩) :
    SpecsOk Tryd.prog (ptG m) (ptC f g d d3 addrT a n (hd a n : Nat) (cl n : Nat)) := specs_ok fun p hp => by
  simp only [List.mem_cons, List.not_mem_nil, or_false] at hp
  rcases hp with rfl | rfl | rfl
  · exact pureAt_ok (ptG_vals m) rfl (fun _ _ => rfl) (VCx.ofAgg (us := [.agg #[.int .u32 a, .int .i64 n]]) (vs := [.int .u32 (hd a n : Nat), .int .i64 (cl n : Nat)]) rfl hf)
  · exact adW_ok m hg
  · exact numW_ok m hd'
theorem pt_vcx (m : Int) (a : Nat) (ha : a < 4294967296) (n : Int) : VCx Tryd.prog (ptG m) 0 ptF [.agg [.val (.int .u32 (a : Int)), .val (.int .i64 n)]] ⟨[], []⟩ fun x T' => x = bsT (pfxT a n) ∧ T' = ⟨[], []⟩ := by
  have hC := text_of m pcF paF itF a ha n (fun w => pcanon a ha n w) (pa_vcx m) (it_vcx m)
  refine VCx.keepQ 0 0 (Nat.le_refl _) (Nat.le_refl _) (vcallF_is mixedT_Tryd bodiesT_Tryd hC lsOk_none (ev_pt (ptG m) d3 a n _ _ addrT (addrT (hd a n) ++ [47]) (pfxT a n) _) ?_)
  have h1 := hd_le a n
  have h2 := cl_le n
  have l0 := addrT_len (hd a n)
  have l1 := d3_len (cl n)
  exact ⟨rfl, ⟨by omega, by omega⟩, ⟨rfl, rfl, trivial⟩, opure_sadd rfl rfl rfl (by simp only [List.length_cons, List.length_nil, Int.toNat_natCast]; omega), ⟨by omega, by omega⟩, opure_sadd rfl rfl rfl (by simp only [List.length_append, List.length_cons, List.length_nil, Int.toNat_natCast]; omega), rfl, rfl⟩
theorem rt_vcx (m : Int) (a : Nat) (ha : a < 4294967296) (n : Int) : VCx Tryd.prog (ptG m) 0 rtF [.agg [.val (.int .u32 (a : Int)), .val (.int .i64 n)]] ⟨[], []⟩ fun x T' => x = bsT (pfxT a n) ∧ T' = ⟨[], []⟩ := by
  have hC := text_of m rcF raF rdF a ha n (fun w => rcanon a ha n w) (ra_vcx m) (dg_vcx m)
  refine VCx.keepQ 0 0 (Nat.le_refl _) (Nat.le_refl _) (vcallF_is mixedT_Tryd bodiesT_Tryd hC lsOk_none (ev_rt (ptG m) d3 a n _ _ addrT (addrT (hd a n) ++ [47]) (pfxT a n) _) ?_)
  have h1 := hd_le a n
  have h2 := cl_le n
  have l0 := addrT_len (hd a n)
  have l1 := d3_len (cl n)
  exact ⟨rfl, ⟨by omega, by omega⟩, ⟨rfl, rfl, trivial⟩, opure_sadd rfl rfl rfl (by simp only [List.length_cons, List.length_nil, Int.toNat_natCast]; omega), ⟨by omega, by omega⟩, opure_sadd rfl rfl rfl (by simp only [List.length_append, List.length_cons, List.length_nil, Int.toNat_natCast]; omega), rfl, rfl⟩
end Go.Proofs.YtkjpbadlbpfpaaaDoor
