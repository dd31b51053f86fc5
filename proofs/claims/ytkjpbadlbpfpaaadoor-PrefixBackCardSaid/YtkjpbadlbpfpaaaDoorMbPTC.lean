/- Texts of prefixes: contracts of the library's functions. -/
import Derived.Test.YtkjpbadlbpfpaaaDoorMbPTI0
import Derived.Test.YtkjpbadlbpfpaaaDoorMbPTI1
import Derived.Test.YtkjpbadlbpfpaaaDoorMbPTI2
import Derived.Test.YtkjpbadlbpfpaaaDoorMbPTI3
import Derived.Test.YtkjpbadlbpfpaaaDoorPTNum
import Derived.Test.YtkjpbadlbpfpaaaDoorPTLays
import Derived.Test.YtkjpbadlbpfpaaaDoorMb4
import Derived.Test.YtkjpbadlbpfpaaaDoorMem
namespace Go.Proofs.YtkjpbadlbpfpaaaDoor
open Go.RowKit

theorem itA_all (m : Int) (n : Nat) (hn : n < 256) : itA m n := by
  have h : ∀ lo, itR m lo 16 → lo ≤ n → n < lo + 16 → itA m n := fun lo h h1 h2 => by
    have := itR_at h (show n - lo < 16 by omega)
    rwa [show lo + (n - lo) = n by omega] at this
  by_cases h0 : n < 16
  · exact h 0 (it0 m) (by omega) (by omega)
  by_cases h1 : n < 32
  · exact h 16 (it16 m) (by omega) (by omega)
  by_cases h2 : n < 48
  · exact h 32 (it32 m) (by omega) (by omega)
  by_cases h3 : n < 64
  · exact h 48 (it48 m) (by omega) (by omega)
  by_cases h4 : n < 80
  · exact h 64 (it64 m) (by omega) (by omega)
  by_cases h5 : n < 96
  · exact h 80 (it80 m) (by omega) (by omega)
  by_cases h6 : n < 112
  · exact h 96 (it96 m) (by omega) (by omega)
  by_cases h7 : n < 128
  · exact h 112 (it112 m) (by omega) (by omega)
  by_cases h8 : n < 144
  · exact h 128 (it128 m) (by omega) (by omega)
  by_cases h9 : n < 160
  · exact h 144 (it144 m) (by omega) (by omega)
  by_cases h10 : n < 176
  · exact h 160 (it160 m) (by omega) (by omega)
  by_cases h11 : n < 192
  · exact h 176 (it176 m) (by omega) (by omega)
  by_cases h12 : n < 208
  · exact h 192 (it192 m) (by omega) (by omega)
  by_cases h13 : n < 224
  · exact h 208 (it208 m) (by omega) (by omega)
  by_cases h14 : n < 240
  · exact h 224 (it224 m) (by omega) (by omega)
  by_cases h15 : n < 256
  · exact h 240 (it240 m) (by omega) (by omega)
  omega
theorem it_of2 (m : Int) (n : Nat) (h : itA m n) : VCx Tryd.prog (ptG m) 0 itF [.val (.int .i64 (Int.ofNat n))] ⟨[], []⟩ (isStr (d3 n)) := VF_ok m 3000 _ _ h
theorem it_vcx (m : Int) (n : Nat) (hn : n < 256) : VCx Tryd.prog (ptG m) 0 itF [.val (.int .i64 (n : Int))] ⟨[], []⟩ fun x T' => x = .val (.string ⟨(d3 n).toArray⟩) ∧ T' = ⟨[], []⟩ :=
  VCx.keepQ 0 0 (Nat.le_refl _) (Nat.le_refl _) ((it_of2 m n (itA_all m n hn)).mono fun x T hx => ⟨by rw [isStr_ok hx]; rfl, rfl⟩)
theorem nu_vcx (m : Int) (s : List UInt8) : VCx Tryd.prog (ptG m) 0 21 [.val (.string ⟨s.toArray⟩)] ⟨[], []⟩ fun x T' => x = .tup [.val (.int .i64 (numZ s).1), .val (.bool (numZ s).2)] ∧ T' = ⟨[], []⟩ :=
  VCx.ofTupG (us := [.string ⟨s.toArray⟩]) (vs := [.int .i64 (numZ s).1, .bool (numZ s).2]) rfl fun _ w _ => pnum ⟨s.toArray⟩ w
theorem ptG_max (m : Int) {g : Gh} {w : World} (h : GOk (ptG m) g w) : w.cell? ⟨0, 0, none⟩ = some (.int .i64 m) :=
  h.cell (vs := [.int .i64 m]) (j := 0) rfl rfl
theorem cu_vcx (m : Int) (s : List UInt8) (hs : s.length ≤ 1000) (c : UInt8) : VCx Tryd.prog (ptG m) 0 22 [.val (.string ⟨s.toArray⟩), .val (.string ⟨#[c]⟩)] ⟨[], []⟩ fun x T' => x = .tup [.val (.string ⟨(Lib.cut s [c]).1.toArray⟩), .val (.string ⟨(Lib.cut s [c]).2.1.toArray⟩), .val (.bool (Lib.cut s [c]).2.2)] ∧ T' = ⟨[], []⟩ :=
  VCx.ofTupG (us := [.string ⟨s.toArray⟩, .string ⟨#[c]⟩]) (vs := [.string ⟨(Lib.cut s [c]).1.toArray⟩, .string ⟨(Lib.cut s [c]).2.1.toArray⟩, .bool (Lib.cut s [c]).2.2]) rfl fun g w hG => (Tryd.strings_Cut ⟨s.toArray⟩ ⟨#[c]⟩ m w (by simp [ByteArray.size]; omega) (ptG_max m hG)).mono fun e w' ⟨he, n, hw⟩ => ⟨he, hw ▸ (Gr.refl w).drewN n⟩
/-- the parts of a text -/
def parts (s : List UInt8) (c : UInt8) : List (List UInt8) := Lib.splitK [c] 0 (s.count c) s
theorem sp_vcx (m : Int) (s : List UInt8) (hs : s.length ≤ 1000) (c : UInt8) : VCx Tryd.prog (ptG m) 0 20 [.val (.string ⟨s.toArray⟩), .val (.string ⟨#[c]⟩)] ⟨[], []⟩ fun x T' => x = .vec 1 ((parts s c).map fun y => [.val (.string ⟨y.toArray⟩)]) .none ∧ T' = ⟨[], []⟩ := by
  have hcnt : Lib.countB ⟨s.toArray⟩ ⟨#[c]⟩ = s.count c := by
    show Lib.count s [c] = s.count c
    exact Lib.count_one c s
  have hsp : (Lib.splitB ⟨#[c]⟩ 0 (Lib.countB ⟨s.toArray⟩ ⟨#[c]⟩) ⟨s.toArray⟩) = (parts s c).map fun y => ⟨y.toArray⟩ := by
    have h := Lib.splitB_data ⟨#[c]⟩ 0 (Lib.countB ⟨s.toArray⟩ ⟨#[c]⟩) ⟨s.toArray⟩
    rw [hcnt] at h ⊢
    have h2 : (Lib.splitB ⟨#[c]⟩ 0 (s.count c) ⟨s.toArray⟩).map (fun x => (⟨x.data.toList.toArray⟩ : ByteArray)) = (parts s c).map fun y => ⟨y.toArray⟩ := by
      have := congrArg (List.map fun y : List UInt8 => (⟨y.toArray⟩ : ByteArray)) h
      simpa [parts, List.map_map, Function.comp_def] using this
    simpa using h2
  have hlen : (parts s c).length = s.count c + 1 := by
    have h := Lib.splitB_all ⟨#[c]⟩ (by simp [ByteArray.size]) 0 _ ⟨s.toArray⟩ hcnt
    rw [← hcnt, hsp, List.length_map, hcnt] at h
    exact h
  have hle : s.count c ≤ s.length := List.count_le_length
  have h := VCx.ofRetsG (P := Tryd.prog) (G := ptG m) (f := 20) (xs := [.val (.string ⟨s.toArray⟩), .val (.string ⟨#[c]⟩)]) (us := [.string ⟨s.toArray⟩, .string ⟨#[c]⟩]) rfl (vs := (parts s c).map fun y => .string ⟨y.toArray⟩) (ty := 9) (fun v hv => by obtain ⟨y, _, rfl⟩ := List.mem_map.1 hv; rfl) (by simp [maxLen, hlen]; omega)
    (fun g w hG => (Tryd.strings_Split ⟨s.toArray⟩ ⟨#[c]⟩ m w (by simp [ByteArray.size]; omega) (ptG_max m hG) (by simp [ByteArray.size])).mono fun e w' ⟨he, hw⟩ => by
      subst he hw
      rw [hsp, hcnt]
      refine Rets.mk ((Gr.refl w).alloc _) ⟨by simp, .inr ⟨w.heap.size, s.count c + 1, _, ?_, Nat.le_refl _, by show (Array.push w.heap _)[w.heap.size]? = some _; rw [Array.getElem?_push, if_pos rfl], ?_⟩⟩
      · rw [List.length_map, hlen]
      · rw [List.length_map, hlen]
        refine ⟨Nat.le_refl _, by simp [maxLen]; omega, ?_, ?_⟩
        · simp [hlen]
        · rw [List.map_map, List.take_of_length_le (by rw [List.length_map, hlen]; omega)]
          rfl)
  rw [List.map_map] at h
  exact h
end Go.Proofs.YtkjpbadlbpfpaaaDoor
