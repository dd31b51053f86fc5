/- Texts of prefixes: the reference's prefixes. -/
import Derived.Test.YtkjpbadlbpfpaaaDoorMbPTR
namespace Go.Proofs.YtkjpbadlbpfpaaaDoor
open Go.RowKit

theorem opure_sslice0 {P : Program} {t : TypeId} (ht : P.underlying t = some .string) {G : Globs} {x hi : Operand} {l : List (Nat × TV)} {s : List UInt8} {z : Int} (hx : evOf G l x = bsT s) (hh : evOf G l hi = .val (.int .i64 z)) (h0 : 0 ≤ z) (h1 : z ≤ s.length) : OPure P G (.slice t x none (some hi) none) l (bsT (s.take z.toNat)) := by
  refine ⟨?_⟩
  have hs : z.toNat ≤ (ByteArray.mk s.toArray).size := by
    have : (ByteArray.mk s.toArray).size = s.length := by simp [ByteArray.size]
    omega
  have he : (ByteArray.mk s.toArray).extract 0 z.toNat = ByteArray.mk (s.take z.toNat).toArray := by
    have h2 : ((ByteArray.mk s.toArray).extract 0 z.toNat).data = (s.take z.toNat).toArray := by
      rw [ByteArray.data_extract]
      simp
    rw [← h2]
  simp only [vpure2, Option.map_none, Option.map_some, hx, hh, bsT]
  simp only [vslice3, vsliceR, vsliceN, vslice, ht, lowOf, natOf, if_pos h0]
  rw [if_pos ⟨Nat.zero_le _, hs⟩, he]
def lastS (s : List UInt8) : Int := lastAt s 0 (-1)
theorem lastS_in (s : List UInt8) : -1 ≤ lastS s ∧ lastS s < s.length := by
  have := lastAt_le s 0 (-1) (by omega) (by omega)
  unfold lastS
  omega
def tailS (s : List UInt8) : List UInt8 := s.drop (lastS s + 1).toNat
def numV (s : List UInt8) : Int := (numR (tailS s) 0).getD 0
theorem numV_in (s : List UInt8) : -9223372036854775808 ≤ numV s ∧ numV s ≤ 9223372036854775807 := by
  unfold numV
  cases h : numR (tailS s) 0 with
  | none => simp only [Option.getD_none]; omega
  | some k =>
    have := numR_in _ 0 k (by omega) h
    simpa using this
set_option maxRecDepth 100000 in
theorem rp_loops (G : Globs) (s : List UInt8) (hs : s.length ≤ 1000) (a : Int) (ok : Bool) : LsOk Tryd.prog G (rtL s (lastS s) a (numV s) ok (numR (tailS s) 0 = none) (codeAt Tryd.prog rpF 0) (codeAt Tryd.prog rpF 2)) := specsL_ok fun p hp => by
  obtain ⟨t0, t1⟩ := lastS_in s
  simp only [List.mem_cons, List.not_mem_nil, or_false] at hp
  rcases hp with rfl | rfl
  · refine loopL_ok fun K hK => ?_
    let Post : Exit → List TV → VT → Prop := fun e vs T => e = .normal ∧ vs = rtV0 s (lastS s) s.length ∧ T = rtT
    refine loopK (f := rpF) (id := 0) (by kernel_rfl) 91 rtK0 (fun q : Nat × Int => s.length - q.1) (fun q => rtV0 s q.2 q.1) (fun _ => rtT) (fun q => q.1 ≤ s.length ∧ lastAt (s.drop q.1) q.1 q.2 = lastS s) 1 0 (fun _ _ => ⟨Nat.le_refl _, Nat.le_refl _⟩)
      Post (fun q hq => ?_) (0, -1) ⟨Nat.zero_le _, rfl⟩ K (fun e vs T h => ?_)
    · obtain ⟨j, t⟩ := q
      obtain ⟨hj, hr⟩ := hq
      simp only at hj hr
      by_cases hlt : j < s.length
      · have hd : s[j]? = some s[j] := List.getElem?_eq_getElem hlt
        have hw := wrapS j (by omega)
        rw [List.drop_eq_getElem_cons hlt, lastAt] at hr
        generalize s[j] = ch at hd hr
        refine vx_is mixedT_Tryd bodiesT_Tryd specsOk_none lsOk_none (ev_rp0 G s (ch.toNat : Int) t j _) ?_
        refine condT (decide_eq_true (by rw [bsize]; omega)) ⟨opure_sindex rfl rfl hd, cond_of (fun h => ?_) fun h => ?_⟩
        · rw [eqI] at h
          rw [if_pos (by omega)] at hr
          refine ⟨rfl, rfl, (j + 1, (j : Int)), ⟨hlt, hr⟩, by simp only; omega, .inl ⟨rfl, ?_⟩⟩
          rw [hw]; rfl
        · rw [eqIF] at h
          rw [if_neg (by omega)] at hr
          refine ⟨rfl, rfl, (j + 1, t), ⟨hlt, hr⟩, by simp only; omega, .inl ⟨rfl, ?_⟩⟩
          rw [hw]; rfl
      · obtain rfl : j = s.length := by omega
        rw [List.drop_length, lastAt] at hr
        subst hr
        refine vx_is mixedT_Tryd bodiesT_Tryd specsOk_none lsOk_none (ev_rp0 G s 0 (lastS s) s.length _) ?_
        exact condF (decide_eq_false (by rw [bsize]; omega)) ⟨rfl, rfl, rfl, rfl, rfl⟩
    · obtain ⟨rfl, rfl, rfl⟩ := h
      exact hK
  · refine loopL_ok fun K hK => ?_
    obtain ⟨hK1, hK2⟩ := hK
    have hw0 : IntKind.wrap .i64 (lastS s + 1) = (((lastS s + 1).toNat : Nat) : Int) := by
      have e : lastS s + 1 = (((lastS s + 1).toNat : Nat) : Int) := by omega
      rw [e, w64s _ (by omega)]; simp
    let Post : Exit → List TV → VT → Prop := fun e vs T => (e = .normal ∧ ¬ numR (tailS s) 0 = none ∧ vs = rtV2 s (lastS s) a (numV s) s.length ok ∧ T = rtT) ∨ (e = .ret ∧ numR (tailS s) 0 = none ∧ ∃ k i, vs = rtV2 s (lastS s) a k i ok ∧ T = rtT)
    show VWx Tryd.prog G none 0 (codeAt Tryd.prog rpF 2) (slotsN 91 rtK2 (rtV2 s (lastS s) a 0 (IntKind.wrap .i64 (lastS s + 1)) ok)) rtT [] K
    rw [hw0]
    refine loopK (f := rpF) (id := 2) (by kernel_rfl) 91 rtK2 (fun q : Nat × Int => s.length - q.1) (fun q => rtV2 s (lastS s) a q.2 q.1 ok) (fun _ => rtT) (fun q => q.1 ≤ s.length ∧ numR (s.drop q.1) q.2 = numR (tailS s) 0) 1 0 (fun _ _ => ⟨Nat.le_refl _, Nat.le_refl _⟩)
      Post (fun q hq => ?_) ((lastS s + 1).toNat, 0) ⟨by simp only; omega, rfl⟩ K (fun e vs T h => ?_)
    · obtain ⟨j, n⟩ := q
      obtain ⟨hj, hr⟩ := hq
      simp only at hj hr
      by_cases hlt : j < s.length
      · have hd : s[j]? = some s[j] := List.getElem?_eq_getElem hlt
        have hw := wrapS j (by omega)
        rw [List.drop_eq_getElem_cons hlt, numR] at hr
        generalize s[j] = ch at hd hr
        have ox : ∀ {x i : Operand} {l : List (Nat × TV)}, evOf G l x = bsT s → evOf G l i = .val (.int .i64 (j : Int)) → OPure Tryd.prog G (.index 9 x i) l (.val (.int .u8 (ch.toNat : Int))) := fun hx hi => opure_sindex hx hi hd
        have ret : numR (tailS s) 0 = none → Post .ret (rtV2 s (lastS s) a n j ok) rtT := fun h => .inr ⟨rfl, h, n, j, rfl, rfl⟩
        refine vx_is mixedT_Tryd bodiesT_Tryd specsOk_none lsOk_none (ev_rp2 G s (ch.toNat : Int) (lastS s) a n ok j _) ?_
        refine condT (decide_eq_true (by rw [bsize]; omega)) ⟨ox rfl rfl, cond_of (fun h => ?_) fun h => ⟨ox rfl rfl, cond_of (fun h' => ?_) fun h' => ⟨ox rfl rfl, ?_⟩⟩⟩
        · have h := of_decide_eq_true h
          rw [if_pos (.inl (by omega))] at hr
          exact ⟨rfl, rfl, ret hr.symm⟩
        · have h' := of_decide_eq_true h'
          rw [if_pos (.inr (by omega))] at hr
          exact ⟨rfl, rfl, ret hr.symm⟩
        · have h := of_decide_eq_false h
          have h' := of_decide_eq_false h'
          rw [if_neg (by omega)] at hr
          refine ⟨rfl, rfl, (j + 1, _), ⟨hlt, hr⟩, by simp only; omega, .inl ⟨rfl, ?_⟩⟩
          rw [hw]; rfl
      · obtain rfl : j = s.length := by omega
        rw [List.drop_length, numR] at hr
        have e : n = numV s := by unfold numV; rw [← hr]; rfl
        subst e
        refine vx_is mixedT_Tryd bodiesT_Tryd specsOk_none lsOk_none (ev_rp2 G s 0 (lastS s) a (numV s) ok s.length _) ?_
        exact condF (decide_eq_false (by rw [bsize]; omega)) ⟨rfl, rfl, .inl ⟨rfl, (fun h => by rw [← hr] at h; cases h), rfl, rfl⟩⟩
    · rcases h with ⟨rfl, h, rfl, rfl⟩ | ⟨rfl, h, k, i, rfl, rfl⟩
      · exact hK1 h
      · exact hK2 h k i
structure PR2 (a n : Int) : Prop where
  a : InR a 4294967296
  n : -9223372036854775808 ≤ n ∧ n ≤ 9223372036854775807
theorem rp_vcx (m : Int) (s : List UInt8) (hs : s.length ≤ 1000) : VCx Tryd.prog (ptG m) 0 rpF [bsT s] ⟨[], []⟩ fun x T' => x = pxTup (pfxOf s) ∧ T' = ⟨[], []⟩ := by
  obtain ⟨t0, t1⟩ := lastS_in s
  have hx : (s.take (lastS s).toNat).length ≤ 1000 := by simp only [List.length_take]; omega
  have hC : SpecsOk Tryd.prog (ptG m) (rpC (s.take (lastS s).toNat) (adrOf (s.take (lastS s).toNat)).1 (adrOf (s.take (lastS s).toNat)).2 gdB pxT PR2) := specs_ok fun p hp => by
    simp only [List.mem_cons, List.not_mem_nil, or_false] at hp
    rcases hp with rfl | rfl | rfl
    · exact pureAt_ok (ptG_vals m) rfl (fun _ _ => rfl) (rq_vcx m _ hx)
    · exact good_ok m (fun _ _ h => h.a) fun a ha n w h => rgood a ha n h.n w
    · exact text_ok m (fun _ _ h => h.a) fun a ha n => rt_vcx m a ha n
  have hL := rp_loops (ptG m) s hs (adrOf (s.take (lastS s).toNat)).1 (adrOf (s.take (lastS s).toNat)).2
  have q : ∀ T : VT, (TV.ren (Go.Proofs.YtkjpbadlbpfpaaaDoor.keep 0) (Go.Proofs.YtkjpbadlbpfpaaaDoor.keep 0) (.tup [.agg [.val (.int .u32 0), .val (.int .i64 0)], .val (.bool false)]) = pxTup ((0, 0), false)) ∧ T.keep 0 0 = ⟨[], []⟩ := fun T => ⟨rfl, rfl⟩
  refine VCx.keepQ 0 0 (Nat.le_refl _) (Nat.le_refl _) (vcallF_is mixedT_Tryd bodiesT_Tryd hC hL (ev_rp (ptG m) s _ (lastS s) _ (numV s) _ (numR (tailS s) 0 = none) gdB pxT PR2 _) ⟨rfl, ⟨rfl, rfl, rfl, trivial, rfl, rfl, rfl⟩, ?_⟩)
  have hP : PR2 (adrOf (s.take (lastS s).toNat)).1 (numV s) := ⟨⟨adrOf_in _⟩, numV_in s⟩
  by_cases ex : ∃ q, PfxAt s q
  · obtain ⟨⟨a, n⟩, ha, hg, hsx⟩ := ex
    simp only at ha hg hsx
    have hn := cl_le n
    have en := (good_eq hg).2
    obtain ⟨r1, r2, r3⟩ := numR_d3 (cl n) hn
    have hf := hsx
    rw [pfxT_good hg] at hf
    have ht : lastS s = ((addrT a).length : Int) := by rw [← hf]; exact lastAt_pfx ha _ (by omega)
    have hlen : s.length = (addrT a).length + 1 + (d3 (cl n)).length := by rw [← hf]; simp; omega
    have htake : s.take (lastS s).toNat = addrT a := by rw [ht, Int.toNat_natCast, ← hf]; exact List.take_left
    have htail : tailS s = d3 (cl n) := by
      have e : (lastS s + 1).toNat = (addrT a).length + 1 := by omega
      unfold tailS
      rw [e, ← hf, ← List.drop_drop, List.drop_left]; rfl
    have hnum : numV s = n := by unfold numV; rw [htail, r1]; simp only [Option.getD_some]; exact en.symm
    have hwl : IntKind.wrap .i64 (((ByteArray.mk s.toArray).size : Int) - lastS s) = (((d3 (cl n)).length + 1 : Nat) : Int) := by
      have e : (((ByteArray.mk s.toArray).size : Int) - lastS s) = (((d3 (cl n)).length + 1 : Nat) : Int) := by rw [bsize]; omega
      rw [e, w64s _ (by omega)]
    rw [hwl]
    refine condF (decide_eq_false (by omega)) (condF (decide_eq_false (by omega)) (condF (decide_eq_false (by omega)) ⟨opure_sslice0 Tryd.underlying9 rfl rfl (by omega) (by omega), rfl, rfl, ⟨rfl, rfl, rfl, trivial, rfl, rfl, rfl⟩, fun _ => ?_, fun hD => ?_⟩))
    · have hok : (adrOf (s.take (lastS s).toNat)).2 = true := by rw [htake, adrOf_text ha]
      have hadr : (adrOf (s.take (lastS s).toNat)).1 = (a : Int) := by rw [htake, adrOf_text ha]
      rw [hok, hadr, hnum]
      rw [hadr, hnum] at hP
      have hpf : pfxOf s = (((a : Int), n), true) := by rw [← hsx]; exact pfxOf_text ha hg
      rw [hpf]
      refine condF rfl ⟨hP, condF ?_ ⟨hP, condF (neqS_of ?_) ⟨rfl, rfl⟩⟩⟩
      · simp only [gdB, Int.toNat_natCast, hg, Bool.not_true]
      · simp only [pxT, Int.toNat_natCast, hsx]
    · rw [htail, r1] at hD
      cases hD
  · rw [pfxOf_none ex]
    have o := fun h => opure_sslice0 (P := Tryd.prog) (t := 9) Tryd.underlying9 (G := ptG m) (x := .tmp 40) (hi := .tmp 41) (l := [(40, bsT s), (41, .val (.int .i64 (lastS s)))]) (s := s) (z := lastS s) rfl rfl h (by omega)
    generalize (adrOf (s.take (lastS s).toNat)).1 = pa at *
    generalize (adrOf (s.take (lastS s).toNat)).2 = pb at *
    generalize numV s = pn at *
    generalize (numR (tailS s) 0 = none) = D1
    generalize s.take (lastS s).toNat = sx at *
    have hX : ¬ (gdB pa pn = true ∧ pxT pa pn = s) := fun ⟨hg, hq⟩ => by
      obtain ⟨g0, g1⟩ := hP.a
      have hl : pa.toNat < 4294967296 := by omega
      exact ex ⟨(pa.toNat, pn), hl, hg, hq⟩
    refine cond_of (fun _ => q _) fun h0 => cond_of (fun _ => q _) fun _ => cond_of (fun _ => q _) fun _ => ⟨o (by have := of_decide_eq_false h0; omega), rfl, rfl, ⟨rfl, rfl, rfl, trivial, rfl, rfl, rfl⟩, fun _ => cond_of (fun _ => q _) fun _ => ⟨hP, cond_of (fun _ => q _) fun hg => ⟨hP, cond_of (fun _ => q _) fun he => ?_⟩⟩, fun _ _ _ => q _⟩
    by_cases hq : pxT pa pn = s
    · exact absurd ⟨by simpa using hg, hq⟩ hX
    · rw [neqS_ne hq] at he; cases he
end Go.Proofs.YtkjpbadlbpfpaaaDoor
