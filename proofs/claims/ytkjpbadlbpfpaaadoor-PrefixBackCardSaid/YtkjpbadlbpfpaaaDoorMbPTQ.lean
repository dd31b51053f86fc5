/- Texts of prefixes: the program's addresses, and prefixes. -/
import Derived.Test.YtkjpbadlbpfpaaaDoorMbPTP2
namespace Go.Proofs.YtkjpbadlbpfpaaaDoor
open Go.RowKit

theorem ren_bs (f h : Nat → Option Nat) : ∀ l : List (List UInt8), renLL f h (l.map fun y => [bsT y]) = l.map fun y => [bsT y]
  | [] => rfl
  | a :: l => by
    simp only [List.map_cons, renLL]
    rw [ren_bs f h l]; rfl
theorem strW_num (m : Int) : ∀ ro ys T K, strW (fun s => .tup [.val (.int .i64 (numZ s).1), .val (.bool (numZ s).2)]) ro ys T K → VCx Tryd.prog (ptG m) ro nuF ys T K := by
  intro ro ys T K hk
  unfold strW at hk
  split at hk
  · rename_i s
    exact VCx.liftPure (ptG_vals m) (nu_vcx m s) rfl (fun _ _ => rfl) hk
  · exact hk.elim
theorem four : ∀ l : List (List UInt8), l.length = 4 → ∃ a b c d, l = [a, b, c, d] := fun l h => by
  match l, h with
  | [a, b, c, d], _ => exact ⟨a, b, c, d, rfl⟩
theorem qa_vcx (m : Int) (s : List UInt8) (hs : s.length ≤ 1000) : VCx Tryd.prog (ptG m) 0 qaF [bsT s] ⟨[], []⟩ fun x T' => x = .tup [.val (.int .u32 (adrOf s).1), .val (.bool (adrOf s).2)] ∧ T' = ⟨[], []⟩ := by
  have hC : SpecsOk Tryd.prog (ptG m) (qaC s ((parts s 46).map fun y => [bsT y]) numZ addrT) := specs_ok fun p hp => by
    simp only [List.mem_cons, List.not_mem_nil, or_false] at hp
    rcases hp with rfl | rfl | rfl
    · exact pureAt_ok (ptG_vals m) rfl (fun f h => by simp only [TV.ren, Tok.ren, ren_bs]) (sp_vcx m s hs 46)
    · exact strW_num m
    · exact adW_ok m (pa_vcx m)
  by_cases h4 : (parts s 46).length = 4
  · obtain ⟨w0, w1, w2, w3, hp⟩ := four _ h4
    have hC' : SpecsOk Tryd.prog (ptG m) (qaC s [[bsT w0], [bsT w1], [bsT w2], [bsT w3]] numZ addrT) := by rw [hp] at hC; exact hC
    refine vcallF_is mixedT_Tryd bodiesT_Tryd hC' lsOk_none (ev_qa4 (ptG m) s w0 w1 w2 w3 numZ addrT _) ⟨rfl, ?_⟩
    by_cases ex : ∃ a : Nat, a < 4294967296 ∧ addrT a = s
    · obtain ⟨a, ha, rfl⟩ := ex
      rw [parts_addr a ha] at hp
      simp only [List.cons.injEq, and_true] at hp
      obtain ⟨rfl, rfl, rfl, rfl⟩ := hp
      rw [adrOf_text ha, num_d3 (a / 2 ^ 24) (by omega), num_d3 (a / 2 ^ 16 % 256) (by omega), num_d3 (a / 2 ^ 8 % 256) (by omega), num_d3 (a % 256) (by omega)]
      have e := orS_addr a ha
      have d : ∀ n : Nat, n < 256 → decide ((n : Int) > 255) = false := fun n hn => decide_eq_false (by omega)
      refine condF rfl (condF (d _ (by omega)) (condF rfl (condF (d _ (by omega)) (condF rfl (condF (d _ (by omega)) (condF rfl (condF (d _ (by omega)) ?_)))))))
      show InR (orS (orS (orS (orS 0 ((a / 2 ^ 24 : Nat) : Int)) ((a / 2 ^ 16 % 256 : Nat) : Int)) ((a / 2 ^ 8 % 256 : Nat) : Int)) ((a % 256 : Nat) : Int)) 4294967296 ∧ _
      refine ⟨by rw [e]; exact ⟨by omega, by omega⟩, condF (neqS_of ?_) ⟨?_, rfl⟩⟩
      · show addrT (orS (orS (orS (orS 0 ((a / 2 ^ 24 : Nat) : Int)) ((a / 2 ^ 16 % 256 : Nat) : Int)) ((a / 2 ^ 8 % 256 : Nat) : Int)) ((a % 256 : Nat) : Int)).toNat = addrT a
        rw [e, Int.toNat_natCast]
      · show TV.tup [.val (.int .u32 (orS (orS (orS (orS 0 ((a / 2 ^ 24 : Nat) : Int)) ((a / 2 ^ 16 % 256 : Nat) : Int)) ((a / 2 ^ 8 % 256 : Nat) : Int)) ((a % 256 : Nat) : Int))), .val (.bool true)] = .tup [.val (.int .u32 (a : Int)), .val (.bool true)]
        rw [e]
    · rw [adrOf_none fun a ha e => ex ⟨a, ha, e⟩]
      refine cond_of (fun _ => ⟨rfl, rfl⟩) fun _ => cond_of (fun _ => ⟨rfl, rfl⟩) fun _ => cond_of (fun _ => ⟨rfl, rfl⟩) fun _ => cond_of (fun _ => ⟨rfl, rfl⟩) fun _ => cond_of (fun _ => ⟨rfl, rfl⟩) fun _ => cond_of (fun _ => ⟨rfl, rfl⟩) fun _ => cond_of (fun _ => ⟨rfl, rfl⟩) fun _ => cond_of (fun _ => ⟨rfl, rfl⟩) fun _ => ⟨orS_in _ _, cond_of (fun _ => ⟨rfl, rfl⟩) fun he => ?_⟩
      obtain ⟨g0, g1⟩ := orS_in (orS (orS (orS 0 (numZ w0).1) (numZ w1).1) (numZ w2).1) (numZ w3).1
      by_cases hq : addrT (orS (orS (orS (orS 0 (numZ w0).1) (numZ w1).1) (numZ w2).1) (numZ w3).1).toNat = s
      · exact absurd ⟨_, by omega, hq⟩ ex
      · rw [neqS_ne hq] at he; cases he
  · rw [adrOf_none fun a ha e => h4 (by rw [← e, parts_addr a ha]; rfl)]
    refine vcallF_is mixedT_Tryd bodiesT_Tryd hC lsOk_none (ev_qa0 (ptG m) s _ numZ addrT _) ⟨rfl, condT ?_ ⟨rfl, rfl⟩⟩
    have : ¬ (((parts s 46).length : Int) = 4) := by omega
    simp [eqRes, keyEq, cellEq, this]
def qtC2 (s x y : List UInt8) (ok : Bool) (N : List UInt8 → Int × Bool) (pa : Int) (pb : Bool) (G : Int → Int → Bool) (X : Int → Int → List UInt8) (R : Int → Int → Prop) : FuncId → Option Spec := specs [(cuF, pureAt [bsT s, bsT [47]] (.tup [bsT x, bsT y, .val (.bool ok)])), (qaF, pureAt [bsT x] (.tup [.val (.int .u32 pa), .val (.bool pb)])), (nuF, strW fun s => .tup [.val (.int .i64 (N s).1), .val (.bool (N s).2)]), (goF, fun _ ys T K => match ys with
  | [.agg [.val (.int .u32 a), .val (.int .i64 n)]] => R a n ∧ K (.val (.bool (G a n))) T
  | _ => False), (ptF, fun _ ys T K => match ys with
  | [.agg [.val (.int .u32 a), .val (.int .i64 n)]] => R a n ∧ K (bsT (X a n)) T
  | _ => False)]
set_option maxRecDepth 100000 in
theorem ev_qt2 (G : Globs) (s x y : List UInt8) (ok : Bool) (N : List UInt8 → Int × Bool) (pa : Int) (pb : Bool) (GD : Int → Int → Bool) (X : Int → Int → List UInt8) (R : Int → Int → Prop) (Q : TV → VT → Prop) : vcallF Tryd.prog G (qtC2 s x y ok N pa pb GD X R) noOra 300 noLp 0 qtF [bsT s] ⟨[],[]⟩ Q =
 ((@Eq (List TV) [bsT s, bsT [47]] [bsT s, bsT [47]]) ∧ ((@Eq (List TV) [bsT x] [bsT x]) ∧
 (bif !ok
 then Q (.tup [(.agg [(.val (.int .u32 0)), (.val (.int .i64 0))]), (.val (.bool false))]) ⟨[(.cells [(.val (.int .u32 0)), (.val (.int .i64 0))]), (.cells [(.val (.int .u32 pa)), (.val (.int .i64 (N y).1))])], []⟩
 else (bif !pb
 then Q (.tup [(.agg [(.val (.int .u32 0)), (.val (.int .i64 0))]), (.val (.bool false))]) ⟨[(.cells [(.val (.int .u32 0)), (.val (.int .i64 0))]), (.cells [(.val (.int .u32 pa)), (.val (.int .i64 (N y).1))])], []⟩
 else (bif !(N y).2
 then Q (.tup [(.agg [(.val (.int .u32 0)), (.val (.int .i64 0))]), (.val (.bool false))]) ⟨[(.cells [(.val (.int .u32 0)), (.val (.int .i64 0))]), (.cells [(.val (.int .u32 pa)), (.val (.int .i64 (N y).1))])], []⟩
 else (R pa (N y).1 ∧
 (bif !GD pa (N y).1
 then Q (.tup [(.agg [(.val (.int .u32 0)), (.val (.int .i64 0))]), (.val (.bool false))]) ⟨[(.cells [(.val (.int .u32 0)), (.val (.int .i64 0))]), (.cells [(.val (.int .u32 pa)), (.val (.int .i64 (N y).1))])], []⟩
 else (R pa (N y).1 ∧
 (bif eqRes BinOp.neq (keyEq (Value.string { data := List.toArray (X pa (N y).1) }) (Value.string { data := List.toArray s }))
 then Q (.tup [(.agg [(.val (.int .u32 0)), (.val (.int .i64 0))]), (.val (.bool false))]) ⟨[(.cells [(.val (.int .u32 0)), (.val (.int .i64 0))]), (.cells [(.val (.int .u32 pa)), (.val (.int .i64 (N y).1))])], []⟩
 else Q (.tup [(.agg [(.val (.int .u32 pa)), (.val (.int .i64 (N y).1))]), (.val (.bool true))]) ⟨[(.cells [(.val (.int .u32 pa)), (.val (.int .i64 (N y).1))]), (.cells [(.val (.int .u32 pa)), (.val (.int .i64 (N y).1))])], []⟩))))))))) := by kernel_rfl
/-- a prefix whose address may be -/
def PR (a _ : Int) : Prop := InR a 4294967296
theorem pr_adr (s : List UInt8) (n : Int) : PR (adrOf s).1 n := ⟨adrOf_in s⟩
def gdB (a n : Int) : Bool := goodB a.toNat n
def pxT (a n : Int) : List UInt8 := pfxT a.toNat n
theorem good_ok (m : Int) {f : FuncId} {R : Int → Int → Prop} (hR : ∀ a n, R a n → InR a 4294967296) (h : ∀ (a : Nat), a < 4294967296 → ∀ n w, R a n → Calls Tryd.prog f #[.agg #[.int .u32 a, .int .i64 n]] w fun e w' => e = .returned (.bool (goodB a n)) ∧ Gr w w') : ∀ ro ys T K, (match ys with
  | [.agg [.val (.int .u32 a), .val (.int .i64 n)]] => R a n ∧ K (.val (.bool (gdB a n))) T
  | _ => False) → VCx Tryd.prog (ptG m) ro f ys T K := by
  intro ro ys T K hk
  split at hk
  · rename_i a n
    obtain ⟨hr, hk⟩ := hk
    obtain ⟨h0, h1⟩ := hR _ _ hr
    obtain ⟨a, rfl⟩ := Int.eq_ofNat_of_zero_le h0
    exact VCx.liftPure (ptG_vals m) (VCx.ofValG (us := [.agg #[.int .u32 a, .int .i64 n]]) (v := .bool (goodB a n)) rfl fun g w _ => h a (by omega) n w hr) rfl (fun _ _ => rfl) hk
  · exact hk.elim
theorem text_ok (m : Int) {f : FuncId} {R : Int → Int → Prop} (hR : ∀ a n, R a n → InR a 4294967296) (h : ∀ (a : Nat), a < 4294967296 → ∀ n, VCx Tryd.prog (ptG m) 0 f [.agg [.val (.int .u32 (a : Int)), .val (.int .i64 n)]] ⟨[], []⟩ fun x T' => x = bsT (pfxT a n) ∧ T' = ⟨[], []⟩) : ∀ ro ys T K, (match ys with
  | [.agg [.val (.int .u32 a), .val (.int .i64 n)]] => R a n ∧ K (bsT (pxT a n)) T
  | _ => False) → VCx Tryd.prog (ptG m) ro f ys T K := by
  intro ro ys T K hk
  split at hk
  · rename_i a n
    obtain ⟨hr, hk⟩ := hk
    obtain ⟨h0, h1⟩ := hR _ _ hr
    obtain ⟨a, rfl⟩ := Int.eq_ofNat_of_zero_le h0
    exact VCx.liftPure (ptG_vals m) (h a (by omega) n) rfl (fun _ _ => rfl) hk
  · exact hk.elim
def pxTup (q : (Int × Int) × Bool) : TV := .tup [.agg [.val (.int .u32 q.1.1), .val (.int .i64 q.1.2)], .val (.bool q.2)]
theorem qt_vcx (m : Int) (s : List UInt8) (hs : s.length ≤ 1000) : VCx Tryd.prog (ptG m) 0 qtF [bsT s] ⟨[], []⟩ fun x T' => x = pxTup (pfxOf s) ∧ T' = ⟨[], []⟩ := by
  have hx : (Lib.cut s [47]).1.length ≤ 1000 := by
    unfold Lib.cut
    split
    · simp only [List.length_take]; omega
    · exact hs
  have hC : SpecsOk Tryd.prog (ptG m) (qtC2 s (Lib.cut s [47]).1 (Lib.cut s [47]).2.1 (Lib.cut s [47]).2.2 numZ (adrOf (Lib.cut s [47]).1).1 (adrOf (Lib.cut s [47]).1).2 gdB pxT PR) := specs_ok fun p hp => by
    simp only [List.mem_cons, List.not_mem_nil, or_false] at hp
    rcases hp with rfl | rfl | rfl | rfl | rfl
    · exact pureAt_ok (ptG_vals m) rfl (fun _ _ => rfl) (cu_vcx m s hs 47)
    · exact pureAt_ok (ptG_vals m) rfl (fun _ _ => rfl) (qa_vcx m _ hx)
    · exact strW_num m
    · exact good_ok m (fun _ _ h => h) fun a ha n w _ => pgood a ha n w
    · exact text_ok m (fun _ _ h => h) fun a ha n => pt_vcx m a ha n
  refine VCx.keepQ 0 0 (Nat.le_refl _) (Nat.le_refl _) (vcallF_is mixedT_Tryd bodiesT_Tryd hC lsOk_none (ev_qt2 (ptG m) s _ _ _ numZ _ _ gdB pxT PR _) ⟨rfl, rfl, ?_⟩)
  by_cases ex : ∃ q, PfxAt s q
  · obtain ⟨⟨a, n⟩, ha, hg, rfl⟩ := ex
    simp only at ha hg
    have hn := cl_le n
    have e := (good_eq hg).2
    have hcut := cut_pfx ha (d3 (cl n))
    rw [← pfxT_good hg] at hcut
    simp only
    rw [pfxOf_text ha hg, hcut]
    simp only
    rw [adrOf_text ha, num_d3 (cl n) (by omega), ← e]
    refine condF rfl (condF rfl (condF rfl ⟨⟨by simp only; omega, by simp only; omega⟩, condF ?_ ⟨⟨by simp only; omega, by simp only; omega⟩, condF (neqS_of ?_) ⟨rfl, rfl⟩⟩⟩))
    · simp only [gdB, Int.toNat_natCast, hg, Bool.not_true]
    · simp only [pxT, Int.toNat_natCast]
  · rw [pfxOf_none ex]
    generalize (Lib.cut s [47]).1 = X
    generalize (Lib.cut s [47]).2.1 = Y
    generalize (Lib.cut s [47]).2.2 = B
    have hp : PR (adrOf X).1 (numZ Y).1 := ⟨adrOf_in X⟩
    obtain ⟨g0, g1⟩ := adrOf_in X
    generalize (adrOf X).1 = pa at *
    generalize (adrOf X).2 = pb at *
    generalize (numZ Y).1 = pn at *
    generalize (numZ Y).2 = pm at *
    have q : ∀ T : VT, (TV.ren (Go.Proofs.YtkjpbadlbpfpaaaDoor.keep 0) (Go.Proofs.YtkjpbadlbpfpaaaDoor.keep 0) (.tup [.agg [.val (.int .u32 0), .val (.int .i64 0)], .val (.bool false)]) = pxTup ((0, 0), false)) ∧ T.keep 0 0 = ⟨[], []⟩ := fun T => ⟨rfl, rfl⟩
    refine cond_of (fun _ => q _) fun _ => cond_of (fun _ => q _) fun _ => cond_of (fun _ => q _) fun _ => ⟨hp, cond_of (fun _ => q _) fun hg => ⟨hp, cond_of (fun _ => q _) fun he => ?_⟩⟩
    by_cases hq : pxT pa pn = s
    · exact absurd ⟨(pa.toNat, pn), by simp only; omega, by simpa [gdB] using hg, hq⟩ ex
    · rw [neqS_ne hq] at he; cases he
end Go.Proofs.YtkjpbadlbpfpaaaDoor
