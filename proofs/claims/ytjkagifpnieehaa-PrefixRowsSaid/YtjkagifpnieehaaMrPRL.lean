/- PrefixRows: the law returns true, whatever comes. -/
import Derived.Test.YtjkagifpnieehaaMrPRL0
namespace Go.Proofs.Ytjkagifpnieehaa
open Go.RowKit

theorem eqSs3 (s : ByteArray) : eqRes BinOp.eql (keyEq (.string s) (.string s)) = true := by
  have h := (fit_eq (c := .str) (x := .string s) (y := .string s) rfl rfl).2 rfl
  simp [eqRes, keyEq, h]
def mlLeast (k : Nat) : Int := if k = 1 then 29 else if k = 2 then 23 else if k = 3 then 21 else 19
def mlRest (k : Nat) : List TV := [.val (.int .i64 0), .val (.int .i64 29), .val (.int .i64 23), .val (.int .i64 21), .val (.int .i64 19)].drop (k + 1)
def mlC1 (n k : Nat) : Prop := n < 19 ∨ 4096 < n ∨ (1 ≤ k ∧ k ≤ 4 ∧ ((n : Int) < mlLeast k ∨ (k = 4 ∧ 19 < n)))
def mlC2 (n k : Nat) : Prop := ¬ mlC1 n k ∧ ¬ (1 ≤ k ∧ k ≤ 4)
def mlC3 (n k : Nat) : Prop := ¬ mlC1 n k ∧ (1 ≤ k ∧ k ≤ 4)
theorem cl_vcx (l : List Px) (hl : l.length ≤ 200) (h1 : l ≠ []) : VCx Try.prog noGl 0 clF [.vec 2 (l.map pxE) .none] ⟨[], []⟩ fun x T' => x = .row 2 0 0 l.length ∧ T' = ⟨[.row (l.map pxE).flatten], []⟩ := by
  obtain ⟨inf, i_at, i_size, i_bytes, i_zero⟩ := pxInf_ex
  cases l with
  | nil => exact absurd rfl h1
  | cons p l =>
    have hlen : (l.map pxE).length = l.length := List.length_map _
    refine vcallF_is mixedR_Try bodiesR_Try specsOk_none lsOk_none (ev_cl (pxE p) (l.map pxE) _) ⟨?_, ?_⟩
    · have h := oturn_appR (inf := inf) (P := Try.prog) (G := fun _ => none) (ro := 0) (T := ⟨[], []⟩) (tx := 22) (s := .tmp 5) (x := .tmp 6) (l := [(5, .vec 2 [] .full), (6, .vec 2 ([pxE p] ++ l.map pxE) .none)]) (q0 := pxE p) (qs := l.map pxE) (tok := .none) Try.underlying22 i_at i_zero (by rw [i_size]; rfl) rfl (by kernel_rfl) (by rw [i_size]; rfl) (by rw [i_size]; rfl)
        (by have h1 := i_bytes
            have h2 : (pxE p :: l.map pxE).length ≤ 200 := by simpa using hl
            have h3 := Nat.mul_le_mul h2 h1
            omega)
      rw [i_size] at h
      exact h
    · exact ⟨by simp, rfl⟩
theorem ptC_ok (l : List Px) (hl : l.length ≤ 200) (h1 : l ≠ []) : SpecsOk Try.prog noGl (ptC True (l.map pxE) l.length (l.map pxE).flatten ((sortP l).map pxE).flatten (D1P (sortP l))) := specs_ok fun q hq => by
  have hlp : 1 ≤ l.length := by
    cases l with
    | nil => exact absurd rfl h1
    | cons a l => simp
  simp only [List.mem_cons, List.not_mem_nil, or_false] at hq
  rcases hq with rfl | rfl | rfl
  · rintro ro ys T K ⟨⟨rfl, rfl, rfl⟩, _, hk⟩
    exact (cl_vcx l hl h1).mono fun x T' ⟨h2, h3⟩ => by subst h2 h3; exact hk
  · rintro ro ys T K ⟨⟨rfl, rfl, rfl⟩, _, hk⟩
    exact (psort_vcx l (by omega)).mono fun x T' ⟨h2, h3⟩ => by subst h2 h3; exact hk
  · rintro ro ys T K ⟨⟨rfl, rfl, rfl⟩, hk⟩
    have hs := sortP_len l
    have h := cp_vcx (sortP l) (by omega) (by omega)
    rw [hs] at h
    exact h.mono fun x T' ⟨k, cs, hd, h2, h3⟩ => by subst h2 h3; exact hk k cs hd
theorem pt_vcx (l : List Px) (hl : l.length ≤ 200) : VCx Try.prog noGl 0 ptF [.vec 2 (l.map pxE) .none] ⟨[], []⟩ fun x T' => x = .vec 2 ((compL (sortP l)).map pxE) .none ∧ T' = ⟨[], []⟩ := by
  refine VCx.toVec (fun f h => ren_pxE f h _) ?_
  by_cases h1 : l = []
  · subst h1
    have e : compL (sortP []) = [] := by simp [sortP, compL]
    rw [e]
    refine vcallF_is mixedR_Try bodiesR_Try specsOk_none lsOk_none (ev_pt0 _) ⟨.inl ⟨rfl, rfl⟩, .inr (.inl ⟨_, rfl⟩)⟩
  · refine vcallF_is mixedR_Try bodiesR_Try (ptC_ok l hl h1) lsOk_none (ev_pt True (l.map pxE) l.length (l.map pxE).flatten ((sortP l).map pxE).flatten (D1P (sortP l)) _) ?_
    refine ⟨⟨rfl, rfl, rfl⟩, trivial, ⟨rfl, rfl, rfl⟩, trivial, ⟨rfl, rfl, rfl⟩, fun k cs3 hd => .inr (.inr ?_)⟩
    obtain ⟨hk, hd⟩ := hd
    simp only [rowOf, row_take hk.symm hd, Option.map_some]
def zsOf (l : List Nat) : List Int := l.map fun z : Nat => (z : Int)
theorem bytesOf_bE : ∀ l : List Nat, bytesOf (bE l) = some (zsOf l)
  | [] => rfl
  | z :: l => by
    have h := bytesOf_bE l
    simp only [bE, List.map_cons] at h ⊢
    simp only [bytesOf, h]
    rfl
theorem conv_bE (l : List Nat) : OConv Try.prog ⟨[], []⟩ 26 9 (.vec 1 (bE l) .none) (.val (.string (bstrZ (zsOf l)))) := by
  refine .mk rfl ?_
  have hr : rowsR ⟨[], []⟩ 1 (.vec 1 (bE l) .none) = some (bE l) := by simp [rowsR]
  simp only [vconvS, Try.underlying26, Try.underlying9, Try.underlying5, hr, bytesOf_bE, Option.map_some]
set_option maxRecDepth 100000 in
theorem lives_pr : VCx Try.prog noGl 0 4 [] ⟨[], []⟩ isTrueV := vtrue_vcx mixedR_Try bodiesR_Try (f := 4) (X := True) (by kernel_rfl) trivial
theorem pr_law (l : List Px) (hin : ∀ p ∈ l, pxIn p) : VCx Try.prog noGl 0 prF [.vec 2 (l.map pxE) .none] ⟨[], []⟩ isTrueV := by
  have hr : renL (nameIn []) (nameIn []) [.vec 2 (l.map pxE) .none] = [.vec 2 (l.map pxE) .none] := by simp only [renL, TV.ren, ren_pxE, Tok.ren]
  have hC : SpecsOk Try.prog noGl (prC (l.length ≤ 200) (l.map pxE) ((refS [] l).map pxE) (bE (allB l))) := specs_ok fun q hq => by
    simp only [List.mem_cons, List.not_mem_nil, or_false] at hq
    rcases hq with rfl | rfl | rfl | rfl | rfl | rfl
    · exact pureIf_ok gvals_noGl hr (fun f h => by simp only [TV.ren, ren_pxE, Tok.ren]) fun h => by have := pt_vcx l h; rw [sort_law] at this; exact this
    · exact pureIf_ok gvals_noGl hr (fun f h => by simp only [TV.ren, ren_pxE, Tok.ren]) fun h => rs_vcx l h
    · exact pureIf_ok gvals_noGl (by simp only [renL, TV.ren, ren_pxE, Tok.ren]) (fun _ _ => rfl) fun h => same_vcx _ (by have := refS_len l []; simp at this; omega)
    · exact pureIf_ok gvals_noGl hr (fun f h => by simp only [TV.ren, ren_bE, Tok.ren]) fun h => pa_vcx l h hin
    · exact pureIf_ok gvals_noGl hr (fun f h => by simp only [TV.ren, ren_bE, Tok.ren]) fun h => ra_vcx l h hin
    · exact trueW_ok gvals_noGl lives_pr
  refine vcallF_is mixedR_Try bodiesR_Try hC lsOk_none (ev_prL (l.length ≤ 200) (l.map pxE) ((refS [] l).map pxE) (bE (allB l)) (zsOf (allB l))) ?_
  refine cond_of (fun _ => trivial) fun h => ?_
  have hl : l.length ≤ 200 := by
    have : ¬ ((l.length : Int) > 200) := by simpa using h
    omega
  exact ⟨hl, rfl, hl, rfl, hl, rfl, hl, rfl, conv_bE _, hl, rfl, ⟨rfl, trivial⟩, conv_bE _, condT (eqSs3 _) trivial⟩
theorem walk_pr (l : List Px) (hin : ∀ p ∈ l, pxIn p) (w : World) (v : Value) (hv : VR (topG w) w (.vec 2 (l.map pxE) .none) v) :
    Calls Try.prog prF #[v] w fun e w' => e = .returned (.bool true) ∧ Gr w w' :=
  VCx.top (us := [v]) (pr_law l hin) w (VRs.cons hv (VRs.nil _ _))
end Go.Proofs.Ytjkagifpnieehaa
