/- Rows of prefixes: the bytes of all. -/
import Derived.Test.YtjkagifpnieehaaMrPRAll
namespace Go.Proofs.Ytjkagifpnieehaa
open Go.RowKit

theorem u8Inf_ex : ∃ inf : TypeInfo, Try.prog.info? 5 = some inf ∧ inf.size = 1 ∧ inf.bytes + 1 ≤ 1000 ∧ inf.zero = some (.int .u8 0) :=
  ⟨(Try.prog.info? 5).getD default, by kernel_rfl, by kernel_rfl, Nat.le_of_ble_eq_true (by kernel_rfl), by kernel_rfl⟩
theorem oturn_u8 {T T1 : VT} {s x : Operand} {l : List (Nat × TV)} {es es2 : List (List TV)} {k n : Nat} {bn : Bool} (hs : vadopt T 1 (evOf (fun _ => none) l s) = some (es, k, n, bn, T1)) (hx : srcOf 1 (evOf (fun _ => none) l x) = some es2) (hb : es.length + es2.length ≤ 100000) :
    OTurn Try.prog (fun _ => none) 0 T (.call ⟨.builtin .append, #[s, x], #[26, 26]⟩) l (.vec 1 (es ++ es2) (.tail k (n + es2.length))) { T1 with tails := T1.tails.set k (n + es2.length, 1, bn) } := by
  obtain ⟨inf, i_at, i_size, i_bytes, i_zero⟩ := u8Inf_ex
  have h := oturn_app (inf := inf) (P := Try.prog) (G := fun _ => none) (ro := 0) (T := T) (T1 := T1) (t := 26) (tx := 26) (s := s) (x := x) (l := l) (es := es) (es2 := es2) (k := k) (n := n) (bn := bn) Try.underlying26 i_at i_zero (by rw [i_size]; rfl) (by rw [i_size]; decide) (by kernel_rfl) (by rw [i_size]; exact hs) (by rw [i_size]; exact hx)
    (by have h1 := i_bytes
        have h2 := Nat.mul_le_mul hb h1
        omega)
  rw [i_size] at h
  exact h
theorem u8_app (objs : List VO) (B bs : List (List TV)) (h : B.length ≤ 10000) (h2 : bs.length ≤ 10000) : OTurn Try.prog (fun _ => none) 0 ⟨objs, [(B.length, 1, true)]⟩ (.call ⟨.builtin .append, #[.tmp 12, .tmp 14], #[26, 26]⟩) [(12, .vec 1 B (.tail 0 B.length)), (14, .vec 1 bs .none)] (.vec 1 (B ++ bs) (.tail 0 (B.length + bs.length))) ⟨objs, [(B.length + bs.length, 1, true)]⟩ :=
  oturn_u8 (T := ⟨objs, [(B.length, 1, true)]⟩) (T1 := ⟨objs, [(B.length, 1, true)]⟩) (es := B) (es2 := bs) (k := 0) (n := B.length) (bn := true) (by simp [evOf, evFind, vadopt]) (by rfl) (by omega)
def allB (l : List Px) : List Nat := l.flatMap fun p => pbytes p.1.toNat p.2
theorem pbytes_len (a : Nat) (n : Int) : (pbytes a n).length ≤ 5 := by simp [pbytes, putB]; omega
theorem allB_len : ∀ l : List Px, (allB l).length ≤ 5 * l.length
  | [] => Nat.le_refl _
  | p :: l => by
    have h1 := allB_len l
    have h2 := pbytes_len p.1.toNat p.2
    simp only [allB, List.flatMap_cons, List.length_append, List.length_cons] at *
    omega
theorem allB_take {l : List Px} {j : Nat} {p : Px} (h : l[j]? = some p) : allB (l.take (j + 1)) = allB (l.take j) ++ pbytes p.1.toNat p.2 := by
  rw [List.take_add_one, h]
  simp [allB]
theorem bE_app (a b : List Nat) : bE (a ++ b) = bE a ++ bE b := by simp [bE]
theorem alC_ok (f : FuncId) (R : Prop) (a n : Int) (bs : List (List TV)) (hb : ∀ f h, renLL f h bs = bs) (h : R → VCx Try.prog noGl 0 f [.agg (pxc a n)] ⟨[], []⟩ fun x T' => x = .vec 1 bs .none ∧ T' = ⟨[], []⟩) : SpecsOk Try.prog noGl (alC f R a n bs) := specs_ok fun q hq => by
  obtain rfl := List.mem_singleton.1 hq
  exact pureIf_ok gvals_noGl rfl (fun f h => by simp only [TV.ren, hb, Tok.ren]) h
theorem all_vcx (f : FuncId) (bf : FuncId) (hblk : isLoopBlock 0 (codeAt Try.prog f 0) = true) (hbf : ∀ p, pxIn p → VCx Try.prog noGl 0 bf [.agg (pxc p.1 p.2)] ⟨[], []⟩ fun x T' => x = .vec 1 (bE (pbytes p.1.toNat p.2)) .none ∧ T' = ⟨[], []⟩)
    (hev : ∀ (B L : List (List TV)) (Q : TV → VT → Prop), vcallF Try.prog noGl noSp noOra 300 (alL B L (codeAt Try.prog f 0)) 0 f [.vec 2 L .none] ⟨[], []⟩ Q =
      ((codeAt Try.prog f 0 = codeAt Try.prog f 0) ∧ (((@Eq (Option Nat) .none .none) ∧ ((@Eq (Nat) 0 0) ∧ ((@Eq (List Nat) [] []) ∧ (((@Eq (Option TV) (.some (.val (.slice .none 0 0))) (.some (.val (.slice .none 0 0)))) ∧ True) ∧ ((@Eq (VT) ⟨[], [(0, (1, true))]⟩ ⟨[], [(0, (1, true))]⟩) ∧ ((@Eq (Bool) true true) ∧
        (@Eq (List TV) [(.val (.slice .none 0 0)), (.vec 1 [] (.tail 0 0)), (.vec 2 (L) .none), (.val (.int .i64 ((↑(List.length L) : Int)))), (.val (.int .i64 0))] [(.val (.slice .none 0 0)), (.vec 1 [] (.tail 0 0)), (.vec 2 (L) .none), (.val (.int .i64 ((↑(List.length L) : Int)))), (.val (.int .i64 0))]))))))) ∧
        Q (.vec 1 (B) (.tail 0 (List.length B))) ⟨[], [((List.length B), (1, true))]⟩)))
    (hevA : ∀ (R : Prop) (B L bs : List (List TV)) (a n : Int) (j : Nat) (Q : Exit → List TV → VT → List Nat → Nat → Prop), vx Try.prog noGl (alC bf R a n bs) (alO a n B bs) 300 noLp none 0 (loopAt Try.prog f 0) (slotsN 18 alK (alV B L j)) ⟨[], [(B.length, 1, true)]⟩ [] (pickS alK Q) =
      (bif decide ((↑j : Int) < (↑(List.length L) : Int))
       then (OPure Try.prog (fun _ => .none) (.indexAddr 22 (.tmp 6) (.tmp 8)) [(6, (.vec 2 (L) .none)), (8, (.val (.int .i64 ((↑j : Int)))))] (.elt [(.val (.int .u32 (a))), (.val (.int .i64 (n)))]) ∧
       (R ∧ ((@Eq (List TV) [(.agg [(.val (.int .u32 (a))), (.val (.int .i64 (n)))])] [(.agg [(.val (.int .u32 (a))), (.val (.int .i64 (n)))])]) ∧
       (OTurn Try.prog (fun _ => .none) 0 ⟨[(.cells [(.val (.int .u32 (a))), (.val (.int .i64 (n)))])], [((List.length B), (1, true))]⟩ (.call ⟨(.builtin .append), #[(.tmp 12), (.tmp 14)], #[26, 26]⟩) [(12, (.vec 1 (B) (.tail 0 (List.length B)))), (14, (.vec 1 (bs) .none))] (.vec 1 (B ++ bs) (.tail 0 (List.length B + List.length bs))) ⟨[(.cells [(.val (.int .u32 (a))), (.val (.int .i64 (n)))])], [((List.length B + List.length bs), (1, true))]⟩ ∧
       Q .normal [(.val (.slice .none 0 0)), (.vec 1 (B ++ bs) (.tail 0 (List.length B + List.length bs))), (.vec 2 (L) .none), (.val (.int .i64 ((↑(List.length L) : Int)))), (.val (.int .i64 (IntKind.wrap IntKind.i64 ((↑j : Int) + (1 : Int)))))] ⟨[(.cells [(.val (.int .u32 (a))), (.val (.int .i64 (n)))])], [((List.length B + List.length bs), (1, true))]⟩ [] 18))))
       else Q (.exit 0) [(.val (.slice .none 0 0)), (.vec 1 (B) (.tail 0 (List.length B))), (.vec 2 (L) .none), (.val (.int .i64 ((↑(List.length L) : Int)))), (.val (.int .i64 ((↑j : Int))))] ⟨[], [((List.length B), (1, true))]⟩ [] 18))
    (l : List Px) (hl : l.length ≤ 200) (hin : ∀ p ∈ l, pxIn p) : VCx Try.prog noGl 0 f [.vec 2 (l.map pxE) .none] ⟨[], []⟩ fun x T' => x = .vec 1 (bE (allB l)) .none ∧ T' = ⟨[], []⟩ := by
  have hL : LsOk Try.prog noGl (alL (bE (allB l)) (l.map pxE) (codeAt Try.prog f 0)) := specsL_ok fun p hp => by
    obtain rfl := List.mem_singleton.1 hp
    refine loopL_ok fun K hK => ?_
    let sl : Nat → List TV := fun j => alV (bE (allB (l.take j))) (l.map pxE) j
    let TT : Nat → VT := fun j => ⟨[], [((bE (allB (l.take j))).length, 1, true)]⟩
    let Post : Exit → List TV → VT → Prop := fun e vs T => e = .normal ∧ vs = sl l.length ∧ T = TT l.length
    refine loopK (f := f) (id := 0) hblk 18 alK (fun j => l.length - j) sl TT (fun j => j ≤ l.length) 0 1 (fun _ _ => ⟨Nat.le_refl _, Nat.le_refl _⟩)
      Post (fun j hj => ?_) 0 (Nat.zero_le _) K (fun e vs T ⟨h1, h2, h3⟩ => ?_)
    · have hlen := allB_len (l.take j)
      rw [List.length_take] at hlen
      by_cases hlt : j < l.length
      · have hb := List.getElem?_eq_getElem hlt
        have hp := hin _ (List.getElem_mem hlt)
        generalize l[j] = p at hb hp
        have hstep := allB_take hb
        have hw := wrapN j (by omega)
        have h5 := pbytes_len p.1.toNat p.2
        refine vx_is mixedR_Try bodiesR_Try (alC_ok bf True p.1 p.2 (bE (pbytes p.1.toNat p.2)) (fun f h => ren_bE f h _) fun _ => hbf p hp) lsOk_none (hevA True (bE (allB (l.take j))) (l.map pxE) (bE (pbytes p.1.toNat p.2)) p.1 p.2 j _) ?_
        refine condT (by simpa using hlt) ⟨opure_px rfl rfl (Int.natCast_nonneg _) (by simpa using hb), trivial, rfl, u8_app _ _ _ (by rw [bE_len]; omega) (by rw [bE_len]; omega), rfl, rfl, j + 1, hlt, by simp only; omega, .inr ⟨?_, ?_⟩⟩
        · simp only [TT, VT.keep, hstep, bE_app, List.length_append, List.take_zero, List.take_succ_cons, List.map_nil]
        · simp only [sl, alV, renL, TV.ren, ren_pxE, Tok.ren, hw, hstep, bE_app, List.length_append]
          rw [← bE_app, ren_bE]
          rfl
      · obtain rfl : j = l.length := by omega
        refine vx_is mixedR_Try bodiesR_Try (alC_ok bf False 0 0 [] (fun f h => rfl) fun h => h.elim) lsOk_none (hevA False (bE (allB (l.take l.length))) (l.map pxE) [] 0 0 l.length _) ?_
        exact condF (by simp) ⟨rfl, rfl, rfl, rfl, rfl⟩
    · subst h1 h2 h3
      simpa [sl, TT] using hK
  refine VCx.keepQ 0 0 (Nat.le_refl _) (Nat.le_refl _) (vcallF_is mixedR_Try bodiesR_Try specsOk_none hL (hev (bE (allB l)) (l.map pxE) _) ?_)
  exact ⟨rfl, ⟨rfl, rfl, rfl, ⟨rfl, trivial⟩, rfl, rfl, rfl⟩, by simp only [TV.ren, ren_bE, Tok.ren, Go.Proofs.Ytjkagifpnieehaa.keep]; rfl, rfl⟩
theorem pa_vcx (l : List Px) (hl : l.length ≤ 200) (hin : ∀ p ∈ l, pxIn p) : VCx Try.prog noGl 0 paF [.vec 2 (l.map pxE) .none] ⟨[], []⟩ fun x T' => x = .vec 1 (bE (allB l)) .none ∧ T' = ⟨[], []⟩ :=
  all_vcx paF pbF (by kernel_rfl) pb_vcx ev_pa ev_paA l hl hin
theorem ra_vcx (l : List Px) (hl : l.length ≤ 200) (hin : ∀ p ∈ l, pxIn p) : VCx Try.prog noGl 0 raF [.vec 2 (l.map pxE) .none] ⟨[], []⟩ fun x T' => x = .vec 1 (bE (allB l)) .none ∧ T' = ⟨[], []⟩ :=
  all_vcx raF rbF (by kernel_rfl) rb_vcx ev_ra ev_raA l hl hin
end Go.Proofs.Ytjkagifpnieehaa
