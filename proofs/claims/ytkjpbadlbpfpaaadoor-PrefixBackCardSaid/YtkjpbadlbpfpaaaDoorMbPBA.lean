/- PrefixBack: the bytes of all. -/
import Derived.Test.YtkjpbadlbpfpaaaDoorBytes
import Derived.Test.YtkjpbadlbpfpaaaDoorMbPTS
import Derived.Test.YtkjpbadlbpfpaaaDoorMb4
namespace Go.Proofs.YtkjpbadlbpfpaaaDoor
open Go.RowKit

abbrev Px := Int × Int
abbrev baF := 15
abbrev bbF := 18
def noGl : Globs := fun _ => none
def pxc (a n : Int) : List TV := [.val (.int .u32 a), .val (.int .i64 n)]
def pxZero : Value := .agg #[.int .u32 0, .int .i64 0]
def alK : List Nat := [2, 3, 6, 7, 8]
def alV (B L : List (List TV)) (j : Int) : List TV := [.val (.slice none 0 0), .vec 1 B (.tail 0 B.length), .vec 2 L .none, .val (.int .i64 L.length), .val (.int .i64 j)]
def alL (B L : List (List TV)) (c0 : Code) : Nat → Option (LSpec × Code) := specsL [(0, loopL 18 alK [(3, 1)] (alV [] L 0) ⟨[], [(0, 1, true)]⟩ fun K => K .normal (slotsN 18 alK (alV B L L.length)) ⟨[], [(B.length, 1, true)]⟩ [], c0)]
def alC (f : FuncId) (R : Prop) (a n : Int) (bs : List (List TV)) : FuncId → Option Spec := specs [(f, pureIf R [.agg (pxc a n)] (.vec 1 bs .none))]
def alO (a n : Int) (B bs : List (List TV)) : Ora := tellS [(999999, .dead, none), (10, .elt (pxc a n), none), (15, .vec 1 (B ++ bs) (.tail 0 (B.length + bs.length)), some fun T => { T with tails := [(B.length + bs.length, 1, true)] })]
set_option maxRecDepth 100000 in
theorem ev_ba (B L : List (List TV)) (Q : TV → VT → Prop) : vcallF Tryd.prog noGl noSp noOra 300 (alL B L (codeAt Tryd.prog baF 0)) 0 baF [.vec 2 L .none] ⟨[],[]⟩ Q =
 ((codeAt Tryd.prog baF (0 : Nat) = codeAt Tryd.prog baF (0 : Nat)) ∧
 (((@Eq (Option Nat) .none .none) ∧
 ((@Eq (Nat) 0 0) ∧
 ((@Eq (List Nat) [] []) ∧
 (((@Eq (Option TV) (.some (.val (.slice .none 0 0))) (.some (.val (.slice .none 0 0)))) ∧
 True ) ∧
 ((@Eq (VT) ⟨[], [(0, (1, true))]⟩ ⟨[], [(0, (1, true))]⟩) ∧
 ((@Eq (Bool) true true) ∧
 (@Eq (List TV) [(.val (.slice .none 0 0)), (.vec 1 [] (.tail 0 0)), (.vec 2 (L) .none), (.val (.int .i64 ((↑(List.length L) : Int)))), (.val (.int .i64 0))] [(.val (.slice .none 0 0)), (.vec 1 [] (.tail 0 0)), (.vec 2 (L) .none), (.val (.int .i64 ((↑(List.length L) : Int)))), (.val (.int .i64 0))]))))))) ∧
 Q (.vec 1 (B) (.tail 0 (List.length B))) ⟨[], [((List.length B), (1, true))]⟩)) := by kernel_rfl
set_option maxRecDepth 100000 in
theorem ev_baA (R : Prop) (B L bs : List (List TV)) (a n : Int) (j : Nat) (Q : Exit → List TV → VT → List Nat → Nat → Prop) : vx Tryd.prog noGl (alC bbF R a n bs) (alO a n B bs) 300 noLp none 0 (loopAt Tryd.prog baF 0) (slotsN 18 alK (alV B L j)) ⟨[], [(B.length, 1, true)]⟩ [] (pickS alK Q) =
 (bif decide ((↑j : Int) < (↑(List.length L) : Int))
 then (OPure Tryd.prog (fun _ => .none) (.indexAddr 33 (.tmp 6) (.tmp 8)) [(6, (.vec 2 (L) .none)), (8, (.val (.int .i64 ((↑j : Int)))))] (.elt [(.val (.int .u32 (a))), (.val (.int .i64 (n)))]) ∧
 (R  ∧
 ((@Eq (List TV) [(.agg [(.val (.int .u32 (a))), (.val (.int .i64 (n)))])] [(.agg [(.val (.int .u32 (a))), (.val (.int .i64 (n)))])]) ∧
 (OTurn Tryd.prog (fun _ => .none) 0 ⟨[(.cells [(.val (.int .u32 (a))), (.val (.int .i64 (n)))])], [((List.length B), (1, true))]⟩ (.call ⟨(.builtin .append), #[(.tmp 12), (.tmp 14)], #[36, 36]⟩) [(12, (.vec 1 (B) (.tail 0 (List.length B)))), (14, (.vec 1 (bs) .none))] (.vec 1 (B ++ bs) (.tail 0 (List.length B + List.length bs))) ⟨[(.cells [(.val (.int .u32 (a))), (.val (.int .i64 (n)))])], [((List.length B + List.length bs), (1, true))]⟩ ∧
 Q .normal [(.val (.slice .none 0 0)), (.vec 1 (B ++ bs) (.tail 0 (List.length B + List.length bs))), (.vec 2 (L) .none), (.val (.int .i64 ((↑(List.length L) : Int)))), (.val (.int .i64 (IntKind.wrap IntKind.i64 ((↑j : Int) + (1 : Int)))))] ⟨[(.cells [(.val (.int .u32 (a))), (.val (.int .i64 (n)))])], [((List.length B + List.length bs), (1, true))]⟩ [] 18))))
 else Q (.exit 0) [(.val (.slice .none 0 0)), (.vec 1 (B) (.tail 0 (List.length B))), (.vec 2 (L) .none), (.val (.int .i64 ((↑(List.length L) : Int)))), (.val (.int .i64 ((↑j : Int))))] ⟨[], [((List.length B), (1, true))]⟩ [] 18) := by kernel_rfl
def pxC (x : Px) : List Value := [.int .u32 x.1, .int .i64 x.2]
def pxE (x : Px) : List TV := [.val (.int .u32 x.1), .val (.int .i64 x.2)]
theorem pxC_len (x : Px) : (pxC x).length = 2 := rfl
theorem pxC_one (x : Px) : ∀ v ∈ pxC x, v.oneCell' = true := by
  intro v hv
  simp [pxC] at hv
  rcases hv with rfl | rfl <;> rfl
theorem pxE_flat (l : List Px) : (l.map pxE).flatten = (l.flatMap pxC).map .val := by
  induction l with
  | nil => rfl
  | cons a l ih => rw [List.map_cons, List.flatten_cons, ih, List.flatMap_cons, List.map_append]; rfl
theorem ren_pxE (f h : Nat → Option Nat) (l : List Px) : renLL f h (l.map pxE) = l.map pxE := by
  induction l with
  | nil => rfl
  | cons a l ih => simp only [List.map_cons, renLL, ih]; rfl
theorem gvals_noGl : GVals noGl := fun _ _ h => by cases h
theorem pxInf_ex : ∃ inf : TypeInfo, Tryd.prog.info? 24 = some inf ∧ inf.size = 2 ∧ inf.bytes + 1 ≤ 1000 ∧ inf.zero = some pxZero :=
  ⟨(Tryd.prog.info? 24).getD default, by kernel_rfl, by kernel_rfl, Nat.le_of_ble_eq_true (by kernel_rfl), by kernel_rfl⟩
set_option maxRecDepth 100000 in
theorem opure_px {x i : Operand} {l : List (Nat × TV)} {L : List Px} {tok : Tok} {k : IntKind} {z : Int} {p : Px} (hx : evOf (fun _ => none) l x = .vec 2 (L.map pxE) tok) (hz : evOf (fun _ => none) l i = .val (.int k z)) (h0 : 0 ≤ z) (he : L[z.toNat]? = some p) :
    OPure Tryd.prog (fun _ => none) (.indexAddr 33 x i) l (.elt (pxE p)) :=
  opure_index (inf := (Tryd.prog.info? 24).getD default) Tryd.underlying33 (by kernel_rfl) hx hz h0 (by rw [List.getElem?_map, he]; rfl)
def bE (l : List Nat) : List (List TV) := l.map fun z : Nat => [.val (.int .u8 (z : Int))]
theorem ren_bE (f h : Nat → Option Nat) (l : List Nat) : renLL f h (bE l) = bE l := by
  induction l with
  | nil => rfl
  | cons a l ih => simp only [bE, List.map_cons, renLL] at *; rw [ih]; rfl
theorem bE_len (l : List Nat) : (bE l).length = l.length := by simp [bE]
def pxIn (p : Px) : Prop := 0 ≤ p.1 ∧ p.1 < 4294967296
theorem bb_vcx (p : Px) (hp : pxIn p) : VCx Tryd.prog noGl 0 bbF [.agg (pxc p.1 p.2)] ⟨[], []⟩ fun x T' => x = .vec 1 (bE (pbytes p.1.toNat p.2)) .none ∧ T' = ⟨[], []⟩ := by
  obtain ⟨a, n⟩ := p
  obtain ⟨h0, h1⟩ := hp
  simp only at h0 h1 ⊢
  obtain ⟨a, rfl⟩ := Int.eq_ofNat_of_zero_le h0
  have hlen : (pbytes a n).length ≤ 5 := by simp [pbytes, putB]; omega
  have h := VCx.ofRetsT (P := Tryd.prog) (G := noGl) (f := bbF) (xs := [.agg (pxc a n)]) (us := [.agg #[.int .u32 a, .int .i64 n]]) rfl (vs := u8s (pbytes a n)) (ty := 5) (u8s_one _) (by simp [u8s, maxLen]; omega)
    (fun w => by have := pbytes_any a (by omega) n w; simpa [u8s] using this)
  have e : (u8s (pbytes a n)).map (fun v => [TV.val v]) = bE (pbytes a n) := by simp [u8s, bE, Function.comp_def]
  rw [e] at h
  exact h
theorem u8Inf_ex : ∃ inf : TypeInfo, Tryd.prog.info? 5 = some inf ∧ inf.size = 1 ∧ inf.bytes + 1 ≤ 1000 ∧ inf.zero = some (.int .u8 0) :=
  ⟨(Tryd.prog.info? 5).getD default, by kernel_rfl, by kernel_rfl, Nat.le_of_ble_eq_true (by kernel_rfl), by kernel_rfl⟩
theorem oturn_u8 {T T1 : VT} {s x : Operand} {l : List (Nat × TV)} {es es2 : List (List TV)} {k n : Nat} {bn : Bool} (hs : vadopt T 1 (evOf (fun _ => none) l s) = some (es, k, n, bn, T1)) (hx : srcOf 1 (evOf (fun _ => none) l x) = some es2) (hb : es.length + es2.length ≤ 100000) :
    OTurn Tryd.prog (fun _ => none) 0 T (.call ⟨.builtin .append, #[s, x], #[36, 36]⟩) l (.vec 1 (es ++ es2) (.tail k (n + es2.length))) { T1 with tails := T1.tails.set k (n + es2.length, 1, bn) } := by
  obtain ⟨inf, i_at, i_size, i_bytes, i_zero⟩ := u8Inf_ex
  have h := oturn_app (inf := inf) (P := Tryd.prog) (G := fun _ => none) (ro := 0) (T := T) (T1 := T1) (t := 36) (tx := 36) (s := s) (x := x) (l := l) (es := es) (es2 := es2) (k := k) (n := n) (bn := bn) Tryd.underlying36 i_at i_zero (by rw [i_size]; rfl) (by rw [i_size]; decide) (by kernel_rfl) (by rw [i_size]; exact hs) (by rw [i_size]; exact hx)
    (by have h1 := i_bytes
        have h2 := Nat.mul_le_mul hb h1
        omega)
  rw [i_size] at h
  exact h
theorem u8_app (objs : List VO) (B bs : List (List TV)) (h : B.length ≤ 10000) (h2 : bs.length ≤ 10000) : OTurn Tryd.prog (fun _ => none) 0 ⟨objs, [(B.length, 1, true)]⟩ (.call ⟨.builtin .append, #[.tmp 12, .tmp 14], #[36, 36]⟩) [(12, .vec 1 B (.tail 0 B.length)), (14, .vec 1 bs .none)] (.vec 1 (B ++ bs) (.tail 0 (B.length + bs.length))) ⟨objs, [(B.length + bs.length, 1, true)]⟩ :=
  oturn_u8 (T := ⟨objs, [(B.length, 1, true)]⟩) (T1 := ⟨objs, [(B.length, 1, true)]⟩) (es := B) (es2 := bs) (k := 0) (n := B.length) (bn := true) (by simp [evOf, evFind, vadopt]) (by rfl) (by omega)
def allB (l : List Px) : List Nat := l.flatMap fun p => pbytes p.1.toNat p.2
theorem pbytes_len (a : Nat) (n : Int) : (pbytes a n).length ≤ 5 := by simp [pbytes, putB]; omega
theorem allB_len : ∀ l : List Px, (allB l).length ≤ 5 * l.length
  | [] => Nat.le_refl _
  | p :: l => by
    have h1 := allB_len l
    have h2 := pbytes_len p.1.toNat p.2
    simp only [allB, List.flatMap_cons, List.length_append, List.length_cons] at *
    omega
theorem allB_take {l : List Px} {j : Nat} {p : Px} (h : l[j]? = some p) : allB (l.take (j + 1)) = allB (l.take j) ++ pbytes p.1.toNat p.2 := by
  rw [List.take_add_one, h]
  simp [allB]
theorem bE_app (a b : List Nat) : bE (a ++ b) = bE a ++ bE b := by simp [bE]
theorem alC_ok (f : FuncId) (R : Prop) (a n : Int) (bs : List (List TV)) (hb : ∀ f h, renLL f h bs = bs) (h : R → VCx Tryd.prog noGl 0 f [.agg (pxc a n)] ⟨[], []⟩ fun x T' => x = .vec 1 bs .none ∧ T' = ⟨[], []⟩) : SpecsOk Tryd.prog noGl (alC f R a n bs) := specs_ok fun q hq => by
  obtain rfl := List.mem_singleton.1 hq
  exact pureIf_ok gvals_noGl rfl (fun f h => by simp only [TV.ren, hb, Tok.ren]) h
theorem all_vcx (f : FuncId) (bf : FuncId) (hblk : isLoopBlock 0 (codeAt Tryd.prog f 0) = true) (hbf : ∀ p, pxIn p → VCx Tryd.prog noGl 0 bf [.agg (pxc p.1 p.2)] ⟨[], []⟩ fun x T' => x = .vec 1 (bE (pbytes p.1.toNat p.2)) .none ∧ T' = ⟨[], []⟩)
    (hev : ∀ (B L : List (List TV)) (Q : TV → VT → Prop), vcallF Tryd.prog noGl noSp noOra 300 (alL B L (codeAt Tryd.prog f 0)) 0 f [.vec 2 L .none] ⟨[], []⟩ Q =
      ((codeAt Tryd.prog f 0 = codeAt Tryd.prog f 0) ∧ (((@Eq (Option Nat) .none .none) ∧ ((@Eq (Nat) 0 0) ∧ ((@Eq (List Nat) [] []) ∧ (((@Eq (Option TV) (.some (.val (.slice .none 0 0))) (.some (.val (.slice .none 0 0)))) ∧ True) ∧ ((@Eq (VT) ⟨[], [(0, (1, true))]⟩ ⟨[], [(0, (1, true))]⟩) ∧ ((@Eq (Bool) true true) ∧
        (@Eq (List TV) [(.val (.slice .none 0 0)), (.vec 1 [] (.tail 0 0)), (.vec 2 (L) .none), (.val (.int .i64 ((↑(List.length L) : Int)))), (.val (.int .i64 0))] [(.val (.slice .none 0 0)), (.vec 1 [] (.tail 0 0)), (.vec 2 (L) .none), (.val (.int .i64 ((↑(List.length L) : Int)))), (.val (.int .i64 0))]))))))) ∧
        Q (.vec 1 (B) (.tail 0 (List.length B))) ⟨[], [((List.length B), (1, true))]⟩)))
    (hevA : ∀ (R : Prop) (B L bs : List (List TV)) (a n : Int) (j : Nat) (Q : Exit → List TV → VT → List Nat → Nat → Prop), vx Tryd.prog noGl (alC bf R a n bs) (alO a n B bs) 300 noLp none 0 (loopAt Tryd.prog f 0) (slotsN 18 alK (alV B L j)) ⟨[], [(B.length, 1, true)]⟩ [] (pickS alK Q) =
      (bif decide ((↑j : Int) < (↑(List.length L) : Int))
       then (OPure Tryd.prog (fun _ => .none) (.indexAddr 33 (.tmp 6) (.tmp 8)) [(6, (.vec 2 (L) .none)), (8, (.val (.int .i64 ((↑j : Int)))))] (.elt [(.val (.int .u32 (a))), (.val (.int .i64 (n)))]) ∧
       (R ∧ ((@Eq (List TV) [(.agg [(.val (.int .u32 (a))), (.val (.int .i64 (n)))])] [(.agg [(.val (.int .u32 (a))), (.val (.int .i64 (n)))])]) ∧
       (OTurn Tryd.prog (fun _ => .none) 0 ⟨[(.cells [(.val (.int .u32 (a))), (.val (.int .i64 (n)))])], [((List.length B), (1, true))]⟩ (.call ⟨(.builtin .append), #[(.tmp 12), (.tmp 14)], #[36, 36]⟩) [(12, (.vec 1 (B) (.tail 0 (List.length B)))), (14, (.vec 1 (bs) .none))] (.vec 1 (B ++ bs) (.tail 0 (List.length B + List.length bs))) ⟨[(.cells [(.val (.int .u32 (a))), (.val (.int .i64 (n)))])], [((List.length B + List.length bs), (1, true))]⟩ ∧
       Q .normal [(.val (.slice .none 0 0)), (.vec 1 (B ++ bs) (.tail 0 (List.length B + List.length bs))), (.vec 2 (L) .none), (.val (.int .i64 ((↑(List.length L) : Int)))), (.val (.int .i64 (IntKind.wrap IntKind.i64 ((↑j : Int) + (1 : Int)))))] ⟨[(.cells [(.val (.int .u32 (a))), (.val (.int .i64 (n)))])], [((List.length B + List.length bs), (1, true))]⟩ [] 18))))
       else Q (.exit 0) [(.val (.slice .none 0 0)), (.vec 1 (B) (.tail 0 (List.length B))), (.vec 2 (L) .none), (.val (.int .i64 ((↑(List.length L) : Int)))), (.val (.int .i64 ((↑j : Int))))] ⟨[], [((List.length B), (1, true))]⟩ [] 18))
    (l : List Px) (hl : l.length ≤ 200) (hin : ∀ p ∈ l, pxIn p) : VCx Tryd.prog noGl 0 f [.vec 2 (l.map pxE) .none] ⟨[], []⟩ fun x T' => x = .vec 1 (bE (allB l)) .none ∧ T' = ⟨[], []⟩ := by
  have hL : LsOk Tryd.prog noGl (alL (bE (allB l)) (l.map pxE) (codeAt Tryd.prog f 0)) := specsL_ok fun p hp => by
    obtain rfl := List.mem_singleton.1 hp
    refine loopL_ok fun K hK => ?_
    let sl : Nat → List TV := fun j => alV (bE (allB (l.take j))) (l.map pxE) j
    let TT : Nat → VT := fun j => ⟨[], [((bE (allB (l.take j))).length, 1, true)]⟩
    let Post : Exit → List TV → VT → Prop := fun e vs T => e = .normal ∧ vs = sl l.length ∧ T = TT l.length
    refine loopK (f := f) (id := 0) hblk 18 alK (fun j => l.length - j) sl TT (fun j => j ≤ l.length) 0 1 (fun _ _ => ⟨Nat.le_refl _, Nat.le_refl _⟩)
      Post (fun j hj => ?_) 0 (Nat.zero_le _) K (fun e vs T ⟨h1, h2, h3⟩ => ?_)
    · have hlen := allB_len (l.take j)
      rw [List.length_take] at hlen
      by_cases hlt : j < l.length
      · have hb := List.getElem?_eq_getElem hlt
        have hp := hin _ (List.getElem_mem hlt)
        generalize l[j] = p at hb hp
        have hstep := allB_take hb
        have hw := wrapN j (by omega)
        have h5 := pbytes_len p.1.toNat p.2
        refine vx_is mixedT_Tryd bodiesT_Tryd (alC_ok bf True p.1 p.2 (bE (pbytes p.1.toNat p.2)) (fun f h => ren_bE f h _) fun _ => hbf p hp) lsOk_none (hevA True (bE (allB (l.take j))) (l.map pxE) (bE (pbytes p.1.toNat p.2)) p.1 p.2 j _) ?_
        refine condT (by simpa using hlt) ⟨opure_px rfl rfl (Int.natCast_nonneg _) (by simpa using hb), trivial, rfl, u8_app _ _ _ (by rw [bE_len]; omega) (by rw [bE_len]; omega), rfl, rfl, j + 1, hlt, by simp only; omega, .inr ⟨?_, ?_⟩⟩
        · simp only [TT, VT.keep, hstep, bE_app, List.length_append, List.take_zero, List.take_succ_cons, List.map_nil]
        · simp only [sl, alV, renL, TV.ren, ren_pxE, Tok.ren, hw, hstep, bE_app, List.length_append]
          rw [← bE_app, ren_bE]
          rfl
      · obtain rfl : j = l.length := by omega
        refine vx_is mixedT_Tryd bodiesT_Tryd (alC_ok bf False 0 0 [] (fun f h => rfl) fun h => h.elim) lsOk_none (hevA False (bE (allB (l.take l.length))) (l.map pxE) [] 0 0 l.length _) ?_
        exact condF (by simp) ⟨rfl, rfl, rfl, rfl, rfl⟩
    · subst h1 h2 h3
      simpa [sl, TT] using hK
  refine VCx.keepQ 0 0 (Nat.le_refl _) (Nat.le_refl _) (vcallF_is mixedT_Tryd bodiesT_Tryd specsOk_none hL (hev (bE (allB l)) (l.map pxE) _) ?_)
  exact ⟨rfl, ⟨rfl, rfl, rfl, ⟨rfl, trivial⟩, rfl, rfl, rfl⟩, by simp only [TV.ren, ren_bE, Tok.ren, Go.Proofs.YtkjpbadlbpfpaaaDoor.keep]; rfl, rfl⟩
theorem ba_vcx (l : List Px) (hl : l.length ≤ 200) (hin : ∀ p ∈ l, pxIn p) : VCx Tryd.prog noGl 0 baF [.vec 2 (l.map pxE) .none] ⟨[], []⟩ fun x T' => x = .vec 1 (bE (allB l)) .none ∧ T' = ⟨[], []⟩ :=
  all_vcx baF bbF (by kernel_rfl) bb_vcx ev_ba ev_baA l hl hin
end Go.Proofs.YtkjpbadlbpfpaaaDoor
