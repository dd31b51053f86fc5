/- Texts of prefixes: the reference's addresses. -/
import Derived.Test.YtkjpbadlbpfpaaaDoorMbPTRv
namespace Go.Proofs.YtkjpbadlbpfpaaaDoor
open Go.RowKit

theorem str_at {s : List UInt8} {j : Nat} {c : UInt8} (hc : s[j]? = some c) : (⟨s.toArray⟩ : ByteArray)[j]? = some c := by
  obtain ⟨hl, e⟩ := List.getElem?_eq_some_iff.1 hc
  have hs : j < (ByteArray.mk s.toArray).size := by simpa [ByteArray.size] using hl
  rw [getElem?_pos (ByteArray.mk s.toArray) j hs, ← e]
  rfl
theorem pr_sindex {P : Program} {t : TypeId} (ht : P.underlying t = some .string) {s : ByteArray} {j : Nat} {c : UInt8} (hc : s[j]? = some c) : pureRun P (Instr.index t (.string s) (.int .i64 (j : Int))) = some (.int .u8 (c.toNat : Int)) := by
  have h0 : (0 : Int) ≤ (j : Int) := Int.natCast_nonneg _
  have hu : ∀ {α : Type} (f : TypeDesc → Sem α), pureRun P (underlying t >>= f) = pureRun P (f .string) := fun f => by
    show pureRun P ((match P.underlying t with | some d => pure d | none => stuck "no such type") >>= f) = _
    rw [ht]; rfl
  unfold Instr.index
  show pureRun P (underlying t >>= fun d => _) = _
  rw [hu]
  simp only [if_pos h0, Int.toNat_natCast, hc]
  rfl
theorem opure_sindex0 {P : Program} {t : TypeId} (ht : P.underlying t = some .string) {G : Globs} {x i : Operand} {l : List (Nat × TV)} {s : List UInt8} {j : Nat} {c : UInt8} (hx : evOf G l x = bsT s) (hi : evOf G l i = .val (.int .i64 (j : Int))) (hc : s[j]? = some c) : OPure P G (.index t x i) l (.val (.int .u8 (c.toNat : Int))) := by
  refine ⟨?_⟩
  have h1 : vindexG P t (bsT s) (.val (.int .i64 (j : Int))) = none := by
    simp only [vindexG, ht]
  have h2 := pr_sindex (P := P) (t := t) ht (str_at hc)
  show (match vindexG P t (evOf G l x) (evOf G l i) with
    | some r => some r
    | none => (toVal (evOf G l x)).bind fun a => (toVal (evOf G l i)).bind fun b => (pureRun P (Instr.index t a b)).map TV.val) = _
  rw [hx, hi, h1]
  show (pureRun P (Instr.index t (.string ⟨s.toArray⟩) (.int .i64 (j : Int)))).map TV.val = _
  rw [h2]
  rfl
theorem opure_sindex {G : Globs} {x i : Operand} {l : List (Nat × TV)} {s : List UInt8} {j : Nat} {c : UInt8} (hx : evOf G l x = bsT s) (hi : evOf G l i = .val (.int .i64 (j : Int))) (hc : s[j]? = some c) : OPure Tryd.prog G (.index 9 x i) l (.val (.int .u8 (c.toNat : Int))) :=
  opure_sindex0 Tryd.underlying9 hx hi hc
theorem eqI (k k' : IntKind) (x y : Int) : (eqRes .eql (keyEq (.int k x) (.int k' y)) = true) = (x = y) := by simp [eqRes, keyEq, cellEq]
theorem eqIF (k k' : IntKind) (x y : Int) : (eqRes .eql (keyEq (.int k x) (.int k' y)) = false) = ¬ (x = y) := by simp [eqRes, keyEq, cellEq]
theorem neI (k k' : IntKind) (x y : Int) : (eqRes .neq (keyEq (.int k x) (.int k' y)) = true) = ¬ (x = y) := by simp [eqRes, keyEq, cellEq]
theorem neIF (k k' : IntKind) (x y : Int) : (eqRes .neq (keyEq (.int k x) (.int k' y)) = false) = (x = y) := by simp [eqRes, keyEq, cellEq]
theorem bsize (s : List UInt8) : ((ByteArray.mk s.toArray).size : Int) = (s.length : Int) := by simp [ByteArray.size]
theorem wrapS (j : Nat) (h : j < 4294967290) : IntKind.wrap .i64 ((j : Int) + 1) = ((j + 1 : Nat) : Int) := w64s (j + 1) (by omega)
def rqInv (s : List UInt8) (q : Nat × Int × Int × Int × Int) : Prop := (q.1 ≤ s.length ∧ rqP (s.drop q.1) q.2.1 q.2.2.1 q.2.2.2.1 q.2.2.2.2 = rqP s 0 0 0 0) ∨ (q.1 = s.length + 1 ∧ rqP s 0 0 0 0 = some (q.2.1, q.2.2.1))
set_option maxRecDepth 100000 in
theorem rq_loop (G : Globs) (s : List UInt8) (hs : s.length ≤ 1000) : LsOk Tryd.prog G (rqL s (fun a n => rqP s 0 0 0 0 = some (a, n)) (rqP s 0 0 0 0 = none) (codeAt Tryd.prog rqF 0)) := specsL_ok fun p hp => by
  obtain rfl := List.mem_singleton.1 hp
  refine loopL_ok fun K hK => ?_
  obtain ⟨hK1, hK2⟩ := hK
  let Post : Exit → List TV → VT → Prop := fun e vs T => (e = .normal ∧ ∃ a n p d i, rqP s 0 0 0 0 = some (a, n) ∧ vs = rqV s a n p d i ∧ T = ⟨[], []⟩) ∨ (e = .ret ∧ rqP s 0 0 0 0 = none ∧ ∃ a n p d i, vs = rqV s a n p d i ∧ T = ⟨[], []⟩)
  refine loopK (f := rqF) (id := 0) (by kernel_rfl) 71 rqK (fun q : Nat × Int × Int × Int × Int => s.length + 2 - q.1) (fun q => rqV s q.2.1 q.2.2.1 q.2.2.2.1 q.2.2.2.2 q.1) (fun _ => ⟨[], []⟩) (rqInv s) 0 0 (fun _ _ => ⟨Nat.le_refl _, Nat.le_refl _⟩)
    Post (fun q hq => ?_) (0, 0, 0, 0, 0) (.inl ⟨Nat.zero_le _, rfl⟩) K (fun e vs T h => ?_)
  · obtain ⟨j, a, n, p, d⟩ := q
    rcases hq with ⟨hj, hr⟩ | ⟨hj, hr⟩
    · simp only at hj hr
      have hw := wrapS j (by omega)
      by_cases hlt : j < s.length
      · have hd : s[j]? = some s[j] := List.getElem?_eq_getElem hlt
        rw [List.drop_eq_getElem_cons hlt, rqP] at hr
        generalize s[j] = ch at hd hr
        have ret : rqP s 0 0 0 0 = none → Post .ret (rqV s a n p d j) ⟨[], []⟩ := fun h => .inr ⟨rfl, h, a, n, p, d, j, rfl, rfl⟩
        have ox : ∀ {x i : Operand} {l : List (Nat × TV)}, evOf G l x = bsT s → evOf G l i = .val (.int .i64 (j : Int)) → OPure Tryd.prog G (.index 9 x i) l (.val (.int .u8 (ch.toNat : Int))) := fun hx hi => opure_sindex hx hi hd
        refine vx_is mixedT_Tryd bodiesT_Tryd specsOk_none lsOk_none (ev_rq0 G s (ch.toNat : Int) a n p d j _) ?_
        refine condT (decide_eq_true (by rw [bsize]; omega)) (condF (by rw [eqIF, bsize]; omega) ⟨ox rfl rfl, cond_of (fun h46 => ?_) fun h46 => ?_⟩)
        · rw [eqI] at h46
          rw [if_pos (by omega)] at hr
          refine cond_of (fun h => ?_) fun h => cond_of (fun h' => ?_) fun h' => ?_
          · rw [eqI] at h
            rw [if_pos (.inl h)] at hr
            exact ⟨rfl, rfl, ret hr.symm⟩
          · rw [if_pos (.inr (of_decide_eq_true h'))] at hr
            exact ⟨rfl, rfl, ret hr.symm⟩
          · rw [eqIF] at h
            rw [if_neg (fun hc => hc.elim h (of_decide_eq_false h'))] at hr
            refine ⟨rfl, rfl, (j + 1, orS a p, IntKind.i64.wrap (n + 1), 0, 0), .inl ⟨hlt, hr⟩, by simp only; omega, .inl ⟨rfl, ?_⟩⟩
            rw [hw]; rfl
        · rw [eqIF] at h46
          rw [if_neg (by omega)] at hr
          refine ⟨ox rfl rfl, cond_of (fun h => ?_) fun h => ⟨ox rfl rfl, cond_of (fun h' => ?_) fun h' => cond_of (fun h2 => ?_) fun h2 => ⟨ox rfl rfl, ?_⟩⟩⟩
          · have h := of_decide_eq_true h
            rw [if_pos (.inl (by omega))] at hr
            exact ⟨rfl, rfl, ret hr.symm⟩
          · have h' := of_decide_eq_true h'
            rw [if_pos (.inr (.inl (by omega)))] at hr
            exact ⟨rfl, rfl, ret hr.symm⟩
          · rw [if_pos (.inr (.inr (of_decide_eq_true h2)))] at hr
            exact ⟨rfl, rfl, ret hr.symm⟩
          · have h := of_decide_eq_false h
            have h' := of_decide_eq_false h'
            have h2 := of_decide_eq_false h2
            rw [if_neg (by omega)] at hr
            refine ⟨rfl, rfl, (j + 1, a, n, _, _), .inl ⟨hlt, hr⟩, by simp only; omega, .inl ⟨rfl, ?_⟩⟩
            rw [hw]; rfl
      · obtain rfl : j = s.length := by omega
        rw [List.drop_length, rqP] at hr
        have ret : rqP s 0 0 0 0 = none → Post .ret (rqV s a n p d s.length) ⟨[], []⟩ := fun h => .inr ⟨rfl, h, a, n, p, d, s.length, rfl, rfl⟩
        refine vx_is mixedT_Tryd bodiesT_Tryd specsOk_none lsOk_none (ev_rq0 G s 0 a n p d s.length _) ?_
        refine condT (decide_eq_true (by rw [bsize]; omega)) (condT (by rw [eqI, bsize]) (cond_of (fun h => ?_) fun h => cond_of (fun h' => ?_) fun h' => ?_))
        · rw [eqI] at h
          rw [if_pos (.inl h)] at hr
          exact ⟨rfl, rfl, ret hr.symm⟩
        · rw [if_pos (.inr (of_decide_eq_true h'))] at hr
          exact ⟨rfl, rfl, ret hr.symm⟩
        · rw [eqIF] at h
          rw [if_neg (fun hc => hc.elim h (of_decide_eq_false h'))] at hr
          refine ⟨rfl, rfl, (s.length + 1, orS a p, IntKind.i64.wrap (n + 1), 0, 0), .inr ⟨rfl, hr.symm⟩, by simp only; omega, .inl ⟨rfl, ?_⟩⟩
          rw [hw]; rfl
    · simp only at hj hr
      subst hj
      refine vx_is mixedT_Tryd bodiesT_Tryd specsOk_none lsOk_none (ev_rq0 G s 0 a n p d (s.length + 1) _) ?_
      exact condF (decide_eq_false (by rw [bsize]; omega)) ⟨rfl, rfl, .inl ⟨rfl, a, n, p, d, _, hr, rfl, rfl⟩⟩
  · rcases h with ⟨rfl, a, n, p, d, i, h, rfl, rfl⟩ | ⟨rfl, h, a, n, p, d, i, rfl, rfl⟩
    · exact hK1 a n p d i h
    · exact hK2 h a n p d i
theorem rq_vcx (m : Int) (s : List UInt8) (hs : s.length ≤ 1000) : VCx Tryd.prog (ptG m) 0 rqF [bsT s] ⟨[], []⟩ fun x T' => x = .tup [.val (.int .u32 (adrOf s).1), .val (.bool (adrOf s).2)] ∧ T' = ⟨[], []⟩ := by
  have hC : SpecsOk Tryd.prog (ptG m) (specs [(raF, adW addrT)]) := specs_ok fun p hp => by
    obtain rfl := List.mem_singleton.1 hp
    exact adW_ok m (ra_vcx m)
  refine vcallF_is mixedT_Tryd bodiesT_Tryd hC (rq_loop (ptG m) s hs) (ev_rq (ptG m) s addrT _ _ _) ⟨rfl, ⟨rfl, rfl, rfl, trivial, rfl, rfl, rfl⟩, fun a n p d i hD => ?_, fun hD _ _ _ _ _ => ?_⟩
  · by_cases ex : ∃ a : Nat, a < 4294967296 ∧ addrT a = s
    · obtain ⟨b, hb, rfl⟩ := ex
      rw [rqP_addr b hb] at hD
      injection hD with hD; injection hD with h1 h2
      subst h1 h2
      rw [adrOf_text hb]
      exact condF (by rw [neIF]) ⟨⟨by omega, by omega⟩, condF (neqS_of (by rw [Int.toNat_natCast])) ⟨rfl, rfl⟩⟩
    · rw [adrOf_none fun a ha e => ex ⟨a, ha, e⟩]
      have hI := rqP_in _ _ _ _ _ _ _ hD
      refine cond_of (fun _ => ⟨rfl, rfl⟩) fun _ => ⟨hI, cond_of (fun _ => ⟨rfl, rfl⟩) fun he => ?_⟩
      obtain ⟨g0, g1⟩ := hI
      by_cases hq : addrT a.toNat = s
      · exact absurd ⟨_, by omega, hq⟩ ex
      · rw [neqS_ne hq] at he; cases he
  · rw [adrOf_none fun a ha e => by rw [← e, rqP_addr a ha] at hD; cases hD]
    exact ⟨rfl, rfl⟩
end Go.Proofs.YtkjpbadlbpfpaaaDoor
