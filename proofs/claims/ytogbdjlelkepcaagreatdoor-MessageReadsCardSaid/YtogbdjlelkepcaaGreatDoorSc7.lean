/- Part 7 of the proof of messageReadsCard_holds: MsWf, MsSm, Vcn ... No condition. -/
import Derived.LaidHandle
import Derived.LaidMore
import Derived.Lay
import Derived.ChangeVars
import Derived.JoinedOf
import Derived.Stop.Joined
import Derived.Test.YtogbdjlelkepcaaGreatDoorTie
import Derived.Test.YtogbdjlelkepcaaGreatDoorCards
import Derived.SevenTiedAt
import Derived.Test.YtogbdjlelkepcaaGreatDoorSc1
import Derived.Test.YtogbdjlelkepcaaGreatDoorSc2
import Derived.Test.YtogbdjlelkepcaaGreatDoorSc3
import Derived.Test.YtogbdjlelkepcaaGreatDoorSc4
import Derived.Test.YtogbdjlelkepcaaGreatDoorSc5
import Derived.Test.YtogbdjlelkepcaaGreatDoorSc6
set_option maxRecDepth 100000
namespace Go.Proofs.YtogbdjlelkepcaaGreatDoor
open Go.RowKit

def PxWf (l : Bs) : Prop := ∃ p : List (Int × Int), l = p.map pxE ∧ p.length ≤ 2000000
def IvWf (x : Bs) : Prop := ∃ l : List Int, x = iV l ∧ l.length ≤ 2000000
def CpWf (l : Bs) : Prop := ∃ c : List (Int × Bs), l = c.map cpE ∧ AllB c ∧ c.length ≤ 2000000
def OpWf (o : OpS) : Prop := CpWf o.l
def UpWf (u : UpS) : Prop := PxWf u.w ∧ PxWf u.n ∧ IvWf u.x
def MsWf (m : MsgS) : Prop := OpWf m.op ∧ UpWf m.u ∧ IsB m.d
def PxEq (l l' : Bs) : Prop := l = l' ∧ PxWf l
def AtEq (l l' : List TV) : Prop := l = l' ∧ ∃ (o h m : Int) (hm : Bool) (x : Bs), IvWf x ∧ l = [.val (.int .i64 o), .vec 1 x .none, .val (.int .u32 h), .val (.int .i64 m), .val (.bool hm)]
def OpEq (l l' : List TV) : Prop := l = l' ∧ ∃ o : OpS, OpWf o ∧ l = o.cells
def UpEq (l l' : List TV) : Prop := l = l' ∧ ∃ u : UpS, UpWf u ∧ l = u.cells
def FtEq (l l' : List TV) : Prop := l = l' ∧ ∃ (c s : Int) (d : Bs), IsB d ∧ l = [.val (.int .i64 c), .val (.int .i64 s), .vec 1 d .none]
def MsEq (l l' : List TV) : Prop := l = l' ∧ ∃ m : MsgS, MsWf m ∧ l = m.cells
theorem PxWf.nil : PxWf [] := ⟨[], rfl, Nat.zero_le _⟩
theorem IvWf.nil : IvWf [] := ⟨[], rfl, Nat.zero_le _⟩
theorem CpWf.nil : CpWf [] := ⟨[], rfl, .nil, Nat.zero_le _⟩
theorem up0_wf : UpWf up0 := ⟨.nil, .nil, .nil⟩
theorem op0_wf : OpWf op0 := CpWf.nil
theorem m0_wf : MsWf m0 := ⟨op0_wf, up0_wf, .nil⟩
theorem PxWf.ren {l : Bs} (h : PxWf l) (f g : Nat → Option Nat) : renLL f g l = l := by
 obtain ⟨p, rfl, _⟩ := h
 exact renLL_px f g p
theorem IvWf.ren {l : Bs} (h : IvWf l) (f g : Nat → Option Nat) : renLL f g l = l := by
 obtain ⟨p, rfl, _⟩ := h
 exact iV_ren f g p
theorem CpWf.ren {l : Bs} (h : CpWf l) (f g : Nat → Option Nat) : renLL f g l = l := by
 obtain ⟨p, rfl, h2, _⟩ := h
 exact renLL_cp f g h2
theorem OpWf.ren {o : OpS} (h : OpWf o) (f g : Nat → Option Nat) : renL f g o.cells = o.cells := by
 simp only [OpS.cells, renL, TV.ren, CpWf.ren h, Tok.ren]
theorem UpWf.ren {u : UpS} (h : UpWf u) (f g : Nat → Option Nat) : renL f g u.cells = u.cells := by
 simp only [UpS.cells, renL, TV.ren, h.1.ren, h.2.1.ren, h.2.2.ren, Tok.ren]
theorem MsWf.ren {m : MsgS} (h : MsWf m) : MsOk m := msOk_of h.1.ren h.2.1.ren h.2.2.ren
theorem pfGo_len : ∀ (k : Nat) (b : Bs) (acc l : List (Int × Int)), pfGo k b acc = some l → l.length ≤ acc.length + b.length
 | 0, _, _, _, h => by cases h
 | k + 1, b, acc, l, h => by
  unfold pfGo at h
  by_cases hl : leB b 0 > 0
  ·rw [decide_eq_true hl] at h
   cases h2 : prOk b 0 <;> rw [h2] at h
   ·cases h
   ·have h3 := pfGo_len k _ _ _ h
    have h4 := prB_lt hl
    simp only [List.length_append, List.length_cons, List.length_nil] at h3
    omega
  ·rw [decide_eq_false hl] at h
   injection h with h; subst h; omega
theorem pfL_wf {b : Bs} (hb : b.length ≤ 1000000) : PxWf (pfL b) := by
 refine ⟨(pfP b).getD [], rfl, ?_⟩
 cases h : pfP b with
 | none => exact Nat.zero_le _
 | some l => have := pfGo_len _ _ _ _ h; simp only [List.length_nil] at this; simp only [Option.getD_some]; omega
theorem ptGo_16 : ∀ (k : Nat) (b : Bs) (l r : List Int), l.length ≤ 16 → ptGo k b l = some r → r.length ≤ 16
 | 0, _, _, _, _, h => by cases h
 | k + 1, b, l, r, hl, h => by
  unfold ptGo at h
  cases h1 : decide (leB b 0 > 0) <;> rw [h1] at h
  ·injection h with h; exact h ▸ hl
  ·cases h2 : ptH b <;> rw [h2] at h
   ·cases h
   ·simp only [cond_true] at h
    split at h
    ·rename_i b' l' he
     exact ptGo_16 k b' l' r (ptI_16 _ _ _ _ _ hl he) h
    ·cases h
theorem ptLB_wf (v : Bs) : IvWf (ptLB v) := by
 refine ⟨ptA v, rfl, ?_⟩
 unfold ptA
 cases h : ptP v with
 | none => exact Nat.zero_le _
 | some l => have := ptGo_16 _ _ [] _ (Nat.zero_le 16) h; simp only [Option.getD_some]; omega
def XWf (x : TV) : Prop := x = .val (.slice none 0 0) ∨ ∃ l, x = .vec 1 l .none ∧ IvWf l
theorem put_wf {a : AtS} (h : XWf a.x) (t : Int) (v : Bs) : XWf (a.put t v).x := by
 unfold AtS.put
 split
 ·exact h
 split
 ·exact .inr ⟨_, rfl, ptLB_wf v⟩
 split
 ·exact h
 split
 ·exact h
 ·exact h
theorem aqGo_wf : ∀ (l : List Rw3) (f : Nat → Bool) (a : AtS), XWf a.x → ∀ a' f', aqGo l f a = .inr (a', f') → XWf a'.x
 | [], f, a, h, a', f', e => by injection e with e; injection e with e1 e2; exact e1 ▸ h
 | (fl, t, v) :: l, f, a, h, a', f', e => by
  unfold aqGo at e
  cases hf : f t.toNat <;> rw [hf] at e
  ·simp only [cond_false] at e
   split at e
   ·exact aqGo_wf l _ _ (put_wf h t v) a' f' e
   ·split at e <;> cases e
  ·cases e
theorem paPt_wf (b : Bs) : IvWf (paPt b) := by
 have key : ∀ a : AtS, XWf a.x → ∀ l, a.fix.x = .vec 1 l .none → IvWf l := by
  intro a ha l hl
  unfold AtS.fix at hl
  simp only at hl
  rcases ha with h | ⟨l', h, hw⟩ <;> rw [h] at hl <;> simp only at hl
  ·injection hl with _ hl; subst hl; exact .nil
  ·injection hl with _ hl; subst hl; exact hw
 have hx := paAt_x b
 unfold paAt at hx
 split at hx
 ·rename_i a h
  refine key a ?_ _ hx
  unfold aqP at h
  cases ho : saO b <;> rw [ho] at h
  ·cases h
  ·simp only [cond_true] at h
   split at h
   ·cases h
   ·rename_i a' f' he
    have := aqGo_wf _ _ _ (.inl rfl) _ _ he
    unfold aqMet at h
    cases g1 : f' 1 <;> cases g2 : f' 2 <;> cases g3 : f' 3 <;> simp only [g1, g2, g3, cond_true, cond_false] at h <;> first | (cases h; done) | (injection h with h; exact h ▸ this)
 ·exact key at0 (.inl rfl) _ hx
theorem upU_wf {b : Bs} (hb : IsB b) : UpWf (upU b) := by
 have hw : PxWf (pfL (upG b)) := pfL_wf (upG_is hb).small
 have hn : PxWf (pfL (upN b)) := pfL_wf (upN_is hb).small
 have hx : IvWf (paPt (upA b)) := paPt_wf _
 have e1 : UpWf { up0 with w := pfL (upG b), n := pfL (upN b) } := ⟨hw, hn, .nil⟩
 have e2 : UpWf ⟨pfL (upG b), paOr (upA b), paPt (upA b), paHp (upA b), paMd (upA b), paHm (upA b), pfL (upN b)⟩ := ⟨hw, hn, hx⟩
 unfold upU
 split
 ·rename_i u h
  unfold upP at h
  split at h
  ·cases h
  cases g1 : pfO (upG b) <;> simp only [g1, cond_true, cond_false] at h
  ·cases h
  cases g2 : pfO (upN b) <;> simp only [g2, cond_true, cond_false] at h
  ·cases h
  split at h
  ·injection h with h; exact h ▸ e1
  cases g3 : paOk (upA b) <;> simp only [g3, cond_true, cond_false] at h
  ·split at h
   ·cases h
   split at h
   ·injection h with h; exact h ▸ e1
   ·cases h
  ·split at h
   ·injection h with h; exact h ▸ e2
   ·injection h with h; exact h ▸ e1
 ·exact up0_wf
theorem paGo_len : ∀ (k : Nat) (b : Bs) (e : Int) (acc l : List (Int × Bs)), IsB b → paGo k b e acc = .ok l → l.length ≤ acc.length + b.length
 | 0, _, _, _, _, _, h => by cases h
 | k + 1, b, e, acc, l, hb, h => by
  unfold paGo at h
  by_cases hl : leB b e > 0
  ·rw [decide_eq_true hl] at h
   cases h2 : decide (cvZ b e = 0) <;> rw [h2] at h
   ·cases h
   ·cases h3 : decide (cvC b e = 2) <;> rw [h3] at h
    ·cases h
    ·cases h4 : cpO (cvV b e) 0 <;> rw [h4] at h
     ·cases h
     ·have h5 := paGo_len k _ _ _ _ (cvB_is hb) h
      have h6 := cv_len hl
      have h7 := (cpF_is 0 (cvV_is (e := e) hb)).2.2
      simp only [List.length_append] at h5
      omega
  ·rw [decide_eq_false hl] at h
   injection h with h; subst h; omega
theorem paL_wf {b : Bs} (hb : IsB b) (e : Int) : CpWf (paL b e) := by
 cases h : paF b e with
 | ok l =>
  rw [(paO_ok h).2]
  have h2 := paGo_len _ _ _ _ _ hb h
  have h3 := hb.small
  simp only [List.length_nil] at h2
  exact ⟨l, rfl, paGo_is _ _ _ _ hb .nil l h, by omega⟩
 | error s => rw [(paO_err h).2.1]; exact .nil
theorem opU_wf {b : Bs} (pas : Int) (hb : IsB b) : OpWf (opU b pas) := by
 have key : (∃ s d, opX b pas = opFail s d) ∨ (∃ n h i l, opX b pas = opGood n h i l ∧ CpWf l) := by
  unfold opX
  split
  ·exact .inl ⟨_, _, rfl⟩
  split
  ·exact .inl ⟨_, _, rfl⟩
  unfold opMid opEnd
  split
  ·exact .inl ⟨_, _, rfl⟩
  split
  ·exact .inl ⟨_, _, rfl⟩
  split
  ·exact .inl ⟨_, _, rfl⟩
  split
  ·exact .inl ⟨_, _, rfl⟩
  split
  ·exact .inl ⟨_, _, rfl⟩
  cases h : paO _ _
  ·exact .inl ⟨_, _, rfl⟩
  ·exact .inr ⟨_, _, _, _, rfl, paL_wf (tkR_is (tkR_is (tkR_is (tkR_is (tkR_is hb))))) _⟩
 unfold opU opP
 rcases key with ⟨s, d, h⟩ | ⟨n, hh, i, l, h, h2⟩ <;> rw [h]
 ·exact op0_wf
 ·exact h2
def msM (b : Bs) (pas : Int) : MsgS := match msP b pas with
 | .inr m => m
 | .inl _ => m0
def msC (b : Bs) (pas : Int) : Int := match msP b pas with
 | .inr _ => 0
 | .inl p => p.1
def msS (b : Bs) (pas : Int) : Int := match msP b pas with
 | .inr _ => 0
 | .inl p => p.2.1
def msD (b : Bs) (pas : Int) : Bs := match msP b pas with
 | .inr _ => []
 | .inl p => p.2.2
theorem msX_eq (b : Bs) (pas : Int) : msX b pas = .tup [.agg (msM b pas).cells, ftT (msC b pas) (msS b pas) (msD b pas)] := by
 unfold msX msV msM msC msS msD
 cases msP b pas with
 | inl p => rfl
 | inr m => rfl
theorem msM_wf {b : Bs} {pas : Int} (hb : IsB b) : MsWf (msM b pas) := by
 have hd := hb.drop 19
 unfold msM
 split
 ·rename_i m h
  unfold msP at h
  cases h1 : hdOk b <;> rw [h1] at h <;> simp only [cond_true, cond_false] at h
  ·cases h
  split at h
  ·cases h
  split at h
  ·cases h
  split at h
  ·cases h2 : opOk (b.drop 19) pas <;> rw [h2] at h <;> simp only [cond_true, cond_false] at h
   ·cases h
   ·injection h with h; subst h; exact ⟨opU_wf pas hd, up0_wf, .nil⟩
  split at h
  ·cases h2 : upOk (b.drop 19) <;> rw [h2] at h <;> simp only [cond_true, cond_false] at h
   ·cases h
   ·injection h with h; subst h; exact ⟨op0_wf, upU_wf hd, .nil⟩
  split at h
  ·cases h2 : ntO (b.drop 19) <;> rw [h2] at h <;> simp only [cond_true, cond_false] at h
   ·cases h
   ·injection h with h; subst h; exact ⟨op0_wf, up0_wf, hd.drop 2⟩
  ·injection h with h; subst h; exact m0_wf
 ·exact m0_wf
theorem is1 {z : Int} (h0 : 0 ≤ z) (h1 : z < 256) : IsB [bT z] := ⟨⟨[z], rfl, fun y hy => by obtain rfl := List.mem_singleton.1 hy; exact ⟨h0, h1⟩⟩, by simp⟩
theorem paDt_is {b : Bs} (hb : IsB b) : IsB (paDt b) := by
 have key : ∀ (l : List Rw3) (f' : Nat → Bool) (a : AtS), AllR l → ∀ s d, aqGo l f' a = .inl (s, d) → IsB d := by
  intro l
  induction l with
  | nil => intro f' a _ s d e; cases e
  | cons p l ih =>
   obtain ⟨fl, t, v⟩ := p
   intro f' a hl s d e
   unfold aqGo at e
   obtain ⟨_, _, hv, hvl⟩ := hl _ List.mem_cons_self
   cases hf : f' t.toNat <;> rw [hf] at e
   ·simp only [cond_false] at e
    split at e
    ·exact ih _ _ (fun p hp => hl p (List.mem_cons_of_mem _ hp)) s d e
    ·split at e
     ·injection e with e; injection e with e1 e2; rw [← e2]; exact .nil
     ·injection e with e; injection e with e1 e2; rw [← e2]; exact rbB_is hv hvl
   ·injection e with e; injection e with e1 e2; rw [← e2]; exact .nil
 unfold paDt
 split
 ·exact .nil
 ·rename_i e h
  obtain ⟨s, d⟩ := e
  unfold aqP at h
  cases ho : saO b <;> rw [ho] at h
  ·injection h with h; injection h with h1 h2; simp only; rw [← h2]; exact .nil
  ·simp only [cond_true] at h
   split at h
   ·rename_i e he
    injection h with h; subst h
    exact key _ _ _ (saA_rng hb) s d he
   ·rename_i a f' he
    unfold aqMet at h
    cases g1 : f' 1 <;> cases g2 : f' 2 <;> cases g3 : f' 3 <;> simp only [g1, g2, g3, cond_true, cond_false] at h <;> first | (cases h; done) | (injection h with h; injection h with e1 e2; simp only; rw [← e2]; exact is1 (by decide) (by decide))
theorem upDt_is {b : Bs} (hb : IsB b) : IsB (upDt b) := by
 have hd := paDt_is (upA_is hb)
 unfold upDt
 split
 ·exact .nil
 ·rename_i e h
  obtain ⟨s, d⟩ := e
  simp only
  unfold upP at h
  split at h
  ·injection h with h; injection h with _ h; rw [← h]; exact .nil
  cases g1 : pfO (upG b) <;> simp only [g1, cond_true, cond_false] at h
  ·injection h with h; injection h with _ h; rw [← h]; exact .nil
  cases g2 : pfO (upN b) <;> simp only [g2, cond_true, cond_false] at h
  ·injection h with h; injection h with _ h; rw [← h]; exact .nil
  split at h
  ·cases h
  cases g3 : paOk (upA b) <;> simp only [g3, cond_true, cond_false] at h
  ·split at h
   ·injection h with h; injection h with _ h; rw [← h]; exact hd
   split at h
   ·cases h
   ·injection h with h; injection h with _ h; rw [← h]; exact hd
  ·split at h <;> cases h
theorem opDt_is {b : Bs} (pas : Int) : IsB (opDt b pas) := by
 have i2 : IsB [bT 0, bT 4] := ⟨⟨[0, 4], rfl, fun y hy => by simp at hy; omega⟩, by simp⟩
 have key : (∃ s d, opX b pas = opFail s d ∧ IsB d) ∨ (∃ n h i l, opX b pas = opGood n h i l) := by
  unfold opX
  split
  ·exact .inl ⟨_, _, rfl, .nil⟩
  split
  ·exact .inl ⟨_, _, rfl, i2⟩
  unfold opMid opEnd
  split
  ·exact .inl ⟨_, _, rfl, .nil⟩
  split
  ·exact .inl ⟨_, _, rfl, .nil⟩
  split
  ·exact .inl ⟨_, _, rfl, .nil⟩
  split
  ·exact .inl ⟨_, _, rfl, .nil⟩
  split
  ·exact .inl ⟨_, _, rfl, .nil⟩
  cases h : paO _ _
  ·exact .inl ⟨_, _, rfl, .nil⟩
  ·exact .inr ⟨_, _, _, _, rfl⟩
 unfold opDt opP
 rcases key with ⟨s, d, h, h2⟩ | ⟨n, hh, i, l, h⟩ <;> rw [h]
 ·exact h2
 ·exact .nil
theorem msD_is {b : Bs} {pas : Int} (hb : IsB b) : IsB (msD b pas) := by
 have hd := hb.drop 19
 have hz : IsB (szB b) := (hb.drop 16).take 2
 unfold msD
 split
 ·exact .nil
 ·rename_i e h
  obtain ⟨c, s, d⟩ := e
  simp only
  unfold msP at h
  cases h1 : hdOk b <;> rw [h1] at h <;> simp only [cond_true, cond_false] at h
  ·injection h with h; injection h with _ h; injection h with _ h; rw [← h]; exact hdD_is hb
  split at h
  ·injection h with h; injection h with _ h; injection h with _ h; rw [← h]; exact .nil
  split at h
  ·injection h with h; injection h with _ h; injection h with _ h; rw [← h]; exact hz
  split at h
  ·cases h2 : opOk (b.drop 19) pas <;> rw [h2] at h <;> simp only [cond_true, cond_false] at h
   ·injection h with h; injection h with _ h; injection h with _ h; rw [← h]; exact opDt_is pas
   ·cases h
  split at h
  ·cases h2 : upOk (b.drop 19) <;> rw [h2] at h <;> simp only [cond_true, cond_false] at h
   ·injection h with h; injection h with _ h; injection h with _ h; rw [← h]; exact upDt_is hd
   ·cases h
  split at h
  ·cases h2 : ntO (b.drop 19) <;> rw [h2] at h <;> simp only [cond_true, cond_false] at h
   ·injection h with h; injection h with _ h; injection h with _ h; rw [← h]; exact hz
   ·cases h
  ·cases h
end Go.Proofs.YtogbdjlelkepcaaGreatDoor
namespace Go.Proofs.YtogbdjlelkepcaaGreatDoor
open Go.RowKit

abbrev flF := 14
abbrev s3F := 97
abbrev s7F := 98
abbrev s8F := 53
abbrev s9F := 54
abbrev s11F := 30
abbrev pl11F := 31
def s3K : List Nat := [0, 1, 12, 13]
def s3V (l : Bs) (j : Int) : List TV := [.vec 2 l .none, .vec 2 l .none, .val (.int .i64 l.length), .val (.int .i64 j)]
def s3L (l : Bs) (c0 : Code) : Nat → Option (LSpec × Code) := specsL [(0, loopL 26 s3K [] (s3V l 0) ⟨[], []⟩ (fun K => K .normal (slotsN 26 s3K (s3V l l.length)) ⟨[], []⟩ []), c0)]
def s7O (o h m : Int) (hm : Bool) (x : Bs) : VO := .cells [.val (.int .i64 o), .vec 1 x .none, .val (.int .u32 h), .val (.int .i64 m), .val (.bool hm)]
def s7T (o h m : Int) (hm : Bool) (x : Bs) : TV := .agg [.val (.int .i64 o), .vec 1 x .none, .val (.int .u32 h), .val (.int .i64 m), .val (.bool hm)]
def s7K : List Nat := [2, 3, 43, 44]
def s7V (x : Bs) (j : Int) : List TV := [.ptr 0 0, .ptr 1 0, .val (.int .i64 x.length), .val (.int .i64 j)]
def s7Z (o h m : Int) (hm : Bool) (x : Bs) : VT := ⟨[s7O o h m hm x, s7O o h m hm x], []⟩
def s7L (o h m : Int) (hm : Bool) (x : Bs) (c0 : Code) : Nat → Option (LSpec × Code) := specsL [(0, loopL 59 s7K [] (s7V x 0) (s7Z o h m hm x) (fun K => K .normal (slotsN 59 s7K (s7V x x.length)) (s7Z o h m hm x) []), c0)]
def s8K : List Nat := [2, 3, 36, 37]
def s8Z (n h i : Int) (l : Bs) : VT := ⟨[.cells [.val (.int .i64 n), .val (.int .i64 h), .val (.int .u32 i), .vec 2 l .none], .cells [.val (.int .i64 n), .val (.int .i64 h), .val (.int .u32 i), .vec 2 l .none]], []⟩
def s8A (n h i : Int) (l : Bs) : TV := .agg [.val (.int .i64 n), .val (.int .i64 h), .val (.int .u32 i), .vec 2 l .none]
def s8V (l : Bs) (j : Int) : List TV := [.ptr 0 0, .ptr 1 0, .val (.int .i64 l.length), .val (.int .i64 j)]
def s8L (n h i : Int) (l : Bs) (c0 : Code) : Nat → Option (LSpec × Code) := specsL [(0, loopL 71 s8K [] (s8V l 0) (s8Z n h i l) (fun K => K .normal (slotsN 71 s8K (s8V l l.length)) (s8Z n h i l) []), c0)]
def s3W : Spec := fun _ ys T K => match ys with
 | [.vec 2 l _, .vec 2 l' _] => PxEq l l' ∧ K (.val (.bool true)) T
 | _ => vbad 83 default ys
def s7W : Spec := fun _ ys T K => match ys with
 | [.agg l, .agg l'] => AtEq l l' ∧ K (.val (.bool true)) T
 | _ => vbad 83 default ys
def s8W : Spec := fun _ ys T K => match ys with
 | [.agg l, .agg l'] => OpEq l l' ∧ K (.val (.bool true)) T
 | _ => vbad 83 default ys
def s9W : Spec := fun _ ys T K => match ys with
 | [.agg l, .agg l'] => UpEq l l' ∧ K (.val (.bool true)) T
 | _ => vbad 83 default ys
def flW : Spec := fun _ ys T K => match ys with
 | [.agg l, .agg l'] => FtEq l l' ∧ K (.val (.bool true)) T
 | _ => vbad 83 default ys
def plK : List Nat := [1, 2, 3, 24, 25, 26]
def plV (l : Bs) (j : Int) : List TV := [.ptr 0 0, .ptr 1 0, .ptr 2 0, .vec 2 l .none, .val (.int .i64 l.length), .val (.int .i64 j)]
def plA (m : MsgS) (x : TV) : VO := .cells [.val (.int .i64 m.k), .val (.int .i64 m.op.n), .val (.int .i64 m.op.h), .val (.int .u32 m.op.i), x, .val (.slice none 0 0), .val (.int .i64 0), .val (.slice none 0 0), .val (.int .u32 0), .val (.int .i64 0), .val (.bool false), .val (.slice none 0 0), .val (.int .i64 m.c), .val (.int .i64 m.s), .vec 1 m.d .none]
def pl0 : VO := .cells [.val (.int .i64 0), .val (.int .i64 0), .val (.int .i64 0), .val (.int .u32 0), .val (.slice none 0 0), .val (.slice none 0 0), .val (.int .i64 0), .val (.slice none 0 0), .val (.int .u32 0), .val (.int .i64 0), .val (.bool false), .val (.slice none 0 0), .val (.int .i64 0), .val (.int .i64 0), .val (.slice none 0 0)]
def plN : TV := .val (.slice none 0 0)
def plR (m : MsgS) (ln : Bool) (K : KX) : Prop := bif ln then K .normal (slotsN 51 plK (plV m.op.l m.op.l.length)) ⟨[.cells m.cells, pl0, plA m plN], []⟩ [] else K .normal (slotsN 51 plK (plV m.op.l m.op.l.length)) ⟨[.cells m.cells, pl0, plA m (.vec 2 m.op.l (.tail 0 m.op.l.length))], [(m.op.l.length, 2, true)]⟩ []
def plL (m : MsgS) (ln : Bool) (c0 : Code) : Nat → Option (LSpec × Code) := specsL [(0, loopL 51 plK [] (plV m.op.l 0) ⟨[.cells m.cells, pl0, plA m plN], []⟩ (plR m ln), c0)]
theorem ev_fl (c s : Int) (d : Bs) (sb : ByteArray) (Q : TV → VT → Prop) : vcallF Tryz.prog noGl noSp (tellS [(20, .val (.string sb), some fun T => T), (23, .val (.string sb), some fun T => T)]) 300 noLp 0 flF [ftT c s d, ftT c s d] zz211 Q =
 (bif eqRes BinOp.eql (k6 c c)
 then (bif eqRes BinOp.eql (k6 s s)
 then (OTurn Tryz.prog (fun _ => .none) 0 (zz36 c s d c s d) (.convert 22 9 (.tmp 19)) [(19, (zz2 d))] (.val (.string sb)) (zz36 c s d c s d) ∧
 (OTurn Tryz.prog (fun _ => .none) 0 (zz36 c s d c s d) (.convert 22 9 (.tmp 22)) [(22, (zz2 d))] (.val (.string sb)) (zz36 c s d c s d) ∧
 Q (zz9 (eqRes BinOp.eql (keyEq (Value.string sb) (Value.string sb)))) (zz36 c s d c s d)))
 else Q zz20 (zz36 c s d c s d))
 else Q zz20 (zz36 c s d c s d)) := by kernel_rfl
theorem ev_s3 (l : Bs) (Q : TV → VT → Prop) : vcallF Tryz.prog noGl noSp noOra 300 (s3L l (codeAt Tryz.prog s3F 0)) 0 s3F [.vec 2 l .none, .vec 2 l .none] zz211 Q =
 (bif eqRes BinOp.neq (k6 (↑(List.length l) : Int) (↑(List.length l) : Int))
 then Q zz20 zz211
 else ((codeAt Tryz.prog s3F (0 : Nat) = codeAt Tryz.prog s3F (0 : Nat)) ∧
 (((@Eq (Option Nat) .none .none) ∧
 ((@Eq (Nat) 0 0) ∧
 ((@Eq (List Nat) [] []) ∧
 (True  ∧
 ((@Eq (VT) zz211 zz211) ∧
 ((@Eq (Bool) true true) ∧
 (@Eq (List TV) [(zz8 l), (zz8 l), (zz1 (↑(List.length l) : Int)), zz4] [(zz8 l), (zz8 l), (zz1 (↑(List.length l) : Int)), zz4]))))))) ∧
 Q zz133 zz211))) := by kernel_rfl
theorem ev_s3A (l : Bs) (j a n : Int) (Q : Exit → List TV → VT → List Nat → Nat → Prop) : vx Tryz.prog noGl noSp (tellS [(18, .elt [.val (.int .u32 a), .val (.int .i64 n)], none), (22, .elt [.val (.int .u32 a), .val (.int .i64 n)], none)]) 300 noLp none 0 (loopAt Tryz.prog s3F 0) (slotsN 26 s3K (s3V l j)) zz211 [] (pickS s3K Q) =
 (bif decide (j < (↑(List.length l) : Int))
 then (OPure Tryz.prog (fun _ => .none) (.indexAddr 58 (.tmp 16) (.tmp 17)) [(16, (zz8 l)), (17, (zz1 j))] (.elt [(zz7 a), (zz1 n)]) ∧
 (OPure Tryz.prog (fun _ => .none) (.indexAddr 58 (.tmp 20) (.tmp 21)) [(20, (zz8 l)), (21, (zz1 j))] (.elt [(zz7 a), (zz1 n)]) ∧
 (bif eqRes BinOp.neq (keyEq ((fun vs => Value.agg (List.toArray vs)) ((fun x => Value.int IntKind.u32 a :: x) ((fun x => Value.int IntKind.i64 n :: x) []))) ((fun vs => Value.agg (List.toArray vs)) ((fun x => Value.int IntKind.u32 a :: x) ((fun x => Value.int IntKind.i64 n :: x) []))))
 then Q .ret [(zz8 l), (zz8 l), (zz1 (↑(List.length l) : Int)), (zz1 j)] zz211 [] 26
 else Q .normal [(zz8 l), (zz8 l), (zz1 (↑(List.length l) : Int)), (zz1 (IntKind.wrap IntKind.i64 (j + (1 : Int))))] zz211 [] 26)))
 else Q (.exit 0) [(zz8 l), (zz8 l), (zz1 (↑(List.length l) : Int)), (zz1 j)] zz211 [] 26) := by kernel_rfl
theorem ev_s7 (o h m : Int) (hm : Bool) (x : Bs) (Q : TV → VT → Prop) : vcallF Tryz.prog noGl noSp noOra 300 (s7L o h m hm x (codeAt Tryz.prog s7F 0)) 0 s7F [s7T o h m hm x, s7T o h m hm x] zz211 Q =
 (bif eqRes BinOp.neq (k6 o o)
 then Q zz20 (zz35 o x h m hm o x h m hm)
 else (bif eqRes BinOp.neq (keyEq (Value.int IntKind.u32 h) (Value.int IntKind.u32 h))
 then Q zz20 (zz35 o x h m hm o x h m hm)
 else (bif eqRes BinOp.neq (k6 m m)
 then Q zz20 (zz35 o x h m hm o x h m hm)
 else (bif eqRes BinOp.neq (keyEq (Value.bool hm) (Value.bool hm))
 then Q zz20 (zz35 o x h m hm o x h m hm)
 else (bif eqRes BinOp.neq (k6 (↑(List.length x) : Int) (↑(List.length x) : Int))
 then Q zz20 (zz35 o x h m hm o x h m hm)
 else ((codeAt Tryz.prog s7F (0 : Nat) = codeAt Tryz.prog s7F (0 : Nat)) ∧
 (((@Eq (Option Nat) .none .none) ∧
 ((@Eq (Nat) 0 0) ∧
 ((@Eq (List Nat) [] []) ∧
 (True  ∧
 ((@Eq (VT) (zz35 o x h m hm o x h m hm) (zz35 o x h m hm o x h m hm)) ∧
 ((@Eq (Bool) true true) ∧
 (@Eq (List TV) (zz33 (↑(List.length x) : Int)) (zz33 (↑(List.length x) : Int))))))))) ∧
 Q zz133 (zz35 o x h m hm o x h m hm)))))))) := by kernel_rfl
theorem ev_s7A (o h m : Int) (hm : Bool) (x : Bs) (j a : Int) (Q : Exit → List TV → VT → List Nat → Nat → Prop) : vx Tryz.prog noGl noSp (tellS [(50, .elt [.val (.int .i64 a)], none), (55, .elt [.val (.int .i64 a)], none)]) 300 noLp none 0 (loopAt Tryz.prog s7F 0) (slotsN 59 s7K (s7V x j)) (s7Z o h m hm x) [] (pickS s7K Q) =
 (bif decide (j < (↑(List.length x) : Int))
 then (OPure Tryz.prog (fun _ => .none) (.indexAddr 59 (.tmp 48) (.tmp 49)) [(48, (zz2 x)), (49, (zz1 j))] (.elt [(zz1 a)]) ∧
 (OPure Tryz.prog (fun _ => .none) (.indexAddr 59 (.tmp 53) (.tmp 54)) [(53, (zz2 x)), (54, (zz1 j))] (.elt [(zz1 a)]) ∧
 (bif eqRes BinOp.neq (k6 a a)
 then Q .ret (zz32 (↑(List.length x) : Int) j) (zz35 o x h m hm o x h m hm) [] 59
 else Q .normal (zz32 (↑(List.length x) : Int) (IntKind.wrap IntKind.i64 (j + (1 : Int)))) (zz35 o x h m hm o x h m hm) [] 59)))
 else Q (.exit 0) (zz32 (↑(List.length x) : Int) j) (zz35 o x h m hm o x h m hm) [] 59) := by kernel_rfl
theorem ev_s8 (n h i : Int) (l : Bs) (Q : TV → VT → Prop) : vcallF Tryz.prog noGl noSp noOra 300 (s8L n h i l (codeAt Tryz.prog s8F 0)) 0 s8F [s8A n h i l, s8A n h i l] zz211 Q =
 (bif eqRes BinOp.neq (k6 n n)
 then Q zz20 (zz29 n h i l n h i l)
 else (bif eqRes BinOp.neq (k6 h h)
 then Q zz20 (zz29 n h i l n h i l)
 else (bif eqRes BinOp.neq (keyEq (Value.int IntKind.u32 i) (Value.int IntKind.u32 i))
 then Q zz20 (zz29 n h i l n h i l)
 else (bif eqRes BinOp.neq (k6 (↑(List.length l) : Int) (↑(List.length l) : Int))
 then Q zz20 (zz29 n h i l n h i l)
 else ((codeAt Tryz.prog s8F (0 : Nat) = codeAt Tryz.prog s8F (0 : Nat)) ∧
 (((@Eq (Option Nat) .none .none) ∧
 ((@Eq (Nat) 0 0) ∧
 ((@Eq (List Nat) [] []) ∧
 (True  ∧
 ((@Eq (VT) (zz29 n h i l n h i l) (zz29 n h i l n h i l)) ∧
 ((@Eq (Bool) true true) ∧
 (@Eq (List TV) (zz33 (↑(List.length l) : Int)) (zz33 (↑(List.length l) : Int))))))))) ∧
 Q zz133 (zz29 n h i l n h i l))))))) := by kernel_rfl
theorem ev_s8A (n h i : Int) (l : Bs) (j c : Int) (v : Bs) (sb : ByteArray) (Q : Exit → List TV → VT → List Nat → Nat → Prop) : vx Tryz.prog noGl noSp (tellS [(43, .elt [.val (.int .i64 c), .vec 1 v .none], none), (49, .elt [.val (.int .i64 c), .vec 1 v .none], none), (57, .elt [.val (.int .i64 c), .vec 1 v .none], none), (64, .elt [.val (.int .i64 c), .vec 1 v .none], none), (60, .val (.string sb), none), (67, .val (.string sb), none)]) 300 noLp none 0 (loopAt Tryz.prog s8F 0) (slotsN 71 s8K (s8V l j)) (s8Z n h i l) [] (pickS s8K Q) =
 (bif decide (j < (↑(List.length l) : Int))
 then (OPure Tryz.prog (fun _ => .none) (.indexAddr 68 (.tmp 41) (.tmp 42)) [(41, (zz8 l)), (42, (zz1 j))] (zz27 c v) ∧
 (OPure Tryz.prog (fun _ => .none) (.indexAddr 68 (.tmp 47) (.tmp 48)) [(47, (zz8 l)), (48, (zz1 j))] (zz27 c v) ∧
 (bif eqRes BinOp.neq (k6 c c)
 then Q .ret (zz32 (↑(List.length l) : Int) j) (zz29 n h i l n h i l) [] 71
 else (OPure Tryz.prog (fun _ => .none) (.indexAddr 68 (.tmp 55) (.tmp 56)) [(55, (zz8 l)), (56, (zz1 j))] (zz27 c v) ∧
 (OConv Tryz.prog (zz29 n h i l n h i l) 22 9 (zz2 v) (.val (.string sb)) ∧
 (OPure Tryz.prog (fun _ => .none) (.indexAddr 68 (.tmp 62) (.tmp 63)) [(62, (zz8 l)), (63, (zz1 j))] (zz27 c v) ∧
 (OConv Tryz.prog (zz29 n h i l n h i l) 22 9 (zz2 v) (.val (.string sb)) ∧
 (bif eqRes BinOp.neq (keyEq (Value.string sb) (Value.string sb))
 then Q .ret (zz32 (↑(List.length l) : Int) j) (zz29 n h i l n h i l) [] 71
 else Q .normal (zz32 (↑(List.length l) : Int) (IntKind.wrap IntKind.i64 (j + (1 : Int)))) (zz29 n h i l n h i l) [] 71))))))))
 else Q (.exit 0) (zz32 (↑(List.length l) : Int) j) (zz29 n h i l n h i l) [] 71) := by kernel_rfl
abbrev zzy59 (u : UpS) : VO := (zz93 (UpS.w u) (UpS.o u) (UpS.x u) (UpS.h u) (UpS.m u) (UpS.hm u) (UpS.n u))
theorem ev_s9 (u : UpS) (Q : TV → VT → Prop) : vcallF Tryz.prog noGl (specs [(s3F, s3W), (s7F, s7W)]) noOra 300 noLp 0 s9F [.agg u.cells, .agg u.cells] zz211 Q =
 (PxEq (UpS.w u) (UpS.w u) ∧
 (PxEq (UpS.n u) (UpS.n u) ∧
 (AtEq [(zz1 (UpS.o u)), (zz2 (UpS.x u)), (zz7 (UpS.h u)), (zz1 (UpS.m u)), (zz9 (UpS.hm u))] [(zz1 (UpS.o u)), (zz2 (UpS.x u)), (zz7 (UpS.h u)), (zz1 (UpS.m u)), (zz9 (UpS.hm u))] ∧
 Q zz133 ⟨[(zzy59 u), (zzy59 u)], []⟩))) := by kernel_rfl
abbrev zzy60 (m : MsgS) : VO := (zz10 (MsgS.k m) (OpS.n (MsgS.op m)) (OpS.h (MsgS.op m)) (OpS.i (MsgS.op m)) (OpS.l (MsgS.op m)) (UpS.w (MsgS.u m)) (UpS.o (MsgS.u m)) (UpS.x (MsgS.u m)) (UpS.h (MsgS.u m)) (UpS.m (MsgS.u m)) (UpS.hm (MsgS.u m)) (UpS.n (MsgS.u m)) (MsgS.c m) (MsgS.s m) (MsgS.d m))
theorem ev_s11 (m : MsgS) (Q : TV → VT → Prop) : vcallF Tryz.prog noGl (specs [(s8F, s8W), (s9F, s9W), (flF, flW)]) noOra 300 noLp 0 s11F [.agg m.cells, .agg m.cells] zz211 Q =
 (bif eqRes BinOp.eql (k6 (MsgS.k m) (MsgS.k m))
 then (OpEq [(zz1 (OpS.n (MsgS.op m))), (zz1 (OpS.h (MsgS.op m))), (zz7 (OpS.i (MsgS.op m))), (zz8 (OpS.l (MsgS.op m)))] [(zz1 (OpS.n (MsgS.op m))), (zz1 (OpS.h (MsgS.op m))), (zz7 (OpS.i (MsgS.op m))), (zz8 (OpS.l (MsgS.op m)))] ∧
 (UpEq [(zz8 (UpS.w (MsgS.u m))), (zz1 (UpS.o (MsgS.u m))), (zz2 (UpS.x (MsgS.u m))), (zz7 (UpS.h (MsgS.u m))), (zz1 (UpS.m (MsgS.u m))), (zz9 (UpS.hm (MsgS.u m))), (zz8 (UpS.n (MsgS.u m)))] [(zz8 (UpS.w (MsgS.u m))), (zz1 (UpS.o (MsgS.u m))), (zz2 (UpS.x (MsgS.u m))), (zz7 (UpS.h (MsgS.u m))), (zz1 (UpS.m (MsgS.u m))), (zz9 (UpS.hm (MsgS.u m))), (zz8 (UpS.n (MsgS.u m)))] ∧
 (FtEq (zz26 (MsgS.c m) (MsgS.s m) (MsgS.d m)) (zz26 (MsgS.c m) (MsgS.s m) (MsgS.d m)) ∧
 Q zz133 ⟨[(zzy60 m), (zzy60 m)], []⟩)))
 else Q zz20 ⟨[(zzy60 m), (zzy60 m)], []⟩) := by kernel_rfl
abbrev zzy61 (m : MsgS) : VT := (zz25 (MsgS.k m) (OpS.n (MsgS.op m)) (OpS.h (MsgS.op m)) (OpS.i (MsgS.op m)) (OpS.l (MsgS.op m)) (UpS.w (MsgS.u m)) (UpS.o (MsgS.u m)) (UpS.x (MsgS.u m)) (UpS.h (MsgS.u m)) (UpS.m (MsgS.u m)) (UpS.hm (MsgS.u m)) (UpS.n (MsgS.u m)) (MsgS.c m) (MsgS.s m) (MsgS.d m) (MsgS.k m) (OpS.n (MsgS.op m)) (OpS.h (MsgS.op m)) (OpS.i (MsgS.op m)) (MsgS.c m) (MsgS.s m) (MsgS.d m))
abbrev zzy62 (m : MsgS) : TV := (zz168 (OpS.l (MsgS.op m)) (List.length (OpS.l (MsgS.op m))))
theorem ev_pl (m : MsgS) (ln : Bool) (Q : TV → VT → Prop) : vcallF Tryz.prog noGl noSp noOra 300 (plL m ln (codeAt Tryz.prog pl11F 0)) 0 pl11F [.agg m.cells] zz211 Q =
 ((codeAt Tryz.prog pl11F (0 : Nat) = codeAt Tryz.prog pl11F (0 : Nat)) ∧
 (((@Eq (Option Nat) .none .none) ∧
 ((@Eq (Nat) 0 0) ∧
 ((@Eq (List Nat) [] []) ∧
 (True  ∧
 ((@Eq (VT) (zzy61 m) (zzy61 m)) ∧
 ((@Eq (Bool) true true) ∧
 (@Eq (List TV) [zz30, zz31, (.ptr 2 0), (zz8 (OpS.l (MsgS.op m))), (zz1 (↑(List.length (OpS.l (MsgS.op m))) : Int)), zz4] [zz30, zz31, (.ptr 2 0), (zz8 (OpS.l (MsgS.op m))), (zz1 (↑(List.length (OpS.l (MsgS.op m))) : Int)), zz4]))))))) ∧
 (bif ln
 then Q (.agg [(zz1 (MsgS.k m)), (zz1 (OpS.n (MsgS.op m))), (zz1 (OpS.h (MsgS.op m))), (zz7 (OpS.i (MsgS.op m))), zz18, (zz8 (UpS.w (MsgS.u m))), (zz1 (UpS.o (MsgS.u m))), (zz2 (UpS.x (MsgS.u m))), (zz7 (UpS.h (MsgS.u m))), (zz1 (UpS.m (MsgS.u m))), (zz9 (UpS.hm (MsgS.u m))), (zz8 (UpS.n (MsgS.u m))), (zz1 (MsgS.c m)), (zz1 (MsgS.s m)), (zz2 (MsgS.d m))]) ⟨[(zzy60 m), (.cells [(zz1 (MsgS.k m)), (zz1 (OpS.n (MsgS.op m))), (zz1 (OpS.h (MsgS.op m))), (zz7 (OpS.i (MsgS.op m))), zz18, (zz8 (UpS.w (MsgS.u m))), (zz1 (UpS.o (MsgS.u m))), (zz2 (UpS.x (MsgS.u m))), (zz7 (UpS.h (MsgS.u m))), (zz1 (UpS.m (MsgS.u m))), (zz9 (UpS.hm (MsgS.u m))), (zz8 (UpS.n (MsgS.u m))), (zz1 (MsgS.c m)), (zz1 (MsgS.s m)), (zz2 (MsgS.d m))]), (.cells [(zz1 (MsgS.k m)), (zz1 (OpS.n (MsgS.op m))), (zz1 (OpS.h (MsgS.op m))), (zz7 (OpS.i (MsgS.op m))), zz18, (zz8 (UpS.w (MsgS.u m))), (zz1 (UpS.o (MsgS.u m))), (zz2 (UpS.x (MsgS.u m))), (zz7 (UpS.h (MsgS.u m))), (zz1 (UpS.m (MsgS.u m))), (zz9 (UpS.hm (MsgS.u m))), (zz8 (UpS.n (MsgS.u m))), (zz1 (MsgS.c m)), (zz1 (MsgS.s m)), (zz2 (MsgS.d m))])], []⟩
 else Q (.agg [(zz1 (MsgS.k m)), (zz1 (OpS.n (MsgS.op m))), (zz1 (OpS.h (MsgS.op m))), (zz7 (OpS.i (MsgS.op m))), (zzy62 m), (zz8 (UpS.w (MsgS.u m))), (zz1 (UpS.o (MsgS.u m))), (zz2 (UpS.x (MsgS.u m))), (zz7 (UpS.h (MsgS.u m))), (zz1 (UpS.m (MsgS.u m))), (zz9 (UpS.hm (MsgS.u m))), (zz8 (UpS.n (MsgS.u m))), (zz1 (MsgS.c m)), (zz1 (MsgS.s m)), (zz2 (MsgS.d m))]) ⟨[(zzy60 m), (.cells [(zz1 (MsgS.k m)), (zz1 (OpS.n (MsgS.op m))), (zz1 (OpS.h (MsgS.op m))), (zz7 (OpS.i (MsgS.op m))), (zzy62 m), (zz8 (UpS.w (MsgS.u m))), (zz1 (UpS.o (MsgS.u m))), (zz2 (UpS.x (MsgS.u m))), (zz7 (UpS.h (MsgS.u m))), (zz1 (UpS.m (MsgS.u m))), (zz9 (UpS.hm (MsgS.u m))), (zz8 (UpS.n (MsgS.u m))), (zz1 (MsgS.c m)), (zz1 (MsgS.s m)), (zz2 (MsgS.d m))]), (.cells [(zz1 (MsgS.k m)), (zz1 (OpS.n (MsgS.op m))), (zz1 (OpS.h (MsgS.op m))), (zz7 (OpS.i (MsgS.op m))), (zzy62 m), (zz8 (UpS.w (MsgS.u m))), (zz1 (UpS.o (MsgS.u m))), (zz2 (UpS.x (MsgS.u m))), (zz7 (UpS.h (MsgS.u m))), (zz1 (UpS.m (MsgS.u m))), (zz9 (UpS.hm (MsgS.u m))), (zz8 (UpS.n (MsgS.u m))), (zz1 (MsgS.c m)), (zz1 (MsgS.s m)), (zz2 (MsgS.d m))])], [((List.length (OpS.l (MsgS.op m))), (2, true))]⟩))) := by kernel_rfl
abbrev zzy63 (m : MsgS) (l : Bs) (x : TV) : VO := (zz10 (MsgS.k m) (OpS.n (MsgS.op m)) (OpS.h (MsgS.op m)) (OpS.i (MsgS.op m)) (OpS.l (MsgS.op m)) (UpS.w (MsgS.u m)) (UpS.o (MsgS.u m)) (UpS.x (MsgS.u m)) (UpS.h (MsgS.u m)) (UpS.m (MsgS.u m)) (UpS.hm (MsgS.u m)) (UpS.n (MsgS.u m)) (MsgS.c m) (MsgS.s m) (MsgS.d m))
theorem ev_plA (m : MsgS) (l l2 : Bs) (kk nn : Nat) (j e : Int) (v : Bs) (x : TV) (tl tl2 : Tl7) (Q : Exit → List TV → VT → List Nat → Nat → Prop) : vx Tryz.prog noGl noSp (tellS [(28, .elt [.val (.int .i64 e), .vec 1 v .none], none), (35, .vec 2 l2 (.tail kk nn), some fun T => { T with tails := tl2 })]) 300 noLp none 0 (loopAt Tryz.prog pl11F 0) (slotsN 51 plK (plV l j)) ⟨[.cells m.cells, pl0, plA m x], tl⟩ [] (pickS plK Q) =
 (bif decide (j < (↑(List.length l) : Int))
 then (OPure Tryz.prog (fun _ => .none) (.indexAddr 55 (.tmp 24) (.tmp 26)) [(24, (zz8 l)), (26, (zz1 j))] (zz27 e v) ∧
 (OTurn Tryz.prog (fun _ => .none) 0 (zz24 (MsgS.k m) (OpS.n (MsgS.op m)) (OpS.h (MsgS.op m)) (OpS.i (MsgS.op m)) (OpS.l (MsgS.op m)) (UpS.w (MsgS.u m)) (UpS.o (MsgS.u m)) (UpS.x (MsgS.u m)) (UpS.h (MsgS.u m)) (UpS.m (MsgS.u m)) (UpS.hm (MsgS.u m)) (UpS.n (MsgS.u m)) (MsgS.c m) (MsgS.s m) (MsgS.d m) (MsgS.k m) (OpS.n (MsgS.op m)) (OpS.h (MsgS.op m)) (OpS.i (MsgS.op m)) x (MsgS.c m) (MsgS.s m) (MsgS.d m) e v tl) (.call ⟨(.builtin .append), #[(.tmp 32), (.tmp 34)], #[68, 68]⟩) [(32, (x)), (34, (.vec 2 [[(.val (.int .i64 (e))), (.vec 1 (v) .none)]] .full))] (.vec 2 l2 (.tail kk nn)) (zz24 (MsgS.k m) (OpS.n (MsgS.op m)) (OpS.h (MsgS.op m)) (OpS.i (MsgS.op m)) (OpS.l (MsgS.op m)) (UpS.w (MsgS.u m)) (UpS.o (MsgS.u m)) (UpS.x (MsgS.u m)) (UpS.h (MsgS.u m)) (UpS.m (MsgS.u m)) (UpS.hm (MsgS.u m)) (UpS.n (MsgS.u m)) (MsgS.c m) (MsgS.s m) (MsgS.d m) (MsgS.k m) (OpS.n (MsgS.op m)) (OpS.h (MsgS.op m)) (OpS.i (MsgS.op m)) x (MsgS.c m) (MsgS.s m) (MsgS.d m) e v tl2) ∧
 Q .normal [zz30, zz31, (.ptr 2 0), (zz8 l), (zz1 (↑(List.length l) : Int)), (zz1 (IntKind.wrap IntKind.i64 (j + (1 : Int))))] ⟨[(zzy63 m l x), zz22, (.cells [(zz1 (MsgS.k m)), (zz1 (OpS.n (MsgS.op m))), (zz1 (OpS.h (MsgS.op m))), (zz7 (OpS.i (MsgS.op m))), (.vec 2 l2 (.tail kk nn)), zz18, zz4, zz18, zz19, zz4, zz20, zz18, (zz1 (MsgS.c m)), (zz1 (MsgS.s m)), (zz2 (MsgS.d m))]), (zz23 e v)], tl2⟩ [] 51))
 else Q (.exit 0) [zz30, zz31, (.ptr 2 0), (zz8 l), (zz1 (↑(List.length l) : Int)), (zz1 j)] ⟨[(zzy63 m l x), zz22, (zz21 (MsgS.k m) (OpS.n (MsgS.op m)) (OpS.h (MsgS.op m)) (OpS.i (MsgS.op m)) x (MsgS.c m) (MsgS.s m) (MsgS.d m))], tl⟩ [] 51) := by kernel_rfl
end Go.Proofs.YtogbdjlelkepcaaGreatDoor
namespace Go.Proofs.YtogbdjlelkepcaaGreatDoor
open Go.RowKit

section
variable {P : Program} {G : Globs}
theorem wrapC {j len : Nat} (h : j < len) (hlen : len ≤ 2000000) : IntKind.wrap IntKind.i64 (((j : Nat) : Int) + (1 : Int)) = ((j + 1 : Nat) : Int) := by
 simp only [IntKind.wrap, IntKind.bits, IntKind.signed]; simp; omega
theorem cntLoop {f : FuncId} {id : Nat} (hc : isLoopBlock id (codeAt P f id) = true) (n : Nat) (keys : List Nat) (sl : Int → List TV) (T : VT) (len : Nat) (Post : Exit → List TV → VT → Prop)
  (hbody : ∀ j : Nat, j ≤ len → VWx P G none 0 (loopAt P f id) (slotsN n keys (sl j)) T [] (pickS keys fun e vs T' D m => D = [] ∧ m = n ∧ match e with
   | .normal => j < len ∧ ((T' = T ∧ vs = sl (j + 1 : Nat)) ∨ (T'.keep T.objs.length T.tails.length = T ∧ renL (Go.Proofs.YtogbdjlelkepcaaGreatDoor.keep T.objs.length) (Go.Proofs.YtogbdjlelkepcaaGreatDoor.keep T.tails.length) vs = sl (j + 1 : Nat)))
   | .exit i => cond (Nat.beq i id) (Post .normal vs T') (Post (.exit i) vs T')
   | e => Post e vs T')) :
  ∀ K : KX, (∀ e vs T', Post e vs T' → K e (slotsN n keys vs) T' []) → VWx P G none 0 (codeAt P f id) (slotsN n keys (sl (0 : Nat))) T [] K := by
 intro K hK
 refine loopK (f := f) (id := id) hc n keys (fun j : Nat => len - j) (fun j : Nat => sl j) (fun _ => T) (fun j => j ≤ len) T.objs.length T.tails.length (fun _ _ => ⟨Nat.le_refl _, Nat.le_refl _⟩) Post (fun j hj => ?_) 0 (Nat.zero_le _) K hK
 refine (hbody j hj).mono fun e σ T' D hq => ?_
 obtain ⟨h1, h2, h3⟩ := hq
 refine ⟨h1, h2, ?_⟩
 cases e
 case normal =>
  obtain ⟨hlt, h4⟩ := h3
  refine ⟨j + 1, hlt, by show len - (j + 1) < len - j; omega, ?_⟩
  exact h4
 case exit i => exact h3
 all_goals exact h3
end
theorem bytesOf_bV : ∀ l : List Int, bytesOf (bV l) = some l
 | [] => rfl
 | z :: l => by
  have h := bytesOf_bV l
  simp only [bV, List.map_cons] at h ⊢
  simp only [bT, bytesOf, h]
  rfl
def strB (d : Bs) : ByteArray := bstrZ ((bytesOf d).getD [])
theorem eqSq (s : ByteArray) : eqRes BinOp.eql (keyEq (.string s) (.string s)) = true := by
 have h := (fit_eq (c := .str) (x := .string s) (y := .string s) rfl rfl).2 rfl
 simp [eqRes, keyEq, h]
theorem neSq (s : ByteArray) : eqRes BinOp.neq (keyEq (.string s) (.string s)) = false := by
 have h := (fit_eq (c := .str) (x := .string s) (y := .string s) rfl rfl).2 rfl
 simp [eqRes, keyEq, h]
theorem cellEq_int (k : IntKind) (z : Int) : cellEq (.int k z) (.int k z) = true := by simp [cellEq]
theorem neSelf (k : IntKind) (z : Int) : eqRes BinOp.neq (keyEq (.int k z) (.int k z)) = false := by simp [eqRes, keyEq, cellEq]
theorem eqSelf (k : IntKind) (z : Int) : eqRes BinOp.eql (keyEq (.int k z) (.int k z)) = true := by simp [eqRes, keyEq, cellEq]
theorem neSelfB (b : Bool) : eqRes BinOp.neq (keyEq (.bool b) (.bool b)) = false := by simp [eqRes, keyEq, cellEq]
theorem eqAll_self : ∀ l : List Value, (∀ v ∈ l, cellEq v v = true) → eqAll l l = true
 | [], _ => rfl
 | v :: l, h => by
  unfold eqAll
  rw [h v List.mem_cons_self, cond_true]
  exact eqAll_self l fun w hw => h w (List.mem_cons_of_mem _ hw)
theorem neAgg (l : List Value) (h : ∀ v ∈ l, cellEq v v = true) : eqRes BinOp.neq (keyEq (.agg l.toArray) (.agg l.toArray)) = false := by
 have e : keyEq (.agg l.toArray) (.agg l.toArray) = eqAll l l := by simp [keyEq]
 rw [e, eqAll_self l h]; rfl
end Go.Proofs.YtogbdjlelkepcaaGreatDoor
namespace Go.Proofs.YtogbdjlelkepcaaGreatDoor
open Go.RowKit

theorem conv_ok {d : Bs} (hd : IsB d) (T : VT) : vconvS Tryz.prog T 22 9 (.vec 1 d .none) = some (.val (.string (strB d))) := by
 obtain ⟨⟨l, rfl, _⟩, _⟩ := hd
 have hr : rowsR T 1 (.vec 1 (bV l) .none) = some (bV l) := by simp [rowsR]
 simp only [vconvS, Tryz.underlying22, Tryz.underlying9, Tryz.underlying5, hr, bytesOf_bV, Option.map_some, strB, Option.getD_some]
theorem oconv_ok {d : Bs} (hd : IsB d) (T : VT) : OConv Tryz.prog T 22 9 (.vec 1 d .none) (.val (.string (strB d))) := .mk rfl (conv_ok hd T)
theorem oturn_conv {ro : Nat} {T : VT} {a : Operand} {l : List (Nat × TV)} {d : Bs} (hd : IsB d) (ha : evOf noGl l a = .vec 1 d .none) : OTurn Tryz.prog noGl ro T (.convert 22 9 a) l (.val (.string (strB d))) T := by
 refine .mk ?_
 have h1 : vpure2 Tryz.prog (.convert 22 9 a) (evOf noGl l) = none := by simp [vpure2, vpure, ha, toVal]
 have h2 : vread2 Tryz.prog T (.convert 22 9 a) (evOf noGl l) = some (.val (.string (strB d))) := by simp only [vread2, ha, conv_ok hd]
 simp only [vopA, h1, h2]
theorem fl_vcx (c s : Int) {d : Bs} (hd : IsB d) : VCx Tryz.prog noGl 0 flF [ftT c s d, ftT c s d] ⟨[], []⟩ fun x T' => x = .val (.bool true) ∧ T' = ⟨[], []⟩ := by
 refine VCx.keepQ 0 0 (Nat.le_refl _) (Nat.le_refl _) (vcallF_is mixedB_Tryz bodiesB_Tryz specsOk_none lsOk_none (ev_fl c s d (strB d) _) ?_)
 refine condT (eqSelf _ _) (condT (eqSelf _ _) ⟨oturn_conv hd rfl, oturn_conv hd rfl, ?_, rfl⟩)
 rw [eqSq]; rfl
theorem opure_px {x i : Operand} {l : List (Nat × TV)} {es : Bs} {tok : Tok} {k : IntKind} {z : Int} {cs : List TV} (hx : evOf noGl l x = .vec 2 es tok) (hz : evOf noGl l i = .val (.int k z)) (h0 : 0 ≤ z) (he : es[z.toNat]? = some cs) : OPure Tryz.prog noGl (.indexAddr 58 x i) l (.elt cs) := by
 obtain ⟨inf, i1, i2, i3, i4⟩ := apInf_ex
 exact opure_index (inf := inf) Tryz.underlying58 i1 (by rw [i2]; exact hx) hz h0 he
theorem s3_loop {l : Bs} (hl : PxWf l) : LsOk Tryz.prog noGl (s3L l (codeAt Tryz.prog s3F 0)) := specsL_ok fun p hp => by
  obtain rfl := List.mem_singleton.1 hp
  obtain ⟨ps, rfl, hn⟩ := hl
  refine loopL_ok fun K hK => cntLoop (f := s3F) (id := 0) (by kernel_rfl) 26 s3K (s3V (ps.map pxE)) ⟨[], []⟩ ps.length (fun e vs T => e = .normal ∧ vs = s3V (ps.map pxE) (ps.map pxE).length ∧ T = ⟨[], []⟩) (fun j hj => ?_) K (fun e vs T ⟨h1, h2, h3⟩ => by subst h1 h2 h3; exact hK)
  by_cases hlt : j < ps.length
  · have hat : (ps.map pxE)[((j : Nat) : Int).toNat]? = some (pxE ps[j]) := by rw [Int.toNat_natCast, List.getElem?_map, List.getElem?_eq_getElem hlt]; rfl
    refine vx_is mixedB_Tryz bodiesB_Tryz specsOk_none lsOk_none (ev_s3A (ps.map pxE) j ps[j].1 ps[j].2 _) ?_
    refine condT (decide_eq_true (by rw [List.length_map]; omega)) ⟨opure_px rfl rfl (by omega) hat, opure_px rfl rfl (by omega) hat, condF (neAgg [.int .u32 ps[j].1, .int .i64 ps[j].2] (fun v hv => by simp only [List.mem_cons, List.not_mem_nil, or_false] at hv; rcases hv with rfl | rfl <;> exact cellEq_int _ _)) ?_⟩
    exact ⟨rfl, rfl, hlt, .inl ⟨rfl, by rw [wrapC hlt hn]; rfl⟩⟩
  · have hj2 : j = ps.length := by omega
    refine vx_is mixedB_Tryz bodiesB_Tryz specsOk_none lsOk_none (ev_s3A (ps.map pxE) j 0 0 _) ?_
    exact condF (decide_eq_false (by rw [List.length_map]; omega)) ⟨rfl, rfl, rfl, by rw [hj2]; simp only [s3V, List.length_map], rfl⟩
theorem s3_vcx {l : Bs} (hl : PxWf l) : VCx Tryz.prog noGl 0 s3F [.vec 2 l .none, .vec 2 l .none] ⟨[], []⟩ fun x T' => x = .val (.bool true) ∧ T' = ⟨[], []⟩ := by
 refine VCx.keepQ 0 0 (Nat.le_refl _) (Nat.le_refl _) (vcallF_is mixedB_Tryz bodiesB_Tryz specsOk_none (s3_loop hl) (ev_s3 l _) ?_)
 exact condF (neSelf _ _) ⟨rfl, ⟨rfl, rfl, rfl, trivial, rfl, rfl, rfl⟩, rfl, rfl⟩
theorem s7_loop (o h m : Int) (hm : Bool) {x : Bs} (hx : IvWf x) : LsOk Tryz.prog noGl (s7L o h m hm x (codeAt Tryz.prog s7F 0)) := specsL_ok fun p hp => by
  obtain rfl := List.mem_singleton.1 hp
  obtain ⟨ps, rfl, hn⟩ := hx
  refine loopL_ok fun K hK => cntLoop (f := s7F) (id := 0) (by kernel_rfl) 59 s7K (s7V (iV ps)) (s7Z o h m hm (iV ps)) ps.length (fun e vs T => e = .normal ∧ vs = s7V (iV ps) (iV ps).length ∧ T = s7Z o h m hm (iV ps)) (fun j hj => ?_) K (fun e vs T ⟨h1, h2, h3⟩ => by subst h1 h2 h3; exact hK)
  by_cases hlt : j < ps.length
  · have hat : (iV ps)[((j : Nat) : Int).toNat]? = some (iT ps[j]) := by rw [Int.toNat_natCast, iV, List.getElem?_map, List.getElem?_eq_getElem hlt]; rfl
    refine vx_is mixedB_Tryz bodiesB_Tryz specsOk_none lsOk_none (ev_s7A o h m hm (iV ps) j ps[j] _) ?_
    refine condT (decide_eq_true (by rw [iV_len]; omega)) ⟨opure_in rfl rfl (by omega) hat, opure_in rfl rfl (by omega) hat, condF (neSelf _ _) ?_⟩
    exact ⟨rfl, rfl, hlt, .inl ⟨rfl, by rw [wrapC hlt hn]; rfl⟩⟩
  · have hj2 : j = ps.length := by omega
    refine vx_is mixedB_Tryz bodiesB_Tryz specsOk_none lsOk_none (ev_s7A o h m hm (iV ps) j 0 _) ?_
    exact condF (decide_eq_false (by rw [iV_len]; omega)) ⟨rfl, rfl, rfl, by rw [hj2]; simp only [s7V, iV_len], rfl⟩
theorem s7_vcx (o h m : Int) (hm : Bool) {x : Bs} (hx : IvWf x) : VCx Tryz.prog noGl 0 s7F [s7T o h m hm x, s7T o h m hm x] ⟨[], []⟩ fun y T' => y = .val (.bool true) ∧ T' = ⟨[], []⟩ := by
 refine VCx.keepQ 0 0 (Nat.le_refl _) (Nat.le_refl _) (vcallF_is mixedB_Tryz bodiesB_Tryz specsOk_none (s7_loop o h m hm hx) (ev_s7 o h m hm x _) ?_)
 exact condF (neSelf _ _) (condF (neSelf _ _) (condF (neSelf _ _) (condF (neSelfB _) (condF (neSelf _ _) ⟨rfl, ⟨rfl, rfl, rfl, trivial, rfl, rfl, rfl⟩, rfl, rfl⟩))))
theorem q8Inf_ex : ∃ inf : TypeInfo, Tryz.prog.info? 102 = some inf ∧ inf.size = 2 ∧ inf.bytes + 1 ≤ 1000 ∧ inf.zero = some (.agg #[.int .i64 0, .slice none 0 0]) :=
 ⟨(Tryz.prog.info? 102).getD default, by kernel_rfl, by kernel_rfl, Nat.le_of_ble_eq_true (by kernel_rfl), by kernel_rfl⟩
theorem opure_q8 {x i : Operand} {l : List (Nat × TV)} {es : Bs} {tok : Tok} {k : IntKind} {z : Int} {cs : List TV} (hx : evOf noGl l x = .vec 2 es tok) (hz : evOf noGl l i = .val (.int k z)) (h0 : 0 ≤ z) (he : es[z.toNat]? = some cs) : OPure Tryz.prog noGl (.indexAddr 68 x i) l (.elt cs) := by
 obtain ⟨inf, i1, i2, i3, i4⟩ := q8Inf_ex
 exact opure_index (inf := inf) Tryz.underlying68 i1 (by rw [i2]; exact hx) hz h0 he
theorem opure_oc {x i : Operand} {l : List (Nat × TV)} {es : Bs} {tok : Tok} {k : IntKind} {z : Int} {cs : List TV} (hx : evOf noGl l x = .vec 2 es tok) (hz : evOf noGl l i = .val (.int k z)) (h0 : 0 ≤ z) (he : es[z.toNat]? = some cs) : OPure Tryz.prog noGl (.indexAddr 55 x i) l (.elt cs) := by
 obtain ⟨inf, i1, i2, i3, i4⟩ := cpInf_ex
 exact opure_index (inf := inf) Tryz.underlying55 i1 (by rw [i2]; exact hx) hz h0 he
theorem s8_loop (n h i : Int) {l : Bs} (hl : CpWf l) : LsOk Tryz.prog noGl (s8L n h i l (codeAt Tryz.prog s8F 0)) := specsL_ok fun p hp => by
  obtain rfl := List.mem_singleton.1 hp
  obtain ⟨ps, rfl, hB, hn⟩ := hl
  refine loopL_ok fun K hK => cntLoop (f := s8F) (id := 0) (by kernel_rfl) 71 s8K (s8V (ps.map cpE)) (s8Z n h i (ps.map cpE)) ps.length (fun e vs T => e = .normal ∧ vs = s8V (ps.map cpE) (ps.map cpE).length ∧ T = s8Z n h i (ps.map cpE)) (fun j hj => ?_) K (fun e vs T ⟨h1, h2, h3⟩ => by subst h1 h2 h3; exact hK)
  by_cases hlt : j < ps.length
  · have hat : (ps.map cpE)[((j : Nat) : Int).toNat]? = some (cpE ps[j]) := by rw [Int.toNat_natCast, List.getElem?_map, List.getElem?_eq_getElem hlt]; rfl
    have hv : IsB ps[j].2 := hB _ (List.getElem_mem hlt)
    refine vx_is mixedB_Tryz bodiesB_Tryz specsOk_none lsOk_none (ev_s8A n h i (ps.map cpE) j ps[j].1 ps[j].2 (strB ps[j].2) _) ?_
    refine condT (decide_eq_true (by rw [List.length_map]; omega)) ⟨opure_q8 rfl rfl (by omega) hat, opure_q8 rfl rfl (by omega) hat, condF (neSelf _ _) ⟨opure_q8 rfl rfl (by omega) hat, oconv_ok hv _, opure_q8 rfl rfl (by omega) hat, oconv_ok hv _, condF (neSq _) ?_⟩⟩
    exact ⟨rfl, rfl, hlt, .inl ⟨rfl, by rw [wrapC hlt hn]; rfl⟩⟩
  · have hj2 : j = ps.length := by omega
    refine vx_is mixedB_Tryz bodiesB_Tryz specsOk_none lsOk_none (ev_s8A n h i (ps.map cpE) j 0 [] (strB []) _) ?_
    exact condF (decide_eq_false (by rw [List.length_map]; omega)) ⟨rfl, rfl, rfl, by rw [hj2]; simp only [s8V, List.length_map], rfl⟩
theorem s8_vcx {o : OpS} (ho : OpWf o) : VCx Tryz.prog noGl 0 s8F [.agg o.cells, .agg o.cells] ⟨[], []⟩ fun y T' => y = .val (.bool true) ∧ T' = ⟨[], []⟩ := by
 refine VCx.keepQ 0 0 (Nat.le_refl _) (Nat.le_refl _) (vcallF_is mixedB_Tryz bodiesB_Tryz specsOk_none (s8_loop o.n o.h o.i ho) (ev_s8 o.n o.h o.i o.l _) ?_)
 exact condF (neSelf _ _) (condF (neSelf _ _) (condF (neSelf _ _) (condF (neSelf _ _) ⟨rfl, ⟨rfl, rfl, rfl, trivial, rfl, rfl, rfl⟩, rfl, rfl⟩)))
theorem s3W_ok {G : Globs} (hG : GVals G) : ∀ ro ys T K, s3W ro ys T K → VCx Tryz.prog G ro s3F ys T K := by
 intro ro ys T K hw
 unfold s3W at hw
 split at hw
 ·rename_i l tok l' tok'
  obtain ⟨⟨rfl, hl⟩, hk⟩ := hw
  exact VCx.loosePure hG (VCx.anyG (s3_vcx hl)) (by simp [looseTV]) (by simp [renL, TV.ren, hl.ren, Tok.ren]) (fun _ _ => rfl) hk
 ·exact hw.elim
theorem s7W_ok {G : Globs} (hG : GVals G) : ∀ ro ys T K, s7W ro ys T K → VCx Tryz.prog G ro s7F ys T K := by
 intro ro ys T K hw
 unfold s7W at hw
 split at hw
 ·obtain ⟨⟨rfl, o, h, m, hm, x, hx, rfl⟩, hk⟩ := hw
  exact VCx.liftPure hG (VCx.anyG (s7_vcx o h m hm hx)) (by simp [renL, TV.ren, hx.ren, Tok.ren, s7T]) (fun _ _ => rfl) hk
 ·exact hw.elim
theorem s8W_ok {G : Globs} (hG : GVals G) : ∀ ro ys T K, s8W ro ys T K → VCx Tryz.prog G ro s8F ys T K := by
 intro ro ys T K hw
 unfold s8W at hw
 split at hw
 ·obtain ⟨⟨rfl, o, ho, rfl⟩, hk⟩ := hw
  exact VCx.liftPure hG (VCx.anyG (s8_vcx ho)) (by simp [renL, TV.ren, ho.ren]) (fun _ _ => rfl) hk
 ·exact hw.elim
theorem flW_ok {G : Globs} (hG : GVals G) : ∀ ro ys T K, flW ro ys T K → VCx Tryz.prog G ro flF ys T K := by
 intro ro ys T K hw
 unfold flW at hw
 split at hw
 ·obtain ⟨⟨rfl, c, s, d, hd, rfl⟩, hk⟩ := hw
  exact VCx.liftPure hG (VCx.anyG (fl_vcx c s hd)) (by simp [renL, TV.ren, hd.ren, Tok.ren, ftT]) (fun _ _ => rfl) hk
 ·exact hw.elim
theorem s9_vcx {u : UpS} (hu : UpWf u) : VCx Tryz.prog noGl 0 s9F [.agg u.cells, .agg u.cells] ⟨[], []⟩ fun y T' => y = .val (.bool true) ∧ T' = ⟨[], []⟩ := by
 have hS : SpecsOk Tryz.prog noGl (specs [(s3F, s3W), (s7F, s7W)]) := specs_ok fun p hp => by
  rcases List.mem_cons.1 hp with rfl | hp; exact s3W_ok gvals_noGl
  obtain rfl := List.mem_singleton.1 hp; exact s7W_ok gvals_noGl
 refine VCx.keepQ 0 0 (Nat.le_refl _) (Nat.le_refl _) (vcallF_is mixedB_Tryz bodiesB_Tryz hS lsOk_none (ev_s9 u _) ?_)
 exact ⟨⟨rfl, hu.1⟩, ⟨rfl, hu.2.1⟩, ⟨rfl, _, _, _, _, _, hu.2.2, rfl⟩, rfl, rfl⟩
theorem s9W_ok {G : Globs} (hG : GVals G) : ∀ ro ys T K, s9W ro ys T K → VCx Tryz.prog G ro s9F ys T K := by
 intro ro ys T K hw
 unfold s9W at hw
 split at hw
 ·obtain ⟨⟨rfl, u, hu, rfl⟩, hk⟩ := hw
  exact VCx.liftPure hG (VCx.anyG (s9_vcx hu)) (by simp [renL, TV.ren, hu.ren]) (fun _ _ => rfl) hk
 ·exact hw.elim
theorem s11_vcx {m : MsgS} (hm : MsWf m) : VCx Tryz.prog noGl 0 s11F [.agg m.cells, .agg m.cells] ⟨[], []⟩ fun y T' => y = .val (.bool true) ∧ T' = ⟨[], []⟩ := by
 have hS : SpecsOk Tryz.prog noGl (specs [(s8F, s8W), (s9F, s9W), (flF, flW)]) := specs_ok fun p hp => by
  rcases List.mem_cons.1 hp with rfl | hp; exact s8W_ok gvals_noGl
  rcases List.mem_cons.1 hp with rfl | hp; exact s9W_ok gvals_noGl
  obtain rfl := List.mem_singleton.1 hp; exact flW_ok gvals_noGl
 refine VCx.keepQ 0 0 (Nat.le_refl _) (Nat.le_refl _) (vcallF_is mixedB_Tryz bodiesB_Tryz hS lsOk_none (ev_s11 m _) ?_)
 exact condT (eqSelf _ _) ⟨⟨rfl, m.op, hm.1, rfl⟩, ⟨rfl, m.u, hm.2.1, rfl⟩, ⟨rfl, _, _, _, hm.2.2, rfl⟩, rfl, rfl⟩
theorem oturn_q8 {ro : Nat} {T T1 : VT} {s x : Operand} {l : List (Nat × TV)} {es es2 : List (List TV)} {k n : Nat} {bn : Bool} (hs : vadopt T 2 (evOf noGl l s) = some (es, k, n, bn, T1)) (hx : srcOf 2 (evOf noGl l x) = some es2) (hb : es.length + es2.length ≤ 2000001) :
    OTurn Tryz.prog noGl ro T (.call ⟨.builtin .append, #[s, x], #[68, 68]⟩) l (.vec 2 (es ++ es2) (.tail k (n + es2.length))) { T1 with tails := T1.tails.set k (n + es2.length, 2, bn) } := by
  obtain ⟨inf, i1, i2, i3, i4⟩ := q8Inf_ex
  have h := oturn_app (inf := inf) (P := Tryz.prog) (G := noGl) (ro := ro) (T := T) (T1 := T1) (t := 68) (tx := 68) (s := s) (x := x) (l := l) (es := es) (es2 := es2) (k := k) (n := n) (bn := bn) Tryz.underlying68 i1 i4 (by rw [i2]; rfl) (by rw [i2]; decide) (by kernel_rfl) (by rw [i2]; exact hs) (by rw [i2]; exact hx)
    (by have h1 := i3
        have h2 := Nat.mul_le_mul hb h1
        omega)
  rw [i2] at h
  exact h
def plX (l : Bs) : TV := if l.length = 0 then plN else .vec 2 l (.tail 0 l.length)
def plTl (l : Bs) : Tl7 := if l.length = 0 then [] else [(l.length, 2, true)]
theorem plApp {A : Bs} {p : List TV} {O : List VO} {s x : Operand} {l : List (Nat × TV)} (hs : evOf noGl l s = plX A) (hx : srcOf 2 (evOf noGl l x) = some [p]) (hb : A.length ≤ 2000000) : OTurn Tryz.prog noGl 0 ⟨O, plTl A⟩ (.call ⟨.builtin .append, #[s, x], #[68, 68]⟩) l (.vec 2 (A ++ [p]) (.tail 0 (A.length + 1))) ⟨O, [(A.length + 1, 2, true)]⟩ := by
  by_cases hA : A.length = 0
  · obtain rfl := List.length_eq_zero_iff.1 hA
    exact oturn_q8 (T := ⟨O, []⟩) (T1 := ⟨O, [(0, 2, true)]⟩) (es := []) (es2 := [p]) (k := 0) (n := 0) (bn := true) (by rw [hs]; rfl) hx (by simp)
  · have e1 : plX A = .vec 2 A (.tail 0 A.length) := by unfold plX; rw [if_neg hA]
    have e2 : plTl A = [(A.length, 2, true)] := by unfold plTl; rw [if_neg hA]
    rw [e2]
    exact oturn_q8 (T := ⟨O, [(A.length, 2, true)]⟩) (T1 := ⟨O, [(A.length, 2, true)]⟩) (es := A) (es2 := [p]) (k := 0) (n := A.length) (bn := true) (by rw [hs, e1]; simp [vadopt]) hx (by simp only [List.length_cons, List.length_nil]; omega)
def plZ (m : MsgS) (l : Bs) : VT := ⟨[.cells m.cells, pl0, plA m (plX l)], plTl l⟩
theorem plX_ren {l : Bs} (hl : ∀ f g, renLL f g l = l) : (plX l).ren (Go.Proofs.YtogbdjlelkepcaaGreatDoor.keep 3) (Go.Proofs.YtogbdjlelkepcaaGreatDoor.keep 1) = plX l := by
 unfold plX
 split
 ·rfl
 ·simp only [TV.ren, hl]; rfl
theorem pl_loop {m : MsgS} (hm : MsWf m) {ln : Bool} (hln : ln = decide (m.op.l.length = 0)) : LsOk Tryz.prog noGl (plL m ln (codeAt Tryz.prog pl11F 0)) := specsL_ok fun p hp => by
  obtain rfl := List.mem_singleton.1 hp
  have hmr : ∀ f g, renL f g m.cells = m.cells := hm.ren
  obtain ⟨⟨ps, hl, hB, hn⟩, hu, hd⟩ := hm
  have hll : m.op.l.length = ps.length := by rw [hl, List.length_map]
  refine loopL_ok fun K hK => ?_
  have hpre : ∀ k, (ps.take k).length ≤ 2000000 := fun k => by rw [List.length_take]; omega
  have hren : ∀ k f g, renLL f g ((ps.take k).map cpE) = (ps.take k).map cpE := fun k f g => renLL_cp f g fun p hp => hB p (List.mem_of_mem_take hp)
  refine loopK (f := pl11F) (id := 0) (by kernel_rfl) 51 plK (fun j : Nat => ps.length - j) (fun j : Nat => plV m.op.l j) (fun j => plZ m ((ps.take j).map cpE)) (fun j => j ≤ ps.length) 3 1 (fun j _ => ⟨Nat.le_refl _, by unfold plZ plTl; simp only; split <;> simp⟩)
    (fun e vs T => e = .normal ∧ vs = plV m.op.l m.op.l.length ∧ T = plZ m m.op.l) (fun j hj => ?_) 0 (Nat.zero_le _) K ?_
  · by_cases hlt : j < ps.length
    · have hat : m.op.l[((j : Nat) : Int).toNat]? = some (cpE ps[j]) := by rw [hl, Int.toNat_natCast, List.getElem?_map, List.getElem?_eq_getElem hlt]; rfl
      have ht : ps.take (j + 1) = ps.take j ++ [ps[j]] := by rw [List.take_add_one, List.getElem?_eq_getElem hlt]; rfl
      have hjl : ((ps.take j).map cpE).length = j := by rw [List.length_map, List.length_take]; omega
      have hm1 : (ps.take (j + 1)).map cpE = (ps.take j).map cpE ++ [cpE ps[j]] := by rw [ht, List.map_append]; rfl
      refine vx_is mixedB_Tryz bodiesB_Tryz specsOk_none lsOk_none (ev_plA m m.op.l ((ps.take j).map cpE ++ [cpE ps[j]]) 0 (((ps.take j).map cpE).length + 1) j ps[j].1 ps[j].2 (plX ((ps.take j).map cpE)) (plTl ((ps.take j).map cpE)) [(((ps.take j).map cpE).length + 1, 2, true)] _) ?_
      refine condT (decide_eq_true (by rw [hll]; omega)) ⟨opure_oc rfl rfl (by omega) hat, plApp (A := (ps.take j).map cpE) (p := cpE ps[j]) rfl rfl (by rw [hjl]; omega), rfl, rfl, j + 1, hlt, by show ps.length - (j + 1) < ps.length - j; omega, .inr ⟨?_, ?_⟩⟩
      · have e1 : plX ((ps.take (j + 1)).map cpE) = .vec 2 ((ps.take j).map cpE ++ [cpE ps[j]]) (.tail 0 (((ps.take j).map cpE).length + 1)) := by
          unfold plX; rw [hm1, if_neg (by simp)]; simp
        have e2 : plTl ((ps.take (j + 1)).map cpE) = [(((ps.take j).map cpE).length + 1, 2, true)] := by
          unfold plTl; rw [hm1, if_neg (by simp)]; simp
        have e3 := plX_ren (hren (j + 1))
        show VT.keep _ 3 1 = plZ m ((ps.take (j + 1)).map cpE)
        unfold plZ
        rw [e2, ← e1]
        show VT.keep ⟨[.cells m.cells, pl0, plA m (plX ((ps.take (j + 1)).map cpE)), _], _⟩ 3 1 = _
        simp only [VT.keep, List.take_succ_cons, List.take_zero, List.map_cons, List.map_nil, VO.ren, hmr, plA, renL, TV.ren, e3, hd.ren, Tok.ren, List.take_nil]
        rfl
      · simp only [renL, TV.ren, CpWf.ren ⟨ps, hl, hB, hn⟩, Tok.ren]
        rw [wrapC hlt hn]
        rfl
    · have hj2 : j = ps.length := by omega
      refine vx_is mixedB_Tryz bodiesB_Tryz specsOk_none lsOk_none (ev_plA m m.op.l [] 0 0 j 0 [] (plX ((ps.take j).map cpE)) (plTl ((ps.take j).map cpE)) [] _) ?_
      exact condF (decide_eq_false (by rw [hll]; omega)) ⟨rfl, rfl, rfl, by rw [hj2]; simp only [plV, hll], by
        have e : (ps.take j).map cpE = m.op.l := by rw [hj2, List.take_length, hl]
        rw [e]; rfl⟩
  · rintro e vs T ⟨rfl, rfl, rfl⟩
    subst hln
    unfold plR at hK
    unfold plZ plX plTl
    by_cases h0 : m.op.l.length = 0
    · rw [decide_eq_true h0] at hK
      rw [if_pos h0, if_pos h0]
      exact hK
    · rw [decide_eq_false h0] at hK
      rw [if_neg h0, if_neg h0]
      exact hK
theorem pl_vcx {m : MsgS} (hm : MsWf m) : VCx Tryz.prog noGl 0 pl11F [.agg m.cells] ⟨[], []⟩ fun y T' => y = .agg m.cells ∧ T' = ⟨[], []⟩ := by
 refine VCx.toLe (Q := fun T' => T' = ⟨[], []⟩) (VCx.keepQ 0 0 (Nat.le_refl _) (Nat.le_refl _) (vcallF_is mixedB_Tryz bodiesB_Tryz specsOk_none (pl_loop hm rfl) (ev_pl m (decide (m.op.l.length = 0)) _) ?_))
 refine ⟨rfl, ⟨rfl, rfl, rfl, trivial, rfl, rfl, rfl⟩, cond_of (fun h0 => ⟨?_, rfl⟩) (fun h0 => ⟨?_, rfl⟩)⟩
 ·have h0 := List.length_eq_zero_iff.1 (of_decide_eq_true h0)
  simp only [TV.ren, renL, hm.2.1.1.ren, hm.2.1.2.1.ren, hm.2.1.2.2.ren, hm.2.2.ren, Tok.ren]
  refine .agg ⟨.refl _, .refl _, .refl _, .refl _, ?_, .refl _, .refl _, .refl _, .refl _, .refl _, .refl _, .refl _, .refl _, .refl _, .refl _, trivial⟩
  rw [h0]; exact .nil 2
 ·simp only [TV.ren, renL, CpWf.ren hm.1, hm.2.1.1.ren, hm.2.1.2.1.ren, hm.2.1.2.2.ren, hm.2.2.ren, Tok.ren]
  exact .agg ⟨.refl _, .refl _, .refl _, .refl _, .vec 2 _ _, .refl _, .refl _, .refl _, .refl _, .refl _, .refl _, .refl _, .refl _, .refl _, .refl _, trivial⟩
def PlOk (l : List TV) : Prop := ∃ m : MsgS, MsWf m ∧ l = m.cells
end Go.Proofs.YtogbdjlelkepcaaGreatDoor
namespace Go.Proofs.YtogbdjlelkepcaaGreatDoor
open Go.RowKit

abbrev lv11F := 25
abbrev mrF := 5
def msW : Spec := fun _ ys T K => match ys with
 | [.vec 1 b _, .val (.int .i64 pas)] => IsB b ∧ K (.tup [.agg (msM b pas).cells, ftT (msC b pas) (msS b pas) (msD b pas)]) T
 | _ => vbad 83 default ys
def plW : Spec := fun _ ys T K => match ys with
 | [.agg l] => PlOk l ∧ K (.agg l) T
 | _ => vbad 83 default ys
def s11W : Spec := fun _ ys T K => match ys with
 | [.agg l, .agg l'] => MsEq l l' ∧ K (.val (.bool true)) T
 | _ => vbad 83 default ys
abbrev zzy64 (b : Bs) (pas : Int) : List TV := (zz16 (MsgS.k (msM b pas)) (OpS.n (MsgS.op (msM b pas))) (OpS.h (MsgS.op (msM b pas))) (OpS.i (MsgS.op (msM b pas))) (OpS.l (MsgS.op (msM b pas))) (UpS.w (MsgS.u (msM b pas))) (UpS.o (MsgS.u (msM b pas))) (UpS.x (MsgS.u (msM b pas))) (UpS.h (MsgS.u (msM b pas))) (UpS.m (MsgS.u (msM b pas))) (UpS.hm (MsgS.u (msM b pas))) (UpS.n (MsgS.u (msM b pas))) (MsgS.c (msM b pas)) (MsgS.s (msM b pas)) (MsgS.d (msM b pas)))
abbrev zzy65 (b : Bs) (pas : Int) : VT := (zz13 (hdS b) (hdD b) (MsgS.k (msM b pas)) (OpS.n (MsgS.op (msM b pas))) (OpS.h (MsgS.op (msM b pas))) (OpS.i (MsgS.op (msM b pas))) (OpS.l (MsgS.op (msM b pas))) (UpS.w (MsgS.u (msM b pas))) (UpS.o (MsgS.u (msM b pas))) (UpS.x (MsgS.u (msM b pas))) (UpS.h (MsgS.u (msM b pas))) (UpS.m (MsgS.u (msM b pas))) (UpS.hm (MsgS.u (msM b pas))) (UpS.n (MsgS.u (msM b pas))) (MsgS.c (msM b pas)) (MsgS.s (msM b pas)) (MsgS.d (msM b pas)) (msC b pas) (msS b pas) (msD b pas) (MsgS.k (msM b pas)) (OpS.n (MsgS.op (msM b pas))) (OpS.h (MsgS.op (msM b pas))) (OpS.i (MsgS.op (msM b pas))) (OpS.l (MsgS.op (msM b pas))) (UpS.w (MsgS.u (msM b pas))) (UpS.o (MsgS.u (msM b pas))) (UpS.x (MsgS.u (msM b pas))) (UpS.h (MsgS.u (msM b pas))) (UpS.m (MsgS.u (msM b pas))) (UpS.hm (MsgS.u (msM b pas))) (UpS.n (MsgS.u (msM b pas))) (MsgS.c (msM b pas)) (MsgS.s (msM b pas)) (MsgS.d (msM b pas)) (msC b pas) (msS b pas) (msD b pas))
abbrev zzy66 (b : Bs) (pas : Int) : VT := (zz12 (hdS b) (hdD b) (MsgS.k (msM b pas)) (OpS.n (MsgS.op (msM b pas))) (OpS.h (MsgS.op (msM b pas))) (OpS.i (MsgS.op (msM b pas))) (OpS.l (MsgS.op (msM b pas))) (UpS.w (MsgS.u (msM b pas))) (UpS.o (MsgS.u (msM b pas))) (UpS.x (MsgS.u (msM b pas))) (UpS.h (MsgS.u (msM b pas))) (UpS.m (MsgS.u (msM b pas))) (UpS.hm (MsgS.u (msM b pas))) (UpS.n (MsgS.u (msM b pas))) (MsgS.c (msM b pas)) (MsgS.s (msM b pas)) (MsgS.d (msM b pas)) (msC b pas) (msS b pas) (msD b pas) (MsgS.k (msM b pas)) (OpS.n (MsgS.op (msM b pas))) (OpS.h (MsgS.op (msM b pas))) (OpS.i (MsgS.op (msM b pas))) (OpS.l (MsgS.op (msM b pas))) (UpS.w (MsgS.u (msM b pas))) (UpS.o (MsgS.u (msM b pas))) (UpS.x (MsgS.u (msM b pas))) (UpS.h (MsgS.u (msM b pas))) (UpS.m (MsgS.u (msM b pas))) (UpS.hm (MsgS.u (msM b pas))) (UpS.n (MsgS.u (msM b pas))) (MsgS.c (msM b pas)) (MsgS.s (msM b pas)) (MsgS.d (msM b pas)) (msC b pas) (msS b pas) (msD b pas))
abbrev zzy67 (b : Bs) (pas : Int) : VT := (zz15 (MsgS.k (msM b pas)) (OpS.n (MsgS.op (msM b pas))) (OpS.h (MsgS.op (msM b pas))) (OpS.i (MsgS.op (msM b pas))) (OpS.l (MsgS.op (msM b pas))) (UpS.w (MsgS.u (msM b pas))) (UpS.o (MsgS.u (msM b pas))) (UpS.x (MsgS.u (msM b pas))) (UpS.h (MsgS.u (msM b pas))) (UpS.m (MsgS.u (msM b pas))) (UpS.hm (MsgS.u (msM b pas))) (UpS.n (MsgS.u (msM b pas))) (MsgS.c (msM b pas)) (MsgS.s (msM b pas)) (MsgS.d (msM b pas)) (msC b pas) (msS b pas) (msD b pas) (MsgS.k (msM b pas)) (OpS.n (MsgS.op (msM b pas))) (OpS.h (MsgS.op (msM b pas))) (OpS.i (MsgS.op (msM b pas))) (OpS.l (MsgS.op (msM b pas))) (UpS.w (MsgS.u (msM b pas))) (UpS.o (MsgS.u (msM b pas))) (UpS.x (MsgS.u (msM b pas))) (UpS.h (MsgS.u (msM b pas))) (UpS.m (MsgS.u (msM b pas))) (UpS.hm (MsgS.u (msM b pas))) (UpS.n (MsgS.u (msM b pas))) (MsgS.c (msM b pas)) (MsgS.s (msM b pas)) (MsgS.d (msM b pas)) (msC b pas) (msS b pas) (msD b pas))
abbrev zzy68 (b : Bs) (pas : Int) : VO := (zz10 (MsgS.k (msM b pas)) (OpS.n (MsgS.op (msM b pas))) (OpS.h (MsgS.op (msM b pas))) (OpS.i (MsgS.op (msM b pas))) (OpS.l (MsgS.op (msM b pas))) (UpS.w (MsgS.u (msM b pas))) (UpS.o (MsgS.u (msM b pas))) (UpS.x (MsgS.u (msM b pas))) (UpS.h (MsgS.u (msM b pas))) (UpS.m (MsgS.u (msM b pas))) (UpS.hm (MsgS.u (msM b pas))) (UpS.n (MsgS.u (msM b pas))) (MsgS.c (msM b pas)) (MsgS.s (msM b pas)) (MsgS.d (msM b pas)))
abbrev zzy69 (b : Bs) (pas : Int) : List TV := (zz26 (msC b pas) (msS b pas) (msD b pas))
theorem ev_mr (b : Bs) (pas : Int) (Q : TV → VT → Prop) : vcallF Tryz.prog leastG (specs [(hdF, hdW), (hd11F, hdW), (mpF, msW), (mp11F, msW), (flF, flW), (pl11F, plW), (s11F, s11W), (lv11F, trueW)]) (tellS [(999998, .dead, none), (999999, .dead, none)]) 300 noLp 0 mrF [.vec 1 b .none, .val (.int .i64 pas)] zz211 Q =
 (bif decide ((↑(List.length b) : Int) > (6000 : Int))
 then Q zz133 zz211
 else (IsB (b) ∧
 (bif hdOk b
 then (IsB (b) ∧
 (bif hdOk b
 then (IsB (b) ∧
 (IsB (b) ∧
 (bif eqRes BinOp.eql (k6 (hdN b) (hdN b))
 then (bif eqRes BinOp.eql (k6 (hdK b) (hdK b))
 then (FtEq zz17 zz17 ∧
 (PlOk (zzy64 b pas) ∧
 (MsEq (zzy64 b pas) (zzy64 b pas) ∧
 (FtEq (zzy69 b pas) (zzy69 b pas) ∧
 Q zz133 (zzy67 b pas)))))
 else Q zz20 (zzy67 b pas))
 else Q zz20 (zzy67 b pas))))
 else (IsB (b) ∧
 (IsB (b) ∧
 (bif eqRes BinOp.eql (k6 (hdN b) (0 : Int))
 then (bif eqRes BinOp.eql (k6 (hdK b) (0 : Int))
 then (FtEq zz17 (zz14 (hdS b) (hdD b)) ∧
 (PlOk (zzy64 b pas) ∧
 (MsEq (zzy64 b pas) (zzy64 b pas) ∧
 (FtEq (zzy69 b pas) (zzy69 b pas) ∧
 Q zz133 (zzy65 b pas)))))
 else Q zz20 (zzy65 b pas))
 else Q zz20 (zzy65 b pas))))))
 else (IsB (b) ∧
 (bif hdOk b
 then (IsB (b) ∧
 (IsB (b) ∧
 (bif eqRes BinOp.eql (k6 (0 : Int) (hdN b))
 then (bif eqRes BinOp.eql (k6 (0 : Int) (hdK b))
 then (FtEq (zz14 (hdS b) (hdD b)) zz17 ∧
 (PlOk (zzy64 b pas) ∧
 (MsEq (zzy64 b pas) (zzy64 b pas) ∧
 (FtEq (zzy69 b pas) (zzy69 b pas) ∧
 Q zz133 (zzy66 b pas)))))
 else Q zz20 (zzy66 b pas))
 else Q zz20 (zzy66 b pas))))
 else (IsB (b) ∧
 (IsB (b) ∧
 (FtEq (zz14 (hdS b) (hdD b)) (zz14 (hdS b) (hdD b)) ∧
 (PlOk (zzy64 b pas) ∧
 (MsEq (zzy64 b pas) (zzy64 b pas) ∧
 (FtEq (zzy69 b pas) (zzy69 b pas) ∧
 Q zz133 ⟨[(zz3 (hdS b) (hdD b)), (zz3 (hdS b) (hdD b)), (zzy68 b pas), (zz11 (msC b pas) (msS b pas) (msD b pas)), (zzy68 b pas), (zz11 (msC b pas) (msS b pas) (msD b pas))], []⟩))))))))))) := by kernel_rfl
end Go.Proofs.YtogbdjlelkepcaaGreatDoor
namespace Go.Proofs.YtogbdjlelkepcaaGreatDoor
open Go Go.RowKit

theorem mzmixed : Tryz.prog.follows .mixedOrders = true := by kernel_rfl
theorem mzbodies : bodiesOk Tryz.prog = true := by kernel_rfl
theorem mzlives : VCx Tryz.prog leastG 0 25 [] ⟨[], []⟩ isTrueV := vtrueC_vcx (C := fun _ => none) mzmixed mzbodies specsOk_none (X := True) (by kernel_rfl) trivial
end Go.Proofs.YtogbdjlelkepcaaGreatDoor
namespace Go.Proofs.YtogbdjlelkepcaaGreatDoor
open Go.RowKit Go.Deep

theorem msW_ok {G : Globs} (hG : GVals G) {f : FuncId} (h : ∀ {b : Bs} (_ : IsB b) (pas : Int), VCx Tryz.prog G 0 f [.vec 1 b .none, .val (.int .i64 pas)] ⟨[], []⟩ fun x T' => x = msX b pas ∧ T' = ⟨[], []⟩) : ∀ ro ys T K, msW ro ys T K → VCx Tryz.prog G ro f ys T K := by
 intro ro ys T K hw
 unfold msW at hw
 split at hw
 ·rename_i b tok pas
  refine VCx.loosePure hG (h hw.1 pas) (by simp [looseTV]) (by simp [renL, TV.ren, hw.1.ren, Tok.ren]) (fun f h => msX_ren pas hw.1 f h) ?_
  rw [msX_eq]; exact hw.2
 ·exact hw.elim
theorem plW_ok {G : Globs} (hG : GVals G) : ∀ ro ys T K, plW ro ys T K → VCx Tryz.prog G ro pl11F ys T K := by
 intro ro ys T K hw
 unfold plW at hw
 split at hw
 ·obtain ⟨⟨m, hm, rfl⟩, hk⟩ := hw
  have hr : ∀ f g, (TV.agg m.cells).ren f g = .agg m.cells := fun f g => by simp only [TV.ren, hm.ren f g]
  exact VCx.liftPure hG (VCx.anyG (pl_vcx hm)) (by simp only [renL, hr]) hr hk
 ·exact hw.elim
theorem s11W_ok {G : Globs} (hG : GVals G) : ∀ ro ys T K, s11W ro ys T K → VCx Tryz.prog G ro s11F ys T K := by
 intro ro ys T K hw
 unfold s11W at hw
 split at hw
 ·obtain ⟨⟨rfl, m, hm, rfl⟩, hk⟩ := hw
  have hr : ∀ f g, (TV.agg m.cells).ren f g = .agg m.cells := fun f g => by simp only [TV.ren, hm.ren f g]
  exact VCx.liftPure hG (VCx.anyG (s11_vcx hm)) (by simp only [renL, hr]) (fun _ _ => rfl) hk
 ·exact hw.elim
theorem mrSp : SpecsOk Tryz.prog leastG (specs [(hdF, hdW), (hd11F, hdW), (mpF, msW), (mp11F, msW), (flF, flW), (pl11F, plW), (s11F, s11W), (lv11F, trueW)]) := specs_ok fun p hp => by
 rcases List.mem_cons.1 hp with rfl | hp; exact hdW_ok leastG_vals hd_vcx
 rcases List.mem_cons.1 hp with rfl | hp; exact hdW_ok leastG_vals fun h => VCx.anyG (h11_vcx h)
 rcases List.mem_cons.1 hp with rfl | hp; exact msW_ok leastG_vals mp_vcx
 rcases List.mem_cons.1 hp with rfl | hp; exact msW_ok leastG_vals fun h pas => VCx.anyG (m11_vcx h pas)
 rcases List.mem_cons.1 hp with rfl | hp; exact flW_ok leastG_vals
 rcases List.mem_cons.1 hp with rfl | hp; exact plW_ok leastG_vals
 rcases List.mem_cons.1 hp with rfl | hp; exact s11W_ok leastG_vals
 obtain rfl := List.mem_singleton.1 hp; exact trueW_ok leastG_vals mzlives
theorem mr_law {b : Bs} (hv : b.length ≤ 6000 → IsB b) (pas : Int) : VCx Tryz.prog leastG 0 mrF [.vec 1 b .none, .val (.int .i64 pas)] ⟨[], []⟩ isTrueV := by
 refine vcallF_is mixedB_Tryz bodiesB_Tryz mrSp lsOk_none (ev_mr b pas _) ?_
 refine cond_of (fun _ => trivial) (fun c => ?_)
 have hb : IsB b := hv (by have := of_decide_eq_false c; omega)
 have hm : MsWf (msM b pas) := msM_wf hb
 have hd : IsB (msD b pas) := msD_is hb
 have f0 : FtEq [.val (.int .i64 0), .val (.int .i64 0), .vec 1 [] .none] [.val (.int .i64 0), .val (.int .i64 0), .vec 1 [] .none] := ⟨rfl, 0, 0, [], .nil, rfl⟩
 have tailOk : PlOk (msM b pas).cells ∧ MsEq (msM b pas).cells (msM b pas).cells ∧ FtEq [.val (.int .i64 (msC b pas)), .val (.int .i64 (msS b pas)), .vec 1 (msD b pas) .none] [.val (.int .i64 (msC b pas)), .val (.int .i64 (msS b pas)), .vec 1 (msD b pas) .none] ∧ True := ⟨⟨_, hm, rfl⟩, ⟨rfl, _, hm, rfl⟩, ⟨rfl, _, _, _, hd, rfl⟩, trivial⟩
 refine ⟨hb, cond_of (fun c1 => ?_) (fun c1 => ?_)⟩
 ·exact ⟨hb, condT c1 ⟨hb, hb, condT (eqSelf _ _) (condT (eqSelf _ _) ⟨f0, tailOk⟩)⟩⟩
 ·exact ⟨hb, condF c1 ⟨hb, hb, ⟨rfl, 1, _, _, hdD_is hb, rfl⟩, tailOk⟩⟩
theorem isB_of {l : Bs} (h : ∀ x ∈ l, ∃ z, x = [.val (.int .u8 z)] ∧ (Lit.int .u8 z).wf = true) (hl : l.length ≤ 1000000) : IsB l := by
 refine ⟨?_, hl⟩
 clear hl
 induction l with
 | nil => exact ⟨[], rfl, fun _ h => by simp at h⟩
 | cons x l ih =>
  obtain ⟨zs, h1, h2⟩ := ih fun y hy => h y (List.mem_cons_of_mem _ hy)
  obtain ⟨z, rfl, hz⟩ := h x List.mem_cons_self
  refine ⟨z :: zs, by simp only [bV, List.map_cons] at h1 ⊢; rw [h1]; rfl, fun y hy => ?_⟩
  rcases List.mem_cons.1 hy with rfl | hy
  ·simp [Lit.wf] at hz
   have e0 : IntKind.u8.min = 0 := by decide
   have e1 : IntKind.u8.max = 255 := by decide
   omega
  ·exact h2 y hy
end Go.Proofs.YtogbdjlelkepcaaGreatDoor
namespace Go.Proofs.YtogbdjlelkepcaaGreatDoor
open Go.ChangeShapes Go.WideShapes Go.ChangeAt Go.RowKit Go.Joins Go.Deep

section
variable {P : Program} {H : Type} {enc : TypeId × Value → H} {w : World} {base : Nat} {spare : Nat → Bool} {held : Bool}
end
end Go.Proofs.YtogbdjlelkepcaaGreatDoor
namespace Go.Proofs.YtogbdjlelkepcaaGreatDoor
open Go.RowKit Go.Deep Go.WideShapes Go.ChangeAt

theorem walk_mr (l : Bs) (hx : ∀ x ∈ l, ∃ z, x = [.val (.int .u8 z)] ∧ (Lit.int .u8 z).wf = true) (pas : Int) (v : Value) (w : World) (hG : GOk leastG (topG w) w) (hv : VR (topG w) w (.vec 1 l .none) v) :
  Calls Tryz.prog 5 #[v, .int .i64 pas] w fun e w' => e = .returned (.bool true) ∧ Gr w w' :=
 VCx.topK (us := [v, .int .i64 pas]) (mr_law (fun h => isB_of hx (by omega)) pas) w hG (VRs.cons hv (VRs.cons (.val _) (VRs.nil _ _)))
theorem tab_of_laidM {W : World} (h : laidMetH Tryz.prog Rows.messageReadsRow.laid W) : Lib.TabIs Tryz.prog W "fairway/message.least" .i64 leastZ := by
 have h' : laidMet Tryz.prog [("fairway/message.least", Lib.tabData .i64 leastZ)] W := h
 exact Lib.tabIs_of_head glob_least (by kernel_rfl) Tryz.underlying112 Tryz.underlying3 (by kernel_rfl) (by kernel_rfl) h'
theorem open_bytesV {H : Type} {enc : TypeId × Value → H} {w : World} {b0 base : Nat} {spare : Nat → Bool} {held : Bool} {v : Value} {d : DataW H} {p : List MemPlace}
  (hv : Value.okWide Tryz.prog w .any b0 22 v) (h : DataW.Trod enc Tryz.prog w base spare held 22 v d p) : ∃ l : List (List TV), VR (topG w) w (.vec 1 l .none) v ∧ ∀ x ∈ l, ∃ z, x = [.val (.int .u8 z)] ∧ (Lit.int .u8 z).wf = true := by
 obtain ⟨fuel, hf⟩ := h
 obtain ⟨qq, n, c, rfl⟩ := okWide_slice Tryz.underlying22 hv
 have okc : Cell.okWide Tryz.prog w .any b0 22 (.slice qq n c) := by
  unfold Value.okWide at hv
  rw [Tryz.underlying22] at hv
  exact hv
 exact vr_ints Tryz.underlying22 Tryz.underlying5 (by kernel_rfl) okc hf
end Go.Proofs.YtogbdjlelkepcaaGreatDoor
namespace Go.Proofs.YtogbdjlelkepcaaGreatDoor
open Go.ChangeShapes Go.WideShapes Go.ChangeAt Go.RowKit Go.Joins Go.Deep
theorem messageReads_lifted (os : Os) (started : os.Started) (H : Type) (enc : TypeId × Value → H) :
    ReturnsInHanded {} Tryz.checked os 5 .any (fun w args => (Rows.messageReadsSpec.pre enc Tryz.prog Tryz.f5 [] false w args ∧ laidMetH Tryz.prog Rows.messageReadsRow.laid w) ∧ sizedMet enc Tryz.prog Tryz.f5 (OpenSpec.ofChange Rows.messageReadsSpec) false w args)
      (Rows.messageReadsSpec.post enc Tryz.prog Tryz.f5 false true false false) := by
  refine returnsInHanded_of_change_and (C := Tryz.checked) (X := fun w _ => laidMetH Tryz.prog Rows.messageReadsRow.laid w) (fun _ _ _ hh h => h.of_heap hh) own_Tryz started (by kernel_rfl) Tryz.func5
    (ChangeSpec.witness_shaped (enc := enc) (C := Tryz.checked) (os := os) (X := fun w _ => laidMetH Tryz.prog Rows.messageReadsRow.laid w) false (World.laidAll Tryz.prog os Rows.messageReadsRow.laid) #[.slice none 0 0, .int .i64 0] 8 (World.laidAll_os _ _ _)
      (World.shaped_of_ZipB (by kernel_rfl) (by kernel_rfl)) (by kernel_rfl) (by kernel_rfl) (by kernel_rfl)
      (by rw [MakeChecks.laidMetH_plain _ _ _ (by kernel_rfl)]; exact laidMet_laidAll _ (by kernel_rfl) (by kernel_rfl))) ?_
  intro W base args ds gs before hval0 hW _ _ hL _
  have hval : ∀ (j : Nat) t v, Tryz.f5.params[j]? = some t → args[j]? = some v → Value.okWide Tryz.prog W .any base t v := hval0
  have hW' := hW
  obtain ⟨p, q, hA0, hV, rfl, hfz, hnd⟩ := hW
  have hA : DataW.TrodAll enc Tryz.prog W 0 (fun _ => true) true Tryz.f5.params.toList args.toList ds p := hA0
  rw [Tryz.params5] at hA hval
  obtain ⟨v0, vs0, d0, ds0, p0, q0, hargs, rfl, rfl, h0, r0⟩ := trodAll_cons hA
  obtain ⟨v1, vs1, d1, ds1, p1, q1, rfl, rfl, rfl, h1, r1⟩ := trodAll_cons r0
  obtain ⟨rfl, rfl, rfl⟩ := trodAll_nil r1
  obtain rfl : args = #[v0, v1] := by cases args; simp_all
  obtain ⟨rfl, rfl⟩ := trodVars_none hV
  have lt0 : ∀ x ∈ p0, x.block < W.heap.size := by obtain ⟨m, hm⟩ := h0; exact DataW.trod_lt m _ _ _ hm
  have lt1 : ∀ x ∈ p1, x.block < W.heap.size := by obtain ⟨m, hm⟩ := h1; exact DataW.trod_lt m _ _ _ hm
  obtain ⟨x0, x0v, x0h⟩ := open_bytesV (hval 0 22 v0 rfl rfl) h0
  obtain ⟨x1z, rfl, _, _, x1w⟩ := open_int Tryz.underlying3 (hval 1 3 v1 rfl rfl) h1
  clear hA0 hval0
  refine (walk_mr x0 x0h x1z v0 W (gok_least (tab_of_laidM hL)) x0v).mono fun e W' ⟨he, bel⟩ => ?_
  subst he
  exact ⟨_, rfl, _, _, _, [], _, [], hW', trodAll_mk1 (shut_bool Tryz.underlying4 _), (trodAll_cons_mk (Below.trod laid_Tryz (by kernel_rfl) (of_decide_eq_true (by kernel_rfl)) h0 bel lt0) (trodAll_cons_mk (Below.trod laid_Tryz (by kernel_rfl) (of_decide_eq_true (by kernel_rfl)) h1 bel lt1) trodAll_mk0)), rfl, Below.frame bel _, fun h => by cases h⟩
end Go.Proofs.YtogbdjlelkepcaaGreatDoor
namespace Go.Proofs.YtogbdjlelkepcaaGreatDoor
open Go
theorem messageReads_pinned : Tryz.pinned.checked = Tryz.checked := rfl
theorem messageReads_prog : Tryz.checked.prog = Tryz.prog := rfl
theorem messageReads_pre {H : Type} (enc : TypeId × Value → H) (P : Program) (fn : Func) :
  Rows.messageReadsRow.pre enc P fn (OpenSpec.ofChange Rows.messageReadsSpec) = fun w args => (Rows.messageReadsSpec.pre enc P fn [] false w args ∧ laidMetH P Rows.messageReadsRow.laid w) ∧ sizedMet enc P fn (OpenSpec.ofChange Rows.messageReadsSpec) false w args := rfl
set_option maxHeartbeats 10000000 in
theorem messageReads_facts0 : joinedFacts Tryz.prog 5 Tryz.f5 Rows.messageReadsSpec Rows.messageReadsRow = true := by
 unfold joinedFacts
 repeat' rw [Bool.and_eq_true]
 repeat' apply And.intro
 all_goals (as_aux_lemma => kernel_rfl)
theorem messageReads_facts : joinedFacts Tryz.pinned.checked.prog 5 Tryz.f5 Rows.messageReadsSpec Rows.messageReadsRow = true := by
 rw [messageReads_pinned, messageReads_prog]; exact messageReads_facts0
theorem messageReads_inst : Tryz.f5.isInstance Tryz.pinned.checked.prog Rows.messageReadsRow.origin Rows.messageReadsRow.targs := (of_decide_eq_true (by kernel_rfl))
theorem messageReads_wrap : Tryz.f5.isWrapper Tryz.pinned.checked.prog Rows.messageReadsRow.wrapper Rows.messageReadsRow.mainSum := by unfold Func.isWrapper; first | (rw [if_pos (by decide +kernel)]; kernel_rfl) | (rw [if_neg (by decide +kernel)]; exact ⟨rfl, rfl⟩)
theorem messageReads_name : Tryz.pinned.checked.prog.funcNamed Rows.messageReadsRow.func = some 5 := by kernel_rfl
theorem messageReads_at : Tryz.pinned.checked.prog.funcs[(5 : Nat)]? = some Tryz.f5 := by
 rw [messageReads_pinned, messageReads_prog]; exact Tryz.func5
theorem messageReads_last (os : Os) (started : os.Started) (H : Type) (enc : TypeId × Value → H) :
  ReturnsInHanded Rows.messageReadsRow.assume Tryz.pinned.checked os 5 .any (Rows.messageReadsRow.pre enc Tryz.pinned.checked.prog Tryz.f5 (OpenSpec.ofChange Rows.messageReadsSpec))
   (Rows.messageReadsSpec.post enc Tryz.pinned.checked.prog Tryz.f5 Rows.messageReadsRow.apart Rows.messageReadsRow.fresh Rows.messageReadsRow.handsOn Rows.messageReadsRow.again) := by
 rw [messageReads_pre, messageReads_pinned, messageReads_prog]
 exact messageReads_lifted os started H enc
theorem messageReads_holds : Rows.MessageReadsSaid :=
 OpenClaim.holds_of_wide 5 Tryz.f5 rfl rfl rfl rfl rfl rfl rfl ⟨rfl, rfl, rfl, rfl, rfl⟩ rfl rfl rfl rfl rfl messageReads_name messageReads_at messageReads_facts messageReads_inst messageReads_wrap
  (fun os started H enc _ => messageReads_last os started H enc)
theorem messageReads_wf : Rows.messageReadsRow.wfByText (OpenSpec.ofChange Rows.messageReadsSpec) = true := by kernel_rfl
theorem messageReads_main : Tryz.pinned.checked.prog.mainIs = some (true, ("d86007e5bf9bb8b38bd9514c41c46ca1a94da96a85d6c67eb6aa7af7ccdc133f" : String).toList) := by kernel_rfl
theorem messageReads_goes : false = Rows.messageReadsRow.goesBy Tryz.pinned.checked.prog := by kernel_rfl
theorem messageReads_looks : true = Tryz.pinned.checked.prog.looks [] := by kernel_rfl
theorem messageReads_stand : ([22, 3].all fun u => !Tryz.pinned.checked.prog.wantsStandIn u) = true := by kernel_rfl
theorem messageReads_ps : Tryz.f5.params = #[22, 3] := Tryz.params5
theorem messageReadsCard_holds : Rows.MessageReadsCardSaid :=
 Claim7.holds_tied_plain_at .later [] [.data] true (true, "d86007e5bf9bb8b38bd9514c41c46ca1a94da96a85d6c67eb6aa7af7ccdc133f") true
  messageReads_holds (fun _ h => by cases h) messageReads_wf (fun _ h => by cases h) messageReads_row_tie rfl ⟨rfl, rfl⟩ messageReads_main rfl
  (fun f fn hf hfn => by
   obtain rfl : f = 5 := Option.some.inj (hf.symm.trans messageReads_name)
   obtain rfl : fn = Tryz.f5 := Option.some.inj (hfn.symm.trans messageReads_at)
   refine ⟨messageReads_looks, fun j t ht => ?_⟩
   rw [messageReads_ps] at ht
   have hm : t ∈ [22, 3] := by simpa using Array.mem_of_getElem? ht
   have := List.all_eq_true.1 messageReads_stand t hm
   simpa using this)
  messageReads_goes
#print axioms messageReadsCard_holds
end Go.Proofs.YtogbdjlelkepcaaGreatDoor
