/- PrefixBack: the prefixes of all bytes. -/
import Derived.Test.YtkjpbadlbpfpaaaDoorMbPBA
import Derived.Test.YtkjpbadlbpfpaaaDoorQParse
namespace Go.Proofs.YtkjpbadlbpfpaaaDoor
open Go.RowKit

/-- in canonical form -/
def canN (p : Px) : Nat × Nat := (hd p.1.toNat p.2, cl p.2)
def canP (p : Px) : Px := ((hd p.1.toNat p.2 : Nat), (cl p.2 : Nat))
theorem putB4 (h : Nat) : putB h 4 = [h / 2 ^ 24 % 256, h / 2 ^ 16 % 256, h / 2 ^ 8 % 256, h / 2 ^ 0 % 256] := rfl
theorem prd_pbytes (a : Nat) (ha : a < 4294967296) (n : Int) (rest : List Nat) : prd (pbytes a n ++ rest) = some (hd a n, cl n, rest) := by
  have hc := cl_le n
  have hh := hd_le a n
  have hd2 : hd (hd a n) (cl n : Nat) = hd a n := by
    have e : hd (hd a n) (cl n : Nat) = hd (hd a n) n := by unfold hd; rw [cl_cl]
    rw [e, hd_hd]
  have hz : 2 ^ (32 - cl n) ∣ hd a n := by unfold hd; exact Nat.dvd_mul_left _ _
  unfold pbytes
  rw [List.cons_append, prd_cons, putB4]
  generalize hd a n = h at *
  generalize cl n = c at *
  have hk : (c + 7) / 8 = 0 ∨ (c + 7) / 8 = 1 ∨ (c + 7) / 8 = 2 ∨ (c + 7) / 8 = 3 ∨ (c + 7) / 8 = 4 := by omega
  have key : ∀ k, k ≤ 4 → (c + 7) / 8 = k → 2 ^ (32 - 8 * k) ∣ h := fun k hk4 e => Nat.dvd_trans (Nat.pow_dvd_pow 2 (by omega)) hz
  rcases hk with e | e | e | e | e
  · have := key 0 (by omega) e
    rw [if_pos ⟨hc, by rw [e]; omega⟩, e]
    simp only [List.take_zero, List.nil_append, List.drop_zero, Nat.sub_zero, List.replicate]
    have h0 : h = 0 := by omega
    have hg : getN [0, 0, 0, 0] = h := by rw [h0]; rfl
    rw [hg, hd2]
  · have := key 1 (by omega) e
    rw [if_pos ⟨hc, by rw [e]; simp⟩, e]
    simp only [List.take_succ_cons, List.cons_append, List.nil_append, List.take, List.drop, List.replicate, Nat.reduceSub]
    have hg : getN [h / 2 ^ 24 % 256, 0, 0, 0] = h := by simp only [getN, List.foldl]; omega
    rw [hg, hd2]
  · have := key 2 (by omega) e
    rw [if_pos ⟨hc, by rw [e]; simp⟩, e]
    simp only [List.take_succ_cons, List.cons_append, List.nil_append, List.take, List.drop, List.replicate, Nat.reduceSub]
    have hg : getN [h / 2 ^ 24 % 256, h / 2 ^ 16 % 256, 0, 0] = h := by simp only [getN, List.foldl]; omega
    rw [hg, hd2]
  · have := key 3 (by omega) e
    rw [if_pos ⟨hc, by rw [e]; simp⟩, e]
    simp only [List.take_succ_cons, List.cons_append, List.nil_append, List.take, List.drop, List.replicate, Nat.reduceSub]
    have hg : getN [h / 2 ^ 24 % 256, h / 2 ^ 16 % 256, h / 2 ^ 8 % 256, 0] = h := by simp only [getN, List.foldl]; omega
    rw [hg, hd2]
  · rw [if_pos ⟨hc, by rw [e]; simp⟩, e]
    simp only [List.take_succ_cons, List.cons_append, List.nil_append, List.take, List.drop, List.replicate, Nat.reduceSub]
    have hg : getN [h / 2 ^ 24 % 256, h / 2 ^ 16 % 256, h / 2 ^ 8 % 256, h / 2 ^ 0 % 256] = h := by simp only [getN, List.foldl]; omega
    rw [hg, hd2]
theorem prs_allB : ∀ l : List Px, (∀ p ∈ l, pxIn p) → prs (allB l) = some (l.map canN)
  | [], _ => prs_nil
  | p :: l, h => by
    obtain ⟨h0, h1⟩ := h p List.mem_cons_self
    have e : allB (p :: l) = pbytes p.1.toNat p.2 ++ allB l := by simp [allB]
    rw [e, prs_yes (prd_pbytes p.1.toNat (by omega) p.2 (allB l)), prs_allB l fun q hq => h q (List.mem_cons_of_mem _ hq)]
    rfl
theorem pbytes_lt (a : Nat) (n : Int) : ∀ x ∈ pbytes a n, x < 256 := by
  intro x hx
  have hc := cl_le n
  unfold pbytes at hx
  rcases List.mem_cons.1 hx with rfl | hx
  · omega
  · have hx := List.mem_of_mem_take hx
    rw [putB4] at hx
    simp only [List.mem_cons, List.not_mem_nil, or_false] at hx
    omega
theorem allB_lt (l : List Px) : ∀ x ∈ allB l, x < 256 := by
  intro x hx
  obtain ⟨p, _, hp⟩ := List.mem_flatMap.1 hx
  exact pbytes_lt _ _ x hp
theorem allB_ne {l : List Px} (h : l ≠ []) : allB l ≠ [] := by
  cases l with
  | nil => exact absurd rfl h
  | cons p l => simp [allB, pbytes]
abbrev ppF := 14
theorem bE_flat (L : List Nat) : (bE L).flatten = (u8s L).map .val := by
  induction L with
  | nil => rfl
  | cons a L ih =>
    simp only [bE, u8s, List.map_cons, List.flatten_cons] at *
    rw [ih]; rfl
theorem rd_bE {g : Gh} {w : World} {L : List Nat} {v : Value} (h : VR g w (.vec 1 (bE L) .none) v) (hL : L ≠ []) : Rd w 1 v L.length (u8s L) := by
  have hlen : (bE L).length = L.length := bE_len L
  have hne : bE L ≠ [] := fun e => hL (by have := congrArg List.length e; rw [hlen] at this; exact List.eq_nil_of_length_eq_zero this)
  rcases h.vec_inv with ⟨_, e, _⟩ | ⟨b, o, c, us, rfl, h1, h2, _, _, h4, _, h5, _⟩ | ⟨a, _, e, _⟩
  · exact absurd e hne
  · rw [bE_flat] at h4
    have hu : us = u8s L := by
      refine List.ext_getElem? fun j => ?_
      have hl : us.length = (u8s L).length := by have := h4.1; simpa using this
      by_cases hj : j < us.length
      · have hx : ((u8s L).map TV.val)[j]? = some (.val (u8s L)[j]) := by rw [List.getElem?_map, List.getElem?_eq_getElem (by omega)]; rfl
        have := (h4.2 j _ us[j] hx (List.getElem?_eq_getElem hj)).val_inv
        rw [List.getElem?_eq_getElem hj, List.getElem?_eq_getElem (by omega), this]
      · rw [List.getElem?_eq_none (by omega), List.getElem?_eq_none (by omega)]
    subst hu
    rw [hlen] at h1 ⊢
    exact ⟨by simp [u8s], _, c, rfl, h1, h2, (fun h => by cases h), fun ad ha => by injection ha with ha; subst ha; exact ⟨rfl, fun j u hu => h5 j u hu⟩⟩
  · exact absurd e hne
theorem pcells_flat (l : List Px) : pcells (l.map canN) = (l.map canP).flatMap pxC := by
  induction l with
  | nil => rfl
  | cons p l ih =>
    simp only [pcells, List.map_cons, List.flatMap_cons] at *
    rw [ih]; rfl
theorem pp_vcx {G : Globs} (l : List Px) (hl : l.length ≤ 200) (hin : ∀ p ∈ l, pxIn p) (hne : l ≠ []) : VCx Tryd.prog G 0 ppF [.vec 1 (bE (allB l)) .none] ⟨[], []⟩ fun x T' => x = .tup [.vec 2 ((l.map canP).map pxE) .none, .val (.bool true)] ∧ T' = ⟨[], []⟩ := by
  intro g w us' r hG hx
  match us', hx.1 with
  | [v], _ =>
    have hv := hx.2 0 _ v rfl rfl
    have hlen := allB_len l
    refine (pparse v (allB l) (allB_lt l) (by omega) w (rd_bE hv (allB_ne hne))).mono ?_
    rintro e w' hpp
    unfold PParse at hpp
    rw [prs_allB l hin] at hpp
    obtain ⟨v', rfl, ⟨hl2, hown⟩, gr⟩ := hpp
    have r1 := r.gr gr
    have e1 := Evo.of_gr r gr
    rw [pcells_flat] at hl2 hown
    have hn0 : l.length ≠ 0 := fun h => hne (List.eq_nil_of_length_eq_zero h)
    rcases hown with ⟨_, h0⟩ | ⟨b, cap, cur, rfl, hb, hg, hnc, hcm, hcs, htk⟩
    · simp only [List.length_map] at h0; exact absurd h0 hn0
    · have hnf : ¬ g.fr b := fun hf => by have := r.fr b hf; omega
      have hcell : ∀ (j : Nat) u, ((l.map canP).flatMap pxC)[j]? = some u → w'.cell? ⟨b, 0 + j, none⟩ = some u := fun j u hu => by
        have hj := (List.getElem?_eq_some_iff.1 hu).1
        unfold World.cell?
        simp only [hg, Nat.zero_add]
        rw [← htk, List.getElem?_take] at hu
        split at hu
        · simpa using hu
        · cases hu
      have vr : VR (g.addSt b (fun o => o < ((l.map canP).flatMap pxC).length)) w' (.vec 2 ((l.map canP).map pxE) .none) (.slice (some ⟨b, 0, none⟩) (l.map canN).length cap) := by
        refine .mk_vec (us := (l.map canP).flatMap pxC) (by simp) hnc hcm (fun e he => by obtain ⟨p, _, rfl⟩ := List.mem_map.1 he; rfl) trivial (by rw [pxE_flat]; exact VRs.vals _ _ _) (fun j hj => .inr ⟨rfl, ?_⟩) hcell (fun u hu => ?_)
        · rw [pxE_flat, List.length_map] at hj
          simpa using hj
        · obtain ⟨p, _, hp⟩ := List.mem_flatMap.1 hu
          exact pxC_one p u hp
      obtain ⟨h1, h2⟩ := VRs.cons vr (VRs.cons (.val (.bool true)) (VRs.nil _ _))
      refine ⟨_, _, g.addSt b (fun o => o < ((l.map canP).flatMap pxC).length), _, rfl, ⟨rfl, rfl⟩, e1.trans (Evo.addSt hnf), r1.addSt hnf (fun id o h => by simp at h) (fun k x o hx => by rw [r1.tout k (Nat.zero_le _)] at hx; cases hx) (fun o ho => ?_), .tup h1 h2, ⟨by simp, fun i hi => absurd hi (Nat.not_lt_zero i), fun i o b hi => absurd hi (Nat.not_lt_zero i)⟩⟩
      have := hcell o _ (List.getElem?_eq_getElem ho)
      rw [Nat.zero_add] at this
      rw [this]; rfl
theorem VCx.anyG {P : Program} {G : Globs} {ro : Nat} {f : FuncId} {xs : List TV} {T : VT} {Q : TV → VT → Prop} (h : VCx P noGl ro f xs T Q) : VCx P G ro f xs T Q := fun g w us r _ hx => h g w us r (fun _ _ hn => nomatch hn) hx
end Go.Proofs.YtkjpbadlbpfpaaaDoor
