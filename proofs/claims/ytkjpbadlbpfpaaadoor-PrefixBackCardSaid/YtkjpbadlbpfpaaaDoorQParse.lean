/- prefix.Parse: the prefixes of bytes. -/
import Derived.Test.YtkjpbadlbpfpaaaDoorQPRead
namespace Go.Proofs.YtkjpbadlbpfpaaaDoor
open Go.RowKit

theorem prd_less {l : List Nat} {a n : Nat} {rest : List Nat} (h : prd l = some (a, n, rest)) : rest.length < l.length := by
  cases l with
  | nil => cases h
  | cons m r =>
    rw [prd_cons] at h
    split at h
    · simp only [Option.some.injEq, Prod.mk.injEq] at h
      obtain ⟨_, _, rfl⟩ := h
      simp
      omega
    · cases h
theorem prd_mem {l : List Nat} {a n : Nat} {rest : List Nat} (h : prd l = some (a, n, rest)) : ∀ x ∈ rest, x ∈ l := by
  cases l with
  | nil => cases h
  | cons m r =>
    rw [prd_cons] at h
    split at h
    · simp only [Option.some.injEq, Prod.mk.injEq] at h
      obtain ⟨_, _, rfl⟩ := h
      intro x hx
      exact List.mem_cons_of_mem _ (List.mem_of_mem_drop hx)
    · cases h
theorem hd_lt' (a : Nat) (n : Int) (h : a < 4294967296) : hd a n < 4294967296 := by have := hd_le a n; omega
/-- the prefixes of bytes -/
def prs (l : List Nat) : Option (List (Nat × Nat)) :=
  match l with
  | [] => some []
  | m :: r => match _h : prd (m :: r) with
    | none => none
    | some (a, n, rest) => (prs rest).map ((a, n) :: ·)
termination_by l.length
decreasing_by exact prd_less _h
theorem prs_nil : prs [] = some [] := by rw [prs]
theorem prs_no {l : List Nat} (h : l ≠ []) (hp : prd l = none) : prs l = none := by
  cases l with
  | nil => exact absurd rfl h
  | cons m r => rw [prs]; split <;> simp_all
theorem prs_yes {l : List Nat} {a n : Nat} {rest : List Nat} (hp : prd l = some (a, n, rest)) : prs l = (prs rest).map ((a, n) :: ·) := by
  cases l with
  | nil => cases hp
  | cons m r => rw [prs]; split <;> simp_all

/-- prefixes in cells -/
def pcells (l : List (Nat × Nat)) : List Value := l.flatMap fun p => [.int .u32 (p.1 : Int), .int .i64 (p.2 : Int)]
theorem pcells_snoc (l : List (Nat × Nat)) (p : Nat × Nat) : pcells (l ++ [p]) = pcells l ++ [.int .u32 (p.1 : Int), .int .i64 (p.2 : Int)] := by simp [pcells]
theorem pcells_len (l : List (Nat × Nat)) : (pcells l).length = l.length * 2 := by
  induction l with
  | nil => rfl
  | cons p r ih => simp only [pcells, List.flatMap_cons, List.length_append, List.length_cons, List.length_nil] at *; omega

/-- how long a slice is -/
def lenOf : Value → Nat
  | .slice _ n _ => n
  | _ => 0
theorem own_len {w : World} {base : Nat} {e : TypeId} {size : Nat} {v : Value} {n : Nat} {xs : List Value} (h : w.ownsRow base e size v n xs) : lenOf v = n := by
  rcases h.2 with ⟨rfl, rfl⟩ | ⟨g, cap, cur, rfl, _⟩ <;> rfl
theorem own_gb {b : Nat} {w w' : World} {base : Nat} {e : TypeId} {size : Nat} {v : Value} {n : Nat} {xs : List Value} (k : Gb b w w') (hb : b < base) (h : w.ownsRow base e size v n xs) : w'.ownsRow base e size v n xs := by
  refine ⟨h.1, ?_⟩
  rcases h.2 with hn | ⟨j, cap, cur, rfl, hj, hg, r⟩
  · exact .inl hn
  · have hlt := (Array.getElem?_eq_some_iff.1 hg).1
    exact .inr ⟨j, cap, cur, rfl, hj, (by rw [World.grownBy.block k j hlt (fun e => by injection e; omega)]; exact hg), r⟩
theorem Src.grown {w w' : World} {g : Nat} {vb : Option Nat} {l : List Nat} {at_ e : Int} {base : Nat} {t : TypeId} {size : Nat} {v : Value} {n : Nat} {xs : List Value} (own : w.ownsRow base t size v n xs) (k : w.grownBy w' v.ownBlock)
    (hg : g < base) (hvb : ∀ b, vb = some b → b < base) (h : Src w g vb l at_ e) : Src w' g vb l at_ e := by
  rcases own.2 with ⟨rfl, _⟩ | ⟨j, cap, cur, rfl, hj, _⟩
  · refine h.gb (b := base) ⟨k.os, k.tape, k.output, k.size, fun i hi _ => k.block i hi (by intro e; cases e)⟩ (by omega) (fun hh => by have := hvb _ hh; omega)
  · exact h.gb (b := j) k (by omega) (fun hh => by have := hvb _ hh; omega)

theorem info_pfx : (Tryd.prog.info? 24).map (fun i => (i.zero, i.size, i.bytes)) = some (some (.agg #[.int .u32 0, .int .i64 0]), 2, 16) := by kernel_rfl
theorem sleft0 (g : Nat) (vb : Option Nat) (l : List Nat) (at_ : Int) (w : World) (h : Src w g vb l at_ 0) :
    Calls Tryd.prog 29 #[.pointer (some ⟨g, 0, none⟩)] w fun r w' => r = .returned (.int .i64 l.length) ∧ w = w' := by
  have := sleft g vb l at_ 0 w h
  have e : leftN l.length 0 = (l.length : Int) := by simp [leftN]
  rwa [e] at this

/-- what is known behind a Parse of the bytes l -/
def PParse (w : World) (l : List Nat) (r : Ending) (w' : World) : Prop :=
  match prs l with
  | none => r = .returned (.tuple #[.slice none 0 0, .bool false]) ∧ Gr w w'
  | some ps => ∃ v, r = .returned (.tuple #[v, .bool true]) ∧ w'.ownsRow w.heap.size 24 2 v ps.length (pcells ps) ∧ Gr w w'
theorem PParse.no {w w' : World} {l : List Nat} (hp : prs l = none) (gb : Gr w w') : PParse w l (.returned (.tuple #[.slice none 0 0, .bool false])) w' := by
  unfold PParse
  rw [hp]
  exact ⟨rfl, gb⟩
theorem PParse.yes {w w' : World} {l : List Nat} {ps : List (Nat × Nat)} (v : Value) (hp : prs l = some ps) (h : w'.ownsRow w.heap.size 24 2 v ps.length (pcells ps)) (gb : Gr w w') : PParse w l (.returned (.tuple #[v, .bool true])) w' := by
  unfold PParse
  rw [hp]
  exact ⟨v, rfl, h, gb⟩

theorem pread_no (g : Nat) (vb : Option Nat) (l : List Nat) (hl : ∀ x ∈ l, x < 256) (hln : l.length ≤ 1000) (at_ : Int) (w : World) (h : Src w g vb l at_ 0) (hvb : ∀ b, vb = some b → b < w.heap.size) (hp : prd l = none) :
    Calls Tryd.prog 30 #[.pointer (some ⟨g, 0, none⟩)] w fun r w' => r = .returned (.tuple #[.agg #[.int .u32 0, .int .i64 0], .bool false]) ∧ Gb g w w' := by
  have := pread g vb l hl hln at_ w h hvb
  unfold PRead at this
  rwa [hp] at this
theorem pread_yes (g : Nat) (vb : Option Nat) (l : List Nat) (hl : ∀ x ∈ l, x < 256) (hln : l.length ≤ 1000) (at_ : Int) (w : World) (h : Src w g vb l at_ 0) (hvb : ∀ b, vb = some b → b < w.heap.size) {a n : Nat} {rest : List Nat} (hp : prd l = some (a, n, rest)) :
    Calls Tryd.prog 30 #[.pointer (some ⟨g, 0, none⟩)] w fun r w' => r = .returned (.tuple #[.agg #[.int .u32 (a : Int), .int .i64 (n : Int)], .bool true]) ∧ (∃ at_, Src w' g vb rest at_ 0) ∧ Gb g w w' := by
  have := pread g vb l hl hln at_ w h hvb
  unfold PRead at this
  rwa [hp] at this

set_option maxHeartbeats 400000 in
theorem pparse (v : Value) (L : List Nat) (hl : ∀ x ∈ L, x < 256) (hln : L.length ≤ 1000) (w : World) (hr : Rd w 1 v L.length (u8s L)) :
    Calls Tryd.prog 14 #[v] w (PParse w L) := by
  obtain ⟨i0, hi, hz0, hz1, hz2⟩ := info_parts info_pfx
  have hi' := Lib.hid hi
  clear hi
  have HW := Lib.hid (wread v L (by omega) w hr)
  clear hr
  go_enter Tryd.func14, Tryd.ntmps14
  go_wp2_with fail
  refine HW.out.mono ?_
  rintro r w1 ⟨g, vb, rfl, hg, hs, hvb, g1⟩
  have hg1 := hs.lt
  have hvb1 : ∀ b, vb = some b → b < w1.heap.size := fun b hb => by have := hvb b hb; omega
  go_wp2
  go_loopw [5] (fun o wr => ∃ (l : List Nat) (acc : List (Nat × Nat)) (a : Int), Src wr g vb l a 0 ∧ wr.ownsRow w1.heap.size 24 2 o acc.length (pcells acc) ∧ Gr w wr ∧ w1.heap.size ≤ wr.heap.size ∧ prs L = (prs l).map (acc ++ ·) ∧ acc.length + l.length ≤ L.length ∧ ∀ x ∈ l, x < 256) (fun o _ => L.length + 1 - lenOf o)
  case atStart => exact ⟨L, [], 0, hs, World.ownsRow_nil _ _ _ _, g1, Nat.le_refl _, by cases prs L <;> simp, by simp, hl⟩
  case round =>
    obtain ⟨l, acc, a, hs', own, gr, hsz, hps, hlen, hlt⟩ := hrel
    have HL := Lib.hid (sleft0 g vb l a _ hs')
    cases l with
    | nil =>
      have hp := Lib.hid (show prs L = some acc by rw [hps, prs_nil]; simp)
      have HO := Lib.hid own
      have HG := Lib.hid gr
      clear own gr hs' hps hlen hlt hsz
      go_wp2_with (go_at_call 29; refine HL.out.mono ?_; rintro r w2 ⟨rfl, rfl⟩)
      refine bodyPost_ret (v := .tuple #[u5, .bool true]) (by simp [results, Tryd.results14, go_sem]) rfl ?_
      exact PParse.yes _ hp.out (own_mono g1.size HO.out) HG.out
    | cons m r =>
      have hlm : decide ((0 : Int) < ((m :: r).length : Int)) = true := by simp
      generalize hll : m :: r = l at *
      cases hpd : prd l with
      | none =>
        have hp := Lib.hid (show prs L = none by rw [hps, prs_no (by rw [← hll]; simp) hpd]; rfl)
        have HR := Lib.hid (pread_no g vb l hlt (by omega) a _ hs' (fun b hb => by have := hvb1 b hb; omega) hpd)
        have HG := Lib.hid gr
        clear own gr hs' hps hlen hlt hsz hpd
        generalize (l.length : Int) = lz at *
        go_wp2_with (first | (go_at_call 29; refine HL.out.mono ?_; rintro r w2 ⟨rfl, rfl⟩) | (go_at_call 30; refine HR.out.mono ?_; rintro r w2 ⟨rfl, gb⟩))
        refine bodyPost_ret (v := .tuple #[.slice none 0 0, .bool false]) (by simp [results, Tryd.results14, go_sem]) rfl ?_
        exact PParse.no hp.out ((Gb.gr gb HG.out hg).alloc _)
      | some q =>
        obtain ⟨x, n, rest⟩ := q
        have hless := prd_less hpd
        have HR := Lib.hid (pread_yes g vb l hlt (by omega) a _ hs' (fun b hb => by have := hvb1 b hb; omega) hpd)
        have hlt' : ∀ y ∈ rest, y < 256 := fun y hy => hlt y (prd_mem hpd y hy)
        have hps' : prs L = (prs rest).map ((acc ++ [(x, n)]) ++ ·) := by
          rw [hps, prs_yes hpd]
          cases prs rest <;> simp
        have hlen' : acc.length + l.length ≤ 1000 := by omega
        have HO := Lib.hid own
        have HG := Lib.hid gr
        have HP := Lib.hid (And.intro hps' (And.intro hlen hlt'))
        have hlo := own_len own
        clear own gr hs' hps hps' hlen hlt hlt' hpd
        generalize hlz : (l.length : Int) = lz at *
        go_wp2_with (go_at_call 29; refine HL.out.mono ?_; rintro r w2 ⟨rfl, rfl⟩)
        refine HR.out.mono ?_
        rintro r w2 ⟨rfl, ⟨a2, hs2⟩, gb2⟩
        have own2 := own_gb gb2 hg1 HO.out
        have gr2 := Gb.gr gb2 HG.out hg
        have hsz2 := Gb.size' gb2
        have hsrc := Lib.hid hs2
        clear hs2
        go_wp2_with (at_builtin; go_loud (refine wpL_app w1.heap.size 24 i0 _ 2 16 Tryd.underlying33 hi'.out hz0 hz1 hz2 rfl (by decide) _ acc.length _ (by rfl) (World.ownsRow.alloc (World.ownsRow.alloc own2 _) _) _ 1 [.int .u32 (x : Int), .int .i64 (n : Int)] (by rfl) (by have h := Rd.new (w2.alloc (.cells #[.int .u32 (x : Int), .int .i64 (n : Int)] 24)) [.int .u32 (x : Int), .int .i64 (n : Int)] 24 2 1 rfl (by decide); simp only [World.size_alloc] at h; exact h) (by intro u hu; simp at hu; rcases hu with rfl | rfl <;> rfl) (by unfold maxLen; omega) (by omega) (by simp; omega) (fun v1 w3 own3 gb3 => ?_)))
        go_roundw
        case rel =>
          refine ⟨rest, acc ++ [(x, n)], a2, Src.grown (World.ownsRow.alloc (World.ownsRow.alloc own2 _) _) gb3 hg1 hvb1 ((hsrc.out.gr ((Gr.refl _).alloc _)).gr ((Gr.refl _).alloc _)), by rw [List.length_append, pcells_snoc]; exact own3, gr_grown ((gr2.alloc _).alloc _) g1.size (World.ownsRow.alloc (World.ownsRow.alloc own2 _) _) gb3, ?_, HP.out.1, by rw [List.length_append]; have := HP.out.2.1; simp; omega, HP.out.2.2⟩
          have := World.grownBy.size gb3
          simp at this
          omega
        case measure =>
          have := own_len own3
          have := HP.out.2.1
          omega
end Go.Proofs.YtkjpbadlbpfpaaaDoor
