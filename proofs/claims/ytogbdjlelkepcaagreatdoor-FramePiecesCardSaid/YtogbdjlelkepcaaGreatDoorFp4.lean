/- Part 4 of the proof of framePiecesCard_holds: Vfz, Vrl, Vtr ... No condition. -/
import Derived.Test.YtogbdjlelkepcaaGreatDoorFp1
import Derived.Test.YtogbdjlelkepcaaGreatDoorFp2
import Derived.Test.YtogbdjlelkepcaaGreatDoorFp3
set_option maxRecDepth 100000
namespace Go.Proofs.YtogbdjlelkepcaaGreatDoor
open Go.RowKit

section
variable {P : Program} {G : Globs} {g : Gh} {T : VT} {w : World}
theorem row_freeze (r : RW g T w) {id size off n : Nat} {es : List (List TV)} {u : Value} (h : rowsR T size (.row size id off n) = some es) (hx : VR g w (.row size id off n) u) :
    ∃ g', Evo g w g' w ∧ RW g' (T.kill id) w ∧ VR g' w (.vec size es .none) u := by
  simp only [rowsR] at h
  split at h
  · rename_i cs hid
    cases hb : (Nat.beq size size && Nat.ble ((off + n) * size) cs.length) with
    | false => rw [hb] at h; cases h
    | true =>
      rw [hb] at h; injection h with h; subst h
      simp only [Bool.and_eq_true] at hb
      have hle := Nat.le_of_ble_eq_true hb.2
      obtain ⟨b, c, h1, h2, h3, h4, h5, rfl⟩ := hx.row_inv
      obtain ⟨b', q1, ⟨us, t, q2, q3, q4, q5⟩, q6, q7⟩ := r.obj id _ hid rfl
      rw [h1] at q1; injection q1 with q1; subst q1
      rw [Nat.add_mul] at hle
      have hl : ((cs.drop (off * size)).take (n * size)).length = n * size := by simp; omega
      obtain ⟨k1, k2, k3⟩ := chunk_parts hl
      have hv := (q4.drop (off * size)).take (n * size)
      have hl2 : (((us.take cs.length).drop (off * size)).take (n * size)).length = n * size := by simp; omega
      have hcell : ∀ (j : Nat) v, (((us.take cs.length).drop (off * size)).take (n * size))[j]? = some v → w.cell? ⟨b, off * size + j, none⟩ = some v := fun j v hv => by
        rw [World.cell?, q2]
        simp only [List.getElem?_take, List.getElem?_drop] at hv
        split at hv
        · split at hv
          · simpa using hv
          · cases hv
        · cases hv
      have fr := kill_fresh r hid rfl h1
      have e := Evo.addSt (g := g) (w := w) (S := fun o => off * size ≤ o ∧ o < off * size + n * size) q6
      refine ⟨_, e, (r.kill hid rfl h1).addSt q6 fr.obj (fun k x o hx _ hin => fr.tl k x hx (.inl ⟨o, hin⟩)) (fun o ho => ?_), ?_⟩
      · have hj : o - off * size < (((us.take cs.length).drop (off * size)).take (n * size)).length := by rw [hl2]; omega
        have := hcell (o - off * size) _ (List.getElem?_eq_getElem hj)
        rw [show off * size + (o - off * size) = o by omega] at this
        rw [this]; rfl
      · refine .mk_vec (us := ((us.take cs.length).drop (off * size)).take (n * size)) k1.symm h3 h4 k2 trivial (by rw [k3]; exact hv.mono e) (fun j hj => .inr ⟨rfl, ?_⟩) hcell (fun u hu => q5 u (List.mem_of_mem_drop (List.mem_of_mem_take hu)))
        rw [k3, hl] at hj
        omega
  · cases h
end
end Go.Proofs.YtogbdjlelkepcaaGreatDoor
namespace Go.Proofs.YtogbdjlelkepcaaGreatDoor
open Go.RowKit

section
variable {P : Program} {G : Globs}
def tellGo (T : VT) : List (Nat × TV × Option (VT → VT)) → Nat → Option (TV × Option VT)
 | [], _ => none
 | (t, y, g) :: l, s => bif Nat.beq t s then some (y, match g with | some g => some (g T) | none => none) else tellGo T l s
def tellS (l : List (Nat × TV × Option (VT → VT))) : Ora := fun o _ T => match o.op with
 | .store _ (.tmp a) _ => tellGo T l (500000 + a)
 | _ => match o.dst with
  | some d => tellGo T l d
  | none => none
theorem opure_indexR {t e : TypeId} {x i : Operand} {l : List (Nat × TV)} {inf : TypeInfo} {id off n : Nat} {k : IntKind} {z : Int} (ht : P.underlying t = some (.slice e)) (hi : P.info? e = some inf)
  (hx : evOf G l x = .row inf.size id off n) (hz : evOf G l i = .val (.int k z)) (h0 : 0 ≤ z) (h1 : z < n) : OPure P G (.indexAddr t x i) l (.ptr id (off * inf.size + z.toNat * inf.size)) := by
 refine ⟨?_⟩
 simp [vpure2, hx, hz, vindexR, ht, hi, h0, h1, Nat.beq_refl]
end
end Go.Proofs.YtogbdjlelkepcaaGreatDoor
namespace Go.Proofs.YtogbdjlelkepcaaGreatDoor
open Go.RowKit

section
variable {P : Program} {G : Globs}
theorem chunks_flatten (size : Nat) : ∀ {es : List (List TV)}, (∀ e ∈ es, e.length = size) → chunks size es.length es.flatten = es
 | [], _ => rfl
 | e :: es, h => by
  have h1 : e.length = size := h e List.mem_cons_self
  have h2 := chunks_flatten size (es := es) fun e he => h e (List.mem_cons_of_mem _ he)
  simp only [List.length_cons, chunks, List.flatten_cons]
  rw [List.take_left' h1, List.drop_left' h1, h2]
theorem rowsR_flat {T : VT} {size id : Nat} {es : List (List TV)} (ho : T.objs[id]? = some (.row es.flatten)) (hz : ∀ e ∈ es, e.length = size) : rowsR T size (.row size id 0 es.length) = some es := by
 have hl := flatten_len hz
 have e1 : ((es.flatten.drop (0 * size)).take (es.length * size)) = es.flatten := by
  rw [Nat.zero_mul, List.drop_zero, ← hl, List.take_length]
 simp only [rowsR, ho]
 rw [e1, chunks_flatten size hz, Nat.beq_refl, Nat.zero_add, hl, Nat.ble_eq_true_of_le (Nat.le_refl _)]
 rfl
theorem VCx.freeze {f : FuncId} {xs : List TV} {T : VT} {size : Nat} {es : List (List TV)} {Q : VT → Prop} (h : VCx P G 0 f xs T fun x T' => ∃ id off n, x = .row size id off n ∧ rowsR T' size (.row size id off n) = some es ∧ Q (T'.kill id)) :
  VCx P G 0 f xs T fun x T' => x = .vec size es .none ∧ Q T' := by
 intro g w us rw0 hG hx
 refine Calls.mono (h g w us rw0 hG hx) ?_
 rintro e w' ⟨v, x, g', T', he, ⟨id, off, n, rfl, h1, hq⟩, e', r', hv, hfx⟩
 obtain ⟨g2, e2, r2, v2⟩ := row_freeze r' h1 hv
 refine ⟨v, _, g2, _, he, ⟨rfl, hq⟩, e'.trans e2, r2, v2, ⟨?_, fun i hi => absurd hi (Nat.not_lt_zero i), fun i o b hi => absurd hi (Nat.not_lt_zero i)⟩⟩
 have := hfx.len
 simp only [VT.kill, List.length_set]; exact this
end
end Go.Proofs.YtogbdjlelkepcaaGreatDoor
namespace Go.Proofs.YtogbdjlelkepcaaGreatDoor
open Go.RowKit

section
variable {P : Program} {G : Globs} {g : Gh} {T : VT} {w : World}
theorem RW.objLeAt (r : RW g T w) {i : Nat} {o o' : VO} (hi : T.objs[i]? = some o) (hl : o.live = true) (_hl' : o'.live = true) (ho : ∀ b, g.obj i = some b → OR g w b o → OR g w b o') : RW g { T with objs := T.objs.set i o' } w := by
 have hil : i < T.objs.length := (List.getElem?_eq_some_iff.1 hi).1
 have at' : ∀ (j : Nat) oj, (T.objs.set i o')[j]? = some oj → oj.live = true → ∃ o2, T.objs[j]? = some o2 ∧ o2.live = true ∧ ∀ b, g.obj j = some b → OR g w b o2 → OR g w b oj := fun j oj h hlj => by
  rw [List.getElem?_set] at h
  split at h
  ·rename_i hij; subst hij
   injection h with h; subst h
   exact ⟨o, hi, hl, ho⟩
  ·exact ⟨oj, h, hlj, fun _ _ h => h⟩
 exact {
  obj := fun id oj h hlj => by
   obtain ⟨o2, h1, h2, h3⟩ := at' id oj h hlj
   obtain ⟨b, h4, h5, h6⟩ := r.obj id o2 h1 h2
   exact ⟨b, h4, h3 b h4 h5, h6⟩
  inj := fun i j oi oj b hi li hj lj => by
   obtain ⟨o2, h1, h2, _⟩ := at' i oi hi li
   obtain ⟨o3, h3, h4, _⟩ := at' j oj hj lj
   exact r.inj i j o2 o3 b h1 h2 h3 h4
  out := fun id h => r.out id (by simpa using h)
  st := r.st
  fr := r.fr
  tl := r.tl
  tout := r.tout
  tinj := r.tinj
  tobj := fun i oi b k x hi li => by
   obtain ⟨o2, h1, h2, _⟩ := at' i oi hi li
   exact r.tobj i o2 b k x h1 h2
  own := r.own
  own0 := r.own0
  tlo := r.tlo }
theorem RW.objLe (r : RW g T w) {i : Nat} {o o' : VO} (hi : T.objs[i]? = some o) (hl : o.live = true) (hl' : o'.live = true) (ho : ∀ b, OR g w b o → OR g w b o') : RW g { T with objs := T.objs.set i o' } w := r.objLeAt hi hl hl' fun b _ h => ho b h
end
end Go.Proofs.YtogbdjlelkepcaaGreatDoor
namespace Go.Proofs.YtogbdjlelkepcaaGreatDoor
open Go.RowKit

section
variable {P : Program} {G : Globs}
theorem VCx.at1 {f : FuncId} {ro k : Nat} {ys0 ys1 : List TV} {o o1 : VO} {T : VT} {K : TV → VT → Prop} {Q : TV → VO → List VO → Prop} (hG : GVals G) (hro : ro ≤ k) (ho : T.objs[k]? = some o) (hl : o.live = true) (hren : o.ren (nameIn [k]) (nameIn []) = o1) (hy : renL (nameIn [k]) (nameIn []) ys0 = ys1)
  (hv : VCx P G 0 f ys1 ⟨[o1], []⟩ fun x T' => ∃ o' l', T' = ⟨o' :: l', []⟩ ∧ Q x o' l')
  (hk : ∀ x o' l', Q x o' l' → K (x.ren (nameOut T.objs.length [k]) (nameOut T.tails.length [])) ⟨T.objs.set k (o'.ren (nameOut T.objs.length [k]) (nameOut T.tails.length [])) ++ l'.map (VO.ren (nameOut T.objs.length [k]) (nameOut T.tails.length [])), T.tails⟩) : VCx P G ro f ys0 T K := by
 have hg : T.give [k] [] = ⟨[o1], []⟩ := by simp only [VT.give, List.map_cons, List.map_nil, ho, Option.getD_some, hren]
 refine (VCx.lift (xs := ys1) [k] [] hG (by simp) List.nodup_nil (fun j hj => ?_) (by simp) (fun i hi => ?_) hy (by rw [hg]; exact hv) (fun x T' hq => ?_)).mono ?_
 ·obtain rfl := List.mem_singleton.1 hj; exact ⟨_, ho, hl⟩
 ·obtain rfl := List.mem_singleton.1 hi; exact hro
 ·obtain ⟨o', l', rfl, _⟩ := hq; exact ⟨by simp, Nat.zero_le _⟩
 ·rintro x T' ⟨y, T2, ⟨o', l', rfl, hq⟩, rfl, rfl⟩
  simpa [VT.back, giveBack] using hk y o' l' hq
end
abbrev Bs := List (List TV)
def bT (z : Int) : List TV := [.val (.int .u8 z)]
def bV (l : List Int) : Bs := l.map bT
def IsB (b : Bs) : Prop := (∃ l : List Int, b = bV l ∧ ∀ z ∈ l, 0 ≤ z ∧ z < 256) ∧ b.length ≤ 1000000
def bval : List TV → Int
 | [.val (.int _ z)] => z
 | _ => 0
theorem IsB.take {b : Bs} (h : IsB b) (n : Nat) : IsB (b.take n) := by
 obtain ⟨⟨l, rfl, hl⟩, h2⟩ := h
 exact ⟨⟨l.take n, by simp [bV, List.map_take], fun z hz => hl z (List.mem_of_mem_take hz)⟩, by rw [List.length_take]; omega⟩
theorem IsB.drop {b : Bs} (h : IsB b) (n : Nat) : IsB (b.drop n) := by
 obtain ⟨⟨l, rfl, hl⟩, h2⟩ := h
 exact ⟨⟨l.drop n, by simp [bV, List.map_drop], fun z hz => hl z (List.mem_of_mem_drop hz)⟩, by rw [List.length_drop]; omega⟩
theorem IsB.nil : IsB [] := ⟨⟨[], rfl, fun _ h => by simp at h⟩, Nat.zero_le _⟩
theorem renLL_bV (f g : Nat → Option Nat) : ∀ l : List Int, renLL f g (bV l) = bV l
 | [] => rfl
 | a :: l => by simp only [bV, List.map_cons, renLL]; rw [show renLL f g (l.map bT) = l.map bT from renLL_bV f g l]; rfl
theorem IsB.ren {b : Bs} (h : IsB b) (f g : Nat → Option Nat) : renLL f g b = b := by
 obtain ⟨⟨l, rfl, _⟩, _⟩ := h
 exact renLL_bV f g l
theorem IsB.at {b : Bs} (h : IsB b) {j : Nat} {r : List TV} (hr : b[j]? = some r) : ∃ z : Int, r = bT z ∧ 0 ≤ z ∧ z < 256 := by
 obtain ⟨⟨l, rfl, hl⟩, _⟩ := h
 simp only [bV, List.getElem?_map, Option.map_eq_some_iff] at hr
 obtain ⟨z, hz, rfl⟩ := hr
 exact ⟨z, rfl, hl z (List.mem_of_getElem? hz)⟩
theorem IsB.small {b : Bs} (h : IsB b) : b.length ≤ 1000000 := h.2
theorem IsB.len1 {b : Bs} (h : IsB b) : ∀ e ∈ b, e.length = 1 := fun e he => by
 obtain ⟨j, hj, rfl⟩ := List.getElem_of_mem he
 obtain ⟨z, hz, _⟩ := h.at (List.getElem?_eq_getElem hj)
 rw [hz]; rfl
def tkOk (n : Int) (b : Bs) (e : Int) : Bool := decide (e = 0) && decide (0 ≤ n) && decide (n ≤ b.length)
def tkB (n : Int) (b : Bs) (e : Int) : Bs := bif tkOk n b e then b.take n.toNat else []
def tkR (n : Int) (b : Bs) (e : Int) : Bs := bif tkOk n b e then b.drop n.toNat else b
def tkE (n : Int) (b : Bs) (e : Int) : Int := bif decide (e = 0) then (bif decide (n < 0) then 2 else bif decide (n ≤ b.length) then 0 else 3) else e
def tkA (n : Int) (b : Bs) (e a : Int) : Int := bif tkOk n b e then IntKind.i64.wrap (a + n) else a
def beB (b : Bs) : Int := b.foldl (fun n r => n * 256 + bval r) 0
def nmB (k : Nat) (b : Bs) (e : Int) : Int := bif tkOk k b e then beB (b.take k) else 0
theorem tkB_is {n : Int} {b : Bs} {e : Int} (h : IsB b) : IsB (tkB n b e) := by
 unfold tkB; cases tkOk n b e
 ·exact .nil
 ·exact h.take _
theorem tkR_is {n : Int} {b : Bs} {e : Int} (h : IsB b) : IsB (tkR n b e) := by
 unfold tkR; cases tkOk n b e
 ·exact h
 ·exact h.drop _
theorem beB_app : ∀ (b : Bs) (r : List TV) , beB (b ++ [r]) = beB b * 256 + bval r := fun b r => by simp [beB, List.foldl_append]
theorem be_fold : ∀ (l : List Int) (n : Int), (∀ z ∈ l, 0 ≤ z ∧ z < 256) → 0 ≤ n → 0 ≤ (bV l).foldl (fun n r => n * 256 + bval r) n ∧ (bV l).foldl (fun n r => n * 256 + bval r) n < (n + 1) * 256 ^ l.length
 | [], n, _, h => by simp only [bV, List.map_nil, List.foldl_nil, List.length_nil, Int.pow_zero]; omega
 | z :: l, n, hz, h => by
  obtain ⟨h1, h2⟩ := hz z List.mem_cons_self
  have e : bval (bT z) = z := rfl
  obtain ⟨h3, h4⟩ := be_fold l (n * 256 + z) (fun x hx => hz x (List.mem_cons_of_mem _ hx)) (by omega)
  simp only [bV, List.map_cons, List.foldl_cons, e, List.length_cons] at h3 h4 ⊢
  refine ⟨h3, Int.lt_of_lt_of_le h4 ?_⟩
  have hp : (0 : Int) ≤ 256 ^ l.length := Int.pow_nonneg (by decide)
  have := Int.mul_le_mul_of_nonneg_right (show n * 256 + z + 1 ≤ (n + 1) * 256 by omega) hp
  rw [Int.pow_succ, Int.mul_comm (256 ^ l.length) 256, ← Int.mul_assoc]
  exact this
theorem beB_lt {l : List Int} (h : ∀ z ∈ l, 0 ≤ z ∧ z < 256) : 0 ≤ beB (bV l) ∧ beB (bV l) < 256 ^ l.length := by
 have := be_fold l 0 h (Int.le_refl _)
 simpa [beB] using this
def SmN (n : Int) : Prop := 0 ≤ n ∧ n ≤ 8
def LeN (n : Int) (b : Bs) : Prop := n ≤ b.length
def geN (n : Int) (b : Bs) : Int := beB (b.take n.toNat)
def nmI (n : Int) (b : Bs) (e : Int) : Int := bif tkOk n b e then geN n b else 0
theorem nmB_eq (k : Nat) (b : Bs) (e : Int) : nmB k b e = nmI k b e := by simp only [nmB, nmI, geN, Int.toNat_natCast]
theorem tkB_len {n : Int} {b : Bs} {e : Int} : ((tkB n b e).length : Int) = bif tkOk n b e then n else 0 := by
 unfold tkB
 cases h : tkOk n b e
 ·rfl
 ·simp only [tkOk, Bool.and_eq_true, decide_eq_true_eq] at h
  simp only [cond_true, List.length_take]; omega
theorem geN_tk {n : Int} {b : Bs} {e : Int} (h0 : 0 ≤ n) (h : n ≤ (tkB n b e).length) : geN n (tkB n b e) = nmI n b e := by
 unfold nmI
 rw [tkB_len] at h
 cases hc : tkOk n b e
 ·rw [hc] at h
  obtain rfl : n = 0 := by simp only [cond_false] at h; omega
  rfl
 ·simp only [geN, tkB, hc, cond_true, List.take_take, Nat.min_self]
theorem nmI_lo {n : Int} {b : Bs} {e : Int} (h : ((tkB n b e).length : Int) < n) : nmI n b e = 0 := by
 unfold nmI
 rw [tkB_len] at h
 cases hc : tkOk n b e
 ·rfl
 ·rw [hc] at h; simp only [cond_true] at h; omega
theorem nmI_lt {n : Nat} {b : Bs} (h : IsB b) (e : Int) : 0 ≤ nmI n b e ∧ nmI n b e < 256 ^ n := by
 have hp : (0 : Int) < 256 ^ n := Int.pow_pos (by decide)
 unfold nmI
 cases hc : tkOk n b e
 ·exact ⟨Int.le_refl _, hp⟩
 ·obtain ⟨⟨l, hl, hz⟩, _⟩ := h.take n
  simp only [cond_true, geN, Int.toNat_natCast]
  have hlen : l.length = n := by
   have := congrArg List.length hl
   simp only [tkOk, Bool.and_eq_true, decide_eq_true_eq] at hc
   simp only [bV, List.length_map, List.length_take] at this
   omega
  rw [hl]
  have := beB_lt hz
  rwa [hlen] at this
theorem or_byte {n z : Int} (h0 : 0 ≤ n) (hn : n < 72057594037927936) (hz : 0 ≤ z) (hz2 : z < 256) : IntKind.wrap .u64 ((BitVec.toNat (BitVec.ofInt (IntKind.bits .u64) (IntKind.wrap .u64 (n * (2 : Int) ^ min (Int.toNat (8 : Int)) (IntKind.bits .u64))) ||| BitVec.ofInt (IntKind.bits .u64) (IntKind.wrap .u64 z)) : Nat) : Int) = n * 256 + z := by
 obtain ⟨a, rfl⟩ := Int.eq_ofNat_of_zero_le h0
 obtain ⟨c, rfl⟩ := Int.eq_ofNat_of_zero_le hz
 have e1 : IntKind.wrap .u64 ((a : Int) * (2 : Int) ^ min (Int.toNat (8 : Int)) (IntKind.bits .u64)) = ((a * 256 : Nat) : Int) := by
  simp only [IntKind.wrap, IntKind.bits, IntKind.signed]; simp; omega
 have e2 : IntKind.wrap .u64 (c : Int) = (c : Int) := by simp only [IntKind.wrap, IntKind.bits, IntKind.signed]; simp; omega
 rw [e1, e2]
 have e3 : (BitVec.ofInt (IntKind.bits .u64) ((a * 256 : Nat) : Int) ||| BitVec.ofInt (IntKind.bits .u64) (c : Int)).toNat = a * 256 + c := by
  rw [BitVec.toNat_or]
  simp only [IntKind.bits, BitVec.ofInt_natCast, BitVec.toNat_ofNat]
  rw [Nat.mod_eq_of_lt (by omega), Nat.mod_eq_of_lt (by omega), show a * 256 = 2 ^ 8 * a by omega, Nat.two_pow_add_eq_or_of_lt (by omega : c < 2 ^ 8)]
 rw [e3]
 simp only [IntKind.wrap, IntKind.bits, IntKind.signed]; simp; omega
theorem VCx.asVec {P : Program} {G : Globs} {f : FuncId} {xs : List TV} {T : VT} {size : Nat} {es : List (List TV)} {Q : VT → Prop} (h : VCx P G 0 f xs T fun x T' => ((x = .val (.slice none 0 0) ∧ es = []) ∨ ∃ tok, x = .vec size es tok) ∧ Q T') : VCx P G 0 f xs T fun x T' => x = .vec size es .none ∧ Q T' := by
 intro g w us rw0 hG hx
 refine Calls.mono (h g w us rw0 hG hx) ?_
 rintro e w' ⟨v, x, g', T', he, ⟨hq, hQ⟩, e', r', hv, hfx⟩
 refine ⟨v, _, g', T', he, ⟨rfl, hQ⟩, e', r', ?_, hfx⟩
 rcases hq with ⟨rfl, rfl⟩ | ⟨tok, rfl⟩
 ·obtain rfl := hv.val_inv
  exact .nil trivial
 ·exact looseTV_ok hv
def srcO (b : Bs) (a e : Int) : VO := .cells [.val (.bool true), .vec 1 b .none, .val (.int .i64 a), .val (.int .i64 e)]
theorem srcO_ren {b : Bs} (h : IsB b) (a e : Int) (f g : Nat → Option Nat) : (srcO b a e).ren f g = srcO b a e := by
 simp only [srcO, VO.ren, renL, TV.ren, h.ren, Tok.ren]
def snW (kind : IntKind) (n : Nat) : Spec := fun ro ys T K => match ys with
 | [.ptr k 0] => match T.objs[k]? with
  | some (.cells [.val (.bool true), .vec 1 b .none, .val (.int .i64 a), .val (.int .i64 e)]) => (Nat.ble ro k = true ∧ IsB b) ∧ K (.val (.int kind (nmB n b e))) { T with objs := T.objs.set k (srcO (tkR n b e) (tkA n b e a) (tkE n b e)) }
  | _ => False
 | _ => False
section
variable {P : Program} {G : Globs}
theorem snW_ok (hG : GVals G) {f : FuncId} {kind : IntKind} {n : Nat} (h : ∀ b a e, IsB b → VCx P G 0 f [.ptr 0 0] ⟨[srcO b a e], []⟩ fun x T' => x = .val (.int kind (nmB n b e)) ∧ T' = ⟨[srcO (tkR n b e) (tkA n b e a) (tkE n b e)], []⟩) :
  ∀ ro ys T K, snW kind n ro ys T K → VCx P G ro f ys T K := by
 intro ro ys T K hw
 unfold snW at hw
 split at hw
 ·rename_i k
  split at hw
  ·rename_i b a e ho
   obtain ⟨⟨hro, hb⟩, hk⟩ := hw
   refine VCx.at1 (Q := fun x o' l' => x = .val (.int kind (nmB n b e)) ∧ o' = srcO (tkR n b e) (tkA n b e a) (tkE n b e) ∧ l' = []) hG (Nat.le_of_ble_eq_true hro) ho rfl (srcO_ren hb a e _ _) (ys1 := [.ptr 0 0]) (by simp [renL, TV.ren, nameIn]) ((h b a e hb).mono fun x T' ⟨h1, h2⟩ => ⟨_, _, h2, h1, rfl, rfl⟩) ?_
   rintro x o' l' ⟨rfl, rfl, rfl⟩
   rw [srcO_ren (tkR_is hb)]
   simpa [TV.ren] using hk
  ·exact hw.elim
 ·exact hw.elim
end
end Go.Proofs.YtogbdjlelkepcaaGreatDoor
namespace Go.Proofs.YtogbdjlelkepcaaGreatDoor
open Go.RowKit

def leB (b : Bs) (e : Int) : Int := bif decide (e = 0) then (b.length : Int) else 0
def sbW : Spec := fun ro ys T K => match ys with
 | [.ptr k 0, .val (.int .i64 n)] => match T.objs[k]? with
  | some (.cells [.val (.bool true), .vec 1 b .none, .val (.int .i64 a), .val (.int .i64 e)]) => (Nat.ble ro k = true ∧ IsB b) ∧ K (.vec 1 (tkB n b e) .none) { T with objs := T.objs.set k (srcO (tkR n b e) (tkA n b e a) (tkE n b e)) }
  | _ => False
 | _ => False
def slW : Spec := fun ro ys T K => match ys with
 | [.ptr k 0] => match T.objs[k]? with
  | some (.cells [.val (.bool true), .vec 1 b .none, .val (.int .i64 a), .val (.int .i64 e)]) => (Nat.ble ro k = true ∧ IsB b) ∧ K (.val (.int .i64 (leB b e))) T
  | _ => False
 | _ => False
def seW : Spec := fun ro ys T K => match ys with
 | [.ptr k 0] => match T.objs[k]? with
  | some (.cells [.val (.bool true), .vec 1 b .none, .val (.int .i64 a), .val (.int .i64 e)]) => (Nat.ble ro k = true ∧ IsB b) ∧ K (.val (.int .i64 e)) T
  | _ => False
 | _ => False
def ssubW : Spec := fun ro ys T K => match ys with
 | [.ptr k 0, .val (.int .i64 n)] => match T.objs[k]? with
  | some (.cells [.val (.bool true), .vec 1 b .none, .val (.int .i64 a), .val (.int .i64 e)]) => (Nat.ble ro k = true ∧ IsB b) ∧ K (.ptr T.objs.length 0) { T with objs := T.objs.set k (srcO (tkR n b e) (tkA n b e a) (tkE n b e)) ++ [srcO (tkB n b e) 0 0] }
  | _ => False
 | _ => False
def srestW : Spec := fun ro ys T K => match ys with
 | [.ptr k 0] => match T.objs[k]? with
  | some (.cells [.val (.bool true), .vec 1 b .none, .val (.int .i64 a), .val (.int .i64 e)]) => (Nat.ble ro k = true ∧ IsB b) ∧ K (.vec 1 (tkB (leB b e) b e) .none) { T with objs := T.objs.set k (srcO (tkR (leB b e) b e) (tkA (leB b e) b e a) (tkE (leB b e) b e)) }
  | _ => False
 | _ => False
def sreadW : Spec := fun _ ys T K => match ys with
 | [.vec 1 b _] => IsB b ∧ K (.ptr T.objs.length 0) { T with objs := T.objs ++ [srcO b 0 0] }
 | _ => False
section
variable {P : Program} {G : Globs}
theorem set_same {T : VT} {k : Nat} {o : VO} (h : T.objs[k]? = some o) : T.objs.set k o = T.objs := by
 apply List.ext_getElem?
 intro j
 rw [List.getElem?_set]
 split
 ·rename_i e; subst e
  rw [if_pos (List.getElem?_eq_some_iff.1 h).1, h]
 ·rfl
theorem sbW_ok (hG : GVals G) {f : FuncId} (h : ∀ b a e n, IsB b → VCx P G 0 f [.ptr 0 0, .val (.int .i64 n)] ⟨[srcO b a e], []⟩ fun x T' => x = .vec 1 (tkB n b e) .none ∧ T' = ⟨[srcO (tkR n b e) (tkA n b e a) (tkE n b e)], []⟩) :
  ∀ ro ys T K, sbW ro ys T K → VCx P G ro f ys T K := by
 intro ro ys T K hw
 unfold sbW at hw
 split at hw
 ·rename_i k n
  split at hw
  ·rename_i b a e ho
   obtain ⟨⟨hro, hb⟩, hk⟩ := hw
   refine VCx.at1 (Q := fun x o' l' => x = .vec 1 (tkB n b e) .none ∧ o' = srcO (tkR n b e) (tkA n b e a) (tkE n b e) ∧ l' = []) hG (Nat.le_of_ble_eq_true hro) ho rfl (srcO_ren hb a e _ _) (ys1 := [.ptr 0 0, .val (.int .i64 n)]) (by simp [renL, TV.ren, nameIn]) ((h b a e n hb).mono fun x T' ⟨h1, h2⟩ => ⟨_, _, h2, h1, rfl, rfl⟩) ?_
   rintro x o' l' ⟨rfl, rfl, rfl⟩
   rw [srcO_ren (tkR_is hb)]
   simpa [TV.ren, (tkB_is hb).ren, Tok.ren] using hk
  ·exact hw.elim
 ·exact hw.elim
theorem slW_ok (hG : GVals G) {f : FuncId} (h : ∀ b a e, IsB b → VCx P G 0 f [.ptr 0 0] ⟨[srcO b a e], []⟩ fun x T' => x = .val (.int .i64 (leB b e)) ∧ T' = ⟨[srcO b a e], []⟩) :
  ∀ ro ys T K, slW ro ys T K → VCx P G ro f ys T K := by
 intro ro ys T K hw
 unfold slW at hw
 split at hw
 ·rename_i k
  split at hw
  ·rename_i b a e ho
   obtain ⟨⟨hro, hb⟩, hk⟩ := hw
   refine VCx.at1 (Q := fun x o' l' => x = .val (.int .i64 (leB b e)) ∧ o' = srcO b a e ∧ l' = []) hG (Nat.le_of_ble_eq_true hro) ho rfl (srcO_ren hb a e _ _) (ys1 := [.ptr 0 0]) (by simp [renL, TV.ren, nameIn]) ((h b a e hb).mono fun x T' ⟨h1, h2⟩ => ⟨_, _, h2, h1, rfl, rfl⟩) ?_
   rintro x o' l' ⟨rfl, rfl, rfl⟩
   rw [srcO_ren hb, show T.objs.set k (srcO b a e) = T.objs from set_same ho]
   simpa [TV.ren] using hk
  ·exact hw.elim
 ·exact hw.elim
theorem seW_ok (hG : GVals G) {f : FuncId} (h : ∀ b a e, IsB b → VCx P G 0 f [.ptr 0 0] ⟨[srcO b a e], []⟩ fun x T' => x = .val (.int .i64 e) ∧ T' = ⟨[srcO b a e], []⟩) :
  ∀ ro ys T K, seW ro ys T K → VCx P G ro f ys T K := by
 intro ro ys T K hw
 unfold seW at hw
 split at hw
 ·rename_i k
  split at hw
  ·rename_i b a e ho
   obtain ⟨⟨hro, hb⟩, hk⟩ := hw
   refine VCx.at1 (Q := fun x o' l' => x = .val (.int .i64 e) ∧ o' = srcO b a e ∧ l' = []) hG (Nat.le_of_ble_eq_true hro) ho rfl (srcO_ren hb a e _ _) (ys1 := [.ptr 0 0]) (by simp [renL, TV.ren, nameIn]) ((h b a e hb).mono fun x T' ⟨h1, h2⟩ => ⟨_, _, h2, h1, rfl, rfl⟩) ?_
   rintro x o' l' ⟨rfl, rfl, rfl⟩
   rw [srcO_ren hb, show T.objs.set k (srcO b a e) = T.objs from set_same ho]
   simpa [TV.ren] using hk
  ·exact hw.elim
 ·exact hw.elim
theorem ssubW_ok (hG : GVals G) {f : FuncId} (h : ∀ b a e n, IsB b → VCx P G 0 f [.ptr 0 0, .val (.int .i64 n)] ⟨[srcO b a e], []⟩ fun x T' => x = .ptr 1 0 ∧ T' = ⟨[srcO (tkR n b e) (tkA n b e a) (tkE n b e), srcO (tkB n b e) 0 0], []⟩) :
  ∀ ro ys T K, ssubW ro ys T K → VCx P G ro f ys T K := by
 intro ro ys T K hw
 unfold ssubW at hw
 split at hw
 ·rename_i k n
  split at hw
  ·rename_i b a e ho
   obtain ⟨⟨hro, hb⟩, hk⟩ := hw
   refine VCx.at1 (Q := fun x o' l' => x = .ptr 1 0 ∧ o' = srcO (tkR n b e) (tkA n b e a) (tkE n b e) ∧ l' = [srcO (tkB n b e) 0 0]) hG (Nat.le_of_ble_eq_true hro) ho rfl (srcO_ren hb a e _ _) (ys1 := [.ptr 0 0, .val (.int .i64 n)]) (by simp [renL, TV.ren, nameIn]) ((h b a e n hb).mono fun x T' ⟨h1, h2⟩ => ⟨_, _, h2, h1, rfl, rfl⟩) ?_
   rintro x o' l' ⟨rfl, rfl, rfl⟩
   rw [srcO_ren (tkR_is hb)]
   simp only [List.map_cons, List.map_nil, srcO_ren (tkB_is hb)]
   simpa [TV.ren, nameOut] using hk
  ·exact hw.elim
 ·exact hw.elim
theorem srestW_ok (hG : GVals G) {f : FuncId} (h : ∀ b a e, IsB b → VCx P G 0 f [.ptr 0 0] ⟨[srcO b a e], []⟩ fun x T' => x = .vec 1 (tkB (leB b e) b e) .none ∧ T' = ⟨[srcO (tkR (leB b e) b e) (tkA (leB b e) b e a) (tkE (leB b e) b e)], []⟩) :
  ∀ ro ys T K, srestW ro ys T K → VCx P G ro f ys T K := by
 intro ro ys T K hw
 unfold srestW at hw
 split at hw
 ·rename_i k
  split at hw
  ·rename_i b a e ho
   obtain ⟨⟨hro, hb⟩, hk⟩ := hw
   refine VCx.at1 (Q := fun x o' l' => x = .vec 1 (tkB (leB b e) b e) .none ∧ o' = srcO (tkR (leB b e) b e) (tkA (leB b e) b e a) (tkE (leB b e) b e) ∧ l' = []) hG (Nat.le_of_ble_eq_true hro) ho rfl (srcO_ren hb a e _ _) (ys1 := [.ptr 0 0]) (by simp [renL, TV.ren, nameIn]) ((h b a e hb).mono fun x T' ⟨h1, h2⟩ => ⟨_, _, h2, h1, rfl, rfl⟩) ?_
   rintro x o' l' ⟨rfl, rfl, rfl⟩
   rw [srcO_ren (tkR_is hb)]
   simpa [TV.ren, (tkB_is hb).ren, Tok.ren] using hk
  ·exact hw.elim
 ·exact hw.elim
theorem sreadW_ok (hG : GVals G) {f : FuncId} (h : ∀ b, IsB b → VCx P G 0 f [.vec 1 b .none] ⟨[], []⟩ fun x T' => x = .ptr 0 0 ∧ T' = ⟨[srcO b 0 0], []⟩) :
  ∀ ro ys T K, sreadW ro ys T K → VCx P G ro f ys T K := by
 intro ro ys T K hw
 unfold sreadW at hw
 split at hw
 ·rename_i b tok
  obtain ⟨hb, hk⟩ := hw
  refine VCx.loose ?_
  refine (VCx.lift (xs := [.vec 1 b .none]) [] [] hG List.nodup_nil List.nodup_nil (fun k hk => by simp at hk) (by simp) (fun i hi => by simp at hi) (by simp [renL, looseTV, TV.ren, hb.ren, Tok.ren]) (h b hb) (fun x T' hq => ⟨Nat.zero_le _, Nat.zero_le _⟩)).mono ?_
  rintro x T' ⟨y, T2, ⟨rfl, rfl⟩, rfl, rfl⟩
  have e : VT.back T [] [] ⟨[srcO b 0 0], []⟩ = { T with objs := T.objs ++ [srcO b 0 0] } := by
   simp only [VT.back, List.map_cons, List.map_nil, srcO_ren hb, giveBack, List.append_nil]
  rw [e]
  simpa [TV.ren, nameOut] using hk
 ·exact hw.elim
end
def remB (B : Bs) (n : Int) : Bs := B.drop n.toNat
def tkN (m : Int) (B : Bs) (n e : Int) : Int := bif tkOk m (remB B n) e then n + m else n
section
variable {P : Program} {G : Globs}
end
end Go.Proofs.YtogbdjlelkepcaaGreatDoor
namespace Go.Proofs.YtogbdjlelkepcaaGreatDoor
open Go.RowKit

section
variable {P : Program} {G : Globs}
end
end Go.Proofs.YtogbdjlelkepcaaGreatDoor
namespace Go.Proofs.YtogbdjlelkepcaaGreatDoor
open Go.RowKit

section
variable {P : Program} {G : Globs}
end
end Go.Proofs.YtogbdjlelkepcaaGreatDoor
namespace Go.Proofs.YtogbdjlelkepcaaGreatDoor
open Go.RowKit
abbrev zz0 (a1 : Int) : TV := (.val (.int .i64 a1))
abbrev zz1 (a1 : List (List TV)) : TV := (.vec 1 a1 .none)
abbrev zz2 (a1 a2 : Int) (a3 : List (List TV)) : VO := (.cells [(zz0 a1), (zz0 a2), (zz1 a3)])
abbrev zz3 (a1 a2 : Int) (a3 : List (List TV)) (a4 : VO) (a5 a6 : Int) (a7 : List (List TV)) (a8 : List (Nat × Nat × Bool)) : VT := ⟨[(zz2 a1 a2 a3), a4, (zz2 a5 a6 a7)], a8⟩
abbrev zz4 (a1 : Int) : TV := (.val (.int .u32 a1))
abbrev zz5 : TV := (.val (.slice .none 0 0))
abbrev zz6 : TV := (.val (.int .i64 0))
abbrev zz7 : TV := (.val (.int .u32 0))
abbrev zz8 : TV := (.val (.bool false))
abbrev zz9 (a1 a2 a3 a4 : Int) (a5 : TV) (a6 a7 : Int) (a8 : List (List TV)) : VO := (.cells [(zz0 a1), (zz0 a2), (zz0 a3), (zz4 a4), a5, zz5, zz6, zz5, zz7, zz6, zz8, zz5, (zz0 a6), (zz0 a7), (zz1 a8)])
abbrev zz10 (a1 : List (List TV)) (a2 : Nat) : TV := (.vec 15 a1 (.tail 0 a2))
abbrev zz11 (a1 : List (List TV)) : TV := (.vec 2 a1 .none)
abbrev zz12 (a1 : Bool) : TV := (.val (.bool a1))
abbrev zz13 (a1 a2 a3 a4 : Int) (a5 a6 : List (List TV)) (a7 : Int) (a8 : List (List TV)) (a9 a10 : Int) (a11 : Bool) (a12 : List (List TV)) (a13 a14 : Int) (a15 : List (List TV)) : TV := (.elt [(zz0 a1), (zz0 a2), (zz0 a3), (zz4 a4), (zz11 a5), (zz11 a6), (zz0 a7), (zz1 a8), (zz4 a9), (zz0 a10), (zz12 a11), (zz11 a12), (zz0 a13), (zz0 a14), (zz1 a15)])
abbrev zz14 (a1 : List (List TV)) : TV := (.vec 15 a1 .none)
abbrev zz15 (a1 a2 : Int) (a3 : List (List TV)) : List TV := [(zz0 a1), (zz0 a2), (zz1 a3)]
abbrev zz16 (a1 : Int) (a2 : List (List TV)) : TV := (.elt [(zz0 a1), (zz1 a2)])
abbrev zz17 (a1 a2 a3 : Int) (a4 : List (List TV)) : VO := (.cells [(zz0 a1), (zz0 a2), (zz4 a3), (zz11 a4)])
abbrev zz18 (a1 a2 a3 : Int) (a4 : List (List TV)) (a5 a6 a7 : Int) (a8 : List (List TV)) : VT := ⟨[(zz17 a1 a2 a3 a4), (zz17 a5 a6 a7 a8)], []⟩
abbrev zz19 : TV := (.ptr 0 0)
abbrev zz20 : TV := (.ptr 1 0)
abbrev zz21 (a1 a2 : Int) : List TV := [zz19, zz20, (zz0 a1), (zz0 a2)]
abbrev zz22 (a1 : Int) : List TV := [zz19, zz20, (zz0 a1), zz6]
abbrev zz23 (a1 : Int) (a2 : List (List TV)) (a3 a4 : Int) (a5 : Bool) : VO := (.cells [(zz0 a1), (zz1 a2), (zz4 a3), (zz0 a4), (zz12 a5)])
abbrev zz24 (a1 : Int) (a2 : List (List TV)) (a3 a4 : Int) (a5 : Bool) (a6 : Int) (a7 : List (List TV)) (a8 a9 : Int) (a10 : Bool) : VT := ⟨[(zz23 a1 a2 a3 a4 a5), (zz23 a6 a7 a8 a9 a10)], []⟩
abbrev zz25 (a1 a2 : Int) (a3 : List (List TV)) (a4 a5 : Int) (a6 : List (List TV)) : VT := ⟨[(zz2 a1 a2 a3), (zz2 a4 a5 a6)], []⟩
abbrev zz26 (a1 a2 a3 a4 : Int) (a5 a6 : List (List TV)) (a7 : Int) (a8 : List (List TV)) (a9 a10 : Int) (a11 : Bool) (a12 : List (List TV)) (a13 a14 : Int) (a15 : List (List TV)) : VO := (.cells [(zz0 a1), (zz0 a2), (zz0 a3), (zz4 a4), (zz11 a5), (zz11 a6), (zz0 a7), (zz1 a8), (zz4 a9), (zz0 a10), (zz12 a11), (zz11 a12), (zz0 a13), (zz0 a14), (zz1 a15)])
abbrev zz27 : TV := (.val (.bool true))
abbrev zz28 (a1 : Nat) : TV := (.row 1 2 0 a1)
abbrev zz29 : TV := (.vec 1 [] .none)
abbrev zz30 (a1 : Int) (a2 : Nat) (a3 : Int) : VO := (.cells [zz27, (zz0 a1), (zz28 a2), zz6, zz6, zz29, (zz0 a3)])
abbrev zz31 : TV := (.row 1 0 0 0)
abbrev zz32 (a1 : List TV) : VO := (.row a1)
abbrev zz33 : VO := (.cells [zz6, zz6, zz5])
abbrev zz34 (a1 a2 : Int) : VO := (.cells [(zz0 a1), (zz0 a2), zz29])
abbrev zz35 (a1 : List TV) (a2 a3 a4 a5 : Int) : VT := ⟨[(zz32 a1), zz33, (zz34 a2 a3), (zz34 a4 a5)], []⟩
abbrev zz36 : VO := (.cells [zz6, zz6, zz6, zz7, zz5, zz5, zz6, zz5, zz7, zz6, zz8, zz5, zz6, zz6, zz5])
abbrev zz37 : TV := (.val (.int .i64 1))
abbrev zz38 : TV := (.val (.int .i64 2))
abbrev zz39 (a1 : List TV) (a2 : Int) (a3 : List (List TV)) (a4 : Int) (a5 : List (List TV)) : VT := ⟨[(zz32 a1), zz36, (.cells [zz37, (zz0 a2), (zz1 a3)]), (.cells [zz37, (zz0 a4), (zz1 a5)]), (.cells [zz37, zz38, zz5])], []⟩
abbrev zz40 : TV := (.agg [zz6, zz6, zz6, zz7, zz5, zz5, zz6, zz5, zz7, zz6, zz8, zz5, zz6, zz6, zz5])
abbrev zz41 (a1 : Int) (a2 : List (List TV)) : TV := (.tup [zz40, (.agg [zz37, (zz0 a1), (zz1 a2)])])
abbrev zz42 (a1 : Int) : VO := (.cells [(zz0 a1), zz6, zz6, zz7, zz5, zz5, zz6, zz5, zz7, zz6, zz8, zz5, zz6, zz6, zz5])
abbrev zz43 : VO := (.cells [zz6, zz6, zz29])
abbrev zz44 : VO := (.cells [zz37, zz38, (.row 1 5 0 2)])
abbrev zz45 (a1 : List TV) (a2 : Int) (a3 a4 : TV) (a5 : Int) : VT := ⟨[(zz32 a1), (zz42 a2), zz33, zz43, zz44, (.row [a3, a4]), (zz42 a5)], []⟩
abbrev zz46 : TV := (.agg [zz6, zz6, zz5])
abbrev zz47 (a1 : Int) : TV := (.tup [(.agg [(zz0 a1), zz6, zz6, zz7, zz5, zz5, zz6, zz5, zz7, zz6, zz8, zz5, zz6, zz6, zz5]), zz46])
abbrev zz48 (a1 a2 a3 : Int) (a4 : List (List TV)) : VO := (.cells [(zz0 a1), zz6, zz6, zz7, zz5, zz5, zz6, zz5, zz7, zz6, zz8, zz5, (zz0 a2), (zz0 a3), (zz1 a4)])
abbrev zz49 (a1 a2 a3 a4 : Int) (a5 : List (List TV)) : VO := (.cells [(zz0 a1), (zz0 a2), (zz0 a3), (zz4 a4), (zz11 a5), zz5, zz6, zz5, zz7, zz6, zz8, zz5, zz6, zz6, zz5])
abbrev zz50 (a1 : List TV) (a2 a3 : TV) : VT := ⟨[(zz32 a1), zz36, zz44, zz43, zz44, (.row [a2, a3])], []⟩
abbrev zz51 : TV := (.tup [zz40, (.agg [zz37, zz38, (.row 1 5 0 2)])])
abbrev zz52 (a1 : Int) : TV := (.val (.int .u8 a1))
abbrev zz53 (a1 a2 : Int) : VO := (.row [(zz52 a1), (zz52 a2)])
abbrev zz54 : TV := (.val (.int .u8 255))
abbrev zz55 : VO := (.cells [zz54, zz54, zz54, zz54, zz54, zz54, zz54, zz54, zz54, zz54, zz54, zz54, zz54, zz54, zz54, zz54])
abbrev zz56 (a1 : List TV) (a2 a3 : Int) : VT := ⟨[(zz32 a1), zz33, (zz53 a2 a3), zz55, zz55], []⟩
abbrev zz57 (a1 a2 : Int) : TV := (.tup [(zz0 a1), (zz0 a2), zz46])
abbrev zz58 : TV := (.val (.int .i64 3))
abbrev zz59 (a1 : List (List TV)) : TV := (.vec 1 a1 .full)
abbrev zz60 (a1 : List TV) (a2 : List (List TV)) (a3 a4 : Int) (a5 : List (List TV)) : VT := ⟨[(zz32 a1), (.cells [zz37, zz58, (zz59 a2)]), (zz53 a3 a4), zz55, zz55, (.cells [zz37, zz58, (zz59 a5)])], []⟩
abbrev zz61 (a1 : List (List TV)) : TV := (.tup [zz6, zz6, (.agg [zz37, zz58, (zz59 a1)])])
abbrev zz62 (a1 : List TV) (a2 a3 : Int) : VT := ⟨[(zz32 a1), (.cells [zz37, zz38, (.row 1 2 0 2)]), (zz53 a2 a3), zz55, zz55, (.cells [zz37, zz38, (.row 1 2 0 2)])], []⟩
abbrev zz63 : TV := (.tup [zz6, zz6, (.agg [zz37, zz38, (.row 1 2 0 2)])])
abbrev zz64 : VO := (.cells [zz37, zz37, zz5])
abbrev zz65 : List TV := [zz6, (.val (.int .i64 29)), (.val (.int .i64 23)), (.val (.int .i64 21)), (.val (.int .i64 19))]
abbrev zz66 (a1 a2 : Int) (a3 : List (List TV)) : TV := (.agg [(zz0 a1), (zz0 a2), (zz1 a3)])
abbrev zz67 (a1 : List TV) (a2 a3 : Int) (a4 : List (List TV)) (a5 a6 : Int) (a7 : List (List TV)) : VT := ⟨[(zz32 a1), zz33, (zz2 a2 a3 a4), (zz2 a5 a6 a7)], []⟩
abbrev zz68 : TV := (.tup [zz46, zz8])
abbrev zz69 (a1 : Nat) : TV := (.row 1 1 0 a1)
abbrev zz70 (a1 : List TV) : VT := ⟨[(zz32 a1)], []⟩
abbrev zz71 : TV := (.val (.int .i64 6))
abbrev zz72 : VO := (.cells [zz38, zz71, zz5])
abbrev zz73 : TV := (.agg [zz6, zz6, zz7, zz5])
abbrev zz74 : TV := (.tup [zz73, (.agg [zz38, zz71, zz5])])
abbrev zz75 (a1 : Int) : VO := (.cells [zz38, (zz0 a1), zz5])
abbrev zz76 (a1 : Int) : TV := (.tup [zz73, (.agg [zz38, (zz0 a1), zz5])])
abbrev zz77 (a1 a2 a3 : Int) (a4 : List (List TV)) : TV := (.tup [(.agg [(zz0 a1), (zz0 a2), (zz4 a3), (zz11 a4)]), zz46])
abbrev zz78 : VO := (.cells [zz38, zz58, zz5])
abbrev zz79 : TV := (.tup [zz73, (.agg [zz38, zz58, zz5])])
abbrev zz80 (a1 a2 a3 : Int) : VO := (.cells [(zz0 a1), (zz0 a2), (zz4 a3), zz5])
abbrev zz81 : VO := (.cells [zz38, zz38, zz5])
abbrev zz82 : TV := (.tup [zz73, (.agg [zz38, zz38, zz5])])
abbrev zz83 : VO := (.cells [zz38, zz6, zz5])
abbrev zz84 : VO := (.cells [zz6, zz6, zz7, zz5])
abbrev zz85 : TV := (.tup [zz73, (.agg [zz38, zz6, zz5])])
abbrev zz86 : VO := (.cells [zz58, (.val (.int .i64 10)), zz5])
abbrev zz87 : TV := (.agg [zz5, zz6, zz5, zz7, zz6, zz8, zz5])
abbrev zz88 : TV := (.tup [zz87, (.agg [zz58, (.val (.int .i64 10)), zz5])])
abbrev zz89 (a1 a2 : List (List TV)) : VO := (.cells [(zz11 a1), zz6, zz29, zz7, zz6, zz8, (zz11 a2)])
abbrev zz90 (a1 a2 : List (List TV)) : TV := (.tup [(.agg [(zz11 a1), zz6, zz29, zz7, zz6, zz8, (zz11 a2)]), zz46])
abbrev zz91 : VO := (.cells [zz6, zz29, zz7, zz6, zz8])
abbrev zz92 (a1 : Int) (a2 : List (List TV)) : TV := (.tup [zz87, (.agg [zz58, (zz0 a1), (zz1 a2)])])
abbrev zz93 (a1 : List (List TV)) (a2 : Int) (a3 : List (List TV)) (a4 a5 : Int) (a6 : Bool) (a7 : List (List TV)) : VO := (.cells [(zz11 a1), (zz0 a2), (zz1 a3), (zz4 a4), (zz0 a5), (zz12 a6), (zz11 a7)])
abbrev zz94 (a1 : List (List TV)) (a2 : Int) (a3 : List (List TV)) (a4 a5 : Int) (a6 : Bool) (a7 : List (List TV)) : TV := (.tup [(.agg [(zz11 a1), (zz0 a2), (zz1 a3), (zz4 a4), (zz0 a5), (zz12 a6), (zz11 a7)]), zz46])
abbrev zz95 (a1 : List (List TV)) : VO := (.cells [(.ptr 5 6), (zz1 a1)])
abbrev zz96 (a1 : List (List TV)) : VO := (.cells [(.ptr 5 0), (zz1 a1)])
abbrev zz97 (a1 a2 : List (List TV)) : VO := (.cells [(zz11 a1), zz6, zz5, zz7, zz6, zz8, (zz11 a2)])
abbrev zz98 (a1 a2 : List (List TV)) : TV := (.tup [(.agg [(zz11 a1), zz6, zz5, zz7, zz6, zz8, (zz11 a2)]), zz46])
abbrev zz99 : TV := (.ptr 3 0)
abbrev zz100 : VO := (.cells [zz99])
abbrev zz101 : VO := (.cells [zz5, zz6, zz5, zz7, zz6, zz8, zz5])
abbrev zz102 (a1 : Int) (a2 : List (List TV)) : VO := (.cells [zz58, (zz0 a1), (zz1 a2)])
abbrev zz103 : TV := (.ptr 4 0)
abbrev zz104 (a1 : List (List TV)) (a2 a3 : Int) : List TV := [zz19, zz20, zz99, zz103, (.vec 3 a1 .none), (zz0 a2), (zz0 a3)]
abbrev zz105 : VO := (.cells [zz6, zz5, zz7, zz6, zz8])
abbrev zz106 (a1 : Int) (a2 : TV) (a3 a4 : Int) (a5 : Bool) : VO := (.cells [(zz0 a1), a2, (zz4 a3), (zz0 a4), (zz12 a5)])
abbrev zz107 (a1 : Int) (a2 : TV) (a3 a4 : Int) (a5 : Bool) (a6 : List TV) (a7 a8 : Int) (a9 : List (List TV)) : VT := ⟨[zz105, zz33, zz43, (zz106 a1 a2 a3 a4 a5), (.cells a6), (zz2 a7 a8 a9)], []⟩
abbrev zz108 : VO := (.cells [zz58, zz37, zz29])
abbrev zz109 : TV := (.agg [zz6, zz5, zz7, zz6, zz8])
abbrev zz110 (a1 : List (List TV)) (a2 : Int) (a3 : List (List TV)) (a4 a5 : Int) (a6 : Bool) (a7 : List TV) : VT := ⟨[zz105, (.cells [zz58, zz58, (zz59 a1)]), zz43, (zz23 a2 a3 a4 a5 a6), (.cells a7)], []⟩
abbrev zz111 (a1 a2 a3 : Int) (a4 : Bool) : VO := (.cells [(zz0 a1), zz5, (zz4 a2), (zz0 a3), (zz12 a4)])
abbrev zz112 (a1 : List (List TV)) (a2 a3 a4 : Int) (a5 : Bool) (a6 : List TV) : VT := ⟨[zz105, (.cells [zz58, zz58, (zz59 a1)]), zz43, (zz111 a2 a3 a4 a5), (.cells a6)], []⟩
abbrev zz113 (a1 : List (List TV)) : TV := (.tup [zz109, (.agg [zz58, zz58, (zz59 a1)])])
abbrev zz114 : VT := ⟨[zz105, zz33, zz43, zz105, (.cells [zz8, zz8, zz8, zz8, zz8, zz8, zz8, zz8, zz8, zz8, zz8, zz8, zz8, zz8, zz8, zz8, zz8, zz8, zz8, zz8, zz8, zz8, zz8, zz8, zz8, zz8, zz8, zz8, zz8, zz8, zz8, zz8, zz8, zz8, zz8, zz8, zz8, zz8, zz8, zz8, zz8, zz8, zz8, zz8, zz8, zz8, zz8, zz8, zz8, zz8, zz8, zz8, zz8, zz8, zz8, zz8, zz8, zz8, zz8, zz8, zz8, zz8, zz8, zz8, zz8, zz8, zz8, zz8, zz8, zz8, zz8, zz8, zz8, zz8, zz8, zz8, zz8, zz8, zz8, zz8, zz8, zz8, zz8, zz8, zz8, zz8, zz8, zz8, zz8, zz8, zz8, zz8, zz8, zz8, zz8, zz8, zz8, zz8, zz8, zz8, zz8, zz8, zz8, zz8, zz8, zz8, zz8, zz8, zz8, zz8, zz8, zz8, zz8, zz8, zz8, zz8, zz8, zz8, zz8, zz8, zz8, zz8, zz8, zz8, zz8, zz8, zz8, zz8, zz8, zz8, zz8, zz8, zz8, zz8, zz8, zz8, zz8, zz8, zz8, zz8, zz8, zz8, zz8, zz8, zz8, zz8, zz8, zz8, zz8, zz8, zz8, zz8, zz8, zz8, zz8, zz8, zz8, zz8, zz8, zz8, zz8, zz8, zz8, zz8, zz8, zz8, zz8, zz8, zz8, zz8, zz8, zz8, zz8, zz8, zz8, zz8, zz8, zz8, zz8, zz8, zz8, zz8, zz8, zz8, zz8, zz8, zz8, zz8, zz8, zz8, zz8, zz8, zz8, zz8, zz8, zz8, zz8, zz8, zz8, zz8, zz8, zz8, zz8, zz8, zz8, zz8, zz8, zz8, zz8, zz8, zz8, zz8, zz8, zz8, zz8, zz8, zz8, zz8, zz8, zz8, zz8, zz8, zz8, zz8, zz8, zz8, zz8, zz8, zz8, zz8, zz8, zz8, zz8, zz8, zz8, zz8, zz8, zz8, zz8, zz8, zz8, zz8, zz8, zz8, zz8, zz8, zz8, zz8, zz8, zz8, zz8, zz8, zz8, zz8, zz8, zz8])], []⟩
abbrev zz115 : VO := (.cells [zz19])
abbrev zz116 : TV := (.val (.int .i64 64))
abbrev zz117 : TV := (.val (.int .i64 4))
abbrev zz118 (a1 : TV) : VO := (.cells [zz116, zz117, a1])
abbrev zz119 (a1 : Int) (a2 : TV) (a3 a4 : Int) (a5 : Bool) (a6 a7 : Int) (a8 : List (List TV)) (a9 a10 : TV) : VT := ⟨[(zz106 a1 a2 a3 a4 a5), (zz2 a6 a7 a8), zz115, (zz118 a9), (zz118 a10)], []⟩
abbrev zz120 (a1 : TV) : VO := (.cells [zz116, zz37, a1])
abbrev zz121 (a1 : Int) (a2 : TV) (a3 a4 : Int) (a5 : Bool) (a6 a7 : Int) (a8 : List (List TV)) (a9 a10 : TV) : VT := ⟨[(zz106 a1 a2 a3 a4 a5), (zz2 a6 a7 a8), zz115, (zz120 a9), (zz120 a10)], []⟩
abbrev zz122 (a1 : TV) : VO := (.cells [zz6, zz6, a1])
abbrev zz123 (a1 : TV) : VO := (.cells [(.val (.int .i64 128)), zz117, a1])
abbrev zz124 (a1 : TV) : VO := (.cells [zz116, zz6, a1])
abbrev zz125 : TV := (.val (.int .i64 5))
abbrev zz126 (a1 : List (List TV)) (a2 : Nat) : TV := (.vec 1 a1 (.tail 0 a2))
abbrev zz127 (a1 : List (List TV)) (a2 : Nat) (a3 : Int) : List TV := [zz5, zz8, zz19, (zz126 a1 a2), (zz0 a3), zz6]
abbrev zz128 (a1 : List (List TV)) (a2 : Nat) : List TV := [zz5, zz8, zz19, (zz126 a1 a2)]
abbrev zz129 (a1 : List (List TV)) (a2 a3 : Int) (a4 : List (List TV)) (a5 a6 : Int) : List TV := [(zz1 a1), (zz0 a2), (zz0 a3), (zz1 a4), (zz0 a5), (zz0 a6)]
abbrev zz130 : VO := (.cells [zz58, zz37, zz5])
abbrev zz131 (a1 : List (List TV)) (a2 : Nat) : TV := (.vec 3 a1 (.tail 0 a2))
abbrev zz132 (a1 : List (List TV)) (a2 : Nat) : List TV := [zz5, zz19, zz20, (zz131 a1 a2)]
abbrev zz133 : TV := (.agg [zz58, zz37, zz5])
abbrev zz134 (a1 : List (List TV)) (a2 : Nat) : TV := (.vec 2 a1 (.tail 0 a2))
abbrev zz135 (a1 : List (List TV)) (a2 : Nat) : List TV := [zz19, zz5, zz6, zz8, (zz134 a1 a2)]
abbrev zz136 : TV := (.vec 2 [] (.tail 0 0))
abbrev zz137 : List TV := [zz19, zz5, zz6, zz8, zz136]
abbrev zz138 (a1 : Int) (a2 : List (List TV)) : VO := (.cells [(zz0 a1), (zz1 a2)])
abbrev zz139 (a1 : List (List TV)) (a2 : Nat) : List TV := [zz5, zz8, zz19, (zz134 a1 a2)]
abbrev zz140 : TV := (.tup [zz5, zz8])
abbrev zz141 : TV := (.val (.int .u8 0))
abbrev zz142 (a1 : Int) : VO := (.cells [(zz52 a1), zz141, zz141, zz141])
abbrev zz143 (a1 : Int) : List TV := [(zz52 a1)]
abbrev zz144 (a1 a2 : Int) : TV := (.tup [(.agg [(zz4 a1), (zz0 a2)]), zz27])
abbrev zz145 : VO := (.cells [zz141, zz141, zz141, zz141])
abbrev zz146 : VO := (.cells [zz7, zz6])
abbrev zz147 : TV := (.tup [(.agg [zz7, zz6]), zz8])
abbrev zz148 (a1 a2 : Int) : VO := (.cells [(zz4 a1), (zz0 a2)])
abbrev zz149 (a1 : VO) : VT := ⟨[a1], []⟩
abbrev zz150 : TV := (.vec 1 [] .full)
abbrev zz151 : VT := ⟨[], []⟩
abbrev k6 (a b : Int) : Bool := keyEq (Value.int IntKind.i64 a) (Value.int IntKind.i64 b)
end Go.Proofs.YtogbdjlelkepcaaGreatDoor
namespace Go.Proofs.YtogbdjlelkepcaaGreatDoor
open Go.RowKit

def noGl : Globs := fun _ => none
def noSp : FuncId → Option Spec := fun _ => none
def noLp : Nat → Option (LSpec × Code) := fun _ => none

abbrev clF := 41
abbrev wRdF := 71
abbrev wTkF := 115
abbrev wNmF := 111
abbrev wByF := 80
abbrev wSuF := 113
abbrev wLeF := 76
abbrev wErF := 82
abbrev wReF := 81
abbrev wU8F := 72
abbrev wU16F := 73
abbrev wU32F := 74
abbrev wGeF := 69
abbrev wG32F := 139
def tl1 (T : VT) (n : Nat) : VT := { T with tails := [(n, 1, false)] }
def cloneW : Spec := fun _ ys T K => match ys with
 | [.vec 1 b _] => IsB b ∧ K (.vec 1 b .none) T
 | _ => False
def geK : List Nat := [5, 10, 11, 12]
def geV (b : Bs) (n j : Int) : List TV := [.val (.int .u64 n), .vec 1 b .none, .val (.int .i64 b.length), .val (.int .i64 j)]
def geL (b : Bs) (n : Int) (c0 : Code) : Nat → Option (LSpec × Code) := specsL [(0, loopL 23 geK [] (geV b 0 0) ⟨[], []⟩ fun K => K .normal (slotsN 23 geK (geV b n b.length)) ⟨[], []⟩ [], c0)]
def wTkW : Spec := fun ro ys T K => match ys with
 | [.ptr k 0, .val (.int .i64 n)] => match T.objs[k]? with
  | some (.cells [.val (.bool true), .vec 1 b .none, .val (.int .i64 a), .val (.int .i64 e)]) => (Nat.ble ro k = true ∧ IsB b) ∧ K (.vec 1 (tkB n b e) .none) { T with objs := T.objs.set k (srcO (tkR n b e) (tkA n b e a) (tkE n b e)) }
  | _ => False
 | _ => False
def getW : Spec := fun _ ys T K => match ys with
 | [.vec 1 b _, .val (.int .i64 n)] => (IsB b ∧ SmN n ∧ LeN n b) ∧ K (.val (.int .u64 (geN n b))) T
 | _ => False
def wNmW : Spec := fun ro ys T K => match ys with
 | [.ptr k 0, .val (.int .i64 n)] => match T.objs[k]? with
  | some (.cells [.val (.bool true), .vec 1 b .none, .val (.int .i64 a), .val (.int .i64 e)]) => (Nat.ble ro k = true ∧ IsB b ∧ SmN n) ∧ K (.val (.int .u64 (nmI n b e))) { T with objs := T.objs.set k (srcO (tkR n b e) (tkA n b e a) (tkE n b e)) }
  | _ => False
 | _ => False
theorem ev_cl0 (Q : TV → VT → Prop) : vcallF Tryz.prog noGl noSp noOra 300 noLp 0 clF [.vec 1 [] .none] zz151 Q =
 (Q zz5 zz151 ∧
 Q zz150 zz151) := by kernel_rfl
theorem ev_cl1 (r : List TV) (b : Bs) (Q : TV → VT → Prop) : vcallF Tryz.prog noGl noSp (tellS [(999998, .dead, none), (7, .vec 1 (r :: b) (.tail 0 (b.length + 1)), some fun T => tl1 T (b.length + 1))]) 300 noLp 0 clF [.vec 1 (r :: b) .none] zz151 Q =
 (OTurn Tryz.prog (fun _ => .none) 0 zz151 (.call ⟨(.builtin .append), #[(.tmp 5), (.tmp 6)], #[22, 22]⟩) [(5, zz150), (6, (zz1 ([(r)] ++ b)))] (zz126 ([(r)] ++ b) (List.length b + (1 : Nat))) ⟨[], [((List.length b + (1 : Nat)), (1, false))]⟩ ∧
 Q (zz126 ([(r)] ++ b) (List.length b + (1 : Nat))) ⟨[], [((List.length b + (1 : Nat)), (1, false))]⟩) := by kernel_rfl
theorem ev_wrd (b : Bs) (Q : TV → VT → Prop) : vcallF Tryz.prog noGl (specs [(clF, cloneW)]) noOra 300 noLp 0 wRdF [.vec 1 b .none] zz151 Q =
 (IsB (b) ∧
 Q zz19 ⟨[(.cells [zz27, (zz1 b), zz6, zz6])], []⟩) := by kernel_rfl
theorem ev_wtk (b : Bs) (a e n : Int) (k : Nat) (Q : TV → VT → Prop) : vcallF Tryz.prog noGl noSp (tellS [(999998, .dead, none), (32, .vec 1 (b.take k) .none, none), (40, .vec 1 (b.drop k) .none, none)]) 300 noLp 0 wTkF [.ptr 0 0, .val (.int .i64 n)] (zz149 (srcO b a e)) Q =
 (bif !eqRes BinOp.eql (k6 e (0 : Int))
 then Q zz5 ⟨[(.cells [zz27, (zz1 b), (zz0 a), (zz0 e)])], []⟩
 else (bif decide (n < (0 : Int))
 then Q zz5 ⟨[(.cells [zz27, (zz1 b), (zz0 a), zz38])], []⟩
 else (bif decide (n > (↑(List.length b) : Int))
 then Q zz5 ⟨[(.cells [zz27, (zz1 b), (zz0 a), zz58])], []⟩
 else (OPure Tryz.prog (fun _ => .none) (.slice 22 (.tmp 29) .none (.some (.tmp 30)) (.some (.tmp 31))) [(29, (zz1 b)), (30, (zz0 n)), (31, (zz0 n))] (zz1 (List.take k b)) ∧
 (OPure Tryz.prog (fun _ => .none) (.slice 22 (.tmp 38) (.some (.tmp 39)) .none .none) [(38, (zz1 b)), (39, (zz0 n))] (zz1 (List.drop k b)) ∧
 Q (zz1 (List.take k b)) ⟨[(.cells [zz27, (zz1 (List.drop k b)), (zz0 (IntKind.wrap IntKind.i64 (a + n))), (zz0 e)])], []⟩))))) := by kernel_rfl
theorem ev_wge (b c : Bs) (n m : Int) (Q : TV → VT → Prop) : vcallF Tryz.prog noGl noSp (tellS [(999998, .dead, none), (10, .vec 1 c .none, none)]) 300 (geL c m (codeAt Tryz.prog wGeF 0)) 0 wGeF [.vec 1 b .none, .val (.int .i64 n)] zz151 Q =
 (OPure Tryz.prog (fun _ => .none) (.slice 22 (.tmp 8) .none (.some (.tmp 9)) .none) [(8, (zz1 b)), (9, (zz0 n))] (zz1 c) ∧
 ((codeAt Tryz.prog wGeF (0 : Nat) = codeAt Tryz.prog wGeF (0 : Nat)) ∧
 (((@Eq (Option Nat) .none .none) ∧
 ((@Eq (Nat) 0 0) ∧
 ((@Eq (List Nat) [] []) ∧
 (True  ∧
 ((@Eq (VT) zz151 zz151) ∧
 ((@Eq (Bool) true true) ∧
 (@Eq (List TV) [(.val (.int .u64 0)), (zz1 c), (zz0 (↑(List.length c) : Int)), zz6] [(.val (.int .u64 0)), (zz1 c), (zz0 (↑(List.length c) : Int)), zz6]))))))) ∧
 Q (.val (.int .u64 m)) zz151))) := by kernel_rfl
theorem ev_wgeA (b : Bs) (n z : Int) (j : Nat) (Q : Exit → List TV → VT → List Nat → Nat → Prop) : vx Tryz.prog noGl noSp (tellS [(999998, .dead, none), (14, .elt (bT z), none)]) 300 noLp none 0 (loopAt Tryz.prog wGeF 0) (slotsN 23 geK (geV b n j)) zz151 [] (pickS geK Q) =
 (bif decide ((↑j : Int) < (↑(List.length b) : Int))
 then (OPure Tryz.prog (fun _ => .none) (.indexAddr 22 (.tmp 10) (.tmp 12)) [(10, (zz1 b)), (12, (zz0 (↑j : Int)))] (.elt [(zz52 z)]) ∧
 Q .normal [(.val (.int .u64 (IntKind.wrap IntKind.u64 (↑(BitVec.toNat (BitVec.ofInt (IntKind.bits IntKind.u64) (IntKind.wrap IntKind.u64 (n * (2 : Int) ^ min (Int.toNat (8 : Int)) (IntKind.bits IntKind.u64))) ||| BitVec.ofInt (IntKind.bits IntKind.u64) (IntKind.wrap IntKind.u64 z))) : Int)))), (zz1 b), (zz0 (↑(List.length b) : Int)), (zz0 (IntKind.wrap IntKind.i64 ((↑j : Int) + (1 : Int))))] zz151 [] 23)
 else Q (.exit 0) [(.val (.int .u64 n)), (zz1 b), (zz0 (↑(List.length b) : Int)), (zz0 (↑j : Int))] zz151 [] 23) := by kernel_rfl
theorem ev_wnm (b : Bs) (a e n : Int) (Q : TV → VT → Prop) : vcallF Tryz.prog noGl (specs [(wTkF, wTkW), (wGeF, getW)]) noOra 300 noLp 0 wNmF [.ptr 0 0, .val (.int .i64 n)] (zz149 (srcO b a e)) Q =
 (((@Eq (Bool) true true) ∧
 IsB (b)) ∧
 (bif decide ((↑(List.length (tkB n b e)) : Int) < n)
 then Q (.val (.int .u64 0)) ⟨[(.cells [zz27, (zz1 (tkR n b e)), (zz0 (tkA n b e a)), (zz0 (tkE n b e))])], []⟩
 else ((IsB (tkB n b e) ∧
 (SmN (n) ∧
 LeN (n) (tkB n b e))) ∧
 Q (.val (.int .u64 (geN n (tkB n b e)))) ⟨[(.cells [zz27, (zz1 (tkR n b e)), (zz0 (tkA n b e a)), (zz0 (tkE n b e))])], []⟩))) := by kernel_rfl
theorem ev_wby (b : Bs) (a e n : Int) (Q : TV → VT → Prop) : vcallF Tryz.prog noGl (specs [(wTkF, wTkW), (clF, cloneW)]) noOra 300 noLp 0 wByF [.ptr 0 0, .val (.int .i64 n)] (zz149 (srcO b a e)) Q =
 (((@Eq (Bool) true true) ∧
 IsB (b)) ∧
 (IsB (tkB n b e) ∧
 Q (zz1 (tkB n b e)) ⟨[(.cells [zz27, (zz1 (tkR n b e)), (zz0 (tkA n b e a)), (zz0 (tkE n b e))])], []⟩)) := by kernel_rfl
theorem ev_wsu (b : Bs) (a e n : Int) (Q : TV → VT → Prop) : vcallF Tryz.prog noGl (specs [(wTkF, wTkW), (wRdF, sreadW)]) noOra 300 noLp 0 wSuF [.ptr 0 0, .val (.int .i64 n)] (zz149 (srcO b a e)) Q =
 (((@Eq (Bool) true true) ∧
 IsB (b)) ∧
 (IsB (tkB n b e) ∧
 Q zz20 ⟨[(.cells [zz27, (zz1 (tkR n b e)), (zz0 (tkA n b e a)), (zz0 (tkE n b e))]), (.cells [zz27, (zz1 (tkB n b e)), zz6, zz6])], []⟩)) := by kernel_rfl
theorem ev_wle (b : Bs) (a e : Int) (Q : TV → VT → Prop) : vcallF Tryz.prog noGl noSp noOra 300 noLp 0 wLeF [.ptr 0 0] (zz149 (srcO b a e)) Q =
 (bif !eqRes BinOp.eql (k6 e (0 : Int))
 then Q zz6 ⟨[(.cells [zz27, (zz1 b), (zz0 a), (zz0 e)])], []⟩
 else Q (zz0 (↑(List.length b) : Int)) ⟨[(.cells [zz27, (zz1 b), (zz0 a), (zz0 e)])], []⟩) := by kernel_rfl
theorem ev_wer (b : Bs) (a e : Int) (Q : TV → VT → Prop) : vcallF Tryz.prog noGl noSp noOra 300 noLp 0 wErF [.ptr 0 0] (zz149 (srcO b a e)) Q =
Q (zz0 e) ⟨[(.cells [zz27, (zz1 b), (zz0 a), (zz0 e)])], []⟩ := by kernel_rfl
theorem ev_wre (b : Bs) (a e : Int) (Q : TV → VT → Prop) : vcallF Tryz.prog noGl (specs [(wLeF, slW), (wByF, sbW)]) noOra 300 noLp 0 wReF [.ptr 0 0] (zz149 (srcO b a e)) Q =
 (((@Eq (Bool) true true) ∧
 IsB (b)) ∧
 (((@Eq (Bool) true true) ∧
 IsB (b)) ∧
 Q (zz1 (tkB (leB b e) b e)) ⟨[(.cells [zz27, (zz1 (tkR (leB b e) b e)), (zz0 (tkA (leB b e) b e a)), (zz0 (tkE (leB b e) b e))])], []⟩)) := by kernel_rfl
theorem ev_wu8 (b : Bs) (a e : Int) (Q : TV → VT → Prop) : vcallF Tryz.prog noGl (specs [(wNmF, wNmW)]) noOra 300 noLp 0 wU8F [.ptr 0 0] (zz149 (srcO b a e)) Q =
 (((@Eq (Bool) true true) ∧
 (IsB (b) ∧
 SmN 1)) ∧
 Q (zz0 (IntKind.wrap IntKind.i64 (nmI (1 : Int) b e))) ⟨[(.cells [zz27, (zz1 (tkR (1 : Int) b e)), (zz0 (tkA (1 : Int) b e a)), (zz0 (tkE (1 : Int) b e))])], []⟩) := by kernel_rfl
theorem ev_wu16 (b : Bs) (a e : Int) (Q : TV → VT → Prop) : vcallF Tryz.prog noGl (specs [(wNmF, wNmW)]) noOra 300 noLp 0 wU16F [.ptr 0 0] (zz149 (srcO b a e)) Q =
 (((@Eq (Bool) true true) ∧
 (IsB (b) ∧
 SmN 2)) ∧
 Q (zz0 (IntKind.wrap IntKind.i64 (nmI (2 : Int) b e))) ⟨[(.cells [zz27, (zz1 (tkR (2 : Int) b e)), (zz0 (tkA (2 : Int) b e a)), (zz0 (tkE (2 : Int) b e))])], []⟩) := by kernel_rfl
theorem ev_wu32 (b : Bs) (a e : Int) (Q : TV → VT → Prop) : vcallF Tryz.prog noGl (specs [(wNmF, wNmW)]) noOra 300 noLp 0 wU32F [.ptr 0 0] (zz149 (srcO b a e)) Q =
 (((@Eq (Bool) true true) ∧
 (IsB (b) ∧
 SmN 4)) ∧
 Q (zz4 (IntKind.wrap IntKind.u32 (nmI (4 : Int) b e))) ⟨[(.cells [zz27, (zz1 (tkR (4 : Int) b e)), (zz0 (tkA (4 : Int) b e a)), (zz0 (tkE (4 : Int) b e))])], []⟩) := by kernel_rfl
theorem ev_wg32 (b : Bs) (Q : TV → VT → Prop) : vcallF Tryz.prog noGl (specs [(wGeF, getW)]) (tellS [(999998, .dead, none), (12, .vec 1 b .none, none)]) 300 noLp 0 wG32F [.vec 1 b .none, .val (.int .i64 0)] zz151 Q =
 (bif !decide ((0 : Int) ≤ IntKind.wrap IntKind.i64 ((↑(List.length b) : Int) - (4 : Int)))
 then Q (.tup [zz7, zz8]) zz151
 else (OPure Tryz.prog (fun _ => .none) (.slice 22 (.tmp 10) (.some (.tmp 11)) .none .none) [(10, (zz1 b)), (11, zz6)] (zz1 b) ∧
 ((IsB (b) ∧
 (SmN 4 ∧
 LeN 4 (b))) ∧
 Q (.tup [(zz4 (IntKind.wrap IntKind.u32 (geN (4 : Int) b))), zz27]) zz151))) := by kernel_rfl
end Go.Proofs.YtogbdjlelkepcaaGreatDoor
namespace Go.Proofs.YtogbdjlelkepcaaGreatDoor
open Go.RowKit

theorem mixedB_Tryz : Tryz.prog.follows .mixedOrders = true := by kernel_rfl
theorem bodiesB_Tryz : bodiesOk Tryz.prog = true := by kernel_rfl
theorem gvals_noGl : GVals noGl := fun _ _ h => by cases h
theorem eqI (q : IntKind) (x y : Int) : eqRes BinOp.eql (keyEq (.int q x) (.int q y)) = decide (x = y) := by
 simp [eqRes, keyEq, cellEq, Bool.beq_eq_decide_eq]
theorem neI (q : IntKind) (x y : Int) : eqRes BinOp.neq (keyEq (.int q x) (.int q y)) = !decide (x = y) := by
 simp [eqRes, keyEq, cellEq, Bool.beq_eq_decide_eq]
theorem u8Inf_ex : ∃ inf : TypeInfo, Tryz.prog.info? 5 = some inf ∧ inf.size = 1 ∧ inf.bytes + 1 = 2 ∧ inf.zero = some (.int .u8 0) :=
 ⟨(Tryz.prog.info? 5).getD default, by kernel_rfl, by kernel_rfl, by kernel_rfl, by kernel_rfl⟩
section
variable {x i m : Operand} {l : List (Nat × TV)} {b : Bs} {tok : Tok} {k k' : IntKind} {z z' : Int} {e : List TV} {n n' : Nat}
theorem opure_b (hx : evOf noGl l x = .vec 1 b tok) (hz : evOf noGl l i = .val (.int k z)) (h0 : 0 ≤ z) (he : b[z.toNat]? = some e) :
  OPure Tryz.prog noGl (.indexAddr 22 x i) l (.elt e) := by
 obtain ⟨inf, i1, i2, _, _⟩ := u8Inf_ex
 exact opure_index (inf := inf) Tryz.underlying22 i1 (by rw [i2]; exact hx) hz h0 he
theorem opure_bhi (hx : evOf noGl l x = .vec 1 b tok) (hz : evOf noGl l i = .val (.int k z)) (h0 : 0 ≤ z) (hn : z.toNat = n) (he : n ≤ b.length) : OPure Tryz.prog noGl (.slice 22 x none (some i) none) l (.vec 1 (b.take n) .none) := by
 subst hn
 obtain ⟨inf, i1, i2, _, _⟩ := u8Inf_ex
 have h := opure_hi (inf := inf) (P := Tryz.prog) (G := noGl) (x := x) (i := i) (l := l) (es := b) (tok := tok) Tryz.underlying22 i1 (by rw [i2]; exact hx) hz h0 he
 rw [i2] at h
 exact h
theorem opure_blo (hx : evOf noGl l x = .vec 1 b tok) (hz : evOf noGl l i = .val (.int k z)) (h0 : 0 ≤ z) (hn : z.toNat = n) (he : n ≤ b.length) : OPure Tryz.prog noGl (.slice 22 x (some i) none none) l (.vec 1 (b.drop n) tok) := by
 subst hn
 obtain ⟨inf, i1, i2, _, _⟩ := u8Inf_ex
 have h := opure_lo (inf := inf) (P := Tryz.prog) (G := noGl) (x := x) (i := i) (l := l) (es := b) (tok := tok) Tryz.underlying22 i1 (by rw [i2]; exact hx) hz h0 he
 rw [i2] at h
 exact h
theorem opure_bmx (hx : evOf noGl l x = .vec 1 b tok) (hz : evOf noGl l i = .val (.int k z)) (hm : evOf noGl l m = .val (.int k' z)) (h0 : 0 ≤ z) (hn : z.toNat = n) (he : n ≤ b.length) : OPure Tryz.prog noGl (.slice 22 x none (some i) (some m)) l (.vec 1 (b.take n) .none) := by
 subst hn
 obtain ⟨inf, i1, i2, _, _⟩ := u8Inf_ex
 refine ⟨?_⟩
 have h1 : Nat.ble z.toNat b.length = true := Nat.ble_eq_true_of_le he
 have h2 : Nat.ble 0 z.toNat = true := Nat.ble_eq_true_of_le (Nat.zero_le _)
 have h3 : Nat.ble z.toNat z.toNat = true := Nat.ble_eq_true_of_le (Nat.le_refl _)
 simp [vpure2, hx, hz, hm, vslice3, Tryz.underlying22, i1, i2, lowOf, natOf, h0, h1, h2, h3]
theorem oturn_b {ro : Nat} {T T1 : VT} {s : Operand} {es es2 : Bs} {bn : Bool} {k n : Nat} (hs : vadopt T 1 (evOf noGl l s) = some (es, k, n, bn, T1)) (hx : srcOf 1 (evOf noGl l x) = some es2) (hb : es.length + es2.length ≤ 70368744177664) :
    OTurn Tryz.prog noGl ro T (.call ⟨.builtin .append, #[s, x], #[22, 22]⟩) l (.vec 1 (es ++ es2) (.tail k (n + es2.length))) { T1 with tails := T1.tails.set k (n + es2.length, 1, bn) } := by
  obtain ⟨inf, i1, i2, i3, i4⟩ := u8Inf_ex
  have h := oturn_app (inf := inf) (P := Tryz.prog) (G := noGl) (ro := ro) (T := T) (T1 := T1) (t := 22) (tx := 22) (s := s) (x := x) (l := l) (es := es) (es2 := es2) (k := k) (n := n) (bn := bn) Tryz.underlying22 i1 i4 (by rw [i2]; rfl) (by rw [i2]; decide) (by kernel_rfl) (by rw [i2]; exact hs) (by rw [i2]; exact hx)
    (by rw [i3]; omega)
  rw [i2] at h
  exact h
end
theorem ocl_turn {ro : Nat} (objs : List VO) (c : Bs) (hc : c.length ≤ 1000000) (s x : Nat) (hne : Nat.beq s x = false) : OTurn Tryz.prog noGl ro ⟨objs, []⟩ (.call ⟨.builtin .append, #[.tmp s, .tmp x], #[22, 22]⟩) [(s, .vec 1 [] .full), (x, .vec 1 c .none)] (.vec 1 c (.tail 0 c.length)) ⟨objs, [(c.length, 1, false)]⟩ := by
 have h := oturn_b (ro := ro) (T := ⟨objs, []⟩) (T1 := ⟨objs, [(0, 1, false)]⟩) (s := .tmp s) (x := .tmp x) (l := [(s, .vec 1 [] .full), (x, .vec 1 c .none)]) (es := []) (es2 := c) (k := 0) (n := 0) (bn := false)
  (by simp [evOf, evFind, vadopt]) (by simp [evOf, evFind, hne, srcOf]) (by simp only [List.length_nil]; omega)
 simp only [List.nil_append, Nat.zero_add] at h
 exact h
theorem cl_vcx {b : Bs} (hb : IsB b) : VCx Tryz.prog noGl 0 clF [.vec 1 b .none] ⟨[], []⟩ fun x T' => x = .vec 1 b .none ∧ T' = ⟨[], []⟩ := by
 refine VCx.asVec (Q := fun T' => T' = ⟨[], []⟩) (VCx.keepQ 0 0 (Nat.le_refl _) (Nat.le_refl _) ?_)
 cases b with
 | nil => exact vcallF_is mixedB_Tryz bodiesB_Tryz specsOk_none lsOk_none (ev_cl0 _) ⟨⟨.inl ⟨rfl, rfl⟩, rfl⟩, ⟨.inr ⟨_, rfl⟩, rfl⟩⟩
 | cons r b =>
  refine vcallF_is mixedB_Tryz bodiesB_Tryz specsOk_none lsOk_none (ev_cl1 r b _) ⟨ocl_turn [] (r :: b) hb.small 5 6 rfl, .inr ⟨.none, ?_⟩, rfl⟩
  have := hb.ren (Go.Proofs.YtogbdjlelkepcaaGreatDoor.keep 0) (Go.Proofs.YtogbdjlelkepcaaGreatDoor.keep 0)
  simp only [TV.ren, Tok.ren]
  rw [show [r] ++ b = r :: b from rfl, this]; rfl
theorem cloneW_ok : ∀ ro ys T K, cloneW ro ys T K → VCx Tryz.prog noGl ro clF ys T K := by
 intro ro ys T K hw
 unfold cloneW at hw
 split at hw
 ·rename_i b tok
  obtain ⟨hb, hk⟩ := hw
  exact VCx.loosePure gvals_noGl (cl_vcx hb) (by simp [looseTV]) (by simp [renL, TV.ren, hb.ren, Tok.ren]) (fun f h => by simp only [TV.ren, hb.ren, Tok.ren]) hk
 ·exact hw.elim
theorem wrd_vcx {b : Bs} (hb : IsB b) : VCx Tryz.prog noGl 0 wRdF [.vec 1 b .none] ⟨[], []⟩ fun x T' => x = .ptr 0 0 ∧ T' = ⟨[srcO b 0 0], []⟩ :=
 vcallF_is mixedB_Tryz bodiesB_Tryz (specs_ok fun p hp => by obtain rfl := List.mem_singleton.1 hp; exact cloneW_ok) lsOk_none (ev_wrd b _) ⟨hb, rfl, rfl⟩
theorem wRdW_ok : ∀ ro ys T K, sreadW ro ys T K → VCx Tryz.prog noGl ro wRdF ys T K := sreadW_ok gvals_noGl fun _ hb => wrd_vcx hb
def tkT (n : Int) (b : Bs) (a e : Int) : VT := ⟨[srcO (tkR n b e) (tkA n b e a) (tkE n b e)], []⟩
theorem wtk_vcx (b : Bs) (a e n : Int) : VCx Tryz.prog noGl 0 wTkF [.ptr 0 0, .val (.int .i64 n)] ⟨[srcO b a e], []⟩ fun x T' => x = .vec 1 (tkB n b e) .none ∧ T' = tkT n b a e := by
  refine VCx.asVec (Q := fun T' => T' = tkT n b a e) (vcallF_is mixedB_Tryz bodiesB_Tryz specsOk_none lsOk_none (ev_wtk b a e n n.toNat _) ?_)
  by_cases he : e = 0
  · subst he
    have he : (0 : Int) = 0 := rfl
    refine condF (by rw [eqI, decide_eq_true he]; rfl) ?_
    by_cases hn : n < 0
    · have hk : tkOk n b 0 = false := by simp only [tkOk, Bool.and_eq_false_iff, decide_eq_false_iff_not]; omega
      refine condT (decide_eq_true hn) ⟨.inl ⟨rfl, by simp only [tkB, hk, cond_false]⟩, ?_⟩
      simp only [tkT, tkR, tkA, tkE, hk, cond_false, decide_true, decide_eq_true hn, cond_true]; rfl
    · refine condF (decide_eq_false hn) ?_
      by_cases hl : n ≤ b.length
      · have hk : tkOk n b 0 = true := by simp only [tkOk, decide_true, decide_eq_true hl, decide_eq_true (show 0 ≤ n by omega)]; rfl
        have h1 : n.toNat ≤ b.length := by omega
        refine condF (decide_eq_false (by omega)) ⟨opure_bmx rfl rfl rfl (by omega) rfl h1, opure_blo rfl rfl (by omega) rfl h1, .inr ⟨.none, by simp only [tkB, hk, cond_true]⟩, ?_⟩
        simp only [tkT, tkR, tkA, tkE, hk, decide_true, decide_eq_false hn, decide_eq_true hl, cond_true, cond_false]; rfl
      · have hk : tkOk n b 0 = false := by simp only [tkOk, Bool.and_eq_false_iff, decide_eq_false_iff_not]; omega
        refine condT (decide_eq_true (by omega)) ⟨.inl ⟨rfl, by simp only [tkB, hk, cond_false]⟩, ?_⟩
        simp only [tkT, tkR, tkA, tkE, hk, decide_true, decide_eq_false hn, decide_eq_false hl, cond_false, cond_true]; rfl
  · have hk : tkOk n b e = false := by simp only [tkOk, Bool.and_eq_false_iff, decide_eq_false_iff_not]; omega
    refine condT (by rw [eqI, decide_eq_false he]; rfl) ⟨.inl ⟨rfl, by simp only [tkB, hk, cond_false]⟩, ?_⟩
    simp only [tkT, tkR, tkA, tkE, hk, decide_eq_false he, cond_false]; rfl
theorem wTkW_ok : ∀ ro ys T K, wTkW ro ys T K → VCx Tryz.prog noGl ro wTkF ys T K := sbW_ok gvals_noGl fun b a e n _ => wtk_vcx b a e n
theorem be_step {c : Bs} {j : Nat} {r : List TV} (h : c[j]? = some r) : beB (c.take (j + 1)) = beB (c.take j) * 256 + bval r := by
 rw [List.take_add_one, h]; exact beB_app _ _
theorem be_lt {c : Bs} (h : IsB c) {j : Nat} (hj : j < 8) : 0 ≤ beB (c.take j) ∧ (j < 8 → beB (c.take j) < 72057594037927936) := by
 obtain ⟨⟨l, hl, hz⟩, _⟩ := h.take j
 have hlen : l.length ≤ 7 := by
  have := congrArg List.length hl
  simp only [bV, List.length_map, List.length_take] at this
  omega
 rw [hl]
 obtain ⟨h1, h2⟩ := beB_lt hz
 refine ⟨h1, fun _ => Int.lt_of_lt_of_le h2 ?_⟩
 have h3 : (256 : Int) ^ l.length ≤ 256 ^ 7 := by
  exact_mod_cast Nat.pow_le_pow_right (by decide : 0 < 256) hlen
 exact h3
theorem wge_round (c : Bs) (hc : IsB c) (h8 : c.length ≤ 8) (K : KX) (hK : K .normal (slotsN 23 geK (geV c (beB c) c.length)) ⟨[], []⟩ []) : VWx Tryz.prog noGl none 0 (codeAt Tryz.prog wGeF 0) (slotsN 23 geK (geV c 0 0)) ⟨[], []⟩ [] K := by
  let sl : Nat → List TV := fun j => geV c (beB (c.take j)) j
  let Post : Exit → List TV → VT → Prop := fun e vs T => e = .normal ∧ vs = sl c.length ∧ T = ⟨[], []⟩
  refine loopK (f := wGeF) (id := 0) (by kernel_rfl) 23 geK (fun j => c.length - j) sl (fun _ => ⟨[], []⟩) (fun j => j ≤ c.length) 0 0 (fun _ _ => ⟨Nat.le_refl _, Nat.le_refl _⟩)
    Post (fun j hj => ?_) 0 (Nat.zero_le _) K (fun e vs T ⟨h1, h2, h3⟩ => ?_)
  · by_cases hlt : j < c.length
    · have hs : c[j]? = some c[j] := List.getElem?_eq_getElem hlt
      generalize c[j] = r at hs
      obtain ⟨z, rfl, hz0, hz1⟩ := hc.at hs
      have hw := wrapN j (by omega)
      obtain ⟨hb0, hb1⟩ := be_lt hc (j := j) (by omega)
      have hor := or_byte hb0 (hb1 (by omega)) hz0 hz1
      refine vx_is mixedB_Tryz bodiesB_Tryz specsOk_none lsOk_none (ev_wgeA c (beB (c.take j)) z j _) ?_
      refine condT (decide_eq_true (by omega)) ⟨opure_b rfl rfl (Int.natCast_nonneg _) (by rw [Int.toNat_natCast]; exact hs), rfl, rfl, j + 1, hlt, by simp only; omega, .inr ⟨rfl, ?_⟩⟩
      rw [hor, hw]
      simp only [renL, TV.ren, hc.ren, Tok.ren]
      simp only [sl, geV, be_step hs, bval, bT]
    · obtain rfl : j = c.length := by omega
      refine vx_is mixedB_Tryz bodiesB_Tryz specsOk_none lsOk_none (ev_wgeA c (beB (c.take c.length)) 0 c.length _) ?_
      exact condF (decide_eq_false (by omega)) ⟨rfl, rfl, rfl, rfl, rfl⟩
  · subst h1 h2 h3
    simp only [sl, List.take_length]
    exact hK
theorem wge_loop (c : Bs) (hc : IsB c) (h8 : c.length ≤ 8) : LsOk Tryz.prog noGl (geL c (beB c) (codeAt Tryz.prog wGeF 0)) := specsL_ok fun p hp => by
 obtain rfl := List.mem_singleton.1 hp
 exact loopL_ok fun K hK => wge_round c hc h8 K hK
theorem wge_vcx {b : Bs} (hb : IsB b) {n : Int} (hn : SmN n) (hl : LeN n b) : VCx Tryz.prog noGl 0 wGeF [.vec 1 b .none, .val (.int .i64 n)] ⟨[], []⟩ fun x T' => x = .val (.int .u64 (geN n b)) ∧ T' = ⟨[], []⟩ := by
 obtain ⟨h0, h8⟩ := hn
 have h1 : n.toNat ≤ b.length := by unfold LeN at hl; omega
 refine vcallF_is mixedB_Tryz bodiesB_Tryz specsOk_none (wge_loop (b.take n.toNat) (hb.take _) (by rw [List.length_take]; omega)) (ev_wge b (b.take n.toNat) n (beB (b.take n.toNat)) _) ?_
 exact ⟨opure_bhi rfl rfl h0 rfl h1, rfl, ⟨rfl, rfl, rfl, trivial, rfl, rfl, rfl⟩, rfl, rfl⟩
theorem getW_ok : ∀ ro ys T K, getW ro ys T K → VCx Tryz.prog noGl ro wGeF ys T K := by
 intro ro ys T K hw
 unfold getW at hw
 split at hw
 ·rename_i b tok n
  obtain ⟨⟨hb, hn, hl⟩, hk⟩ := hw
  exact VCx.loosePure gvals_noGl (wge_vcx hb hn hl) (by simp [looseTV]) (by simp [renL, TV.ren, hb.ren, Tok.ren]) (fun f h => rfl) hk
 ·exact hw.elim
theorem wnm_vcx {b : Bs} (hb : IsB b) (a e : Int) {n : Int} (hn : SmN n) : VCx Tryz.prog noGl 0 wNmF [.ptr 0 0, .val (.int .i64 n)] ⟨[srcO b a e], []⟩ fun x T' => x = .val (.int .u64 (nmI n b e)) ∧ T' = tkT n b a e := by
 refine vcallF_is mixedB_Tryz bodiesB_Tryz (specs_ok fun p hp => by rcases List.mem_cons.1 hp with rfl | hp; exact wTkW_ok; obtain rfl := List.mem_singleton.1 hp; exact getW_ok) lsOk_none (ev_wnm b a e n _) ⟨⟨rfl, hb⟩, ?_⟩
 by_cases h : ((tkB n b e).length : Int) < n
 ·exact condT (decide_eq_true h) ⟨by rw [nmI_lo h], rfl⟩
 ·exact condF (decide_eq_false h) ⟨⟨tkB_is hb, hn, by unfold LeN; omega⟩, by rw [geN_tk hn.1 (by omega)], rfl⟩
theorem wNmW_ok : ∀ ro ys T K, wNmW ro ys T K → VCx Tryz.prog noGl ro wNmF ys T K := by
 intro ro ys T K hw
 unfold wNmW at hw
 split at hw
 ·rename_i k n
  split at hw
  ·rename_i b a e ho
   obtain ⟨⟨hro, hb, hn⟩, hk⟩ := hw
   refine VCx.at1 (Q := fun x o' l' => x = .val (.int .u64 (nmI n b e)) ∧ o' = srcO (tkR n b e) (tkA n b e a) (tkE n b e) ∧ l' = []) gvals_noGl (Nat.le_of_ble_eq_true hro) ho rfl (srcO_ren hb a e _ _) (ys1 := [.ptr 0 0, .val (.int .i64 n)]) (by simp [renL, TV.ren, nameIn]) ((wnm_vcx hb a e hn).mono fun x T' ⟨h1, h2⟩ => ⟨_, _, h2, h1, rfl, rfl⟩) ?_
   rintro x o' l' ⟨rfl, rfl, rfl⟩
   rw [srcO_ren (tkR_is hb)]
   simpa [TV.ren] using hk
  ·exact hw.elim
 ·exact hw.elim
theorem wu_vcx {f : FuncId} {kind : IntKind} {n : Nat} (hn : SmN n) (hw : ∀ z : Int, 0 ≤ z → z < 256 ^ n → kind.wrap z = z)
  (h : ∀ (b : Bs) (a e : Int) (Q : TV → VT → Prop), IsB b → Q (.val (.int kind (kind.wrap (nmI n b e)))) (tkT n b a e) → VCx Tryz.prog noGl 0 f [.ptr 0 0] ⟨[srcO b a e], []⟩ Q) :
  ∀ ro ys T K, snW kind n ro ys T K → VCx Tryz.prog noGl ro f ys T K := snW_ok gvals_noGl fun b a e hb => by
 obtain ⟨h1, h2⟩ := nmI_lt (n := n) hb e
 exact h b a e _ hb ⟨by rw [hw _ h1 h2, nmB_eq], rfl⟩
theorem nms_ok : SpecsOk Tryz.prog noGl (specs [(wNmF, wNmW)]) := specs_ok fun p hp => by obtain rfl := List.mem_singleton.1 hp; exact wNmW_ok
theorem wU8_ok : ∀ ro ys T K, snW .i64 1 ro ys T K → VCx Tryz.prog noGl ro wU8F ys T K :=
 wu_vcx ⟨by decide, by decide⟩ (fun z h0 h1 => by simp only [IntKind.wrap, IntKind.bits, IntKind.signed]; simp; omega) fun b a e _ hb hq => vcallF_is mixedB_Tryz bodiesB_Tryz nms_ok lsOk_none (ev_wu8 b a e _) ⟨⟨rfl, hb, ⟨by decide, by decide⟩⟩, hq⟩
theorem wU16_ok : ∀ ro ys T K, snW .i64 2 ro ys T K → VCx Tryz.prog noGl ro wU16F ys T K :=
 wu_vcx ⟨by decide, by decide⟩ (fun z h0 h1 => by simp only [IntKind.wrap, IntKind.bits, IntKind.signed]; simp; omega) fun b a e _ hb hq => vcallF_is mixedB_Tryz bodiesB_Tryz nms_ok lsOk_none (ev_wu16 b a e _) ⟨⟨rfl, hb, ⟨by decide, by decide⟩⟩, hq⟩
theorem wU32_ok : ∀ ro ys T K, snW .u32 4 ro ys T K → VCx Tryz.prog noGl ro wU32F ys T K :=
 wu_vcx ⟨by decide, by decide⟩ (fun z h0 h1 => by simp only [IntKind.wrap, IntKind.bits, IntKind.signed]; simp; omega) fun b a e _ hb hq => vcallF_is mixedB_Tryz bodiesB_Tryz nms_ok lsOk_none (ev_wu32 b a e _) ⟨⟨rfl, hb, ⟨by decide, by decide⟩⟩, hq⟩
theorem wBy_ok : ∀ ro ys T K, sbW ro ys T K → VCx Tryz.prog noGl ro wByF ys T K := sbW_ok gvals_noGl fun b a e n hb =>
 vcallF_is mixedB_Tryz bodiesB_Tryz (specs_ok fun p hp => by rcases List.mem_cons.1 hp with rfl | hp; exact wTkW_ok; obtain rfl := List.mem_singleton.1 hp; exact cloneW_ok) lsOk_none (ev_wby b a e n _) ⟨⟨rfl, hb⟩, tkB_is hb, rfl, rfl⟩
theorem wSu_ok : ∀ ro ys T K, ssubW ro ys T K → VCx Tryz.prog noGl ro wSuF ys T K := ssubW_ok gvals_noGl fun b a e n hb =>
 vcallF_is mixedB_Tryz bodiesB_Tryz (specs_ok fun p hp => by rcases List.mem_cons.1 hp with rfl | hp; exact wTkW_ok; obtain rfl := List.mem_singleton.1 hp; exact wRdW_ok) lsOk_none (ev_wsu b a e n _) ⟨⟨rfl, hb⟩, tkB_is hb, rfl, rfl⟩
theorem wLe_ok : ∀ ro ys T K, slW ro ys T K → VCx Tryz.prog noGl ro wLeF ys T K := slW_ok gvals_noGl fun b a e hb => by
 refine vcallF_is mixedB_Tryz bodiesB_Tryz specsOk_none lsOk_none (ev_wle b a e _) ?_
 by_cases he : e = 0
 ·exact condF (by rw [eqI, decide_eq_true he]; rfl) ⟨by simp only [leB, decide_eq_true he, cond_true], rfl⟩
 ·exact condT (by rw [eqI, decide_eq_false he]; rfl) ⟨by simp only [leB, decide_eq_false he, cond_false], rfl⟩
theorem wEr_ok : ∀ ro ys T K, seW ro ys T K → VCx Tryz.prog noGl ro wErF ys T K := seW_ok gvals_noGl fun b a e _ =>
 vcallF_is mixedB_Tryz bodiesB_Tryz specsOk_none lsOk_none (ev_wer b a e _) ⟨rfl, rfl⟩
theorem wRe_ok : ∀ ro ys T K, srestW ro ys T K → VCx Tryz.prog noGl ro wReF ys T K := srestW_ok gvals_noGl fun b a e hb =>
 vcallF_is mixedB_Tryz bodiesB_Tryz (specs_ok fun p hp => by rcases List.mem_cons.1 hp with rfl | hp; exact wLe_ok; obtain rfl := List.mem_singleton.1 hp; exact wBy_ok) lsOk_none (ev_wre b a e _) ⟨⟨rfl, hb⟩, ⟨rfl, hb⟩, rfl, rfl⟩
end Go.Proofs.YtogbdjlelkepcaaGreatDoor
namespace Go.Proofs.YtogbdjlelkepcaaGreatDoor
open Go.RowKit

theorem wrap_id {z : Int} (h0 : -1000000000000000 ≤ z) (h1 : z ≤ 1000000000000000) : IntKind.i64.wrap z = z := by
 simp only [IntKind.wrap, IntKind.bits, IntKind.signed]; simp; omega
end Go.Proofs.YtogbdjlelkepcaaGreatDoor
namespace Go.Proofs.YtogbdjlelkepcaaGreatDoor
open Go.RowKit

def M32 (n : Int) : Prop := 0 ≤ n ∧ n ≤ 32
def mkZ (n : Int) : Int := 4294967296 - 2 ^ (32 - n).toNat
def cnA (a n : Int) : Int := IntKind.wrap .u32 (BitVec.toNat (BitVec.ofInt (IntKind.bits .u32) a &&& BitVec.ofInt (IntKind.bits .u32) (mkZ n)) : Nat)

abbrev pMaF := 157
abbrev pCaF := 140
abbrev pRdF := 116
abbrev pPaF := 83
def mkW : Spec := fun _ ys T K => match ys with
 | [.val (.int .i64 n)] => M32 n ∧ K (.val (.int .u32 (mkZ n))) T
 | _ => False
def caW : Spec := fun _ ys T K => match ys with
 | [.agg [.val (.int .u32 a), .val (.int .i64 n)]] => M32 n ∧ K (.agg [.val (.int .u32 (cnA a n)), .val (.int .i64 n)]) T
 | _ => False
def sbE (l : Bs) : Spec := fun ro ys T K => match ys with
 | [.ptr k 0, .val (.int .i64 n)] => match T.objs[k]? with
  | some (.cells [.val (.bool true), .vec 1 b .none, .val (.int .i64 a), .val (.int .i64 e)]) => ((Nat.ble ro k = true ∧ IsB b) ∧ tkB n b e = l) ∧ K (.vec 1 l .none) { T with objs := T.objs.set k (srcO (tkR n b e) (tkA n b e a) (tkE n b e)) }
  | _ => False
 | _ => False
theorem ev_pma0 (Q : TV → VT → Prop) : vcallF Tryz.prog noGl noSp noOra 300 noLp 0 pMaF [.val (.int .i64 0)] zz151 Q =
Q zz7 zz151 := by kernel_rfl
theorem ev_pma1 (Q : TV → VT → Prop) : vcallF Tryz.prog noGl noSp noOra 300 noLp 0 pMaF [.val (.int .i64 1)] zz151 Q =
Q (.val (.int .u32 2147483648)) zz151 := by kernel_rfl
theorem ev_pma2 (Q : TV → VT → Prop) : vcallF Tryz.prog noGl noSp noOra 300 noLp 0 pMaF [.val (.int .i64 2)] zz151 Q =
Q (.val (.int .u32 3221225472)) zz151 := by kernel_rfl
theorem ev_pma3 (Q : TV → VT → Prop) : vcallF Tryz.prog noGl noSp noOra 300 noLp 0 pMaF [.val (.int .i64 3)] zz151 Q =
Q (.val (.int .u32 3758096384)) zz151 := by kernel_rfl
theorem ev_pma4 (Q : TV → VT → Prop) : vcallF Tryz.prog noGl noSp noOra 300 noLp 0 pMaF [.val (.int .i64 4)] zz151 Q =
Q (.val (.int .u32 4026531840)) zz151 := by kernel_rfl
theorem ev_pma5 (Q : TV → VT → Prop) : vcallF Tryz.prog noGl noSp noOra 300 noLp 0 pMaF [.val (.int .i64 5)] zz151 Q =
Q (.val (.int .u32 4160749568)) zz151 := by kernel_rfl
theorem ev_pma6 (Q : TV → VT → Prop) : vcallF Tryz.prog noGl noSp noOra 300 noLp 0 pMaF [.val (.int .i64 6)] zz151 Q =
Q (.val (.int .u32 4227858432)) zz151 := by kernel_rfl
theorem ev_pma7 (Q : TV → VT → Prop) : vcallF Tryz.prog noGl noSp noOra 300 noLp 0 pMaF [.val (.int .i64 7)] zz151 Q =
Q (.val (.int .u32 4261412864)) zz151 := by kernel_rfl
theorem ev_pma8 (Q : TV → VT → Prop) : vcallF Tryz.prog noGl noSp noOra 300 noLp 0 pMaF [.val (.int .i64 8)] zz151 Q =
Q (.val (.int .u32 4278190080)) zz151 := by kernel_rfl
theorem ev_pma9 (Q : TV → VT → Prop) : vcallF Tryz.prog noGl noSp noOra 300 noLp 0 pMaF [.val (.int .i64 9)] zz151 Q =
Q (.val (.int .u32 4286578688)) zz151 := by kernel_rfl
theorem ev_pma10 (Q : TV → VT → Prop) : vcallF Tryz.prog noGl noSp noOra 300 noLp 0 pMaF [.val (.int .i64 10)] zz151 Q =
Q (.val (.int .u32 4290772992)) zz151 := by kernel_rfl
theorem ev_pma11 (Q : TV → VT → Prop) : vcallF Tryz.prog noGl noSp noOra 300 noLp 0 pMaF [.val (.int .i64 11)] zz151 Q =
Q (.val (.int .u32 4292870144)) zz151 := by kernel_rfl
theorem ev_pma12 (Q : TV → VT → Prop) : vcallF Tryz.prog noGl noSp noOra 300 noLp 0 pMaF [.val (.int .i64 12)] zz151 Q =
Q (.val (.int .u32 4293918720)) zz151 := by kernel_rfl
theorem ev_pma13 (Q : TV → VT → Prop) : vcallF Tryz.prog noGl noSp noOra 300 noLp 0 pMaF [.val (.int .i64 13)] zz151 Q =
Q (.val (.int .u32 4294443008)) zz151 := by kernel_rfl
theorem ev_pma14 (Q : TV → VT → Prop) : vcallF Tryz.prog noGl noSp noOra 300 noLp 0 pMaF [.val (.int .i64 14)] zz151 Q =
Q (.val (.int .u32 4294705152)) zz151 := by kernel_rfl
theorem ev_pma15 (Q : TV → VT → Prop) : vcallF Tryz.prog noGl noSp noOra 300 noLp 0 pMaF [.val (.int .i64 15)] zz151 Q =
Q (.val (.int .u32 4294836224)) zz151 := by kernel_rfl
theorem ev_pma16 (Q : TV → VT → Prop) : vcallF Tryz.prog noGl noSp noOra 300 noLp 0 pMaF [.val (.int .i64 16)] zz151 Q =
Q (.val (.int .u32 4294901760)) zz151 := by kernel_rfl
theorem ev_pma17 (Q : TV → VT → Prop) : vcallF Tryz.prog noGl noSp noOra 300 noLp 0 pMaF [.val (.int .i64 17)] zz151 Q =
Q (.val (.int .u32 4294934528)) zz151 := by kernel_rfl
theorem ev_pma18 (Q : TV → VT → Prop) : vcallF Tryz.prog noGl noSp noOra 300 noLp 0 pMaF [.val (.int .i64 18)] zz151 Q =
Q (.val (.int .u32 4294950912)) zz151 := by kernel_rfl
theorem ev_pma19 (Q : TV → VT → Prop) : vcallF Tryz.prog noGl noSp noOra 300 noLp 0 pMaF [.val (.int .i64 19)] zz151 Q =
Q (.val (.int .u32 4294959104)) zz151 := by kernel_rfl
theorem ev_pma20 (Q : TV → VT → Prop) : vcallF Tryz.prog noGl noSp noOra 300 noLp 0 pMaF [.val (.int .i64 20)] zz151 Q =
Q (.val (.int .u32 4294963200)) zz151 := by kernel_rfl
theorem ev_pma21 (Q : TV → VT → Prop) : vcallF Tryz.prog noGl noSp noOra 300 noLp 0 pMaF [.val (.int .i64 21)] zz151 Q =
Q (.val (.int .u32 4294965248)) zz151 := by kernel_rfl
theorem ev_pma22 (Q : TV → VT → Prop) : vcallF Tryz.prog noGl noSp noOra 300 noLp 0 pMaF [.val (.int .i64 22)] zz151 Q =
Q (.val (.int .u32 4294966272)) zz151 := by kernel_rfl
theorem ev_pma23 (Q : TV → VT → Prop) : vcallF Tryz.prog noGl noSp noOra 300 noLp 0 pMaF [.val (.int .i64 23)] zz151 Q =
Q (.val (.int .u32 4294966784)) zz151 := by kernel_rfl
theorem ev_pma24 (Q : TV → VT → Prop) : vcallF Tryz.prog noGl noSp noOra 300 noLp 0 pMaF [.val (.int .i64 24)] zz151 Q =
Q (.val (.int .u32 4294967040)) zz151 := by kernel_rfl
theorem ev_pma25 (Q : TV → VT → Prop) : vcallF Tryz.prog noGl noSp noOra 300 noLp 0 pMaF [.val (.int .i64 25)] zz151 Q =
Q (.val (.int .u32 4294967168)) zz151 := by kernel_rfl
theorem ev_pma26 (Q : TV → VT → Prop) : vcallF Tryz.prog noGl noSp noOra 300 noLp 0 pMaF [.val (.int .i64 26)] zz151 Q =
Q (.val (.int .u32 4294967232)) zz151 := by kernel_rfl
theorem ev_pma27 (Q : TV → VT → Prop) : vcallF Tryz.prog noGl noSp noOra 300 noLp 0 pMaF [.val (.int .i64 27)] zz151 Q =
Q (.val (.int .u32 4294967264)) zz151 := by kernel_rfl
theorem ev_pma28 (Q : TV → VT → Prop) : vcallF Tryz.prog noGl noSp noOra 300 noLp 0 pMaF [.val (.int .i64 28)] zz151 Q =
Q (.val (.int .u32 4294967280)) zz151 := by kernel_rfl
theorem ev_pma29 (Q : TV → VT → Prop) : vcallF Tryz.prog noGl noSp noOra 300 noLp 0 pMaF [.val (.int .i64 29)] zz151 Q =
Q (.val (.int .u32 4294967288)) zz151 := by kernel_rfl
theorem ev_pma30 (Q : TV → VT → Prop) : vcallF Tryz.prog noGl noSp noOra 300 noLp 0 pMaF [.val (.int .i64 30)] zz151 Q =
Q (.val (.int .u32 4294967292)) zz151 := by kernel_rfl
theorem ev_pma31 (Q : TV → VT → Prop) : vcallF Tryz.prog noGl noSp noOra 300 noLp 0 pMaF [.val (.int .i64 31)] zz151 Q =
Q (.val (.int .u32 4294967294)) zz151 := by kernel_rfl
theorem ev_pma32 (Q : TV → VT → Prop) : vcallF Tryz.prog noGl noSp noOra 300 noLp 0 pMaF [.val (.int .i64 32)] zz151 Q =
Q (.val (.int .u32 4294967295)) zz151 := by kernel_rfl
theorem ev_pca (a n : Int) (Q : TV → VT → Prop) : vcallF Tryz.prog noGl (specs [(pMaF, mkW)]) (tellS [(999999, .dead, none)]) 300 noLp 0 pCaF [.agg [.val (.int .u32 a), .val (.int .i64 n)]] zz151 Q =
 (M32 (if (32 : Int) < if (0 : Int) > n then (0 : Int) else n then (32 : Int) else if (0 : Int) > n then (0 : Int) else n) ∧
 Q (.agg [(zz4 (IntKind.wrap IntKind.u32 (↑(BitVec.toNat (BitVec.ofInt (IntKind.bits IntKind.u32) a &&& BitVec.ofInt (IntKind.bits IntKind.u32) (mkZ (if (32 : Int) < if (0 : Int) > n then (0 : Int) else n then (32 : Int) else if (0 : Int) > n then (0 : Int) else n)))) : Int))), (zz0 (if (32 : Int) < if (0 : Int) > n then (0 : Int) else n then (32 : Int) else if (0 : Int) > n then (0 : Int) else n))]) ⟨[(zz148 a n), (zz148 (IntKind.wrap IntKind.u32 (↑(BitVec.toNat (BitVec.ofInt (IntKind.bits IntKind.u32) a &&& BitVec.ofInt (IntKind.bits IntKind.u32) (mkZ (if (32 : Int) < if (0 : Int) > n then (0 : Int) else n then (32 : Int) else if (0 : Int) > n then (0 : Int) else n)))) : Int)) (if (32 : Int) < if (0 : Int) > n then (0 : Int) else n then (32 : Int) else if (0 : Int) > n then (0 : Int) else n))], []⟩) := by kernel_rfl
abbrev zzy0 (b : Bs) (e : Int) (a : Int) : TV := (zz0 (tkA (IntKind.wrap IntKind.i64 (Int.tdiv (IntKind.wrap IntKind.i64 (IntKind.wrap IntKind.i64 (nmB (1 : Nat) b e + (8 : Int)) - (1 : Int))) (8 : Int))) (tkR (↑(1 : Nat) : Int) b e) (tkE (↑(1 : Nat) : Int) b e) (tkA (↑(1 : Nat) : Int) b e a)))
abbrev zzy1 (b : Bs) (e : Int) : TV := (zz1 (tkR (IntKind.wrap IntKind.i64 (Int.tdiv (IntKind.wrap IntKind.i64 (IntKind.wrap IntKind.i64 (nmB (1 : Nat) b e + (8 : Int)) - (1 : Int))) (8 : Int))) (tkR (↑(1 : Nat) : Int) b e) (tkE (↑(1 : Nat) : Int) b e)))
abbrev zzy2 (b : Bs) (e : Int) : TV := (zz0 (tkE (IntKind.wrap IntKind.i64 (Int.tdiv (IntKind.wrap IntKind.i64 (IntKind.wrap IntKind.i64 (nmB (1 : Nat) b e + (8 : Int)) - (1 : Int))) (8 : Int))) (tkR (↑(1 : Nat) : Int) b e) (tkE (↑(1 : Nat) : Int) b e)))
theorem ev_prd0 (b : Bs) (a e : Int) (Q : TV → VT → Prop) : vcallF Tryz.prog noGl (specs [(wU8F, snW .i64 1), (wErF, seW), (wByF, sbE []), (pCaF, caW)]) noOra 300 noLp 0 pRdF [.ptr 0 0] (zz149 (srcO b a e)) Q =
 (((@Eq (Bool) true true) ∧
 IsB (b)) ∧
 (((@Eq (Bool) true true) ∧
 IsB (tkR (↑(1 : Nat) : Int) b e)) ∧
 (bif eqRes BinOp.neq (k6 (tkE (↑(1 : Nat) : Int) b e) (0 : Int))
 then Q zz147 ⟨[(.cells [zz27, (zz1 (tkR (↑(1 : Nat) : Int) b e)), (zz0 (tkA (↑(1 : Nat) : Int) b e a)), (zz0 (tkE (↑(1 : Nat) : Int) b e))]), zz146], []⟩
 else (bif decide (nmB (1 : Nat) b e > (32 : Int))
 then Q zz147 ⟨[(.cells [zz27, (zz1 (tkR (↑(1 : Nat) : Int) b e)), (zz0 (tkA (↑(1 : Nat) : Int) b e a)), (zz0 (tkE (↑(1 : Nat) : Int) b e))]), zz146], []⟩
 else ((((@Eq (Bool) true true) ∧
 IsB (tkR (↑(1 : Nat) : Int) b e)) ∧
 (@Eq (Bs) (tkB (IntKind.wrap IntKind.i64 (Int.tdiv (IntKind.wrap IntKind.i64 (IntKind.wrap IntKind.i64 (nmB (1 : Nat) b e + (8 : Int)) - (1 : Int))) (8 : Int))) (tkR (↑(1 : Nat) : Int) b e) (tkE (↑(1 : Nat) : Int) b e)) [])) ∧
 (((@Eq (Bool) true true) ∧
 IsB (tkR (IntKind.wrap IntKind.i64 (Int.tdiv (IntKind.wrap IntKind.i64 (IntKind.wrap IntKind.i64 (nmB (1 : Nat) b e + (8 : Int)) - (1 : Int))) (8 : Int))) (tkR (↑(1 : Nat) : Int) b e) (tkE (↑(1 : Nat) : Int) b e))) ∧
 (bif eqRes BinOp.neq (k6 (tkE (IntKind.wrap IntKind.i64 (Int.tdiv (IntKind.wrap IntKind.i64 (IntKind.wrap IntKind.i64 (nmB (1 : Nat) b e + (8 : Int)) - (1 : Int))) (8 : Int))) (tkR (↑(1 : Nat) : Int) b e) (tkE (↑(1 : Nat) : Int) b e)) (0 : Int))
 then Q zz147 ⟨[(.cells [zz27, (zzy1 b e), (zzy0 b e a), (zzy2 b e)]), zz146, zz145], []⟩
 else (M32 (nmB (1 : Nat) b e) ∧
 Q (zz144 (cnA
  (IntKind.wrap IntKind.u32
    (IntKind.wrap IntKind.u64
      (↑(BitVec.toNat
            (BitVec.ofInt (IntKind.bits IntKind.u64)
                (IntKind.wrap IntKind.u64
                  (IntKind.wrap IntKind.u64
                      (↑(BitVec.toNat
                            (BitVec.ofInt (IntKind.bits IntKind.u64)
                                (IntKind.wrap IntKind.u64
                                  (IntKind.wrap IntKind.u64
                                      (↑(BitVec.toNat
                                            (BitVec.ofInt (IntKind.bits IntKind.u64)
                                                (IntKind.wrap IntKind.u64
                                                  (IntKind.wrap IntKind.u64 (↑(BitVec.toNat (BitVec.ofInt (IntKind.bits IntKind.u64) (IntKind.wrap IntKind.u64 ((0 : Int) * (2 : Int) ^ min (Int.toNat (8 : Int)) (IntKind.bits IntKind.u64))) ||| BitVec.ofInt (IntKind.bits IntKind.u64) (IntKind.wrap IntKind.u64 (0 : Int)))) : Int) *
                                                    (2 : Int) ^ min (Int.toNat (8 : Int)) (IntKind.bits IntKind.u64))) |||
                                              BitVec.ofInt (IntKind.bits IntKind.u64) (IntKind.wrap IntKind.u64 (0 : Int)))) :
                                        Int) *
                                    (2 : Int) ^ min (Int.toNat (8 : Int)) (IntKind.bits IntKind.u64))) |||
                              BitVec.ofInt (IntKind.bits IntKind.u64) (IntKind.wrap IntKind.u64 (0 : Int)))) :
                        Int) *
                    (2 : Int) ^ min (Int.toNat (8 : Int)) (IntKind.bits IntKind.u64))) |||
              BitVec.ofInt (IntKind.bits IntKind.u64) (IntKind.wrap IntKind.u64 (0 : Int)))) :
        Int)))
  (nmB (1 : Nat) b e)) (nmB (1 : Nat) b e)) ⟨[(.cells [zz27, (zzy1 b e), (zzy0 b e a), (zzy2 b e)]), (zz148 (cnA
  (IntKind.wrap IntKind.u32
    (IntKind.wrap IntKind.u64
      (↑(BitVec.toNat
            (BitVec.ofInt (IntKind.bits IntKind.u64)
                (IntKind.wrap IntKind.u64
                  (IntKind.wrap IntKind.u64
                      (↑(BitVec.toNat
                            (BitVec.ofInt (IntKind.bits IntKind.u64)
                                (IntKind.wrap IntKind.u64
                                  (IntKind.wrap IntKind.u64
                                      (↑(BitVec.toNat
                                            (BitVec.ofInt (IntKind.bits IntKind.u64)
                                                (IntKind.wrap IntKind.u64
                                                  (IntKind.wrap IntKind.u64 (↑(BitVec.toNat (BitVec.ofInt (IntKind.bits IntKind.u64) (IntKind.wrap IntKind.u64 ((0 : Int) * (2 : Int) ^ min (Int.toNat (8 : Int)) (IntKind.bits IntKind.u64))) ||| BitVec.ofInt (IntKind.bits IntKind.u64) (IntKind.wrap IntKind.u64 (0 : Int)))) : Int) *
                                                    (2 : Int) ^ min (Int.toNat (8 : Int)) (IntKind.bits IntKind.u64))) |||
                                              BitVec.ofInt (IntKind.bits IntKind.u64) (IntKind.wrap IntKind.u64 (0 : Int)))) :
                                        Int) *
                                    (2 : Int) ^ min (Int.toNat (8 : Int)) (IntKind.bits IntKind.u64))) |||
                              BitVec.ofInt (IntKind.bits IntKind.u64) (IntKind.wrap IntKind.u64 (0 : Int)))) :
                        Int) *
                    (2 : Int) ^ min (Int.toNat (8 : Int)) (IntKind.bits IntKind.u64))) |||
              BitVec.ofInt (IntKind.bits IntKind.u64) (IntKind.wrap IntKind.u64 (0 : Int)))) :
        Int)))
  (nmB (1 : Nat) b e)) (nmB (1 : Nat) b e)), zz145], []⟩)))))))) := by kernel_rfl
theorem ev_prd1 (b : Bs) (a e : Int) (z0 : Int) (Q : TV → VT → Prop) : vcallF Tryz.prog noGl (specs [(wU8F, snW .i64 1), (wErF, seW), (wByF, sbE [bT z0]), (pCaF, caW)]) noOra 300 noLp 0 pRdF [.ptr 0 0] (zz149 (srcO b a e)) Q =
 (((@Eq (Bool) true true) ∧
 IsB (b)) ∧
 (((@Eq (Bool) true true) ∧
 IsB (tkR (↑(1 : Nat) : Int) b e)) ∧
 (bif eqRes BinOp.neq (k6 (tkE (↑(1 : Nat) : Int) b e) (0 : Int))
 then Q zz147 ⟨[(.cells [zz27, (zz1 (tkR (↑(1 : Nat) : Int) b e)), (zz0 (tkA (↑(1 : Nat) : Int) b e a)), (zz0 (tkE (↑(1 : Nat) : Int) b e))]), zz146], []⟩
 else (bif decide (nmB (1 : Nat) b e > (32 : Int))
 then Q zz147 ⟨[(.cells [zz27, (zz1 (tkR (↑(1 : Nat) : Int) b e)), (zz0 (tkA (↑(1 : Nat) : Int) b e a)), (zz0 (tkE (↑(1 : Nat) : Int) b e))]), zz146], []⟩
 else ((((@Eq (Bool) true true) ∧
 IsB (tkR (↑(1 : Nat) : Int) b e)) ∧
 (@Eq (Bs) (tkB (IntKind.wrap IntKind.i64 (Int.tdiv (IntKind.wrap IntKind.i64 (IntKind.wrap IntKind.i64 (nmB (1 : Nat) b e + (8 : Int)) - (1 : Int))) (8 : Int))) (tkR (↑(1 : Nat) : Int) b e) (tkE (↑(1 : Nat) : Int) b e)) [(zz143 z0)])) ∧
 (((@Eq (Bool) true true) ∧
 IsB (tkR (IntKind.wrap IntKind.i64 (Int.tdiv (IntKind.wrap IntKind.i64 (IntKind.wrap IntKind.i64 (nmB (1 : Nat) b e + (8 : Int)) - (1 : Int))) (8 : Int))) (tkR (↑(1 : Nat) : Int) b e) (tkE (↑(1 : Nat) : Int) b e))) ∧
 (bif eqRes BinOp.neq (k6 (tkE (IntKind.wrap IntKind.i64 (Int.tdiv (IntKind.wrap IntKind.i64 (IntKind.wrap IntKind.i64 (nmB (1 : Nat) b e + (8 : Int)) - (1 : Int))) (8 : Int))) (tkR (↑(1 : Nat) : Int) b e) (tkE (↑(1 : Nat) : Int) b e)) (0 : Int))
 then Q zz147 ⟨[(.cells [zz27, (zzy1 b e), (zzy0 b e a), (zzy2 b e)]), zz146, (zz142 z0)], []⟩
 else (M32 (nmB (1 : Nat) b e) ∧
 Q (zz144 (cnA
  (IntKind.wrap IntKind.u32
    (IntKind.wrap IntKind.u64
      (↑(BitVec.toNat
            (BitVec.ofInt (IntKind.bits IntKind.u64)
                (IntKind.wrap IntKind.u64
                  (IntKind.wrap IntKind.u64
                      (↑(BitVec.toNat
                            (BitVec.ofInt (IntKind.bits IntKind.u64)
                                (IntKind.wrap IntKind.u64
                                  (IntKind.wrap IntKind.u64
                                      (↑(BitVec.toNat
                                            (BitVec.ofInt (IntKind.bits IntKind.u64)
                                                (IntKind.wrap IntKind.u64
                                                  (IntKind.wrap IntKind.u64 (↑(BitVec.toNat (BitVec.ofInt (IntKind.bits IntKind.u64) (IntKind.wrap IntKind.u64 ((0 : Int) * (2 : Int) ^ min (Int.toNat (8 : Int)) (IntKind.bits IntKind.u64))) ||| BitVec.ofInt (IntKind.bits IntKind.u64) (IntKind.wrap IntKind.u64 z0))) : Int) * (2 : Int) ^ min (Int.toNat (8 : Int)) (IntKind.bits IntKind.u64))) |||
                                              BitVec.ofInt (IntKind.bits IntKind.u64) (IntKind.wrap IntKind.u64 (0 : Int)))) :
                                        Int) *
                                    (2 : Int) ^ min (Int.toNat (8 : Int)) (IntKind.bits IntKind.u64))) |||
                              BitVec.ofInt (IntKind.bits IntKind.u64) (IntKind.wrap IntKind.u64 (0 : Int)))) :
                        Int) *
                    (2 : Int) ^ min (Int.toNat (8 : Int)) (IntKind.bits IntKind.u64))) |||
              BitVec.ofInt (IntKind.bits IntKind.u64) (IntKind.wrap IntKind.u64 (0 : Int)))) :
        Int)))
  (nmB (1 : Nat) b e)) (nmB (1 : Nat) b e)) ⟨[(.cells [zz27, (zzy1 b e), (zzy0 b e a), (zzy2 b e)]), (zz148 (cnA
  (IntKind.wrap IntKind.u32
    (IntKind.wrap IntKind.u64
      (↑(BitVec.toNat
            (BitVec.ofInt (IntKind.bits IntKind.u64)
                (IntKind.wrap IntKind.u64
                  (IntKind.wrap IntKind.u64
                      (↑(BitVec.toNat
                            (BitVec.ofInt (IntKind.bits IntKind.u64)
                                (IntKind.wrap IntKind.u64
                                  (IntKind.wrap IntKind.u64
                                      (↑(BitVec.toNat
                                            (BitVec.ofInt (IntKind.bits IntKind.u64)
                                                (IntKind.wrap IntKind.u64
                                                  (IntKind.wrap IntKind.u64 (↑(BitVec.toNat (BitVec.ofInt (IntKind.bits IntKind.u64) (IntKind.wrap IntKind.u64 ((0 : Int) * (2 : Int) ^ min (Int.toNat (8 : Int)) (IntKind.bits IntKind.u64))) ||| BitVec.ofInt (IntKind.bits IntKind.u64) (IntKind.wrap IntKind.u64 z0))) : Int) * (2 : Int) ^ min (Int.toNat (8 : Int)) (IntKind.bits IntKind.u64))) |||
                                              BitVec.ofInt (IntKind.bits IntKind.u64) (IntKind.wrap IntKind.u64 (0 : Int)))) :
                                        Int) *
                                    (2 : Int) ^ min (Int.toNat (8 : Int)) (IntKind.bits IntKind.u64))) |||
                              BitVec.ofInt (IntKind.bits IntKind.u64) (IntKind.wrap IntKind.u64 (0 : Int)))) :
                        Int) *
                    (2 : Int) ^ min (Int.toNat (8 : Int)) (IntKind.bits IntKind.u64))) |||
              BitVec.ofInt (IntKind.bits IntKind.u64) (IntKind.wrap IntKind.u64 (0 : Int)))) :
        Int)))
  (nmB (1 : Nat) b e)) (nmB (1 : Nat) b e)), (zz142 z0)], []⟩)))))))) := by kernel_rfl
theorem ev_prd2 (b : Bs) (a e : Int) (z0 z1 : Int) (Q : TV → VT → Prop) : vcallF Tryz.prog noGl (specs [(wU8F, snW .i64 1), (wErF, seW), (wByF, sbE [bT z0, bT z1]), (pCaF, caW)]) noOra 300 noLp 0 pRdF [.ptr 0 0] (zz149 (srcO b a e)) Q =
 (((@Eq (Bool) true true) ∧
 IsB (b)) ∧
 (((@Eq (Bool) true true) ∧
 IsB (tkR (↑(1 : Nat) : Int) b e)) ∧
 (bif eqRes BinOp.neq (k6 (tkE (↑(1 : Nat) : Int) b e) (0 : Int))
 then Q zz147 ⟨[(.cells [zz27, (zz1 (tkR (↑(1 : Nat) : Int) b e)), (zz0 (tkA (↑(1 : Nat) : Int) b e a)), (zz0 (tkE (↑(1 : Nat) : Int) b e))]), zz146], []⟩
 else (bif decide (nmB (1 : Nat) b e > (32 : Int))
 then Q zz147 ⟨[(.cells [zz27, (zz1 (tkR (↑(1 : Nat) : Int) b e)), (zz0 (tkA (↑(1 : Nat) : Int) b e a)), (zz0 (tkE (↑(1 : Nat) : Int) b e))]), zz146], []⟩
 else ((((@Eq (Bool) true true) ∧
 IsB (tkR (↑(1 : Nat) : Int) b e)) ∧
 (@Eq (Bs) (tkB (IntKind.wrap IntKind.i64 (Int.tdiv (IntKind.wrap IntKind.i64 (IntKind.wrap IntKind.i64 (nmB (1 : Nat) b e + (8 : Int)) - (1 : Int))) (8 : Int))) (tkR (↑(1 : Nat) : Int) b e) (tkE (↑(1 : Nat) : Int) b e)) [(zz143 z0), (zz143 z1)])) ∧
 (((@Eq (Bool) true true) ∧
 IsB (tkR (IntKind.wrap IntKind.i64 (Int.tdiv (IntKind.wrap IntKind.i64 (IntKind.wrap IntKind.i64 (nmB (1 : Nat) b e + (8 : Int)) - (1 : Int))) (8 : Int))) (tkR (↑(1 : Nat) : Int) b e) (tkE (↑(1 : Nat) : Int) b e))) ∧
 (bif eqRes BinOp.neq (k6 (tkE (IntKind.wrap IntKind.i64 (Int.tdiv (IntKind.wrap IntKind.i64 (IntKind.wrap IntKind.i64 (nmB (1 : Nat) b e + (8 : Int)) - (1 : Int))) (8 : Int))) (tkR (↑(1 : Nat) : Int) b e) (tkE (↑(1 : Nat) : Int) b e)) (0 : Int))
 then Q zz147 ⟨[(.cells [zz27, (zzy1 b e), (zzy0 b e a), (zzy2 b e)]), zz146, (.cells [(zz52 z0), (zz52 z1), zz141, zz141])], []⟩
 else (M32 (nmB (1 : Nat) b e) ∧
 Q (zz144 (cnA
  (IntKind.wrap IntKind.u32
    (IntKind.wrap IntKind.u64
      (↑(BitVec.toNat
            (BitVec.ofInt (IntKind.bits IntKind.u64)
                (IntKind.wrap IntKind.u64
                  (IntKind.wrap IntKind.u64
                      (↑(BitVec.toNat
                            (BitVec.ofInt (IntKind.bits IntKind.u64)
                                (IntKind.wrap IntKind.u64
                                  (IntKind.wrap IntKind.u64
                                      (↑(BitVec.toNat
                                            (BitVec.ofInt (IntKind.bits IntKind.u64)
                                                (IntKind.wrap IntKind.u64
                                                  (IntKind.wrap IntKind.u64 (↑(BitVec.toNat (BitVec.ofInt (IntKind.bits IntKind.u64) (IntKind.wrap IntKind.u64 ((0 : Int) * (2 : Int) ^ min (Int.toNat (8 : Int)) (IntKind.bits IntKind.u64))) ||| BitVec.ofInt (IntKind.bits IntKind.u64) (IntKind.wrap IntKind.u64 z0))) : Int) * (2 : Int) ^ min (Int.toNat (8 : Int)) (IntKind.bits IntKind.u64))) |||
                                              BitVec.ofInt (IntKind.bits IntKind.u64) (IntKind.wrap IntKind.u64 z1))) :
                                        Int) *
                                    (2 : Int) ^ min (Int.toNat (8 : Int)) (IntKind.bits IntKind.u64))) |||
                              BitVec.ofInt (IntKind.bits IntKind.u64) (IntKind.wrap IntKind.u64 (0 : Int)))) :
                        Int) *
                    (2 : Int) ^ min (Int.toNat (8 : Int)) (IntKind.bits IntKind.u64))) |||
              BitVec.ofInt (IntKind.bits IntKind.u64) (IntKind.wrap IntKind.u64 (0 : Int)))) :
        Int)))
  (nmB (1 : Nat) b e)) (nmB (1 : Nat) b e)) ⟨[(.cells [zz27, (zzy1 b e), (zzy0 b e a), (zzy2 b e)]), (zz148 (cnA
  (IntKind.wrap IntKind.u32
    (IntKind.wrap IntKind.u64
      (↑(BitVec.toNat
            (BitVec.ofInt (IntKind.bits IntKind.u64)
                (IntKind.wrap IntKind.u64
                  (IntKind.wrap IntKind.u64
                      (↑(BitVec.toNat
                            (BitVec.ofInt (IntKind.bits IntKind.u64)
                                (IntKind.wrap IntKind.u64
                                  (IntKind.wrap IntKind.u64
                                      (↑(BitVec.toNat
                                            (BitVec.ofInt (IntKind.bits IntKind.u64)
                                                (IntKind.wrap IntKind.u64
                                                  (IntKind.wrap IntKind.u64 (↑(BitVec.toNat (BitVec.ofInt (IntKind.bits IntKind.u64) (IntKind.wrap IntKind.u64 ((0 : Int) * (2 : Int) ^ min (Int.toNat (8 : Int)) (IntKind.bits IntKind.u64))) ||| BitVec.ofInt (IntKind.bits IntKind.u64) (IntKind.wrap IntKind.u64 z0))) : Int) * (2 : Int) ^ min (Int.toNat (8 : Int)) (IntKind.bits IntKind.u64))) |||
                                              BitVec.ofInt (IntKind.bits IntKind.u64) (IntKind.wrap IntKind.u64 z1))) :
                                        Int) *
                                    (2 : Int) ^ min (Int.toNat (8 : Int)) (IntKind.bits IntKind.u64))) |||
                              BitVec.ofInt (IntKind.bits IntKind.u64) (IntKind.wrap IntKind.u64 (0 : Int)))) :
                        Int) *
                    (2 : Int) ^ min (Int.toNat (8 : Int)) (IntKind.bits IntKind.u64))) |||
              BitVec.ofInt (IntKind.bits IntKind.u64) (IntKind.wrap IntKind.u64 (0 : Int)))) :
        Int)))
  (nmB (1 : Nat) b e)) (nmB (1 : Nat) b e)), (.cells [(zz52 z0), (zz52 z1), zz141, zz141])], []⟩)))))))) := by kernel_rfl
theorem ev_prd3 (b : Bs) (a e : Int) (z0 z1 z2 : Int) (Q : TV → VT → Prop) : vcallF Tryz.prog noGl (specs [(wU8F, snW .i64 1), (wErF, seW), (wByF, sbE [bT z0, bT z1, bT z2]), (pCaF, caW)]) noOra 300 noLp 0 pRdF [.ptr 0 0] (zz149 (srcO b a e)) Q =
 (((@Eq (Bool) true true) ∧
 IsB (b)) ∧
 (((@Eq (Bool) true true) ∧
 IsB (tkR (↑(1 : Nat) : Int) b e)) ∧
 (bif eqRes BinOp.neq (k6 (tkE (↑(1 : Nat) : Int) b e) (0 : Int))
 then Q zz147 ⟨[(.cells [zz27, (zz1 (tkR (↑(1 : Nat) : Int) b e)), (zz0 (tkA (↑(1 : Nat) : Int) b e a)), (zz0 (tkE (↑(1 : Nat) : Int) b e))]), zz146], []⟩
 else (bif decide (nmB (1 : Nat) b e > (32 : Int))
 then Q zz147 ⟨[(.cells [zz27, (zz1 (tkR (↑(1 : Nat) : Int) b e)), (zz0 (tkA (↑(1 : Nat) : Int) b e a)), (zz0 (tkE (↑(1 : Nat) : Int) b e))]), zz146], []⟩
 else ((((@Eq (Bool) true true) ∧
 IsB (tkR (↑(1 : Nat) : Int) b e)) ∧
 (@Eq (Bs) (tkB (IntKind.wrap IntKind.i64 (Int.tdiv (IntKind.wrap IntKind.i64 (IntKind.wrap IntKind.i64 (nmB (1 : Nat) b e + (8 : Int)) - (1 : Int))) (8 : Int))) (tkR (↑(1 : Nat) : Int) b e) (tkE (↑(1 : Nat) : Int) b e)) [(zz143 z0), (zz143 z1), (zz143 z2)])) ∧
 (((@Eq (Bool) true true) ∧
 IsB (tkR (IntKind.wrap IntKind.i64 (Int.tdiv (IntKind.wrap IntKind.i64 (IntKind.wrap IntKind.i64 (nmB (1 : Nat) b e + (8 : Int)) - (1 : Int))) (8 : Int))) (tkR (↑(1 : Nat) : Int) b e) (tkE (↑(1 : Nat) : Int) b e))) ∧
 (bif eqRes BinOp.neq (k6 (tkE (IntKind.wrap IntKind.i64 (Int.tdiv (IntKind.wrap IntKind.i64 (IntKind.wrap IntKind.i64 (nmB (1 : Nat) b e + (8 : Int)) - (1 : Int))) (8 : Int))) (tkR (↑(1 : Nat) : Int) b e) (tkE (↑(1 : Nat) : Int) b e)) (0 : Int))
 then Q zz147 ⟨[(.cells [zz27, (zzy1 b e), (zzy0 b e a), (zzy2 b e)]), zz146, (.cells [(zz52 z0), (zz52 z1), (zz52 z2), zz141])], []⟩
 else (M32 (nmB (1 : Nat) b e) ∧
 Q (zz144 (cnA
  (IntKind.wrap IntKind.u32
    (IntKind.wrap IntKind.u64
      (↑(BitVec.toNat
            (BitVec.ofInt (IntKind.bits IntKind.u64)
                (IntKind.wrap IntKind.u64
                  (IntKind.wrap IntKind.u64
                      (↑(BitVec.toNat
                            (BitVec.ofInt (IntKind.bits IntKind.u64)
                                (IntKind.wrap IntKind.u64
                                  (IntKind.wrap IntKind.u64
                                      (↑(BitVec.toNat
                                            (BitVec.ofInt (IntKind.bits IntKind.u64)
                                                (IntKind.wrap IntKind.u64
                                                  (IntKind.wrap IntKind.u64 (↑(BitVec.toNat (BitVec.ofInt (IntKind.bits IntKind.u64) (IntKind.wrap IntKind.u64 ((0 : Int) * (2 : Int) ^ min (Int.toNat (8 : Int)) (IntKind.bits IntKind.u64))) ||| BitVec.ofInt (IntKind.bits IntKind.u64) (IntKind.wrap IntKind.u64 z0))) : Int) * (2 : Int) ^ min (Int.toNat (8 : Int)) (IntKind.bits IntKind.u64))) |||
                                              BitVec.ofInt (IntKind.bits IntKind.u64) (IntKind.wrap IntKind.u64 z1))) :
                                        Int) *
                                    (2 : Int) ^ min (Int.toNat (8 : Int)) (IntKind.bits IntKind.u64))) |||
                              BitVec.ofInt (IntKind.bits IntKind.u64) (IntKind.wrap IntKind.u64 z2))) :
                        Int) *
                    (2 : Int) ^ min (Int.toNat (8 : Int)) (IntKind.bits IntKind.u64))) |||
              BitVec.ofInt (IntKind.bits IntKind.u64) (IntKind.wrap IntKind.u64 (0 : Int)))) :
        Int)))
  (nmB (1 : Nat) b e)) (nmB (1 : Nat) b e)) ⟨[(.cells [zz27, (zzy1 b e), (zzy0 b e a), (zzy2 b e)]), (zz148 (cnA
  (IntKind.wrap IntKind.u32
    (IntKind.wrap IntKind.u64
      (↑(BitVec.toNat
            (BitVec.ofInt (IntKind.bits IntKind.u64)
                (IntKind.wrap IntKind.u64
                  (IntKind.wrap IntKind.u64
                      (↑(BitVec.toNat
                            (BitVec.ofInt (IntKind.bits IntKind.u64)
                                (IntKind.wrap IntKind.u64
                                  (IntKind.wrap IntKind.u64
                                      (↑(BitVec.toNat
                                            (BitVec.ofInt (IntKind.bits IntKind.u64)
                                                (IntKind.wrap IntKind.u64
                                                  (IntKind.wrap IntKind.u64 (↑(BitVec.toNat (BitVec.ofInt (IntKind.bits IntKind.u64) (IntKind.wrap IntKind.u64 ((0 : Int) * (2 : Int) ^ min (Int.toNat (8 : Int)) (IntKind.bits IntKind.u64))) ||| BitVec.ofInt (IntKind.bits IntKind.u64) (IntKind.wrap IntKind.u64 z0))) : Int) * (2 : Int) ^ min (Int.toNat (8 : Int)) (IntKind.bits IntKind.u64))) |||
                                              BitVec.ofInt (IntKind.bits IntKind.u64) (IntKind.wrap IntKind.u64 z1))) :
                                        Int) *
                                    (2 : Int) ^ min (Int.toNat (8 : Int)) (IntKind.bits IntKind.u64))) |||
                              BitVec.ofInt (IntKind.bits IntKind.u64) (IntKind.wrap IntKind.u64 z2))) :
                        Int) *
                    (2 : Int) ^ min (Int.toNat (8 : Int)) (IntKind.bits IntKind.u64))) |||
              BitVec.ofInt (IntKind.bits IntKind.u64) (IntKind.wrap IntKind.u64 (0 : Int)))) :
        Int)))
  (nmB (1 : Nat) b e)) (nmB (1 : Nat) b e)), (.cells [(zz52 z0), (zz52 z1), (zz52 z2), zz141])], []⟩)))))))) := by kernel_rfl
theorem ev_prd4 (b : Bs) (a e : Int) (z0 z1 z2 z3 : Int) (Q : TV → VT → Prop) : vcallF Tryz.prog noGl (specs [(wU8F, snW .i64 1), (wErF, seW), (wByF, sbE [bT z0, bT z1, bT z2, bT z3]), (pCaF, caW)]) noOra 300 noLp 0 pRdF [.ptr 0 0] (zz149 (srcO b a e)) Q =
 (((@Eq (Bool) true true) ∧
 IsB (b)) ∧
 (((@Eq (Bool) true true) ∧
 IsB (tkR (↑(1 : Nat) : Int) b e)) ∧
 (bif eqRes BinOp.neq (k6 (tkE (↑(1 : Nat) : Int) b e) (0 : Int))
 then Q zz147 ⟨[(.cells [zz27, (zz1 (tkR (↑(1 : Nat) : Int) b e)), (zz0 (tkA (↑(1 : Nat) : Int) b e a)), (zz0 (tkE (↑(1 : Nat) : Int) b e))]), zz146], []⟩
 else (bif decide (nmB (1 : Nat) b e > (32 : Int))
 then Q zz147 ⟨[(.cells [zz27, (zz1 (tkR (↑(1 : Nat) : Int) b e)), (zz0 (tkA (↑(1 : Nat) : Int) b e a)), (zz0 (tkE (↑(1 : Nat) : Int) b e))]), zz146], []⟩
 else ((((@Eq (Bool) true true) ∧
 IsB (tkR (↑(1 : Nat) : Int) b e)) ∧
 (@Eq (Bs) (tkB (IntKind.wrap IntKind.i64 (Int.tdiv (IntKind.wrap IntKind.i64 (IntKind.wrap IntKind.i64 (nmB (1 : Nat) b e + (8 : Int)) - (1 : Int))) (8 : Int))) (tkR (↑(1 : Nat) : Int) b e) (tkE (↑(1 : Nat) : Int) b e)) [(zz143 z0), (zz143 z1), (zz143 z2), (zz143 z3)])) ∧
 (((@Eq (Bool) true true) ∧
 IsB (tkR (IntKind.wrap IntKind.i64 (Int.tdiv (IntKind.wrap IntKind.i64 (IntKind.wrap IntKind.i64 (nmB (1 : Nat) b e + (8 : Int)) - (1 : Int))) (8 : Int))) (tkR (↑(1 : Nat) : Int) b e) (tkE (↑(1 : Nat) : Int) b e))) ∧
 (bif eqRes BinOp.neq (k6 (tkE (IntKind.wrap IntKind.i64 (Int.tdiv (IntKind.wrap IntKind.i64 (IntKind.wrap IntKind.i64 (nmB (1 : Nat) b e + (8 : Int)) - (1 : Int))) (8 : Int))) (tkR (↑(1 : Nat) : Int) b e) (tkE (↑(1 : Nat) : Int) b e)) (0 : Int))
 then Q zz147 ⟨[(.cells [zz27, (zzy1 b e), (zzy0 b e a), (zzy2 b e)]), zz146, (.cells [(zz52 z0), (zz52 z1), (zz52 z2), (zz52 z3)])], []⟩
 else (M32 (nmB (1 : Nat) b e) ∧
 Q (zz144 (cnA
  (IntKind.wrap IntKind.u32
    (IntKind.wrap IntKind.u64
      (↑(BitVec.toNat
            (BitVec.ofInt (IntKind.bits IntKind.u64)
                (IntKind.wrap IntKind.u64
                  (IntKind.wrap IntKind.u64
                      (↑(BitVec.toNat
                            (BitVec.ofInt (IntKind.bits IntKind.u64)
                                (IntKind.wrap IntKind.u64
                                  (IntKind.wrap IntKind.u64
                                      (↑(BitVec.toNat
                                            (BitVec.ofInt (IntKind.bits IntKind.u64)
                                                (IntKind.wrap IntKind.u64
                                                  (IntKind.wrap IntKind.u64 (↑(BitVec.toNat (BitVec.ofInt (IntKind.bits IntKind.u64) (IntKind.wrap IntKind.u64 ((0 : Int) * (2 : Int) ^ min (Int.toNat (8 : Int)) (IntKind.bits IntKind.u64))) ||| BitVec.ofInt (IntKind.bits IntKind.u64) (IntKind.wrap IntKind.u64 z0))) : Int) * (2 : Int) ^ min (Int.toNat (8 : Int)) (IntKind.bits IntKind.u64))) |||
                                              BitVec.ofInt (IntKind.bits IntKind.u64) (IntKind.wrap IntKind.u64 z1))) :
                                        Int) *
                                    (2 : Int) ^ min (Int.toNat (8 : Int)) (IntKind.bits IntKind.u64))) |||
                              BitVec.ofInt (IntKind.bits IntKind.u64) (IntKind.wrap IntKind.u64 z2))) :
                        Int) *
                    (2 : Int) ^ min (Int.toNat (8 : Int)) (IntKind.bits IntKind.u64))) |||
              BitVec.ofInt (IntKind.bits IntKind.u64) (IntKind.wrap IntKind.u64 z3))) :
        Int)))
  (nmB (1 : Nat) b e)) (nmB (1 : Nat) b e)) ⟨[(.cells [zz27, (zzy1 b e), (zzy0 b e a), (zzy2 b e)]), (zz148 (cnA
  (IntKind.wrap IntKind.u32
    (IntKind.wrap IntKind.u64
      (↑(BitVec.toNat
            (BitVec.ofInt (IntKind.bits IntKind.u64)
                (IntKind.wrap IntKind.u64
                  (IntKind.wrap IntKind.u64
                      (↑(BitVec.toNat
                            (BitVec.ofInt (IntKind.bits IntKind.u64)
                                (IntKind.wrap IntKind.u64
                                  (IntKind.wrap IntKind.u64
                                      (↑(BitVec.toNat
                                            (BitVec.ofInt (IntKind.bits IntKind.u64)
                                                (IntKind.wrap IntKind.u64
                                                  (IntKind.wrap IntKind.u64 (↑(BitVec.toNat (BitVec.ofInt (IntKind.bits IntKind.u64) (IntKind.wrap IntKind.u64 ((0 : Int) * (2 : Int) ^ min (Int.toNat (8 : Int)) (IntKind.bits IntKind.u64))) ||| BitVec.ofInt (IntKind.bits IntKind.u64) (IntKind.wrap IntKind.u64 z0))) : Int) * (2 : Int) ^ min (Int.toNat (8 : Int)) (IntKind.bits IntKind.u64))) |||
                                              BitVec.ofInt (IntKind.bits IntKind.u64) (IntKind.wrap IntKind.u64 z1))) :
                                        Int) *
                                    (2 : Int) ^ min (Int.toNat (8 : Int)) (IntKind.bits IntKind.u64))) |||
                              BitVec.ofInt (IntKind.bits IntKind.u64) (IntKind.wrap IntKind.u64 z2))) :
                        Int) *
                    (2 : Int) ^ min (Int.toNat (8 : Int)) (IntKind.bits IntKind.u64))) |||
              BitVec.ofInt (IntKind.bits IntKind.u64) (IntKind.wrap IntKind.u64 z3))) :
        Int)))
  (nmB (1 : Nat) b e)) (nmB (1 : Nat) b e)), (.cells [(zz52 z0), (zz52 z1), (zz52 z2), (zz52 z3)])], []⟩)))))))) := by kernel_rfl
end Go.Proofs.YtogbdjlelkepcaaGreatDoor
namespace Go.Proofs.YtogbdjlelkepcaaGreatDoor
open Go.RowKit

theorem m32_cases {n : Int} (h : M32 n) : n = 0 ∨ n = 1 ∨ n = 2 ∨ n = 3 ∨ n = 4 ∨ n = 5 ∨ n = 6 ∨ n = 7 ∨ n = 8 ∨ n = 9 ∨ n = 10 ∨ n = 11 ∨ n = 12 ∨ n = 13 ∨ n = 14 ∨ n = 15 ∨ n = 16 ∨ n = 17 ∨ n = 18 ∨ n = 19 ∨ n = 20 ∨ n = 21 ∨ n = 22 ∨ n = 23 ∨ n = 24 ∨ n = 25 ∨ n = 26 ∨ n = 27 ∨ n = 28 ∨ n = 29 ∨ n = 30 ∨ n = 31 ∨ n = 32 := by
 obtain ⟨h0, h1⟩ := h; omega
theorem pma_vcx {n : Int} (h : M32 n) : VCx Tryz.prog noGl 0 pMaF [.val (.int .i64 n)] ⟨[], []⟩ fun x T' => x = .val (.int .u32 (mkZ n)) ∧ T' = ⟨[], []⟩ := by
 rcases m32_cases h with rfl | rfl | rfl | rfl | rfl | rfl | rfl | rfl | rfl | rfl | rfl | rfl | rfl | rfl | rfl | rfl | rfl | rfl | rfl | rfl | rfl | rfl | rfl | rfl | rfl | rfl | rfl | rfl | rfl | rfl | rfl | rfl | rfl
 ·exact vcallF_is mixedB_Tryz bodiesB_Tryz specsOk_none lsOk_none (ev_pma0 _) ⟨rfl, rfl⟩
 ·exact vcallF_is mixedB_Tryz bodiesB_Tryz specsOk_none lsOk_none (ev_pma1 _) ⟨rfl, rfl⟩
 ·exact vcallF_is mixedB_Tryz bodiesB_Tryz specsOk_none lsOk_none (ev_pma2 _) ⟨rfl, rfl⟩
 ·exact vcallF_is mixedB_Tryz bodiesB_Tryz specsOk_none lsOk_none (ev_pma3 _) ⟨rfl, rfl⟩
 ·exact vcallF_is mixedB_Tryz bodiesB_Tryz specsOk_none lsOk_none (ev_pma4 _) ⟨rfl, rfl⟩
 ·exact vcallF_is mixedB_Tryz bodiesB_Tryz specsOk_none lsOk_none (ev_pma5 _) ⟨rfl, rfl⟩
 ·exact vcallF_is mixedB_Tryz bodiesB_Tryz specsOk_none lsOk_none (ev_pma6 _) ⟨rfl, rfl⟩
 ·exact vcallF_is mixedB_Tryz bodiesB_Tryz specsOk_none lsOk_none (ev_pma7 _) ⟨rfl, rfl⟩
 ·exact vcallF_is mixedB_Tryz bodiesB_Tryz specsOk_none lsOk_none (ev_pma8 _) ⟨rfl, rfl⟩
 ·exact vcallF_is mixedB_Tryz bodiesB_Tryz specsOk_none lsOk_none (ev_pma9 _) ⟨rfl, rfl⟩
 ·exact vcallF_is mixedB_Tryz bodiesB_Tryz specsOk_none lsOk_none (ev_pma10 _) ⟨rfl, rfl⟩
 ·exact vcallF_is mixedB_Tryz bodiesB_Tryz specsOk_none lsOk_none (ev_pma11 _) ⟨rfl, rfl⟩
 ·exact vcallF_is mixedB_Tryz bodiesB_Tryz specsOk_none lsOk_none (ev_pma12 _) ⟨rfl, rfl⟩
 ·exact vcallF_is mixedB_Tryz bodiesB_Tryz specsOk_none lsOk_none (ev_pma13 _) ⟨rfl, rfl⟩
 ·exact vcallF_is mixedB_Tryz bodiesB_Tryz specsOk_none lsOk_none (ev_pma14 _) ⟨rfl, rfl⟩
 ·exact vcallF_is mixedB_Tryz bodiesB_Tryz specsOk_none lsOk_none (ev_pma15 _) ⟨rfl, rfl⟩
 ·exact vcallF_is mixedB_Tryz bodiesB_Tryz specsOk_none lsOk_none (ev_pma16 _) ⟨rfl, rfl⟩
 ·exact vcallF_is mixedB_Tryz bodiesB_Tryz specsOk_none lsOk_none (ev_pma17 _) ⟨rfl, rfl⟩
 ·exact vcallF_is mixedB_Tryz bodiesB_Tryz specsOk_none lsOk_none (ev_pma18 _) ⟨rfl, rfl⟩
 ·exact vcallF_is mixedB_Tryz bodiesB_Tryz specsOk_none lsOk_none (ev_pma19 _) ⟨rfl, rfl⟩
 ·exact vcallF_is mixedB_Tryz bodiesB_Tryz specsOk_none lsOk_none (ev_pma20 _) ⟨rfl, rfl⟩
 ·exact vcallF_is mixedB_Tryz bodiesB_Tryz specsOk_none lsOk_none (ev_pma21 _) ⟨rfl, rfl⟩
 ·exact vcallF_is mixedB_Tryz bodiesB_Tryz specsOk_none lsOk_none (ev_pma22 _) ⟨rfl, rfl⟩
 ·exact vcallF_is mixedB_Tryz bodiesB_Tryz specsOk_none lsOk_none (ev_pma23 _) ⟨rfl, rfl⟩
 ·exact vcallF_is mixedB_Tryz bodiesB_Tryz specsOk_none lsOk_none (ev_pma24 _) ⟨rfl, rfl⟩
 ·exact vcallF_is mixedB_Tryz bodiesB_Tryz specsOk_none lsOk_none (ev_pma25 _) ⟨rfl, rfl⟩
 ·exact vcallF_is mixedB_Tryz bodiesB_Tryz specsOk_none lsOk_none (ev_pma26 _) ⟨rfl, rfl⟩
 ·exact vcallF_is mixedB_Tryz bodiesB_Tryz specsOk_none lsOk_none (ev_pma27 _) ⟨rfl, rfl⟩
 ·exact vcallF_is mixedB_Tryz bodiesB_Tryz specsOk_none lsOk_none (ev_pma28 _) ⟨rfl, rfl⟩
 ·exact vcallF_is mixedB_Tryz bodiesB_Tryz specsOk_none lsOk_none (ev_pma29 _) ⟨rfl, rfl⟩
 ·exact vcallF_is mixedB_Tryz bodiesB_Tryz specsOk_none lsOk_none (ev_pma30 _) ⟨rfl, rfl⟩
 ·exact vcallF_is mixedB_Tryz bodiesB_Tryz specsOk_none lsOk_none (ev_pma31 _) ⟨rfl, rfl⟩
 ·exact vcallF_is mixedB_Tryz bodiesB_Tryz specsOk_none lsOk_none (ev_pma32 _) ⟨rfl, rfl⟩
theorem pmaW_ok : ∀ ro ys T K, mkW ro ys T K → VCx Tryz.prog noGl ro pMaF ys T K := by
 intro ro ys T K hw
 unfold mkW at hw
 split at hw
 ·exact VCx.liftPure gvals_noGl (pma_vcx hw.1) rfl (fun _ _ => rfl) hw.2
 ·exact hw.elim
theorem pca_vcx (a : Int) {n : Int} (h : M32 n) : VCx Tryz.prog noGl 0 pCaF [.agg [.val (.int .u32 a), .val (.int .i64 n)]] ⟨[], []⟩ fun x T' => x = .agg [.val (.int .u32 (cnA a n)), .val (.int .i64 n)] ∧ T' = ⟨[], []⟩ := by
 refine VCx.keepQ 0 0 (Nat.le_refl _) (Nat.le_refl _) (vcallF_is mixedB_Tryz bodiesB_Tryz (specs_ok fun p hp => by obtain rfl := List.mem_singleton.1 hp; exact pmaW_ok) lsOk_none (ev_pca a n _) ?_)
 have e : (if (32 : Int) < if (0 : Int) > n then (0 : Int) else n then (32 : Int) else if (0 : Int) > n then (0 : Int) else n) = n := by
  obtain ⟨h0, h1⟩ := h
  rw [if_neg (show ¬ (0 : Int) > n by omega), if_neg (by omega)]
 rw [e]
 exact ⟨h, rfl, rfl⟩
theorem pcaW_ok : ∀ ro ys T K, caW ro ys T K → VCx Tryz.prog noGl ro pCaF ys T K := by
 intro ro ys T K hw
 unfold caW at hw
 split at hw
 ·exact VCx.liftPure gvals_noGl (pca_vcx _ hw.1) rfl (fun _ _ => rfl) hw.2
 ·exact hw.elim
theorem sbE_ok (l : Bs) : ∀ ro ys T K, sbE l ro ys T K → VCx Tryz.prog noGl ro wByF ys T K := by
 intro ro ys T K hw
 unfold sbE at hw
 split at hw
 ·split at hw
  ·rename_i ho
   obtain ⟨⟨h1, h2⟩, hk⟩ := hw
   subst h2
   refine wBy_ok _ _ _ _ ?_
   unfold sbW
   simp only [ho]
   exact ⟨h1, hk⟩
  ·exact hw.elim
 ·exact hw.elim
def ocN (n : Int) : Int := Int.tdiv (n + 7) 8
def adB (l : Bs) : Int := beB (l ++ List.replicate (4 - l.length) (bT 0))
def prG (b : Bs) (e : Int) : Bool := decide (tkE 1 b e = 0) && decide (nmB 1 b e ≤ 32)
def prL (b : Bs) (e : Int) : Bs := tkB (ocN (nmB 1 b e)) (tkR 1 b e) (tkE 1 b e)
def prF (b : Bs) (e : Int) : Int := tkE (ocN (nmB 1 b e)) (tkR 1 b e) (tkE 1 b e)
def prOk (b : Bs) (e : Int) : Bool := prG b e && decide (prF b e = 0)
def prB (b : Bs) (e : Int) : Bs := bif prG b e then tkR (ocN (nmB 1 b e)) (tkR 1 b e) (tkE 1 b e) else tkR 1 b e
def prE (b : Bs) (e : Int) : Int := bif prG b e then prF b e else tkE 1 b e
def prA (b : Bs) (e a : Int) : Int := bif prG b e then tkA (ocN (nmB 1 b e)) (tkR 1 b e) (tkE 1 b e) (tkA 1 b e a) else tkA 1 b e a
def prAd (b : Bs) (e : Int) : Int := bif prOk b e then cnA (adB (prL b e)) (nmB 1 b e) else 0
def prLn (b : Bs) (e : Int) : Int := bif prOk b e then nmB 1 b e else 0
def prX (b : Bs) (e : Int) : TV := .tup [.agg [.val (.int .u32 (prAd b e)), .val (.int .i64 (prLn b e))], .val (.bool (prOk b e))]
theorem keepS {b : Bs} (hb : IsB b) (a e : Int) (l : List VO) (t : List (Nat × Nat × Bool)) : VT.keep ⟨srcO b a e :: l, t⟩ 1 0 = ⟨[srcO b a e], []⟩ := by
 simp only [VT.keep, List.take_succ_cons, List.take_zero, List.map_cons, List.map_nil, srcO_ren hb]
theorem prB_is {b : Bs} {e : Int} (h : IsB b) : IsB (prB b e) := by
 unfold prB; cases prG b e
 ·exact tkR_is h
 ·exact tkR_is (tkR_is h)
theorem nm1 {b : Bs} (h : IsB b) (e : Int) : 0 ≤ nmB 1 b e ∧ nmB 1 b e < 256 := by
 rw [nmB_eq]; exact nmI_lt (n := 1) h e
theorem ocW {n : Int} (h0 : 0 ≤ n) (h1 : n < 256) : IntKind.wrap .i64 (Int.tdiv (IntKind.wrap .i64 (IntKind.wrap .i64 (n + (8 : Int)) - (1 : Int))) (8 : Int)) = ocN n := by
 unfold ocN
 rw [wrap_id (z := n + 8) (by omega) (by omega), wrap_id (z := n + 8 - 1) (by omega) (by omega), show n + 8 - 1 = n + 7 by omega]
 have := Int.tdiv_eq_ediv_of_nonneg (a := n + 7) (b := 8) (by omega)
 exact wrap_id (by omega) (by omega)
theorem adB_is (z0 z1 z2 z3 : Int) : adB [bT z0, bT z1, bT z2, bT z3] = ((z0 * 256 + z1) * 256 + z2) * 256 + z3 ∧ adB [bT z0, bT z1, bT z2] = ((z0 * 256 + z1) * 256 + z2) * 256 ∧ adB [bT z0, bT z1] = ((z0 * 256 + z1) * 256) * 256 ∧ adB [bT z0] = (z0 * 256 * 256) * 256 ∧ adB [] = 0 := by
 refine ⟨?_, ?_, ?_, ?_, ?_⟩ <;> simp [adB, beB, bval, bT, List.replicate]
theorem prSp (l : Bs) : SpecsOk Tryz.prog noGl (specs [(wU8F, snW .i64 1), (wErF, seW), (wByF, sbE l), (pCaF, caW)]) := specs_ok fun p hp => by
 rcases List.mem_cons.1 hp with rfl | hp; exact wU8_ok
 rcases List.mem_cons.1 hp with rfl | hp; exact wEr_ok
 rcases List.mem_cons.1 hp with rfl | hp; exact sbE_ok l
 obtain rfl := List.mem_singleton.1 hp; exact pcaW_ok
def prT (b : Bs) (a e : Int) : VT := ⟨[srcO (prB b e) (prA b e a) (prE b e)], []⟩
theorem prd0 {b : Bs} (hb : IsB b) (a e : Int) (hl : prG b e = true → prL b e = []) : VCx Tryz.prog noGl 0 pRdF [.ptr 0 0] ⟨[srcO b a e], []⟩ fun x T' => x = prX b e ∧ T' = prT b a e := by
  obtain ⟨hn0, hn1⟩ := nm1 hb e
  refine VCx.keepQ 1 0 (Nat.le_refl _) (Nat.le_refl _) (vcallF_is mixedB_Tryz bodiesB_Tryz (prSp []) lsOk_none (ev_prd0 b a e _) ?_)
  refine ⟨⟨rfl, hb⟩, ⟨rfl, tkR_is hb⟩, ?_⟩
  by_cases h1 : tkE 1 b e = 0
  · refine condF (by rw [neI]; exact congrArg Bool.not (decide_eq_true h1)) ?_
    by_cases h2 : nmB 1 b e ≤ 32
    · have hG : prG b e = true := by unfold prG; rw [decide_eq_true h1, decide_eq_true h2]; rfl
      have hL := hl hG
      refine condF (decide_eq_false (by omega)) ?_
      try delta zzy0 zzy1 zzy2
      rw [ocW hn0 hn1]
      refine ⟨⟨⟨rfl, tkR_is hb⟩, hL⟩, ⟨rfl, tkR_is (tkR_is hb)⟩, ?_⟩
      have eT : ∀ l : List VO, VT.keep ⟨srcO (tkR (ocN (nmB 1 b e)) (tkR 1 b e) (tkE 1 b e)) (tkA (ocN (nmB 1 b e)) (tkR 1 b e) (tkE 1 b e) (tkA 1 b e a)) (tkE (ocN (nmB 1 b e)) (tkR 1 b e) (tkE 1 b e)) :: l, []⟩ 1 0 = prT b a e := fun l => by
        rw [keepS (tkR_is (tkR_is hb))]; simp only [prT, prB, prA, prE, prF, hG, cond_true]
      by_cases h3 : prF b e = 0
      · have hO : prOk b e = true := by unfold prOk; rw [hG, decide_eq_true h3]; rfl
        refine condF (by rw [neI]; exact congrArg Bool.not (decide_eq_true h3)) ⟨⟨hn0, h2⟩, ?_, eT _⟩
        unfold prX prAd prLn
        rw [hO]
        simp only [cond_true]
        refine congrArg (fun y => TV.tup [.agg [.val (.int .u32 (cnA y (nmB 1 b e))), .val (.int .i64 (nmB 1 b e))], .val (.bool true)]) ?_
        rw [hL]
        have ha := adB_is 0 0 0 0
        rw [or_byte (n := 0) (z := 0) (by omega) (by omega) (by omega) (by omega)]
        rw [or_byte (n := (0 * 256 + 0)) (z := 0) (by omega) (by omega) (by omega) (by omega)]
        rw [or_byte (n := ((0 * 256 + 0) * 256 + 0)) (z := 0) (by omega) (by omega) (by omega) (by omega)]
        rw [or_byte (n := (((0 * 256 + 0) * 256 + 0) * 256 + 0)) (z := 0) (by omega) (by omega) (by omega) (by omega)]
        have hw64 : IntKind.wrap .u64 ((((0 * 256 + 0) * 256 + 0) * 256 + 0) * 256 + 0) = ((((0 * 256 + 0) * 256 + 0) * 256 + 0) * 256 + 0) := by simp only [IntKind.wrap, IntKind.bits, IntKind.signed]; simp <;> omega
        have hw32 : IntKind.wrap .u32 ((((0 * 256 + 0) * 256 + 0) * 256 + 0) * 256 + 0) = ((((0 * 256 + 0) * 256 + 0) * 256 + 0) * 256 + 0) := by simp only [IntKind.wrap, IntKind.bits, IntKind.signed]; simp <;> omega
        rw [ha.2.2.2.2]
        first | rw [hw64, hw32] | rw [hw32] | skip
        omega
      · have hO : prOk b e = false := by unfold prOk; rw [hG, decide_eq_false h3]; rfl
        refine condT (by rw [neI]; exact congrArg Bool.not (decide_eq_false h3)) ⟨?_, eT _⟩
        unfold prX prAd prLn
        rw [hO]; rfl
    · have hG : prG b e = false := by unfold prG; rw [decide_eq_false h2, Bool.and_false]
      have hO : prOk b e = false := by unfold prOk; rw [hG]; rfl
      refine condT (decide_eq_true (by omega)) ⟨?_, ?_⟩
      · unfold prX prAd prLn
        rw [hO]; rfl
      · refine (keepS (tkR_is hb) _ _ _ _).trans ?_
        simp only [prT, prB, prA, prE, hG, cond_false]; rfl
  · have hG : prG b e = false := by unfold prG; rw [decide_eq_false h1, Bool.false_and]
    have hO : prOk b e = false := by unfold prOk; rw [hG]; rfl
    refine condT (by rw [neI]; exact congrArg Bool.not (decide_eq_false h1)) ⟨?_, ?_⟩
    · unfold prX prAd prLn
      rw [hO]; rfl
    · refine (keepS (tkR_is hb) _ _ _ _).trans ?_
      simp only [prT, prB, prA, prE, hG, cond_false]; rfl
theorem prd1 {b : Bs} (hb : IsB b) (a e : Int) {z0 : Int} (hz0 : 0 ≤ z0 ∧ z0 < 256) (hl : prG b e = true → prL b e = [bT z0]) : VCx Tryz.prog noGl 0 pRdF [.ptr 0 0] ⟨[srcO b a e], []⟩ fun x T' => x = prX b e ∧ T' = prT b a e := by
  obtain ⟨hn0, hn1⟩ := nm1 hb e
  refine VCx.keepQ 1 0 (Nat.le_refl _) (Nat.le_refl _) (vcallF_is mixedB_Tryz bodiesB_Tryz (prSp [bT z0]) lsOk_none (ev_prd1 b a e z0 _) ?_)
  refine ⟨⟨rfl, hb⟩, ⟨rfl, tkR_is hb⟩, ?_⟩
  by_cases h1 : tkE 1 b e = 0
  · refine condF (by rw [neI]; exact congrArg Bool.not (decide_eq_true h1)) ?_
    by_cases h2 : nmB 1 b e ≤ 32
    · have hG : prG b e = true := by unfold prG; rw [decide_eq_true h1, decide_eq_true h2]; rfl
      have hL := hl hG
      refine condF (decide_eq_false (by omega)) ?_
      try delta zzy0 zzy1 zzy2
      rw [ocW hn0 hn1]
      refine ⟨⟨⟨rfl, tkR_is hb⟩, hL⟩, ⟨rfl, tkR_is (tkR_is hb)⟩, ?_⟩
      have eT : ∀ l : List VO, VT.keep ⟨srcO (tkR (ocN (nmB 1 b e)) (tkR 1 b e) (tkE 1 b e)) (tkA (ocN (nmB 1 b e)) (tkR 1 b e) (tkE 1 b e) (tkA 1 b e a)) (tkE (ocN (nmB 1 b e)) (tkR 1 b e) (tkE 1 b e)) :: l, []⟩ 1 0 = prT b a e := fun l => by
        rw [keepS (tkR_is (tkR_is hb))]; simp only [prT, prB, prA, prE, prF, hG, cond_true]
      by_cases h3 : prF b e = 0
      · have hO : prOk b e = true := by unfold prOk; rw [hG, decide_eq_true h3]; rfl
        refine condF (by rw [neI]; exact congrArg Bool.not (decide_eq_true h3)) ⟨⟨hn0, h2⟩, ?_, eT _⟩
        unfold prX prAd prLn
        rw [hO]
        simp only [cond_true]
        refine congrArg (fun y => TV.tup [.agg [.val (.int .u32 (cnA y (nmB 1 b e))), .val (.int .i64 (nmB 1 b e))], .val (.bool true)]) ?_
        rw [hL]
        have ha := adB_is z0 0 0 0
        rw [or_byte (n := 0) (z := z0) (by omega) (by omega) (by omega) (by omega)]
        rw [or_byte (n := (0 * 256 + z0)) (z := 0) (by omega) (by omega) (by omega) (by omega)]
        rw [or_byte (n := ((0 * 256 + z0) * 256 + 0)) (z := 0) (by omega) (by omega) (by omega) (by omega)]
        rw [or_byte (n := (((0 * 256 + z0) * 256 + 0) * 256 + 0)) (z := 0) (by omega) (by omega) (by omega) (by omega)]
        have hw64 : IntKind.wrap .u64 ((((0 * 256 + z0) * 256 + 0) * 256 + 0) * 256 + 0) = ((((0 * 256 + z0) * 256 + 0) * 256 + 0) * 256 + 0) := by simp only [IntKind.wrap, IntKind.bits, IntKind.signed]; simp <;> omega
        have hw32 : IntKind.wrap .u32 ((((0 * 256 + z0) * 256 + 0) * 256 + 0) * 256 + 0) = ((((0 * 256 + z0) * 256 + 0) * 256 + 0) * 256 + 0) := by simp only [IntKind.wrap, IntKind.bits, IntKind.signed]; simp <;> omega
        rw [ha.2.2.2.1]
        first | rw [hw64, hw32] | rw [hw32] | skip
        omega
      · have hO : prOk b e = false := by unfold prOk; rw [hG, decide_eq_false h3]; rfl
        refine condT (by rw [neI]; exact congrArg Bool.not (decide_eq_false h3)) ⟨?_, eT _⟩
        unfold prX prAd prLn
        rw [hO]; rfl
    · have hG : prG b e = false := by unfold prG; rw [decide_eq_false h2, Bool.and_false]
      have hO : prOk b e = false := by unfold prOk; rw [hG]; rfl
      refine condT (decide_eq_true (by omega)) ⟨?_, ?_⟩
      · unfold prX prAd prLn
        rw [hO]; rfl
      · refine (keepS (tkR_is hb) _ _ _ _).trans ?_
        simp only [prT, prB, prA, prE, hG, cond_false]; rfl
  · have hG : prG b e = false := by unfold prG; rw [decide_eq_false h1, Bool.false_and]
    have hO : prOk b e = false := by unfold prOk; rw [hG]; rfl
    refine condT (by rw [neI]; exact congrArg Bool.not (decide_eq_false h1)) ⟨?_, ?_⟩
    · unfold prX prAd prLn
      rw [hO]; rfl
    · refine (keepS (tkR_is hb) _ _ _ _).trans ?_
      simp only [prT, prB, prA, prE, hG, cond_false]; rfl
theorem prd2 {b : Bs} (hb : IsB b) (a e : Int) {z0 z1 : Int} (hz0 : 0 ≤ z0 ∧ z0 < 256) (hz1 : 0 ≤ z1 ∧ z1 < 256) (hl : prG b e = true → prL b e = [bT z0, bT z1]) : VCx Tryz.prog noGl 0 pRdF [.ptr 0 0] ⟨[srcO b a e], []⟩ fun x T' => x = prX b e ∧ T' = prT b a e := by
  obtain ⟨hn0, hn1⟩ := nm1 hb e
  refine VCx.keepQ 1 0 (Nat.le_refl _) (Nat.le_refl _) (vcallF_is mixedB_Tryz bodiesB_Tryz (prSp [bT z0, bT z1]) lsOk_none (ev_prd2 b a e z0 z1 _) ?_)
  refine ⟨⟨rfl, hb⟩, ⟨rfl, tkR_is hb⟩, ?_⟩
  by_cases h1 : tkE 1 b e = 0
  · refine condF (by rw [neI]; exact congrArg Bool.not (decide_eq_true h1)) ?_
    by_cases h2 : nmB 1 b e ≤ 32
    · have hG : prG b e = true := by unfold prG; rw [decide_eq_true h1, decide_eq_true h2]; rfl
      have hL := hl hG
      refine condF (decide_eq_false (by omega)) ?_
      try delta zzy0 zzy1 zzy2
      rw [ocW hn0 hn1]
      refine ⟨⟨⟨rfl, tkR_is hb⟩, hL⟩, ⟨rfl, tkR_is (tkR_is hb)⟩, ?_⟩
      have eT : ∀ l : List VO, VT.keep ⟨srcO (tkR (ocN (nmB 1 b e)) (tkR 1 b e) (tkE 1 b e)) (tkA (ocN (nmB 1 b e)) (tkR 1 b e) (tkE 1 b e) (tkA 1 b e a)) (tkE (ocN (nmB 1 b e)) (tkR 1 b e) (tkE 1 b e)) :: l, []⟩ 1 0 = prT b a e := fun l => by
        rw [keepS (tkR_is (tkR_is hb))]; simp only [prT, prB, prA, prE, prF, hG, cond_true]
      by_cases h3 : prF b e = 0
      · have hO : prOk b e = true := by unfold prOk; rw [hG, decide_eq_true h3]; rfl
        refine condF (by rw [neI]; exact congrArg Bool.not (decide_eq_true h3)) ⟨⟨hn0, h2⟩, ?_, eT _⟩
        unfold prX prAd prLn
        rw [hO]
        simp only [cond_true]
        refine congrArg (fun y => TV.tup [.agg [.val (.int .u32 (cnA y (nmB 1 b e))), .val (.int .i64 (nmB 1 b e))], .val (.bool true)]) ?_
        rw [hL]
        have ha := adB_is z0 z1 0 0
        rw [or_byte (n := 0) (z := z0) (by omega) (by omega) (by omega) (by omega)]
        rw [or_byte (n := (0 * 256 + z0)) (z := z1) (by omega) (by omega) (by omega) (by omega)]
        rw [or_byte (n := ((0 * 256 + z0) * 256 + z1)) (z := 0) (by omega) (by omega) (by omega) (by omega)]
        rw [or_byte (n := (((0 * 256 + z0) * 256 + z1) * 256 + 0)) (z := 0) (by omega) (by omega) (by omega) (by omega)]
        have hw64 : IntKind.wrap .u64 ((((0 * 256 + z0) * 256 + z1) * 256 + 0) * 256 + 0) = ((((0 * 256 + z0) * 256 + z1) * 256 + 0) * 256 + 0) := by simp only [IntKind.wrap, IntKind.bits, IntKind.signed]; simp <;> omega
        have hw32 : IntKind.wrap .u32 ((((0 * 256 + z0) * 256 + z1) * 256 + 0) * 256 + 0) = ((((0 * 256 + z0) * 256 + z1) * 256 + 0) * 256 + 0) := by simp only [IntKind.wrap, IntKind.bits, IntKind.signed]; simp <;> omega
        rw [ha.2.2.1]
        first | rw [hw64, hw32] | rw [hw32] | skip
        omega
      · have hO : prOk b e = false := by unfold prOk; rw [hG, decide_eq_false h3]; rfl
        refine condT (by rw [neI]; exact congrArg Bool.not (decide_eq_false h3)) ⟨?_, eT _⟩
        unfold prX prAd prLn
        rw [hO]; rfl
    · have hG : prG b e = false := by unfold prG; rw [decide_eq_false h2, Bool.and_false]
      have hO : prOk b e = false := by unfold prOk; rw [hG]; rfl
      refine condT (decide_eq_true (by omega)) ⟨?_, ?_⟩
      · unfold prX prAd prLn
        rw [hO]; rfl
      · refine (keepS (tkR_is hb) _ _ _ _).trans ?_
        simp only [prT, prB, prA, prE, hG, cond_false]; rfl
  · have hG : prG b e = false := by unfold prG; rw [decide_eq_false h1, Bool.false_and]
    have hO : prOk b e = false := by unfold prOk; rw [hG]; rfl
    refine condT (by rw [neI]; exact congrArg Bool.not (decide_eq_false h1)) ⟨?_, ?_⟩
    · unfold prX prAd prLn
      rw [hO]; rfl
    · refine (keepS (tkR_is hb) _ _ _ _).trans ?_
      simp only [prT, prB, prA, prE, hG, cond_false]; rfl
theorem prd3 {b : Bs} (hb : IsB b) (a e : Int) {z0 z1 z2 : Int} (hz0 : 0 ≤ z0 ∧ z0 < 256) (hz1 : 0 ≤ z1 ∧ z1 < 256) (hz2 : 0 ≤ z2 ∧ z2 < 256) (hl : prG b e = true → prL b e = [bT z0, bT z1, bT z2]) : VCx Tryz.prog noGl 0 pRdF [.ptr 0 0] ⟨[srcO b a e], []⟩ fun x T' => x = prX b e ∧ T' = prT b a e := by
  obtain ⟨hn0, hn1⟩ := nm1 hb e
  refine VCx.keepQ 1 0 (Nat.le_refl _) (Nat.le_refl _) (vcallF_is mixedB_Tryz bodiesB_Tryz (prSp [bT z0, bT z1, bT z2]) lsOk_none (ev_prd3 b a e z0 z1 z2 _) ?_)
  refine ⟨⟨rfl, hb⟩, ⟨rfl, tkR_is hb⟩, ?_⟩
  by_cases h1 : tkE 1 b e = 0
  · refine condF (by rw [neI]; exact congrArg Bool.not (decide_eq_true h1)) ?_
    by_cases h2 : nmB 1 b e ≤ 32
    · have hG : prG b e = true := by unfold prG; rw [decide_eq_true h1, decide_eq_true h2]; rfl
      have hL := hl hG
      refine condF (decide_eq_false (by omega)) ?_
      try delta zzy0 zzy1 zzy2
      rw [ocW hn0 hn1]
      refine ⟨⟨⟨rfl, tkR_is hb⟩, hL⟩, ⟨rfl, tkR_is (tkR_is hb)⟩, ?_⟩
      have eT : ∀ l : List VO, VT.keep ⟨srcO (tkR (ocN (nmB 1 b e)) (tkR 1 b e) (tkE 1 b e)) (tkA (ocN (nmB 1 b e)) (tkR 1 b e) (tkE 1 b e) (tkA 1 b e a)) (tkE (ocN (nmB 1 b e)) (tkR 1 b e) (tkE 1 b e)) :: l, []⟩ 1 0 = prT b a e := fun l => by
        rw [keepS (tkR_is (tkR_is hb))]; simp only [prT, prB, prA, prE, prF, hG, cond_true]
      by_cases h3 : prF b e = 0
      · have hO : prOk b e = true := by unfold prOk; rw [hG, decide_eq_true h3]; rfl
        refine condF (by rw [neI]; exact congrArg Bool.not (decide_eq_true h3)) ⟨⟨hn0, h2⟩, ?_, eT _⟩
        unfold prX prAd prLn
        rw [hO]
        simp only [cond_true]
        refine congrArg (fun y => TV.tup [.agg [.val (.int .u32 (cnA y (nmB 1 b e))), .val (.int .i64 (nmB 1 b e))], .val (.bool true)]) ?_
        rw [hL]
        have ha := adB_is z0 z1 z2 0
        rw [or_byte (n := 0) (z := z0) (by omega) (by omega) (by omega) (by omega)]
        rw [or_byte (n := (0 * 256 + z0)) (z := z1) (by omega) (by omega) (by omega) (by omega)]
        rw [or_byte (n := ((0 * 256 + z0) * 256 + z1)) (z := z2) (by omega) (by omega) (by omega) (by omega)]
        rw [or_byte (n := (((0 * 256 + z0) * 256 + z1) * 256 + z2)) (z := 0) (by omega) (by omega) (by omega) (by omega)]
        have hw64 : IntKind.wrap .u64 ((((0 * 256 + z0) * 256 + z1) * 256 + z2) * 256 + 0) = ((((0 * 256 + z0) * 256 + z1) * 256 + z2) * 256 + 0) := by simp only [IntKind.wrap, IntKind.bits, IntKind.signed]; simp <;> omega
        have hw32 : IntKind.wrap .u32 ((((0 * 256 + z0) * 256 + z1) * 256 + z2) * 256 + 0) = ((((0 * 256 + z0) * 256 + z1) * 256 + z2) * 256 + 0) := by simp only [IntKind.wrap, IntKind.bits, IntKind.signed]; simp <;> omega
        rw [ha.2.1]
        first | rw [hw64, hw32] | rw [hw32] | skip
        omega
      · have hO : prOk b e = false := by unfold prOk; rw [hG, decide_eq_false h3]; rfl
        refine condT (by rw [neI]; exact congrArg Bool.not (decide_eq_false h3)) ⟨?_, eT _⟩
        unfold prX prAd prLn
        rw [hO]; rfl
    · have hG : prG b e = false := by unfold prG; rw [decide_eq_false h2, Bool.and_false]
      have hO : prOk b e = false := by unfold prOk; rw [hG]; rfl
      refine condT (decide_eq_true (by omega)) ⟨?_, ?_⟩
      · unfold prX prAd prLn
        rw [hO]; rfl
      · refine (keepS (tkR_is hb) _ _ _ _).trans ?_
        simp only [prT, prB, prA, prE, hG, cond_false]; rfl
  · have hG : prG b e = false := by unfold prG; rw [decide_eq_false h1, Bool.false_and]
    have hO : prOk b e = false := by unfold prOk; rw [hG]; rfl
    refine condT (by rw [neI]; exact congrArg Bool.not (decide_eq_false h1)) ⟨?_, ?_⟩
    · unfold prX prAd prLn
      rw [hO]; rfl
    · refine (keepS (tkR_is hb) _ _ _ _).trans ?_
      simp only [prT, prB, prA, prE, hG, cond_false]; rfl
theorem prd4 {b : Bs} (hb : IsB b) (a e : Int) {z0 z1 z2 z3 : Int} (hz0 : 0 ≤ z0 ∧ z0 < 256) (hz1 : 0 ≤ z1 ∧ z1 < 256) (hz2 : 0 ≤ z2 ∧ z2 < 256) (hz3 : 0 ≤ z3 ∧ z3 < 256) (hl : prG b e = true → prL b e = [bT z0, bT z1, bT z2, bT z3]) : VCx Tryz.prog noGl 0 pRdF [.ptr 0 0] ⟨[srcO b a e], []⟩ fun x T' => x = prX b e ∧ T' = prT b a e := by
  obtain ⟨hn0, hn1⟩ := nm1 hb e
  refine VCx.keepQ 1 0 (Nat.le_refl _) (Nat.le_refl _) (vcallF_is mixedB_Tryz bodiesB_Tryz (prSp [bT z0, bT z1, bT z2, bT z3]) lsOk_none (ev_prd4 b a e z0 z1 z2 z3 _) ?_)
  refine ⟨⟨rfl, hb⟩, ⟨rfl, tkR_is hb⟩, ?_⟩
  by_cases h1 : tkE 1 b e = 0
  · refine condF (by rw [neI]; exact congrArg Bool.not (decide_eq_true h1)) ?_
    by_cases h2 : nmB 1 b e ≤ 32
    · have hG : prG b e = true := by unfold prG; rw [decide_eq_true h1, decide_eq_true h2]; rfl
      have hL := hl hG
      refine condF (decide_eq_false (by omega)) ?_
      try delta zzy0 zzy1 zzy2
      rw [ocW hn0 hn1]
      refine ⟨⟨⟨rfl, tkR_is hb⟩, hL⟩, ⟨rfl, tkR_is (tkR_is hb)⟩, ?_⟩
      have eT : ∀ l : List VO, VT.keep ⟨srcO (tkR (ocN (nmB 1 b e)) (tkR 1 b e) (tkE 1 b e)) (tkA (ocN (nmB 1 b e)) (tkR 1 b e) (tkE 1 b e) (tkA 1 b e a)) (tkE (ocN (nmB 1 b e)) (tkR 1 b e) (tkE 1 b e)) :: l, []⟩ 1 0 = prT b a e := fun l => by
        rw [keepS (tkR_is (tkR_is hb))]; simp only [prT, prB, prA, prE, prF, hG, cond_true]
      by_cases h3 : prF b e = 0
      · have hO : prOk b e = true := by unfold prOk; rw [hG, decide_eq_true h3]; rfl
        refine condF (by rw [neI]; exact congrArg Bool.not (decide_eq_true h3)) ⟨⟨hn0, h2⟩, ?_, eT _⟩
        unfold prX prAd prLn
        rw [hO]
        simp only [cond_true]
        refine congrArg (fun y => TV.tup [.agg [.val (.int .u32 (cnA y (nmB 1 b e))), .val (.int .i64 (nmB 1 b e))], .val (.bool true)]) ?_
        rw [hL]
        have ha := adB_is z0 z1 z2 z3
        rw [or_byte (n := 0) (z := z0) (by omega) (by omega) (by omega) (by omega)]
        rw [or_byte (n := (0 * 256 + z0)) (z := z1) (by omega) (by omega) (by omega) (by omega)]
        rw [or_byte (n := ((0 * 256 + z0) * 256 + z1)) (z := z2) (by omega) (by omega) (by omega) (by omega)]
        rw [or_byte (n := (((0 * 256 + z0) * 256 + z1) * 256 + z2)) (z := z3) (by omega) (by omega) (by omega) (by omega)]
        have hw64 : IntKind.wrap .u64 ((((0 * 256 + z0) * 256 + z1) * 256 + z2) * 256 + z3) = ((((0 * 256 + z0) * 256 + z1) * 256 + z2) * 256 + z3) := by simp only [IntKind.wrap, IntKind.bits, IntKind.signed]; simp <;> omega
        have hw32 : IntKind.wrap .u32 ((((0 * 256 + z0) * 256 + z1) * 256 + z2) * 256 + z3) = ((((0 * 256 + z0) * 256 + z1) * 256 + z2) * 256 + z3) := by simp only [IntKind.wrap, IntKind.bits, IntKind.signed]; simp <;> omega
        rw [ha.1]
        first | rw [hw64, hw32] | rw [hw32] | skip
        omega
      · have hO : prOk b e = false := by unfold prOk; rw [hG, decide_eq_false h3]; rfl
        refine condT (by rw [neI]; exact congrArg Bool.not (decide_eq_false h3)) ⟨?_, eT _⟩
        unfold prX prAd prLn
        rw [hO]; rfl
    · have hG : prG b e = false := by unfold prG; rw [decide_eq_false h2, Bool.and_false]
      have hO : prOk b e = false := by unfold prOk; rw [hG]; rfl
      refine condT (decide_eq_true (by omega)) ⟨?_, ?_⟩
      · unfold prX prAd prLn
        rw [hO]; rfl
      · refine (keepS (tkR_is hb) _ _ _ _).trans ?_
        simp only [prT, prB, prA, prE, hG, cond_false]; rfl
  · have hG : prG b e = false := by unfold prG; rw [decide_eq_false h1, Bool.false_and]
    have hO : prOk b e = false := by unfold prOk; rw [hG]; rfl
    refine condT (by rw [neI]; exact congrArg Bool.not (decide_eq_false h1)) ⟨?_, ?_⟩
    · unfold prX prAd prLn
      rw [hO]; rfl
    · refine (keepS (tkR_is hb) _ _ _ _).trans ?_
      simp only [prT, prB, prA, prE, hG, cond_false]; rfl
theorem prL_cases {b : Bs} (hb : IsB b) (e : Int) : prG b e = false ∨ prL b e = [] ∨ (∃ z0, (0 ≤ z0 ∧ z0 < 256) ∧ prL b e = [bT z0]) ∨ (∃ z0 z1, (0 ≤ z0 ∧ z0 < 256) ∧ (0 ≤ z1 ∧ z1 < 256) ∧ prL b e = [bT z0, bT z1]) ∨ (∃ z0 z1 z2, (0 ≤ z0 ∧ z0 < 256) ∧ (0 ≤ z1 ∧ z1 < 256) ∧ (0 ≤ z2 ∧ z2 < 256) ∧ prL b e = [bT z0, bT z1, bT z2]) ∨
  ∃ z0 z1 z2 z3, (0 ≤ z0 ∧ z0 < 256) ∧ (0 ≤ z1 ∧ z1 < 256) ∧ (0 ≤ z2 ∧ z2 < 256) ∧ (0 ≤ z3 ∧ z3 < 256) ∧ prL b e = [bT z0, bT z1, bT z2, bT z3] := by
 obtain ⟨hn0, hn1⟩ := nm1 hb e
 by_cases hg : prG b e = true
 ·refine .inr ?_
  have h32 : nmB 1 b e ≤ 32 := by
   simp only [prG, Bool.and_eq_true, decide_eq_true_eq] at hg; exact hg.2
  obtain ⟨⟨l, hl, hz⟩, _⟩ : IsB (prL b e) := tkB_is (tkR_is hb)
  have hlen : l.length ≤ 4 := by
   have h1 : ((prL b e).length : Int) = bif tkOk (ocN (nmB 1 b e)) (tkR 1 b e) (tkE 1 b e) then ocN (nmB 1 b e) else 0 := tkB_len
   have h2 : ocN (nmB 1 b e) ≤ 4 := by
    unfold ocN
    have := Int.tdiv_eq_ediv_of_nonneg (a := nmB 1 b e + 7) (b := 8) (by omega)
    omega
   have h3 : (prL b e).length = l.length := by rw [hl]; simp [bV]
   cases hc : tkOk (ocN (nmB 1 b e)) (tkR 1 b e) (tkE 1 b e) <;> rw [hc] at h1
   ·simp only [cond_false] at h1; omega
   ·simp only [cond_true] at h1; omega
  rw [hl]
  rcases l with _ | ⟨a, _ | ⟨c, _ | ⟨d, _ | ⟨f, _ | ⟨g, l⟩⟩⟩⟩⟩
  ·exact .inl rfl
  ·exact .inr (.inl ⟨a, hz a (by simp), rfl⟩)
  ·exact .inr (.inr (.inl ⟨a, c, hz a (by simp), hz c (by simp), rfl⟩))
  ·exact .inr (.inr (.inr (.inl ⟨a, c, d, hz a (by simp), hz c (by simp), hz d (by simp), rfl⟩)))
  ·exact .inr (.inr (.inr (.inr ⟨a, c, d, f, hz a (by simp), hz c (by simp), hz d (by simp), hz f (by simp), rfl⟩)))
  ·simp only [List.length_cons] at hlen; omega
 ·exact .inl (Bool.eq_false_iff.2 hg)
theorem prd_vcx {b : Bs} (hb : IsB b) (a e : Int) : VCx Tryz.prog noGl 0 pRdF [.ptr 0 0] ⟨[srcO b a e], []⟩ fun x T' => x = prX b e ∧ T' = prT b a e := by
 rcases prL_cases hb e with h | h | ⟨z0, h0, h⟩ | ⟨z0, z1, h0, h1, h⟩ | ⟨z0, z1, z2, h0, h1, h2, h⟩ | ⟨z0, z1, z2, z3, h0, h1, h2, h3, h⟩
 ·exact prd0 hb a e fun hg => by rw [h] at hg; cases hg
 ·exact prd0 hb a e fun _ => h
 ·exact prd1 hb a e h0 fun _ => h
 ·exact prd2 hb a e h0 h1 fun _ => h
 ·exact prd3 hb a e h0 h1 h2 fun _ => h
 ·exact prd4 hb a e h0 h1 h2 h3 fun _ => h
end Go.Proofs.YtogbdjlelkepcaaGreatDoor
namespace Go.Proofs.YtogbdjlelkepcaaGreatDoor
open Go.RowKit

def TVle (x y : TV) : Prop := ∀ g w u, VR g w x u → VR g w y u
def TVleL : List TV → List TV → Prop
 | [], [] => True
 | x :: l, y :: m => TVle x y ∧ TVleL l m
 | _, _ => False
theorem TVle.refl (x : TV) : TVle x x := fun _ _ _ h => h
theorem TVle.of_eq {x y : TV} (h : x = y) : TVle x y := h ▸ TVle.refl x
theorem TVle.nil (size : Nat) : TVle (.val (.slice none 0 0)) (.vec size [] .none) := fun _ _ _ h => by
 obtain rfl := h.val_inv
 exact .nil trivial
theorem TVle.vec (size : Nat) (es : List (List TV)) (tok : Tok) : TVle (.vec size es tok) (.vec size es .none) := fun _ _ _ h => looseTV_ok h
theorem TVleL.refl : ∀ l, TVleL l l
 | [] => trivial
 | x :: l => ⟨TVle.refl x, TVleL.refl l⟩
theorem TVleL.at : ∀ {l m : List TV}, TVleL l m → l.length = m.length ∧ ∀ (j : Nat) x y, l[j]? = some x → m[j]? = some y → TVle x y
 | [], [], _ => ⟨rfl, fun j _ _ h => by simp at h⟩
 | a :: l, b :: m, h => by
  obtain ⟨h1, h2⟩ := TVleL.at h.2
  refine ⟨by simp [h1], fun j x y hx hy => ?_⟩
  cases j with
  | zero => simp at hx hy; subst hx hy; exact h.1
  | succ j => exact h2 j x y (by simpa using hx) (by simpa using hy)
 | [], _ :: _, h => h.elim
 | _ :: _, [], h => h.elim
theorem TVleL.vrs {l m : List TV} (h : TVleL l m) {g : Gh} {w : World} {us : List Value} (hv : VRs g w l us) : VRs g w m us := by
 obtain ⟨h1, h2⟩ := h.at
 refine ⟨by rw [hv.1, h1], fun j y u hy hu => ?_⟩
 have hj : j < l.length := by rw [h1]; exact (List.getElem?_eq_some_iff.1 hy).1
 exact h2 j _ y (List.getElem?_eq_getElem hj) hy g w u (hv.2 j _ u (List.getElem?_eq_getElem hj) hu)
theorem TVle.tup {l m : List TV} (h : TVleL l m) : TVle (.tup l) (.tup m) := fun g w u hu => by
 obtain ⟨us, rfl, hv⟩ := hu.tup_inv
 obtain ⟨h1, h2⟩ := h.vrs hv
 exact .tup h1 h2
theorem TVle.agg {l m : List TV} (h : TVleL l m) : TVle (.agg l) (.agg m) := fun g w u hu => by
 cases hu with
 | agg hl hv =>
  obtain ⟨h1, h2⟩ := h.vrs ⟨hl, hv⟩
  exact .agg h1 h2
theorem VCx.toLe {P : Program} {G : Globs} {f : FuncId} {xs : List TV} {T : VT} {y : TV} {Q : VT → Prop} (h : VCx P G 0 f xs T fun x T' => TVle x y ∧ Q T') : VCx P G 0 f xs T fun x T' => x = y ∧ Q T' := by
 intro g w us rw0 hG hx
 refine Calls.mono (h g w us rw0 hG hx) ?_
 rintro e w' ⟨v, x, g', T', he, ⟨hq, hQ⟩, e', r', hv, hfx⟩
 exact ⟨v, _, g', T', he, ⟨rfl, hQ⟩, e', r', hq _ _ _ hv, hfx⟩
end Go.Proofs.YtogbdjlelkepcaaGreatDoor
namespace Go.Proofs.YtogbdjlelkepcaaGreatDoor
open Go.RowKit

def prW : Spec := fun ro ys T K => match ys with
 | [.ptr k 0] => match T.objs[k]? with
  | some (.cells [.val (.bool true), .vec 1 b .none, .val (.int .i64 a), .val (.int .i64 e)]) => (Nat.ble ro k = true ∧ IsB b) ∧ K (.tup [.agg [.val (.int .u32 (prAd b e)), .val (.int .i64 (prLn b e))], .val (.bool (prOk b e))]) { T with objs := T.objs.set k (srcO (prB b e) (prA b e a) (prE b e)) }
  | _ => False
 | _ => False
def pxE (p : Int × Int) : List TV := [.val (.int .u32 p.1), .val (.int .i64 p.2)]
def ppK : List Nat := [2, 3, 4, 5]
def ppV (L : Bs) : List TV := [.val (.slice none 0 0), .val (.bool false), .ptr 0 0, .vec 2 L (.tail 0 L.length)]
def ppR (O : Bs → Int → Int → VO) (L : Bs) (ok : Bool) (K : KX) : Prop := ∀ (bz Lz : Bs) (az ez cz dz : Int), bif ok then K .normal (slotsN 25 ppK (ppV L)) ⟨[O bz az ez], [(L.length, 2, true)]⟩ [] else K .ret (slotsN 25 ppK (ppV Lz)) ⟨[O bz az ez, .cells [.val (.int .u32 cz), .val (.int .i64 dz)]], [(Lz.length, 2, true)]⟩ []
def ppL (O : Bs → Int → Int → VO) (b L : Bs) (ok : Bool) (c0 : Code) : Nat → Option (LSpec × Code) := specsL [(0, loopL 25 ppK [(5, 2)] (ppV []) ⟨[O b 0 0], [(0, 2, true)]⟩ (ppR O L ok), c0)]
theorem ev_pp (b L : Bs) (ok : Bool) (Q : TV → VT → Prop) : vcallF Tryz.prog noGl (specs [(wRdF, sreadW)]) noOra 300 (ppL srcO b L ok (codeAt Tryz.prog pPaF 0)) 0 pPaF [.vec 1 b .none] zz151 Q =
 (IsB (b) ∧
 ((codeAt Tryz.prog pPaF (0 : Nat) = codeAt Tryz.prog pPaF (0 : Nat)) ∧
 (((@Eq (Option Nat) .none .none) ∧
 ((@Eq (Nat) 0 0) ∧
 ((@Eq (List Nat) [] []) ∧
 (((@Eq (Option TV) (.some zz5) (.some zz5)) ∧
 True ) ∧
 ((@Eq (VT) ⟨[(.cells [zz27, (zz1 b), zz6, zz6])], [(0, (2, true))]⟩ ⟨[(.cells [zz27, (zz1 b), zz6, zz6])], [(0, (2, true))]⟩) ∧
 ((@Eq (Bool) true true) ∧
 (@Eq (List TV) [zz5, zz8, zz19, zz136] [zz5, zz8, zz19, zz136]))))))) ∧
 (∀ bz : Bs, (∀ Lz : Bs, (∀ az : Int, (∀ ez : Int, (∀ cz : Int, (∀ dz : Int, (bif ok
 then Q (.tup [(zz134 L (List.length L)), zz27]) ⟨[(.cells [zz27, (zz1 bz), (zz0 az), (zz0 ez)])], [((List.length L), (2, true))]⟩
 else Q zz140 ⟨[(.cells [zz27, (zz1 bz), (zz0 az), (zz0 ez)]), (zz148 cz dz)], [((List.length Lz), (2, true))]⟩)))))))))) := by kernel_rfl
abbrev zzy3 (b : Bs) : VO := (zz148 (prAd b (0 : Int)) (prLn b (0 : Int)))
theorem ev_ppA (b L : Bs) (a : Int) (Q : Exit → List TV → VT → List Nat → Nat → Prop) : vx Tryz.prog noGl (specs [(wLeF, slW), (pRdF, prW)]) (tellS [(999999, .dead, none), (23, .vec 2 (L ++ [pxE (prAd b 0, prLn b 0)]) (.tail 0 (L.length + 1)), some fun T => { T with tails := [(L.length + 1, 2, true)] })]) 300 noLp none 0 (loopAt Tryz.prog pPaF 0) (slotsN 25 ppK (ppV L)) ⟨[srcO b a 0], [(L.length, 2, true)]⟩ [] (pickS ppK Q) =
 (((@Eq (Bool) true true) ∧
 IsB (b)) ∧
 (bif decide (leB b (0 : Int) > (0 : Int))
 then (((@Eq (Bool) true true) ∧
 IsB (b)) ∧
 (bif !prOk b (0 : Int)
 then Q .ret (zz139 L (List.length L)) ⟨[(.cells [zz27, (zz1 (prB b (0 : Int))), (zz0 (prA b (0 : Int) a)), (zz0 (prE b (0 : Int)))]), (zzy3 b)], [((List.length L), (2, true))]⟩ [] 25
 else (OTurn Tryz.prog (fun _ => .none) 0 ⟨[(.cells [zz27, (zz1 (prB b (0 : Int))), (zz0 (prA b (0 : Int) a)), (zz0 (prE b (0 : Int)))]), (zzy3 b)], [((List.length L), (2, true))]⟩ (.call ⟨(.builtin .append), #[(.tmp 20), (.tmp 22)], #[58, 58]⟩) [(20, (zz134 L (List.length L))), (22, (.vec 2 [[(.val (.int .u32 (prAd b (0 : Int)))), (.val (.int .i64 (prLn b (0 : Int))))]] .full))] (zz134 (L ++ [pxE (prAd b (0 : Int), prLn b (0 : Int))]) (List.length L + (1 : Nat))) ⟨[(.cells [zz27, (zz1 (prB b (0 : Int))), (zz0 (prA b (0 : Int) a)), (zz0 (prE b (0 : Int)))]), (zzy3 b)], [((List.length L + (1 : Nat)), (2, true))]⟩ ∧
 Q .normal (zz139 (L ++ [pxE (prAd b (0 : Int), prLn b (0 : Int))]) (List.length L + (1 : Nat))) ⟨[(.cells [zz27, (zz1 (prB b (0 : Int))), (zz0 (prA b (0 : Int) a)), (zz0 (prE b (0 : Int)))]), (zzy3 b)], [((List.length L + (1 : Nat)), (2, true))]⟩ [] 25)))
 else Q (.exit 0) (zz139 L (List.length L)) ⟨[(.cells [zz27, (zz1 b), (zz0 a), zz6])], [((List.length L), (2, true))]⟩ [] 25)) := by kernel_rfl
end Go.Proofs.YtogbdjlelkepcaaGreatDoor
namespace Go.Proofs.YtogbdjlelkepcaaGreatDoor
open Go.RowKit

theorem prW_ok : ∀ ro ys T K, prW ro ys T K → VCx Tryz.prog noGl ro pRdF ys T K := by
 intro ro ys T K hw
 unfold prW at hw
 split at hw
 ·rename_i k
  split at hw
  ·rename_i b a e ho
   obtain ⟨⟨hro, hb⟩, hk⟩ := hw
   refine VCx.at1 (Q := fun x o' l' => x = prX b e ∧ o' = srcO (prB b e) (prA b e a) (prE b e) ∧ l' = []) gvals_noGl (Nat.le_of_ble_eq_true hro) ho rfl (srcO_ren hb a e _ _) (ys1 := [.ptr 0 0]) (by simp [renL, TV.ren, nameIn]) ((prd_vcx hb a e).mono fun x T' ⟨h1, h2⟩ => ⟨_, _, h2, h1, rfl, rfl⟩) ?_
   rintro x o' l' ⟨rfl, rfl, rfl⟩
   rw [srcO_ren (prB_is hb)]
   simpa [TV.ren, prX, renL] using hk
  ·exact hw.elim
 ·exact hw.elim
def pfGo : Nat → Bs → List (Int × Int) → Option (List (Int × Int))
 | 0, _, _ => none
 | k + 1, b, acc => bif decide (leB b 0 > 0) then (bif prOk b 0 then pfGo k (prB b 0) (acc ++ [(prAd b 0, prLn b 0)]) else none) else some acc
def pfP (b : Bs) : Option (List (Int × Int)) := pfGo (b.length + 1) b []
def pfL (b : Bs) : Bs := ((pfP b).getD []).map pxE
def pfO (b : Bs) : Bool := (pfP b).isSome
def pfX (b : Bs) : TV := .tup [.vec 2 (pfL b) .none, .val (.bool (pfO b))]
theorem le0 (b : Bs) : leB b 0 = b.length := rfl
theorem prOk_e {b : Bs} (h : prOk b 0 = true) : prE b 0 = 0 := by
 simp only [prOk, Bool.and_eq_true, decide_eq_true_eq] at h
 simp only [prE, h.1, cond_true, h.2]
theorem tkR_le {n : Int} {b : Bs} {e : Int} : (tkR n b e).length ≤ b.length := by
 unfold tkR; cases tkOk n b e
 ·exact Nat.le_refl _
 ·simp only [cond_true, List.length_drop]; omega
theorem prB_lt {b : Bs} (hl : leB b 0 > 0) : (prB b 0).length < b.length := by
 have h1 : (tkR 1 b 0).length < b.length := by
  rw [le0] at hl
  have hk : tkOk 1 b 0 = true := by simp only [tkOk, decide_true, decide_eq_true (show (1 : Int) ≤ b.length by omega)]; rfl
  unfold tkR
  rw [hk]
  simp only [cond_true, List.length_drop]
  omega
 unfold prB; cases prG b 0
 ·exact h1
 ·exact Nat.lt_of_le_of_lt tkR_le h1
theorem pfGo_fuel : ∀ (k j : Nat) (b : Bs) (acc : List (Int × Int)), b.length < k → b.length < j → pfGo k b acc = pfGo j b acc
 | 0, _, _, _, h, _ => absurd h (Nat.not_lt_zero _)
 | _, 0, _, _, _, h => absurd h (Nat.not_lt_zero _)
 | k + 1, j + 1, b, acc, h1, h2 => by
  unfold pfGo
  by_cases hl : leB b 0 > 0
  ·have := prB_lt hl
   rw [decide_eq_true hl, pfGo_fuel k j (prB b 0) _ (by omega) (by omega)]
  ·rw [decide_eq_false hl]; rfl
theorem pfGo_step {b : Bs} {acc : List (Int × Int)} (hl : leB b 0 > 0) (ho : prOk b 0 = true) : pfGo (b.length + 1) b acc = pfGo ((prB b 0).length + 1) (prB b 0) (acc ++ [(prAd b 0, prLn b 0)]) := by
 have := prB_lt hl
 rw [pfGo_fuel ((prB b 0).length + 1) b.length (prB b 0) _ (by omega) (by omega)]
 simp only [pfGo, decide_eq_true hl, ho, cond_true]
theorem pfGo_bad {b : Bs} {acc : List (Int × Int)} (hl : leB b 0 > 0) (ho : prOk b 0 = false) : pfGo (b.length + 1) b acc = none := by
 simp only [pfGo, decide_eq_true hl, ho, cond_true, cond_false]
theorem pfGo_end {b : Bs} {acc : List (Int × Int)} (hl : ¬ leB b 0 > 0) : pfGo (b.length + 1) b acc = some acc := by
 simp only [pfGo, decide_eq_false hl, cond_false]
theorem apInf_ex : ∃ inf : TypeInfo, Tryz.prog.info? 186 = some inf ∧ inf.size = 2 ∧ inf.bytes + 1 ≤ 1000 ∧ inf.zero = some (.agg #[.int .u32 0, .int .i64 0]) :=
 ⟨(Tryz.prog.info? 186).getD default, by kernel_rfl, by kernel_rfl, Nat.le_of_ble_eq_true (by kernel_rfl), by kernel_rfl⟩
theorem oturn_px {T T1 : VT} {s x : Operand} {l : List (Nat × TV)} {es es2 : List (List TV)} {k n : Nat} {bn : Bool} (hs : vadopt T 2 (evOf noGl l s) = some (es, k, n, bn, T1)) (hx : srcOf 2 (evOf noGl l x) = some es2) (hb : es.length + es2.length ≤ 1000001) :
    OTurn Tryz.prog noGl 0 T (.call ⟨.builtin .append, #[s, x], #[58, 58]⟩) l (.vec 2 (es ++ es2) (.tail k (n + es2.length))) { T1 with tails := T1.tails.set k (n + es2.length, 2, bn) } := by
  obtain ⟨inf, i1, i2, i3, i4⟩ := apInf_ex
  have h := oturn_app (inf := inf) (P := Tryz.prog) (G := noGl) (ro := 0) (T := T) (T1 := T1) (t := 58) (tx := 58) (s := s) (x := x) (l := l) (es := es) (es2 := es2) (k := k) (n := n) (bn := bn) Tryz.underlying58 i1 i4 (by rw [i2]; rfl) (by rw [i2]; decide) (by kernel_rfl) (by rw [i2]; exact hs) (by rw [i2]; exact hx)
    (by have h1 := i3
        have h2 := Nat.mul_le_mul hb h1
        omega)
  rw [i2] at h
  exact h
theorem renLL_px (f g : Nat → Option Nat) : ∀ l : List (Int × Int), renLL f g (l.map pxE) = l.map pxE
 | [] => rfl
 | a :: l => by simp only [List.map_cons, renLL, renLL_px f g l]; rfl
theorem pf_len : ∀ (l : List (Int × Int)) p, ((l ++ [p]).map pxE) = l.map pxE ++ [pxE p] := fun l p => by rw [List.map_append]; rfl
def ppPost (O : Bs → Int → Int → VO) (b0 : Bs) (e : Exit) (vs : List TV) (T : VT) : Prop :=
 (∃ (acc : List (Int × Int)) (bz : Bs) (az ez : Int), pfP b0 = some acc ∧ e = .normal ∧ vs = ppV (acc.map pxE) ∧ T = ⟨[O bz az ez], [(acc.length, 2, true)]⟩) ∨
 (∃ (Lz bz : Bs) (az ez cz dz : Int), pfP b0 = none ∧ e = .ret ∧ vs = ppV Lz ∧ T = ⟨[O bz az ez, .cells [.val (.int .u32 cz), .val (.int .i64 dz)]], [(Lz.length, 2, true)]⟩)
theorem ppPost_ok {O : Bs → Int → Int → VO} {b0 : Bs} {K : KX} (hK : ppR O (pfL b0) (pfO b0) K) {e : Exit} {vs : List TV} {T : VT} (h : ppPost O b0 e vs T) : K e (slotsN 25 ppK vs) T [] := by
 rcases h with ⟨acc, bz, az, ez, h1, rfl, rfl, rfl⟩ | ⟨Lz, bz, az, ez, cz, dz, h1, rfl, rfl, rfl⟩
 ·have := hK bz [] az ez 0 0
  simp only [pfO, h1, Option.isSome_some, cond_true, pfL, Option.getD_some, List.length_map] at this
  exact this
 ·have := hK bz Lz az ez cz dz
  simp only [pfO, h1, Option.isSome_none, cond_false] at this
  exact this
structure PSt where
 b : Bs
 a : Int
 acc : List (Int × Int)
theorem pp_round {b0 : Bs} (h0 : IsB b0) (K : KX) (hK : ppR srcO (pfL b0) (pfO b0) K) : VWx Tryz.prog noGl none 0 (codeAt Tryz.prog pPaF 0) (slotsN 25 ppK (ppV [])) ⟨[srcO b0 0 0], [(0, 2, true)]⟩ [] K := by
  let sl : PSt → List TV := fun s => ppV (s.acc.map pxE)
  let TT : PSt → VT := fun s => ⟨[srcO s.b s.a 0], [(s.acc.length, 2, true)]⟩
  refine loopK (f := pPaF) (id := 0) (by kernel_rfl) 25 ppK (fun s : PSt => s.b.length) sl TT (fun s => IsB s.b ∧ s.acc.length + s.b.length ≤ b0.length ∧ pfGo (s.b.length + 1) s.b s.acc = pfP b0) 1 1 (fun _ _ => ⟨Nat.le_refl _, Nat.le_refl _⟩)
    (ppPost srcO b0) (fun s hs => ?_) ⟨b0, 0, []⟩ ⟨h0, by simp, rfl⟩ K (fun e vs T hq => ppPost_ok hK hq)
  obtain ⟨b, a, acc⟩ := s
  obtain ⟨hb, hlen, hgo⟩ := hs
  have hsm := h0.small
  simp only at hb hlen hgo
  have hS : SpecsOk Tryz.prog noGl (specs [(wLeF, slW), (pRdF, prW)]) := specs_ok fun p hp => by
    rcases List.mem_cons.1 hp with rfl | hp; exact wLe_ok
    obtain rfl := List.mem_singleton.1 hp; exact prW_ok
  have hv := ev_ppA b (acc.map pxE) a
  rw [List.length_map] at hv
  refine vx_is mixedB_Tryz bodiesB_Tryz hS lsOk_none (hv _) ?_
  refine ⟨⟨rfl, hb⟩, ?_⟩
  by_cases hl : leB b 0 > 0
  · refine condT (decide_eq_true hl) ⟨⟨rfl, hb⟩, ?_⟩
    cases ho : prOk b 0
    · exact condT rfl ⟨rfl, rfl, .inr ⟨acc.map pxE, _, _, _, _, _, by rw [← hgo]; exact pfGo_bad hl ho, rfl, by simp only [ppV, List.length_map], by rw [List.length_map]; rfl⟩⟩
    · have hlt := prB_lt hl
      have he := prOk_e ho
      try delta zzy3
      rw [he]
      refine condF rfl ⟨?_, rfl, rfl, ⟨prB b 0, prA b 0 a, acc ++ [(prAd b 0, prLn b 0)]⟩, ⟨prB_is hb, by simp only [List.length_append, List.length_cons, List.length_nil]; omega, by rw [← hgo]; exact (pfGo_step hl ho).symm⟩, hlt, .inr ⟨?_, ?_⟩⟩
      · have h := oturn_px (T := ⟨[srcO (prB b 0) (prA b 0 a) 0, .cells [.val (.int .u32 (prAd b 0)), .val (.int .i64 (prLn b 0))]], [(acc.length, 2, true)]⟩) (T1 := ⟨[srcO (prB b 0) (prA b 0 a) 0, .cells [.val (.int .u32 (prAd b 0)), .val (.int .i64 (prLn b 0))]], [(acc.length, 2, true)]⟩) (s := .tmp 20) (x := .tmp 22) (l := [(20, .vec 2 (acc.map pxE) (.tail 0 acc.length)), (22, .vec 2 [pxE (prAd b 0, prLn b 0)] .full)]) (es := acc.map pxE) (es2 := [pxE (prAd b 0, prLn b 0)]) (k := 0) (n := acc.length) (bn := true)
          (by simp [evOf, evFind, vadopt]) rfl (by simp only [List.length_map, List.length_cons, List.length_nil]; omega)
        exact h
      · simp only [VT.keep, List.take_succ_cons, List.take_zero, List.map_cons, List.map_nil]
        rw [show VO.cells [.val (.bool true), .vec 1 (prB b 0) .none, .val (.int .i64 (prA b 0 a)), .val (.int .i64 0)] = srcO (prB b 0) (prA b 0 a) 0 from rfl, srcO_ren (prB_is hb)]
        simp only [TT, List.length_append, List.length_cons, List.length_nil]
      · have e1 := renLL_px (Go.Proofs.YtogbdjlelkepcaaGreatDoor.keep 1) (Go.Proofs.YtogbdjlelkepcaaGreatDoor.keep 1) (acc ++ [(prAd b 0, prLn b 0)])
        rw [pf_len] at e1
        simp only [renL, TV.ren, e1, Tok.ren]
        simp only [sl, ppV, pf_len, List.length_append, List.length_map, List.length_cons, List.length_nil]
        rfl
  · exact condF (decide_eq_false hl) ⟨rfl, rfl, .inl ⟨acc, b, a, 0, by rw [← hgo]; exact pfGo_end hl, rfl, by simp only [ppV, List.length_map], rfl⟩⟩
theorem pp_loop {b : Bs} (h : IsB b) : LsOk Tryz.prog noGl (ppL srcO b (pfL b) (pfO b) (codeAt Tryz.prog pPaF 0)) := specsL_ok fun p hp => by
 obtain rfl := List.mem_singleton.1 hp
 exact loopL_ok fun K hK => pp_round h K hK
theorem pfL_nil {b : Bs} (h : pfO b = false) : pfL b = [] := by
 unfold pfL pfO at *
 cases hc : pfP b with
 | none => rfl
 | some l => rw [hc] at h; cases h
theorem pfL_ren (b : Bs) (f g : Nat → Option Nat) : renLL f g (pfL b) = pfL b := renLL_px f g _
theorem pf_end {b : Bs} {x : TV} {ok : Bool} (h : ok = pfO b) (hx : x = (bif ok then .tup [.vec 2 (pfL b) (.tail 0 (pfL b).length), .val (.bool true)] else .tup [.val (.slice none 0 0), .val (.bool false)])) : TVle (x.ren (Go.Proofs.YtogbdjlelkepcaaGreatDoor.keep 0) (Go.Proofs.YtogbdjlelkepcaaGreatDoor.keep 0)) (pfX b) := by
 subst h hx
 unfold pfX
 cases h : pfO b
 ·rw [pfL_nil h]
  exact TVle.tup ⟨TVle.nil 2, TVle.refl _, trivial⟩
 ·refine TVle.of_eq ?_
  simp only [cond_true, TV.ren, renL, pfL_ren, Tok.ren]
  rfl
theorem pf_vcx {b : Bs} (hb : IsB b) : VCx Tryz.prog noGl 0 pPaF [.vec 1 b .none] ⟨[], []⟩ fun x T' => x = pfX b ∧ T' = ⟨[], []⟩ := by
 refine VCx.toLe (Q := fun T' => T' = ⟨[], []⟩) (VCx.keepQ 0 0 (Nat.le_refl _) (Nat.le_refl _) (vcallF_is mixedB_Tryz bodiesB_Tryz (specs_ok fun p hp => by obtain rfl := List.mem_singleton.1 hp; exact wRdW_ok) (pp_loop hb) (ev_pp b (pfL b) (pfO b) _) ?_))
 refine ⟨hb, rfl, ⟨rfl, rfl, rfl, ⟨rfl, trivial⟩, rfl, rfl, rfl⟩, fun bz Lz az ez cz dz => ?_⟩
 cases h : pfO b
 ·exact ⟨pf_end h.symm rfl, rfl⟩
 ·exact ⟨pf_end h.symm rfl, rfl⟩
theorem pfX_ren (b : Bs) (f g : Nat → Option Nat) : (pfX b).ren f g = pfX b := by
 simp only [pfX, TV.ren, renL, pfL_ren, Tok.ren]
end Go.Proofs.YtogbdjlelkepcaaGreatDoor
namespace Go.Proofs.YtogbdjlelkepcaaGreatDoor
open Go.RowKit

def snU (kind : IntKind) (n : Nat) : Spec := fun ro ys T K => match ys with
 | [.ptr k 0] => match T.objs[k]? with
  | some (.cells [.val (.bool true), .vec 1 b .none, .val (.int .i64 a), .val (.int .i64 e)]) => (Nat.ble ro k = true ∧ IsB b) ∧ ∀ (z : Int) (bz : Bs) (az ez : Int), (z = nmB n b e ∧ bz = tkR n b e ∧ ez = tkE n b e) → K (.val (.int kind z)) { T with objs := T.objs.set k (srcO bz az ez) }
  | _ => False
 | _ => False
def sbU : Spec := fun ro ys T K => match ys with
 | [.ptr k 0, .val (.int .i64 n)] => match T.objs[k]? with
  | some (.cells [.val (.bool true), .vec 1 b .none, .val (.int .i64 a), .val (.int .i64 e)]) => (Nat.ble ro k = true ∧ IsB b) ∧ ∀ (v bz : Bs) (az ez : Int), (v = tkB n b e ∧ bz = tkR n b e ∧ ez = tkE n b e) → K (.vec 1 v .none) { T with objs := T.objs.set k (srcO bz az ez) }
  | _ => False
 | _ => False
def ssubU : Spec := fun ro ys T K => match ys with
 | [.ptr k 0, .val (.int .i64 n)] => match T.objs[k]? with
  | some (.cells [.val (.bool true), .vec 1 b .none, .val (.int .i64 a), .val (.int .i64 e)]) => (Nat.ble ro k = true ∧ IsB b) ∧ ∀ (v bz : Bs) (az ez : Int), (v = tkB n b e ∧ bz = tkR n b e ∧ ez = tkE n b e) → K (.ptr T.objs.length 0) { T with objs := T.objs.set k (srcO bz az ez) ++ [srcO v 0 0] }
  | _ => False
 | _ => False
def srestU : Spec := fun ro ys T K => match ys with
 | [.ptr k 0] => match T.objs[k]? with
  | some (.cells [.val (.bool true), .vec 1 b .none, .val (.int .i64 a), .val (.int .i64 e)]) => (Nat.ble ro k = true ∧ IsB b) ∧ ∀ (v bz : Bs) (az ez : Int), (v = tkB (leB b e) b e ∧ bz = tkR (leB b e) b e ∧ ez = tkE (leB b e) b e) → K (.vec 1 v .none) { T with objs := T.objs.set k (srcO bz az ez) }
  | _ => False
 | _ => False
theorem snU_le {kind : IntKind} {n : Nat} {ro : Nat} {ys : List TV} {T : VT} {K : TV → VT → Prop} (h : snU kind n ro ys T K) : snW kind n ro ys T K := by
 unfold snU at h
 split at h
 ·split at h
  ·rename_i ho
   unfold snW
   simp only [ho]
   exact ⟨h.1, h.2 _ _ _ _ ⟨rfl, rfl, rfl⟩⟩
  ·exact h.elim
 ·exact h.elim
theorem sbU_le {ro : Nat} {ys : List TV} {T : VT} {K : TV → VT → Prop} (h : sbU ro ys T K) : sbW ro ys T K := by
 unfold sbU at h
 split at h
 ·split at h
  ·rename_i ho
   unfold sbW
   simp only [ho]
   exact ⟨h.1, h.2 _ _ _ _ ⟨rfl, rfl, rfl⟩⟩
  ·exact h.elim
 ·exact h.elim
theorem ssubU_le {ro : Nat} {ys : List TV} {T : VT} {K : TV → VT → Prop} (h : ssubU ro ys T K) : ssubW ro ys T K := by
 unfold ssubU at h
 split at h
 ·split at h
  ·rename_i ho
   unfold ssubW
   simp only [ho]
   exact ⟨h.1, h.2 _ _ _ _ ⟨rfl, rfl, rfl⟩⟩
  ·exact h.elim
 ·exact h.elim
theorem srestU_le {ro : Nat} {ys : List TV} {T : VT} {K : TV → VT → Prop} (h : srestU ro ys T K) : srestW ro ys T K := by
 unfold srestU at h
 split at h
 ·split at h
  ·rename_i ho
   unfold srestW
   simp only [ho]
   exact ⟨h.1, h.2 _ _ _ _ ⟨rfl, rfl, rfl⟩⟩
  ·exact h.elim
 ·exact h.elim
end Go.Proofs.YtogbdjlelkepcaaGreatDoor
namespace Go.Proofs.YtogbdjlelkepcaaGreatDoor
open Go.RowKit

def cvC (b : Bs) (e : Int) : Int := nmB 1 b e
def cvN (b : Bs) (e : Int) : Int := nmB 1 (tkR 1 b e) (tkE 1 b e)
def cvV (b : Bs) (e : Int) : Bs := tkB (cvN b e) (tkR 1 (tkR 1 b e) (tkE 1 b e)) (tkE 1 (tkR 1 b e) (tkE 1 b e))
def cvB (b : Bs) (e : Int) : Bs := tkR (cvN b e) (tkR 1 (tkR 1 b e) (tkE 1 b e)) (tkE 1 (tkR 1 b e) (tkE 1 b e))
def cvZ (b : Bs) (e : Int) : Int := tkE (cvN b e) (tkR 1 (tkR 1 b e) (tkE 1 b e)) (tkE 1 (tkR 1 b e) (tkE 1 b e))
def cpRun : Nat → Bs → Int → List (Int × Bs) → Bs × Int × List (Int × Bs)
 | 0, b, e, acc => (b, e, acc)
 | k + 1, b, e, acc => bif decide (leB b e > 0) then cpRun k (cvB b e) (cvZ b e) (acc ++ [(cvC b e, cvV b e)]) else (b, e, acc)
def cpF (b : Bs) (e : Int) := cpRun (b.length + 1) b e []
def cpE (p : Int × Bs) : List TV := [.val (.int .i64 p.1), .vec 1 p.2 .none]
def cpB (b : Bs) (e : Int) : Bs := (cpF b e).1
def cpZ (b : Bs) (e : Int) : Int := (cpF b e).2.1
def cpS (b : Bs) (e : Int) : List (Int × Bs) := (cpF b e).2.2
def cpL (b : Bs) (e : Int) : Bs := (cpS b e).map cpE
def cpO (b : Bs) (e : Int) : Bool := decide (cpZ b e = 0)
def paGo : Nat → Bs → Int → List (Int × Bs) → Except Int (List (Int × Bs))
 | 0, _, _, _ => .error 0
 | k + 1, b, e, acc => bif decide (leB b e > 0) then (bif decide (cvZ b e = 0) then (bif decide (cvC b e = 2) then (bif cpO (cvV b e) 0 then paGo k (cvB b e) (cvZ b e) (acc ++ cpS (cvV b e) 0) else .error 0) else .error 4) else .error 0) else .ok acc
def paF (b : Bs) (e : Int) := paGo (b.length + 1) b e []
def paO (b : Bs) (e : Int) : Bool := match paF b e with
 | .ok _ => true
 | .error _ => false
def paL (b : Bs) (e : Int) : Bs := match paF b e with
 | .ok l => l.map cpE
 | .error _ => []
def paS (b : Bs) (e : Int) : Int := match paF b e with
 | .ok _ => 0
 | .error s => s

abbrev ntF := 49
abbrev capF := 114
abbrev parF := 77
abbrev opF := 47
def tl0 (T : VT) (n s : Nat) : VT := { T with tails := [(n, s, true)] }
def capK : List Nat := [0, 2, 3, 4]
def capV (L : Bs) : List TV := [.ptr 0 0, .val (.slice none 0 0), .val (.bool false), .vec 2 L (.tail 0 L.length)]
def capL (b bz L : Bs) (a e ez : Int) (c0 : Code) : Nat → Option (LSpec × Code) := specsL [(0, loopL 25 capK [(4, 2)] (capV []) ⟨[srcO b a e], [(0, 2, true)]⟩ (fun K => ∀ az : Int, K .normal (slotsN 25 capK (capV L)) ⟨[srcO bz az ez], [(L.length, 2, true)]⟩ []), c0)]
def cpsW : Spec := fun ro ys T K => match ys with
 | [.ptr k 0] => match T.objs[k]? with
  | some (.cells [.val (.bool true), .vec 1 b .none, .val (.int .i64 a), .val (.int .i64 e)]) => (Nat.ble ro k = true ∧ IsB b) ∧ ∀ az : Int, K (.tup [.vec 2 (cpL b e) .none, .val (.bool (cpO b e))]) { T with objs := T.objs.set k (srcO (cpB b e) az (cpZ b e)) }
  | _ => False
 | _ => False
def parK : List Nat := [0, 2, 3, 4, 5]
def parV (L : Bs) (s : Int) : List TV := [.ptr 0 0, .val (.slice none 0 0), .val (.int .i64 s), .val (.bool false), .vec 2 L (.tail 0 L.length)]
def parR (L : Bs) (s : Int) (ok : Bool) (K : KX) : Prop := ∀ (bz Lz by' : Bs) (az ez ay ey : Int), bif ok then K .normal (slotsN 37 parK (parV L 0)) ⟨[srcO bz az ez], [(L.length, 2, true)]⟩ [] else K .ret (slotsN 37 parK (parV Lz s)) ⟨[srcO bz az ez, srcO by' ay ey], [(Lz.length, 2, true)]⟩ []
def parL (b L : Bs) (a e s : Int) (ok : Bool) (c0 : Code) : Nat → Option (LSpec × Code) := specsL [(0, loopL 37 parK [(5, 2)] (parV [] 0) ⟨[srcO b a e], [(0, 2, true)]⟩ (parR L s ok), c0)]
def paW : Spec := fun ro ys T K => match ys with
 | [.ptr k 0] => match T.objs[k]? with
  | some (.cells [.val (.bool true), .vec 1 b .none, .val (.int .i64 a), .val (.int .i64 e)]) => (Nat.ble ro k = true ∧ IsB b) ∧ ∀ (bz : Bs) (az ez : Int), bif paO b e then K (.tup [.vec 2 (paL b e) .none, .val (.int .i64 0), .val (.bool true)]) { T with objs := T.objs.set k (srcO bz az ez) } else K (.tup [.vec 2 [] .none, .val (.int .i64 (paS b e)), .val (.bool false)]) { T with objs := T.objs.set k (srcO bz az ez) }
  | _ => False
 | _ => False
theorem ev_cap (b bz L : Bs) (a e ez : Int) (Q : TV → VT → Prop) : vcallF Tryz.prog noGl (specs [(wErF, seW)]) noOra 300 (capL b bz L a e ez (codeAt Tryz.prog capF 0)) 0 capF [.ptr 0 0] (zz149 (srcO b a e)) Q =
 ((codeAt Tryz.prog capF (0 : Nat) = codeAt Tryz.prog capF (0 : Nat)) ∧
 (((@Eq (Option Nat) .none .none) ∧
 ((@Eq (Nat) 0 0) ∧
 ((@Eq (List Nat) [] []) ∧
 (((@Eq (Option TV) (.some zz5) (.some zz5)) ∧
 True ) ∧
 ((@Eq (VT) ⟨[(.cells [zz27, (zz1 b), (zz0 a), (zz0 e)])], [(0, (2, true))]⟩ ⟨[(.cells [zz27, (zz1 b), (zz0 a), (zz0 e)])], [(0, (2, true))]⟩) ∧
 ((@Eq (Bool) true true) ∧
 (@Eq (List TV) [zz19, zz5, zz8, zz136] [zz19, zz5, zz8, zz136]))))))) ∧
 (∀ az : Int, (((@Eq (Bool) true true) ∧
 IsB (bz)) ∧
 Q (.tup [(zz134 L (List.length L)), (zz12 (eqRes BinOp.eql (k6 ez (0 : Int))))]) ⟨[(.cells [zz27, (zz1 bz), (zz0 az), (zz0 ez)])], [((List.length L), (2, true))]⟩)))) := by kernel_rfl
theorem ev_capA (b L : Bs) (p : List TV) (a e : Int) (Q : Exit → List TV → VT → List Nat → Nat → Prop) : vx Tryz.prog noGl (specs [(wLeF, slW), (wU8F, snU .i64 1), (wByF, sbU)]) (tellS [(999999, .dead, none), (20, .vec 2 (L ++ [p]) (.tail 0 (L.length + 1)), some fun T => tl0 T (L.length + 1) 2)]) 300 noLp none 0 (loopAt Tryz.prog capF 0) (slotsN 25 capK (capV L)) ⟨[srcO b a e], [(L.length, 2, true)]⟩ [] (pickS capK Q) =
 (((@Eq (Bool) true true) ∧
 IsB (b)) ∧
 (bif decide (leB b e > (0 : Int))
 then (((@Eq (Bool) true true) ∧
 IsB (b)) ∧
 (∀ z : Int, (∀ bz : Bs, (∀ az : Int, (∀ ez : Int, (((@Eq (Int) (z) (nmB (1 : Nat) b e)) ∧
 ((@Eq (Bs) (bz) (tkR (↑(1 : Nat) : Int) b e)) ∧
 (@Eq (Int) (ez) (tkE (↑(1 : Nat) : Int) b e)))) → (((@Eq (Bool) true true) ∧
 IsB (bz)) ∧
 (∀ z_11 : Int, (∀ bz_12 : Bs, (∀ az_13 : Int, (∀ ez_14 : Int, (((@Eq (Int) (z_11) (nmB (1 : Nat) bz ez)) ∧
 ((@Eq (Bs) (bz_12) (tkR (↑(1 : Nat) : Int) bz ez)) ∧
 (@Eq (Int) (ez_14) (tkE (↑(1 : Nat) : Int) bz ez)))) → (((@Eq (Bool) true true) ∧
 IsB (bz_12)) ∧
 (∀ v : Bs, (∀ bz_17 : Bs, (∀ az_18 : Int, (∀ ez_19 : Int, (((@Eq (Bs) (v) (tkB z_11 bz_12 ez_14)) ∧
 ((@Eq (Bs) (bz_17) (tkR z_11 bz_12 ez_14)) ∧
 (@Eq (Int) (ez_19) (tkE z_11 bz_12 ez_14)))) → (OTurn Tryz.prog (fun _ => .none) 0 ⟨[(.cells [zz27, (zz1 bz_17), (zz0 az_18), (zz0 ez_19)]), (zz138 z v)], [((List.length L), (2, true))]⟩ (.call ⟨(.builtin .append), #[(.tmp 17), (.tmp 19)], #[55, 55]⟩) [(17, (zz134 L (List.length L))), (19, (.vec 2 [[(.val (.int .i64 (z))), (.vec 1 (v) .none)]] .full))] (zz134 (L ++ [p]) (List.length L + (1 : Nat))) ⟨[(.cells [zz27, (zz1 bz_17), (zz0 az_18), (zz0 ez_19)]), (zz138 z v)], [((List.length L + (1 : Nat)), (2, true))]⟩ ∧
 Q .normal [zz19, zz5, zz8, (zz134 (L ++ [p]) (List.length L + (1 : Nat)))] ⟨[(.cells [zz27, (zz1 bz_17), (zz0 az_18), (zz0 ez_19)]), (zz138 z v)], [((List.length L + (1 : Nat)), (2, true))]⟩ [] 25)))))))))))))))))))
 else Q (.exit 0) [zz19, zz5, zz8, (zz134 L (List.length L))] ⟨[(.cells [zz27, (zz1 b), (zz0 a), (zz0 e)])], [((List.length L), (2, true))]⟩ [] 25)) := by kernel_rfl
theorem ev_par (b L : Bs) (a e s : Int) (ok : Bool) (Q : TV → VT → Prop) : vcallF Tryz.prog noGl noSp noOra 300 (parL b L a e s ok (codeAt Tryz.prog parF 0)) 0 parF [.ptr 0 0] (zz149 (srcO b a e)) Q =
 ((codeAt Tryz.prog parF (0 : Nat) = codeAt Tryz.prog parF (0 : Nat)) ∧
 (((@Eq (Option Nat) .none .none) ∧
 ((@Eq (Nat) 0 0) ∧
 ((@Eq (List Nat) [] []) ∧
 (((@Eq (Option TV) (.some zz5) (.some zz5)) ∧
 True ) ∧
 ((@Eq (VT) ⟨[(.cells [zz27, (zz1 b), (zz0 a), (zz0 e)])], [(0, (2, true))]⟩ ⟨[(.cells [zz27, (zz1 b), (zz0 a), (zz0 e)])], [(0, (2, true))]⟩) ∧
 ((@Eq (Bool) true true) ∧
 (@Eq (List TV) zz137 zz137))))))) ∧
 (∀ bz : Bs, (∀ Lz : Bs, (∀ by' : Bs, (∀ az : Int, (∀ ez : Int, (∀ ay : Int, (∀ ey : Int, (bif ok
 then Q (.tup [(zz134 L (List.length L)), zz6, zz27]) ⟨[(.cells [zz27, (zz1 bz), (zz0 az), (zz0 ez)])], [((List.length L), (2, true))]⟩
 else Q (.tup [zz5, (zz0 s), zz8]) ⟨[(.cells [zz27, (zz1 bz), (zz0 az), (zz0 ez)]), (.cells [zz27, (zz1 by'), (zz0 ay), (zz0 ey)])], [((List.length Lz), (2, true))]⟩)))))))))) := by kernel_rfl
theorem ev_parA (b L C : Bs) (a e : Int) (Q : Exit → List TV → VT → List Nat → Nat → Prop) : vx Tryz.prog noGl (specs [(wLeF, slW), (wU8F, snU .i64 1), (wSuF, ssubU), (wErF, seW), (capF, cpsW)]) (tellS [(999999, .dead, none), (35, .vec 2 (L ++ C) (.tail 0 (L.length + C.length)), some fun T => tl0 T (L.length + C.length) 2)]) 300 noLp none 0 (loopAt Tryz.prog parF 0) (slotsN 37 parK (parV L 0)) ⟨[srcO b a e], [(L.length, 2, true)]⟩ [] (pickS parK Q) =
 (((@Eq (Bool) true true) ∧
 IsB (b)) ∧
 (bif decide (leB b e > (0 : Int))
 then (((@Eq (Bool) true true) ∧
 IsB (b)) ∧
 (∀ z : Int, (∀ bz : Bs, (∀ az : Int, (∀ ez : Int, (((@Eq (Int) (z) (nmB (1 : Nat) b e)) ∧
 ((@Eq (Bs) (bz) (tkR (↑(1 : Nat) : Int) b e)) ∧
 (@Eq (Int) (ez) (tkE (↑(1 : Nat) : Int) b e)))) → (((@Eq (Bool) true true) ∧
 IsB (bz)) ∧
 (∀ z_11 : Int, (∀ bz_12 : Bs, (∀ az_13 : Int, (∀ ez_14 : Int, (((@Eq (Int) (z_11) (nmB (1 : Nat) bz ez)) ∧
 ((@Eq (Bs) (bz_12) (tkR (↑(1 : Nat) : Int) bz ez)) ∧
 (@Eq (Int) (ez_14) (tkE (↑(1 : Nat) : Int) bz ez)))) → (((@Eq (Bool) true true) ∧
 IsB (bz_12)) ∧
 (∀ v : Bs, (∀ bz_17 : Bs, (∀ az_18 : Int, (∀ ez_19 : Int, (((@Eq (Bs) (v) (tkB z_11 bz_12 ez_14)) ∧
 ((@Eq (Bs) (bz_17) (tkR z_11 bz_12 ez_14)) ∧
 (@Eq (Int) (ez_19) (tkE z_11 bz_12 ez_14)))) → (((@Eq (Bool) true true) ∧
 IsB (bz_17)) ∧
 (bif eqRes BinOp.neq (k6 ez_19 (0 : Int))
 then Q .ret (zz135 L (List.length L)) ⟨[(.cells [zz27, (zz1 bz_17), (zz0 az_18), (zz0 ez_19)]), (.cells [zz27, (zz1 v), zz6, zz6])], [((List.length L), (2, true))]⟩ [] 37
 else (bif eqRes BinOp.neq (k6 z (2 : Int))
 then Q .ret [zz19, zz5, zz117, zz8, (zz134 L (List.length L))] ⟨[(.cells [zz27, (zz1 bz_17), (zz0 az_18), (zz0 ez_19)]), (.cells [zz27, (zz1 v), zz6, zz6])], [((List.length L), (2, true))]⟩ [] 37
 else (((@Eq (Bool) true true) ∧
 IsB (v)) ∧
 (∀ az_21 : Int, (bif !cpO v (0 : Int)
 then Q .ret (zz135 L (List.length L)) ⟨[(.cells [zz27, (zz1 bz_17), (zz0 az_18), (zz0 ez_19)]), (.cells [zz27, (zz1 (cpB v (0 : Int))), (zz0 az_21), (zz0 (cpZ v (0 : Int)))])], [((List.length L), (2, true))]⟩ [] 37
 else (OTurn Tryz.prog (fun _ => .none) 0 ⟨[(.cells [zz27, (zz1 bz_17), (zz0 az_18), (zz0 ez_19)]), (.cells [zz27, (zz1 (cpB v (0 : Int))), (zz0 az_21), (zz0 (cpZ v (0 : Int)))])], [((List.length L), (2, true))]⟩ (.call ⟨(.builtin .append), #[(.tmp 33), (.tmp 34)], #[55, 55]⟩) [(33, (zz134 L (List.length L))), (34, (zz11 (cpL v (0 : Int))))] (zz134 (L ++ C) (List.length L + List.length C)) ⟨[(.cells [zz27, (zz1 bz_17), (zz0 az_18), (zz0 ez_19)]), (.cells [zz27, (zz1 (cpB v (0 : Int))), (zz0 az_21), (zz0 (cpZ v (0 : Int)))])], [((List.length L + List.length C), (2, true))]⟩ ∧
 Q .normal (zz135 (L ++ C) (List.length L + List.length C)) ⟨[(.cells [zz27, (zz1 bz_17), (zz0 az_18), (zz0 ez_19)]), (.cells [zz27, (zz1 (cpB v (0 : Int))), (zz0 az_21), (zz0 (cpZ v (0 : Int)))])], [((List.length L + List.length C), (2, true))]⟩ [] 37)))))))))))))))))))))))))
 else Q (.exit 0) (zz135 L (List.length L)) ⟨[(.cells [zz27, (zz1 b), (zz0 a), (zz0 e)])], [((List.length L), (2, true))]⟩ [] 37)) := by kernel_rfl
end Go.Proofs.YtogbdjlelkepcaaGreatDoor
namespace Go.Proofs.YtogbdjlelkepcaaGreatDoor
open Go.RowKit

theorem le_pos {b : Bs} {e : Int} (h : leB b e > 0) : e = 0 ∧ 0 < b.length := by
 unfold leB at h
 by_cases he : e = 0
 ·rw [decide_eq_true he] at h; simp only [cond_true] at h; exact ⟨he, by omega⟩
 ·rw [decide_eq_false he] at h; simp only [cond_false] at h; omega
theorem tk_len (n : Int) (b : Bs) (e : Int) : (tkB n b e).length + (tkR n b e).length ≤ b.length := by
 unfold tkB tkR; cases h : tkOk n b e
 ·simp only [cond_false, List.length_nil]; omega
 ·simp only [cond_true, List.length_take, List.length_drop]; omega
theorem tk1_len {b : Bs} {e : Int} (h : leB b e > 0) : (tkR 1 b e).length < b.length := by
 obtain ⟨rfl, hp⟩ := le_pos h
 have hk : tkOk 1 b 0 = true := by simp only [tkOk, decide_true, decide_eq_true (show (1 : Int) ≤ b.length by omega)]; rfl
 unfold tkR
 rw [hk]
 simp only [cond_true, List.length_drop]
 omega
theorem cv_len {b : Bs} {e : Int} (h : leB b e > 0) : (cvV b e).length + (cvB b e).length < b.length := by
 have h1 := tk1_len h
 have h2 := tkR_le (n := 1) (b := tkR 1 b e) (e := tkE 1 b e)
 have h3 := tk_len (cvN b e) (tkR 1 (tkR 1 b e) (tkE 1 b e)) (tkE 1 (tkR 1 b e) (tkE 1 b e))
 unfold cvV cvB
 omega
theorem cvV_is {b : Bs} {e : Int} (h : IsB b) : IsB (cvV b e) := tkB_is (tkR_is (tkR_is h))
theorem cvB_is {b : Bs} {e : Int} (h : IsB b) : IsB (cvB b e) := tkR_is (tkR_is (tkR_is h))
theorem cpRun_fuel : ∀ (k j : Nat) (b : Bs) (e : Int) (acc : List (Int × Bs)), b.length < k → b.length < j → cpRun k b e acc = cpRun j b e acc
 | 0, _, _, _, _, h, _ => absurd h (Nat.not_lt_zero _)
 | _, 0, _, _, _, _, h => absurd h (Nat.not_lt_zero _)
 | k + 1, j + 1, b, e, acc, h1, h2 => by
  unfold cpRun
  by_cases hl : leB b e > 0
  ·have := cv_len hl
   rw [decide_eq_true hl, cpRun_fuel k j (cvB b e) _ _ (by omega) (by omega)]
  ·rw [decide_eq_false hl]; rfl
theorem cpRun_step {b : Bs} {e : Int} {acc : List (Int × Bs)} (hl : leB b e > 0) : cpRun (b.length + 1) b e acc = cpRun ((cvB b e).length + 1) (cvB b e) (cvZ b e) (acc ++ [(cvC b e, cvV b e)]) := by
 have := cv_len hl
 rw [cpRun_fuel ((cvB b e).length + 1) b.length (cvB b e) _ _ (by omega) (by omega)]
 simp only [cpRun, decide_eq_true hl, cond_true]
theorem cpRun_end {b : Bs} {e : Int} {acc : List (Int × Bs)} (hl : ¬ leB b e > 0) : cpRun (b.length + 1) b e acc = (b, e, acc) := by
 simp only [cpRun, decide_eq_false hl, cond_false]
def AllB (l : List (Int × Bs)) : Prop := ∀ p ∈ l, IsB p.2
theorem AllB.app {l m : List (Int × Bs)} (h : AllB l) (k : AllB m) : AllB (l ++ m) := fun p hp => by
 rcases List.mem_append.1 hp with h1 | h1
 ·exact h p h1
 ·exact k p h1
theorem AllB.one {c : Int} {v : Bs} (h : IsB v) : AllB [(c, v)] := fun p hp => by obtain rfl := List.mem_singleton.1 hp; exact h
theorem AllB.nil : AllB [] := fun p hp => by simp at hp
theorem cpRun_is : ∀ (k : Nat) (b : Bs) (e : Int) (acc : List (Int × Bs)), b.length < k → IsB b → AllB acc → IsB (cpRun k b e acc).1 ∧ AllB (cpRun k b e acc).2.2 ∧ (cpRun k b e acc).2.2.length ≤ acc.length + b.length
 | 0, _, _, _, h, _, _ => absurd h (Nat.not_lt_zero _)
 | k + 1, b, e, acc, h1, hb, ha => by
  unfold cpRun
  by_cases hl : leB b e > 0
  ·have := cv_len hl
   rw [decide_eq_true hl]
   obtain ⟨h2, h3, h4⟩ := cpRun_is k (cvB b e) (cvZ b e) (acc ++ [(cvC b e, cvV b e)]) (by omega) (cvB_is hb) (ha.app (.one (cvV_is hb)))
   refine ⟨h2, h3, ?_⟩
   simp only [List.length_append, List.length_cons, List.length_nil] at h4
   simp only [cond_true]
   omega
  ·rw [decide_eq_false hl]
   exact ⟨hb, ha, Nat.le_add_right _ _⟩
theorem cpF_is {b : Bs} (e : Int) (h : IsB b) : IsB (cpB b e) ∧ AllB (cpS b e) ∧ (cpS b e).length ≤ b.length := by
 obtain ⟨h1, h2, h3⟩ := cpRun_is (b.length + 1) b e [] (Nat.lt_succ_self _) h .nil
 exact ⟨h1, h2, Nat.le_trans h3 (by simp)⟩
theorem renLL_cp (f g : Nat → Option Nat) : ∀ {l : List (Int × Bs)}, AllB l → renLL f g (l.map cpE) = l.map cpE
 | [], _ => rfl
 | a :: l, h => by
  have h1 := renLL_cp f g (l := l) fun p hp => h p (List.mem_cons_of_mem _ hp)
  have h2 := (h a List.mem_cons_self).ren f g
  simp only [List.map_cons, renLL, h1, cpE, renL, TV.ren, h2, Tok.ren]
theorem paGo_fuel : ∀ (k j : Nat) (b : Bs) (e : Int) (acc : List (Int × Bs)), b.length < k → b.length < j → paGo k b e acc = paGo j b e acc
 | 0, _, _, _, _, h, _ => absurd h (Nat.not_lt_zero _)
 | _, 0, _, _, _, _, h => absurd h (Nat.not_lt_zero _)
 | k + 1, j + 1, b, e, acc, h1, h2 => by
  unfold paGo
  by_cases hl : leB b e > 0
  ·have := cv_len hl
   rw [decide_eq_true hl, paGo_fuel k j (cvB b e) _ _ (by omega) (by omega)]
  ·rw [decide_eq_false hl]; rfl
theorem paGo_step {b : Bs} {e : Int} {acc : List (Int × Bs)} (hl : leB b e > 0) : paGo (b.length + 1) b e acc = bif decide (cvZ b e = 0) then (bif decide (cvC b e = 2) then (bif cpO (cvV b e) 0 then paGo ((cvB b e).length + 1) (cvB b e) (cvZ b e) (acc ++ cpS (cvV b e) 0) else .error 0) else .error 4) else .error 0 := by
 have := cv_len hl
 rw [paGo_fuel ((cvB b e).length + 1) b.length (cvB b e) _ _ (by omega) (by omega)]
 simp only [paGo, decide_eq_true hl, cond_true]
theorem paGo_end {b : Bs} {e : Int} {acc : List (Int × Bs)} (hl : ¬ leB b e > 0) : paGo (b.length + 1) b e acc = .ok acc := by
 simp only [paGo, decide_eq_false hl, cond_false]
def ntO (b : Bs) : Bool := decide (2 ≤ b.length) && (decide ((b.drop 2).length ≤ 4075) && !decide (bval (b[0]?.getD []) = 0))
def ntX (b : Bs) : TV := bif ntO b then .tup [.agg [.val (.int .i64 (bval (b[0]?.getD []))), .val (.int .i64 (bval (b[1]?.getD []))), .vec 1 (b.drop 2) .none], .val (.bool true)] else .tup [.agg [.val (.int .i64 0), .val (.int .i64 0), .vec 1 [] .none], .val (.bool false)]
theorem cpInf_ex : ∃ inf : TypeInfo, Tryz.prog.info? 101 = some inf ∧ inf.size = 2 ∧ inf.bytes + 1 ≤ 1000 ∧ inf.zero = some (.agg #[.int .i64 0, .slice none 0 0]) :=
 ⟨(Tryz.prog.info? 101).getD default, by kernel_rfl, by kernel_rfl, Nat.le_of_ble_eq_true (by kernel_rfl), by kernel_rfl⟩
theorem oturn_cp {ro : Nat} {T T1 : VT} {s x : Operand} {l : List (Nat × TV)} {es es2 : List (List TV)} {k n : Nat} {bn : Bool} (hs : vadopt T 2 (evOf noGl l s) = some (es, k, n, bn, T1)) (hx : srcOf 2 (evOf noGl l x) = some es2) (hb : es.length + es2.length ≤ 2000001) :
    OTurn Tryz.prog noGl ro T (.call ⟨.builtin .append, #[s, x], #[55, 55]⟩) l (.vec 2 (es ++ es2) (.tail k (n + es2.length))) { T1 with tails := T1.tails.set k (n + es2.length, 2, bn) } := by
  obtain ⟨inf, i1, i2, i3, i4⟩ := cpInf_ex
  have h := oturn_app (inf := inf) (P := Tryz.prog) (G := noGl) (ro := ro) (T := T) (T1 := T1) (t := 55) (tx := 55) (s := s) (x := x) (l := l) (es := es) (es2 := es2) (k := k) (n := n) (bn := bn) Tryz.underlying55 i1 i4 (by rw [i2]; rfl) (by rw [i2]; decide) (by kernel_rfl) (by rw [i2]; exact hs) (by rw [i2]; exact hx)
    (by have h1 := i3
        have h2 := Nat.mul_le_mul hb h1
        omega)
  rw [i2] at h
  exact h
structure CSt where
 b : Bs
 a : Int
 e : Int
 acc : List (Int × Bs)
theorem cap_round {b0 : Bs} (h0 : IsB b0) (a0 e0 : Int) (K : KX) (hK : ∀ az : Int, K .normal (slotsN 25 capK (capV (cpL b0 e0))) ⟨[srcO (cpB b0 e0) az (cpZ b0 e0)], [((cpL b0 e0).length, 2, true)]⟩ []) : VWx Tryz.prog noGl none 0 (codeAt Tryz.prog capF 0) (slotsN 25 capK (capV [])) ⟨[srcO b0 a0 e0], [(0, 2, true)]⟩ [] K := by
  let sl : CSt → List TV := fun s => capV (s.acc.map cpE)
  let TT : CSt → VT := fun s => ⟨[srcO s.b s.a s.e], [(s.acc.length, 2, true)]⟩
  let Post : Exit → List TV → VT → Prop := fun e vs T => e = .normal ∧ ∃ az : Int, vs = capV (cpL b0 e0) ∧ T = ⟨[srcO (cpB b0 e0) az (cpZ b0 e0)], [((cpL b0 e0).length, 2, true)]⟩
  refine loopK (f := capF) (id := 0) (by kernel_rfl) 25 capK (fun s : CSt => s.b.length) sl TT (fun s => IsB s.b ∧ AllB s.acc ∧ s.acc.length + s.b.length ≤ b0.length ∧ cpRun (s.b.length + 1) s.b s.e s.acc = cpF b0 e0) 1 1 (fun _ _ => ⟨Nat.le_refl _, Nat.le_refl _⟩)
    Post (fun s hs => ?_) ⟨b0, a0, e0, []⟩ ⟨h0, .nil, by simp, rfl⟩ K (fun e vs T ⟨h1, az, h2, h3⟩ => by subst h1 h2 h3; exact hK az)
  obtain ⟨b, a, e, acc⟩ := s
  obtain ⟨hb, ha, hlen, hgo⟩ := hs
  have hsm := h0.small
  simp only at hb ha hlen hgo
  have hS : SpecsOk Tryz.prog noGl (specs [(wLeF, slW), (wU8F, snU .i64 1), (wByF, sbU)]) := specs_ok fun p hp => by
    rcases List.mem_cons.1 hp with rfl | hp; exact wLe_ok
    rcases List.mem_cons.1 hp with rfl | hp; exact fun ro ys T K h => wU8_ok _ _ _ _ (snU_le h)
    obtain rfl := List.mem_singleton.1 hp; exact fun ro ys T K h => wBy_ok _ _ _ _ (sbU_le h)
  have hv := ev_capA b (acc.map cpE) (cpE (cvC b e, cvV b e)) a e
  rw [List.length_map] at hv
  refine vx_is mixedB_Tryz bodiesB_Tryz hS lsOk_none (hv _) ?_
  refine ⟨⟨rfl, hb⟩, ?_⟩
  by_cases hl : leB b e > 0
  · refine condT (decide_eq_true hl) ⟨⟨rfl, hb⟩, ?_⟩
    rintro z bz az ez ⟨rfl, rfl, rfl⟩
    refine ⟨⟨rfl, tkR_is hb⟩, ?_⟩
    rintro z bz az ez ⟨rfl, rfl, rfl⟩
    refine ⟨⟨rfl, tkR_is (tkR_is hb)⟩, ?_⟩
    rintro v bz az ez ⟨rfl, rfl, rfl⟩
    have hlt := cv_len hl
    have hb2 := cvB_is (e := e) hb
    have ha2 := ha.app (.one (c := cvC b e) (cvV_is (e := e) hb))
    have e1 : (acc ++ [(cvC b e, cvV b e)]).map cpE = acc.map cpE ++ [cpE (cvC b e, cvV b e)] := by rw [List.map_append]; rfl
    refine ⟨?_, rfl, rfl, ⟨cvB b e, az, cvZ b e, acc ++ [(cvC b e, cvV b e)]⟩, ⟨hb2, ha2, by simp only [List.length_append, List.length_cons, List.length_nil]; omega, by rw [← hgo]; exact (cpRun_step hl).symm⟩, by simp only; omega, .inr ⟨?_, ?_⟩⟩
    · have h := oturn_cp (ro := 0) (T := ⟨[srcO (cvB b e) az (cvZ b e), .cells (cpE (cvC b e, cvV b e))], [(acc.length, 2, true)]⟩) (T1 := ⟨[srcO (cvB b e) az (cvZ b e), .cells (cpE (cvC b e, cvV b e))], [(acc.length, 2, true)]⟩) (s := .tmp 17) (x := .tmp 19) (l := [(17, .vec 2 (acc.map cpE) (.tail 0 acc.length)), (19, .vec 2 [cpE (cvC b e, cvV b e)] .full)]) (es := acc.map cpE) (es2 := [cpE (cvC b e, cvV b e)]) (k := 0) (n := acc.length) (bn := true)
        (by simp [evOf, evFind, vadopt]) rfl (by simp only [List.length_map, List.length_cons, List.length_nil]; omega)
      exact h
    · refine (show VT.keep ⟨srcO (cvB b e) az (cvZ b e) :: _, _⟩ 1 1 = _ from ?_)
      simp only [VT.keep, List.take_succ_cons, List.take_zero, List.map_cons, List.map_nil, srcO_ren hb2]
      simp only [TT, List.length_append, List.length_cons, List.length_nil]
    · have e2 := renLL_cp (Go.Proofs.YtogbdjlelkepcaaGreatDoor.keep 1) (Go.Proofs.YtogbdjlelkepcaaGreatDoor.keep 1) ha2
      rw [e1] at e2
      simp only [renL, TV.ren, e2, Tok.ren]
      simp only [sl, capV, e1, List.length_append, List.length_map, List.length_cons, List.length_nil]
      rfl
  · have hE := (cpRun_end (acc := acc) hl).symm.trans hgo
    refine condF (decide_eq_false hl) ⟨rfl, rfl, rfl, a, ?_, ?_⟩
    · simp only [capV, cpL, cpS, ← hE, List.length_map]
    · simp only [cpB, cpZ, cpL, cpS, ← hE, List.length_map]; rfl
theorem cap_loop {b : Bs} (h : IsB b) (a e : Int) : LsOk Tryz.prog noGl (capL b (cpB b e) (cpL b e) a e (cpZ b e) (codeAt Tryz.prog capF 0)) := specsL_ok fun p hp => by
 obtain rfl := List.mem_singleton.1 hp
 exact loopL_ok fun K hK => cap_round h a e K hK
theorem cap_vcx {b : Bs} (hb : IsB b) (a e : Int) : VCx Tryz.prog noGl 0 capF [.ptr 0 0] ⟨[srcO b a e], []⟩ fun x T' => x = .tup [.vec 2 (cpL b e) .none, .val (.bool (cpO b e))] ∧ ∃ az, T' = ⟨[srcO (cpB b e) az (cpZ b e)], []⟩ := by
 obtain ⟨h1, h2, h3⟩ := cpF_is e hb
 refine VCx.keepQ 1 0 (Nat.le_refl _) (Nat.le_refl _) (vcallF_is mixedB_Tryz bodiesB_Tryz (specs_ok fun p hp => by obtain rfl := List.mem_singleton.1 hp; exact wEr_ok) (cap_loop hb a e) (ev_cap b (cpB b e) (cpL b e) a e (cpZ b e) _) ?_)
 refine ⟨rfl, ⟨rfl, rfl, rfl, ⟨rfl, trivial⟩, rfl, rfl, rfl⟩, fun az => ⟨⟨rfl, h1⟩, ?_, az, keepS h1 _ _ _ _⟩⟩
 have e2 : renLL (Go.Proofs.YtogbdjlelkepcaaGreatDoor.keep 1) (Go.Proofs.YtogbdjlelkepcaaGreatDoor.keep 0) (cpL b e) = cpL b e := renLL_cp _ _ h2
 simp only [TV.ren, renL, e2, Tok.ren, eqI]
 rfl
theorem cpsW_ok : ∀ ro ys T K, cpsW ro ys T K → VCx Tryz.prog noGl ro capF ys T K := by
 intro ro ys T K hw
 unfold cpsW at hw
 split at hw
 ·rename_i k
  split at hw
  ·rename_i b a e ho
   obtain ⟨⟨hro, hb⟩, hk⟩ := hw
   obtain ⟨h1, h2, h3⟩ := cpF_is e hb
   refine VCx.at1 (Q := fun x o' l' => x = .tup [.vec 2 (cpL b e) .none, .val (.bool (cpO b e))] ∧ (∃ az, o' = srcO (cpB b e) az (cpZ b e)) ∧ l' = []) gvals_noGl (Nat.le_of_ble_eq_true hro) ho rfl (srcO_ren hb a e _ _) (ys1 := [.ptr 0 0]) (by simp [renL, TV.ren, nameIn]) ((cap_vcx hb a e).mono fun x T' ⟨h1, az, h2⟩ => ⟨_, _, h2, h1, ⟨az, rfl⟩, rfl⟩) ?_
   rintro x o' l' ⟨rfl, ⟨az, rfl⟩, rfl⟩
   rw [srcO_ren h1]
   have e2 := renLL_cp (nameOut T.objs.length [k]) (nameOut T.tails.length []) h2
   simpa [TV.ren, renL, Tok.ren, cpL, e2] using hk az
  ·exact hw.elim
 ·exact hw.elim
end Go.Proofs.YtogbdjlelkepcaaGreatDoor
namespace Go.Proofs.YtogbdjlelkepcaaGreatDoor
open Go.RowKit

structure PaSt where
 b : Bs
 a : Int
 e : Int
 acc : List (Int × Bs)
def parPost (b0 : Bs) (e0 : Int) (e : Exit) (vs : List TV) (T : VT) : Prop :=
 (∃ (l : List (Int × Bs)) (bz : Bs) (az ez : Int), paF b0 e0 = .ok l ∧ e = .normal ∧ vs = parV (l.map cpE) 0 ∧ T = ⟨[srcO bz az ez], [(l.length, 2, true)]⟩) ∨
 (∃ (s : Int) (Lz bz bY : Bs) (az ez ay ey : Int), paF b0 e0 = .error s ∧ e = .ret ∧ vs = parV Lz s ∧ T = ⟨[srcO bz az ez, srcO bY ay ey], [(Lz.length, 2, true)]⟩)
theorem paO_ok {b : Bs} {e : Int} {l : List (Int × Bs)} (h : paF b e = .ok l) : paO b e = true ∧ paL b e = l.map cpE := by
 unfold paO paL; rw [h]; exact ⟨rfl, rfl⟩
theorem paO_err {b : Bs} {e s : Int} (h : paF b e = .error s) : paO b e = false ∧ paL b e = [] ∧ paS b e = s := by
 unfold paO paL paS; rw [h]; exact ⟨rfl, rfl, rfl⟩
theorem parPost_ok {b0 : Bs} {e0 : Int} {K : KX} (hK : parR (paL b0 e0) (paS b0 e0) (paO b0 e0) K) {e : Exit} {vs : List TV} {T : VT} (h : parPost b0 e0 e vs T) : K e (slotsN 37 parK vs) T [] := by
 rcases h with ⟨l, bz, az, ez, h1, rfl, rfl, rfl⟩ | ⟨s, Lz, bz, bY, az, ez, ay, ey, h1, rfl, rfl, rfl⟩
 ·obtain ⟨h2, h3⟩ := paO_ok h1
  have := hK bz [] [] az ez 0 0
  simp only [h2, cond_true, h3, List.length_map] at this
  exact this
 ·obtain ⟨h2, _, h3⟩ := paO_err h1
  have := hK bz Lz bY az ez ay ey
  simp only [h2, cond_false, h3] at this
  exact this
theorem par_round {b0 : Bs} (h0 : IsB b0) (a0 e0 : Int) (K : KX) (hK : parR (paL b0 e0) (paS b0 e0) (paO b0 e0) K) : VWx Tryz.prog noGl none 0 (codeAt Tryz.prog parF 0) (slotsN 37 parK (parV [] 0)) ⟨[srcO b0 a0 e0], [(0, 2, true)]⟩ [] K := by
  let sl : PaSt → List TV := fun s => parV (s.acc.map cpE) 0
  let TT : PaSt → VT := fun s => ⟨[srcO s.b s.a s.e], [(s.acc.length, 2, true)]⟩
  refine loopK (f := parF) (id := 0) (by kernel_rfl) 37 parK (fun s : PaSt => s.b.length) sl TT (fun s => IsB s.b ∧ AllB s.acc ∧ s.acc.length + s.b.length ≤ b0.length ∧ paGo (s.b.length + 1) s.b s.e s.acc = paF b0 e0) 1 1 (fun _ _ => ⟨Nat.le_refl _, Nat.le_refl _⟩)
    (parPost b0 e0) (fun s hs => ?_) ⟨b0, a0, e0, []⟩ ⟨h0, .nil, by simp, rfl⟩ K (fun e vs T h => parPost_ok hK h)
  obtain ⟨b, a, e, acc⟩ := s
  obtain ⟨hb, ha, hlen, hgo⟩ := hs
  have hsm := h0.small
  simp only at hb ha hlen hgo
  have hS : SpecsOk Tryz.prog noGl (specs [(wLeF, slW), (wU8F, snU .i64 1), (wSuF, ssubU), (wErF, seW), (capF, cpsW)]) := specs_ok fun p hp => by
    rcases List.mem_cons.1 hp with rfl | hp; exact wLe_ok
    rcases List.mem_cons.1 hp with rfl | hp; exact fun ro ys T K h => wU8_ok _ _ _ _ (snU_le h)
    rcases List.mem_cons.1 hp with rfl | hp; exact fun ro ys T K h => wSu_ok _ _ _ _ (ssubU_le h)
    rcases List.mem_cons.1 hp with rfl | hp; exact wEr_ok
    obtain rfl := List.mem_singleton.1 hp; exact cpsW_ok
  have hv := ev_parA b (acc.map cpE) (cpL (cvV b e) 0) a e
  rw [List.length_map] at hv
  refine vx_is mixedB_Tryz bodiesB_Tryz hS lsOk_none (hv _) ?_
  refine ⟨⟨rfl, hb⟩, ?_⟩
  by_cases hl : leB b e > 0
  · refine condT (decide_eq_true hl) ⟨⟨rfl, hb⟩, ?_⟩
    rintro z bz az ez ⟨rfl, rfl, rfl⟩
    refine ⟨⟨rfl, tkR_is hb⟩, ?_⟩
    rintro z bz az ez ⟨rfl, rfl, rfl⟩
    refine ⟨⟨rfl, tkR_is (tkR_is hb)⟩, ?_⟩
    rintro v bz az ez ⟨rfl, rfl, rfl⟩
    have hlt := cv_len hl
    have hb2 := cvB_is (e := e) hb
    have hv2 := cvV_is (e := e) hb
    have hst := paGo_step (acc := acc) hl
    rw [hgo] at hst
    refine ⟨⟨rfl, hb2⟩, ?_⟩
    by_cases hz : cvZ b e = 0
    · rw [decide_eq_true hz, cond_true] at hst
      refine condF (by rw [neI]; exact congrArg Bool.not (decide_eq_true hz)) ?_
      by_cases hc : cvC b e = 2
      · rw [decide_eq_true hc, cond_true] at hst
        refine condF (by rw [neI]; exact congrArg Bool.not (decide_eq_true hc)) ⟨⟨rfl, hv2⟩, fun ay => ?_⟩
        obtain ⟨i1, i2, i3⟩ := cpF_is 0 hv2
        cases ho : cpO (cvV b e) 0
        · rw [ho, cond_false] at hst
          exact condT (congrArg Bool.not ho) ⟨rfl, rfl, .inr ⟨0, acc.map cpE, _, _, _, _, _, _, hst, rfl, by simp only [parV, List.length_map], by rw [List.length_map]; rfl⟩⟩
        · rw [ho, cond_true] at hst
          have ha2 := ha.app i2
          have e1 : (acc ++ cpS (cvV b e) 0).map cpE = acc.map cpE ++ cpL (cvV b e) 0 := by rw [List.map_append]; rfl
          have hcl : (cpL (cvV b e) 0).length = (cpS (cvV b e) 0).length := List.length_map _
          refine condF (congrArg Bool.not ho) ⟨?_, rfl, rfl, ⟨cvB b e, az, cvZ b e, acc ++ cpS (cvV b e) 0⟩, ⟨hb2, ha2, by simp only [List.length_append]; omega, by rw [hst]⟩, by simp only; omega, .inr ⟨?_, ?_⟩⟩
          · have h := oturn_cp (ro := 0) (T := ⟨[srcO (cvB b e) az (cvZ b e), srcO (cpB (cvV b e) 0) ay (cpZ (cvV b e) 0)], [(acc.length, 2, true)]⟩) (T1 := ⟨[srcO (cvB b e) az (cvZ b e), srcO (cpB (cvV b e) 0) ay (cpZ (cvV b e) 0)], [(acc.length, 2, true)]⟩) (s := .tmp 33) (x := .tmp 34) (l := [(33, .vec 2 (acc.map cpE) (.tail 0 acc.length)), (34, .vec 2 (cpL (cvV b e) 0) .none)]) (es := acc.map cpE) (es2 := cpL (cvV b e) 0) (k := 0) (n := acc.length) (bn := true)
              (by simp [evOf, evFind, vadopt]) rfl (by rw [hcl, List.length_map]; omega)
            exact h
          · refine (show VT.keep ⟨srcO (cvB b e) az (cvZ b e) :: _, _⟩ 1 1 = _ from ?_)
            simp only [VT.keep, List.take_succ_cons, List.take_zero, List.map_cons, List.map_nil, srcO_ren hb2]
            simp only [TT, List.length_append, hcl]
          · have e2 := renLL_cp (Go.Proofs.YtogbdjlelkepcaaGreatDoor.keep 1) (Go.Proofs.YtogbdjlelkepcaaGreatDoor.keep 1) ha2
            rw [e1] at e2
            simp only [renL, TV.ren, e2, Tok.ren]
            simp only [sl, parV, e1, List.length_append, List.length_map, hcl]
            rfl
      · rw [decide_eq_false hc, cond_false] at hst
        exact condT (by rw [neI]; exact congrArg Bool.not (decide_eq_false hc)) ⟨rfl, rfl, .inr ⟨4, acc.map cpE, _, _, _, _, _, _, hst, rfl, by simp only [parV, List.length_map], by rw [List.length_map]; rfl⟩⟩
    · rw [decide_eq_false hz, cond_false] at hst
      exact condT (by rw [neI]; exact congrArg Bool.not (decide_eq_false hz)) ⟨rfl, rfl, .inr ⟨0, acc.map cpE, _, _, _, _, _, _, hst, rfl, by simp only [parV, List.length_map], by rw [List.length_map]; rfl⟩⟩
  · have hE := (paGo_end (acc := acc) hl).symm.trans hgo
    exact condF (decide_eq_false hl) ⟨rfl, rfl, .inl ⟨acc, b, a, e, hE.symm, rfl, by simp only [parV, List.length_map], rfl⟩⟩
theorem par_loop {b : Bs} (h : IsB b) (a e : Int) : LsOk Tryz.prog noGl (parL b (paL b e) a e (paS b e) (paO b e) (codeAt Tryz.prog parF 0)) := specsL_ok fun p hp => by
 obtain rfl := List.mem_singleton.1 hp
 exact loopL_ok fun K hK => par_round h a e K hK
theorem paGo_is : ∀ (k : Nat) (b : Bs) (e : Int) (acc : List (Int × Bs)), IsB b → AllB acc → ∀ l, paGo k b e acc = .ok l → AllB l
 | 0, _, _, _, _, _, l, h => by cases h
 | k + 1, b, e, acc, hb, ha, l, h => by
  unfold paGo at h
  cases h1 : decide (leB b e > 0) <;> rw [h1] at h
  ·injection h with h; subst h; exact ha
  ·cases h2 : decide (cvZ b e = 0) <;> rw [h2] at h
   ·cases h
   ·cases h3 : decide (cvC b e = 2) <;> rw [h3] at h
    ·cases h
    ·cases h4 : cpO (cvV b e) 0 <;> rw [h4] at h
     ·cases h
     ·exact paGo_is k _ _ _ (cvB_is hb) (ha.app (cpF_is 0 (cvV_is hb)).2.1) l h
theorem paL_ren {b : Bs} (hb : IsB b) (e : Int) (f g : Nat → Option Nat) : renLL f g (paL b e) = paL b e := by
 cases h : paF b e with
 | ok l => rw [(paO_ok h).2]; exact renLL_cp f g (paGo_is _ _ _ _ hb .nil l h)
 | error s => rw [(paO_err h).2.1]; rfl
theorem paL_nil {b : Bs} {e : Int} (h : paO b e = false) : paL b e = [] := by
 cases hc : paF b e with
 | ok l => rw [(paO_ok hc).1] at h; cases h
 | error s => exact (paO_err hc).2.1
def paX (b : Bs) (e : Int) : TV := .tup [.vec 2 (paL b e) .none, .val (.int .i64 (bif paO b e then 0 else paS b e)), .val (.bool (paO b e))]
theorem par_vcx {b : Bs} (hb : IsB b) (a e : Int) : VCx Tryz.prog noGl 0 parF [.ptr 0 0] ⟨[srcO b a e], []⟩ fun x T' => x = paX b e ∧ ∃ bz az ez, T' = ⟨[srcO bz az ez], []⟩ := by
 refine VCx.toLe (Q := fun T' => ∃ bz az ez, T' = ⟨[srcO bz az ez], []⟩) (VCx.keepQ 1 0 (Nat.le_refl _) (Nat.le_refl _) (vcallF_is mixedB_Tryz bodiesB_Tryz specsOk_none (par_loop hb a e) (ev_par b (paL b e) a e (paS b e) (paO b e) _) ?_))
 refine ⟨rfl, ⟨rfl, rfl, rfl, ⟨rfl, trivial⟩, rfl, rfl, rfl⟩, fun bz Lz bY az ez ay ey => ?_⟩
 cases h : paO b e
 ·refine ⟨?_, _, az, ez, rfl⟩
  unfold paX
  rw [paL_nil h, h]
  exact TVle.tup ⟨TVle.nil 2, TVle.refl _, TVle.refl _, trivial⟩
 ·refine ⟨TVle.of_eq ?_, _, az, ez, rfl⟩
  unfold paX
  rw [h]
  simp only [TV.ren, renL, paL_ren hb e, Tok.ren, cond_true]
  rfl
theorem paW_ok : ∀ ro ys T K, paW ro ys T K → VCx Tryz.prog noGl ro parF ys T K := by
 intro ro ys T K hw
 unfold paW at hw
 split at hw
 ·rename_i k
  split at hw
  ·rename_i b a e ho
   obtain ⟨⟨hro, hb⟩, hk⟩ := hw
   refine VCx.at1 (Q := fun x o' l' => x = paX b e ∧ (∃ bz az ez, o' = srcO bz az ez) ∧ l' = []) gvals_noGl (Nat.le_of_ble_eq_true hro) ho rfl (srcO_ren hb a e _ _) (ys1 := [.ptr 0 0]) (by simp [renL, TV.ren, nameIn]) ((par_vcx hb a e).mono fun x T' ⟨h1, bz, az, ez, h2⟩ => ⟨_, _, h2, h1, ⟨bz, az, ez, rfl⟩, rfl⟩) ?_
   rintro x o' l' ⟨rfl, ⟨bz, az, ez, rfl⟩, rfl⟩
   have hk2 := hk (renLL (nameOut T.objs.length [k]) (nameOut T.tails.length []) bz) az ez
   have e2 := paL_ren hb e (nameOut T.objs.length [k]) (nameOut T.tails.length [])
   unfold paX
   cases h : paO b e <;> rw [h] at hk2
   ·rw [paL_nil h]
    simp only [List.map_nil, List.append_nil, TV.ren, renL, cond_false]
    exact hk2
   ·simp only [List.map_nil, List.append_nil, TV.ren, renL, cond_true, e2, Tok.ren]
    exact hk2
  ·exact hw.elim
 ·exact hw.elim
def opFail (s : Int) (d : Bs) : TV := .tup [.agg [.val (.int .i64 0), .val (.int .i64 0), .val (.int .u32 0), .vec 2 [] .none], .agg [.val (.int .i64 2), .val (.int .i64 s), .vec 1 d .none]]
def opGood (n h i : Int) (l : Bs) : TV := .tup [.agg [.val (.int .i64 n), .val (.int .i64 h), .val (.int .u32 i), .vec 2 l .none], .agg [.val (.int .i64 0), .val (.int .i64 0), .vec 1 [] .none]]
def opEnd (n h i k : Int) (b : Bs) (e pas : Int) : TV :=
 if n = 0 then opFail 2 [] else if pas ≥ 1 ∧ ¬ n = pas then opFail 2 [] else if ¬ (h = 0 ∨ (h ≥ 3 ∧ h ≤ 65535)) then opFail 6 [] else if i = 0 then opFail 3 []
 else if ¬ k = leB b e then opFail 0 [] else bif paO b e then opGood n h i (paL b e) else opFail (paS b e) []
def opMid (b : Bs) (e pas : Int) : TV :=
 opEnd (nmB 2 b e) (nmB 2 (tkR 2 b e) (tkE 2 b e)) (nmB 4 (tkR 2 (tkR 2 b e) (tkE 2 b e)) (tkE 2 (tkR 2 b e) (tkE 2 b e)))
  (nmB 1 (tkR 4 (tkR 2 (tkR 2 b e) (tkE 2 b e)) (tkE 2 (tkR 2 b e) (tkE 2 b e))) (tkE 4 (tkR 2 (tkR 2 b e) (tkE 2 b e)) (tkE 2 (tkR 2 b e) (tkE 2 b e))))
  (tkR 1 (tkR 4 (tkR 2 (tkR 2 b e) (tkE 2 b e)) (tkE 2 (tkR 2 b e) (tkE 2 b e))) (tkE 4 (tkR 2 (tkR 2 b e) (tkE 2 b e)) (tkE 2 (tkR 2 b e) (tkE 2 b e))))
  (tkE 1 (tkR 4 (tkR 2 (tkR 2 b e) (tkE 2 b e)) (tkE 2 (tkR 2 b e) (tkE 2 b e))) (tkE 4 (tkR 2 (tkR 2 b e) (tkE 2 b e)) (tkE 2 (tkR 2 b e) (tkE 2 b e)))) pas
def opX (b : Bs) (pas : Int) : TV := if b.length < 10 then opFail 0 [] else if ¬ nmB 1 b 0 = 4 then opFail 1 [bT 0, bT 4] else opMid (tkR 1 b 0) (tkE 1 b 0) pas
theorem op_fail (s : Int) : TVle (.tup [.agg [.val (.int .i64 0), .val (.int .i64 0), .val (.int .u32 0), .val (.slice none 0 0)], .agg [.val (.int .i64 2), .val (.int .i64 s), .val (.slice none 0 0)]]) (opFail s []) :=
 .tup ⟨.agg ⟨.refl _, .refl _, .refl _, .nil 2, trivial⟩, .agg ⟨.refl _, .refl _, .nil 1, trivial⟩, trivial⟩
theorem op_fail1 (tok : Tok) : TVle (.tup [.agg [.val (.int .i64 0), .val (.int .i64 0), .val (.int .u32 0), .val (.slice none 0 0)], .agg [.val (.int .i64 2), .val (.int .i64 1), .vec 1 [bT 0, bT 4] tok]]) (opFail 1 [bT 0, bT 4]) :=
 .tup ⟨.agg ⟨.refl _, .refl _, .refl _, .nil 2, trivial⟩, .agg ⟨.refl _, .refl _, .vec 1 _ _, trivial⟩, trivial⟩
theorem op_good (n h i : Int) (l : Bs) (tok : Tok) : TVle (.tup [.agg [.val (.int .i64 n), .val (.int .i64 h), .val (.int .u32 i), .vec 2 l tok], .agg [.val (.int .i64 0), .val (.int .i64 0), .val (.slice none 0 0)]]) (opGood n h i l) :=
 .tup ⟨.agg ⟨.refl _, .refl _, .refl _, .vec 2 _ _, trivial⟩, .agg ⟨.refl _, .refl _, .nil 1, trivial⟩, trivial⟩
theorem eqIt {q : IntKind} {x y : Int} (h : eqRes BinOp.eql (keyEq (.int q x) (.int q y)) = true) : x = y := by rw [eqI] at h; exact of_decide_eq_true h
theorem eqIf {q : IntKind} {x y : Int} (h : eqRes BinOp.eql (keyEq (.int q x) (.int q y)) = false) : ¬ x = y := by rw [eqI] at h; exact of_decide_eq_false h
theorem neIt {q : IntKind} {x y : Int} (h : eqRes BinOp.neq (keyEq (.int q x) (.int q y)) = true) : ¬ x = y := by rw [neI] at h; exact of_decide_eq_false (by simpa using h)
theorem neIf {q : IntKind} {x y : Int} (h : eqRes BinOp.neq (keyEq (.int q x) (.int q y)) = false) : x = y := by rw [neI] at h; exact of_decide_eq_true (by simpa using h)
section
variable {n h i k : Int} {b : Bs} {e pas : Int}
theorem opE_n (h1 : n = 0) : opEnd n h i k b e pas = opFail 2 [] := by unfold opEnd; rw [if_pos h1]
theorem opE_p (h1 : ¬ n = 0) (h2 : pas ≥ 1) (h3 : ¬ n = pas) : opEnd n h i k b e pas = opFail 2 [] := by unfold opEnd; rw [if_neg h1, if_pos ⟨h2, h3⟩]
theorem opE_h (h1 : ¬ n = 0) (h2 : ¬ (pas ≥ 1 ∧ ¬ n = pas)) (h3 : ¬ (h = 0 ∨ (h ≥ 3 ∧ h ≤ 65535))) : opEnd n h i k b e pas = opFail 6 [] := by unfold opEnd; rw [if_neg h1, if_neg h2, if_pos h3]
theorem opE_i (h1 : ¬ n = 0) (h2 : ¬ (pas ≥ 1 ∧ ¬ n = pas)) (h3 : h = 0 ∨ (h ≥ 3 ∧ h ≤ 65535)) (h4 : i = 0) : opEnd n h i k b e pas = opFail 3 [] := by unfold opEnd; rw [if_neg h1, if_neg h2, if_neg (fun c => c h3), if_pos h4]
theorem opE_k (h1 : ¬ n = 0) (h2 : ¬ (pas ≥ 1 ∧ ¬ n = pas)) (h3 : h = 0 ∨ (h ≥ 3 ∧ h ≤ 65535)) (h4 : ¬ i = 0) (h5 : ¬ k = leB b e) : opEnd n h i k b e pas = opFail 0 [] := by unfold opEnd; rw [if_neg h1, if_neg h2, if_neg (fun c => c h3), if_neg h4, if_pos h5]
theorem opE_e (h1 : ¬ n = 0) (h2 : ¬ (pas ≥ 1 ∧ ¬ n = pas)) (h3 : h = 0 ∨ (h ≥ 3 ∧ h ≤ 65535)) (h4 : ¬ i = 0) (h5 : k = leB b e) : opEnd n h i k b e pas = bif paO b e then opGood n h i (paL b e) else opFail (paS b e) [] := by unfold opEnd; rw [if_neg h1, if_neg h2, if_neg (fun c => c h3), if_neg h4, if_neg (fun c => c h5)]
end
end Go.Proofs.YtogbdjlelkepcaaGreatDoor
namespace Go.Proofs.YtogbdjlelkepcaaGreatDoor
open Go.RowKit

end Go.Proofs.YtogbdjlelkepcaaGreatDoor
namespace Go.Proofs.YtogbdjlelkepcaaGreatDoor
open Go.RowKit

end Go.Proofs.YtogbdjlelkepcaaGreatDoor
namespace Go.Proofs.YtogbdjlelkepcaaGreatDoor
open Go.RowKit

def o1 (B : Bs) : Bs := tkR (1 : Nat) B 0
def g1 (B : Bs) : Int := tkE (1 : Nat) B 0
def m1 (B : Bs) : Int := tkN (1 : Nat) B 0 0
def o2 (B : Bs) : Bs := tkR (2 : Nat) (o1 B) (g1 B)
def g2 (B : Bs) : Int := tkE (2 : Nat) (o1 B) (g1 B)
def m2 (B : Bs) : Int := tkN (2 : Nat) B (m1 B) (g1 B)
def o3 (B : Bs) : Bs := tkR (2 : Nat) (o2 B) (g2 B)
def g3 (B : Bs) : Int := tkE (2 : Nat) (o2 B) (g2 B)
def m3 (B : Bs) : Int := tkN (2 : Nat) B (m2 B) (g2 B)
def o4 (B : Bs) : Bs := tkR (4 : Nat) (o3 B) (g3 B)
def g4 (B : Bs) : Int := tkE (4 : Nat) (o3 B) (g3 B)
def o5 (B : Bs) : Bs := tkR (1 : Nat) (o4 B) (g4 B)
def g5 (B : Bs) : Int := tkE (1 : Nat) (o4 B) (g4 B)
end Go.Proofs.YtogbdjlelkepcaaGreatDoor
namespace Go.Proofs.YtogbdjlelkepcaaGreatDoor
open Go.RowKit

abbrev spF := 117
def z7 : VO := .cells [.val (.int .i64 0), .val (.int .i64 0), .val (.slice none 0 0)]
def f7 (s : Int) : VO := .cells [.val (.int .i64 3), .val (.int .i64 s), .val (.slice none 0 0)]
abbrev Tl7 := List (Nat × Nat × Bool)
def spK : List Nat := [2, 3, 4, 5]
def spV (L : Bs) : List TV := [.val (.slice none 0 0), .ptr 0 0, .ptr 1 0, .vec 3 L (.tail 0 L.length)]
def spR (N : Nat) (O : Bs → Int → Int → VO) (L : Bs) (ok : Bool) (K : KX) : Prop := bif ok then (∀ (bz : Bs) (az ez : Int), K .normal (slotsN N spK (spV L)) ⟨[z7, O bz az ez], [(L.length, 3, true)]⟩ []) else ∀ (rest : List VO) (tlz : Tl7) (Lz : Bs), K .ret (slotsN N spK (spV Lz)) ⟨f7 1 :: rest, tlz⟩ []
def spL (N : Nat) (O : Bs → Int → Int → VO) (b L : Bs) (ok : Bool) (c0 : Code) : Nat → Option (LSpec × Code) := specsL [(0, loopL N spK [(5, 3)] (spV []) ⟨[z7, O b 0 0], [(0, 3, true)]⟩ (spR N O L ok), c0)]
theorem ev_sp (b L : Bs) (ok : Bool) (Q : TV → VT → Prop) : vcallF Tryz.prog noGl (specs [(wRdF, sreadW)]) noOra 300 (spL 41 srcO b L ok (codeAt Tryz.prog spF 0)) 0 spF [.vec 1 b .none] zz151 Q =
 (IsB (b) ∧
 ((codeAt Tryz.prog spF (0 : Nat) = codeAt Tryz.prog spF (0 : Nat)) ∧
 (((@Eq (Option Nat) .none .none) ∧
 ((@Eq (Nat) 0 0) ∧
 ((@Eq (List Nat) [] []) ∧
 (((@Eq (Option TV) (.some zz5) (.some zz5)) ∧
 True ) ∧
 ((@Eq (VT) ⟨[zz33, (.cells [zz27, (zz1 b), zz6, zz6])], [(0, (3, true))]⟩ ⟨[zz33, (.cells [zz27, (zz1 b), zz6, zz6])], [(0, (3, true))]⟩) ∧
 ((@Eq (Bool) true true) ∧
 (@Eq (List TV) [zz5, zz19, zz20, (.vec 3 [] (.tail 0 0))] [zz5, zz19, zz20, (.vec 3 [] (.tail 0 0))]))))))) ∧
 (bif ok
 then (∀ bz : Bs, (∀ az : Int, (∀ ez : Int, Q (.tup [(zz131 L (List.length L)), zz46]) ⟨[zz33, (.cells [zz27, (zz1 bz), (zz0 az), (zz0 ez)])], [((List.length L), (3, true))]⟩)))
 else (∀ rest : List VO, (∀ tlz : Tl7, (∀ Lz : Bs, Q (.tup [zz5, zz133]) ⟨[(.cells [(.val (.int .i64 3)), (.val (.int .i64 1)), (.val (.slice .none 0 0))])] ++ rest, tlz⟩))))))) := by kernel_rfl
theorem ev_spA (b L : Bs) (p : List TV) (a : Int) (Q : Exit → List TV → VT → List Nat → Nat → Prop) : vx Tryz.prog noGl (specs [(wLeF, slW), (wU8F, snU .i64 1), (wU16F, snU .i64 2), (wByF, sbU), (wErF, seW)]) (tellS [(999999, .dead, none), (38, .vec 3 (L ++ [p]) (.tail 0 (L.length + 1)), some fun T => { T with tails := [(L.length + 1, 3, true)] })]) 300 noLp none 0 (loopAt Tryz.prog spF 0) (slotsN 41 spK (spV L)) ⟨[z7, srcO b a 0], [(L.length, 3, true)]⟩ [] (pickS spK Q) =
 (((@Eq (Bool) true true) ∧
 IsB (b)) ∧
 (bif decide (leB b (0 : Int) > (0 : Int))
 then (((@Eq (Bool) true true) ∧
 IsB (b)) ∧
 (∀ z : Int, (∀ bz : Bs, (∀ az : Int, (∀ ez : Int, (((@Eq (Int) (z) (nmB (1 : Nat) b (0 : Int))) ∧
 ((@Eq (Bs) (bz) (tkR (↑(1 : Nat) : Int) b (0 : Int))) ∧
 (@Eq (Int) (ez) (tkE (↑(1 : Nat) : Int) b (0 : Int))))) → (((@Eq (Bool) true true) ∧
 IsB (bz)) ∧
 (∀ z_10 : Int, (∀ bz_11 : Bs, (∀ az_12 : Int, (∀ ez_13 : Int, (((@Eq (Int) (z_10) (nmB (1 : Nat) bz ez)) ∧
 ((@Eq (Bs) (bz_11) (tkR (↑(1 : Nat) : Int) bz ez)) ∧
 (@Eq (Int) (ez_13) (tkE (↑(1 : Nat) : Int) bz ez)))) → (bif eqRes BinOp.neq (k6 (IntKind.wrap IntKind.i64 (↑(BitVec.toNat (BitVec.ofInt (IntKind.bits IntKind.i64) z &&& BitVec.ofInt (IntKind.bits IntKind.i64) (16 : Int))) : Int)) (0 : Int))
 then (((@Eq (Bool) true true) ∧
 IsB (bz_11)) ∧
 (∀ z_15 : Int, (∀ bz_16 : Bs, (∀ az_17 : Int, (∀ ez_18 : Int, (((@Eq (Int) (z_15) (nmB (2 : Nat) bz_11 ez_13)) ∧
 ((@Eq (Bs) (bz_16) (tkR (↑(2 : Nat) : Int) bz_11 ez_13)) ∧
 (@Eq (Int) (ez_18) (tkE (↑(2 : Nat) : Int) bz_11 ez_13)))) → (((@Eq (Bool) true true) ∧
 IsB (bz_16)) ∧
 (∀ v : Bs, (∀ bz_21 : Bs, (∀ az_22 : Int, (∀ ez_23 : Int, (((@Eq (Bs) (v) (tkB z_15 bz_16 ez_18)) ∧
 ((@Eq (Bs) (bz_21) (tkR z_15 bz_16 ez_18)) ∧
 (@Eq (Int) (ez_23) (tkE z_15 bz_16 ez_18)))) → (((@Eq (Bool) true true) ∧
 IsB (bz_21)) ∧
 (bif eqRes BinOp.neq (k6 ez_23 (0 : Int))
 then Q .ret (zz132 L (List.length L)) ⟨[zz130, (.cells [zz27, (zz1 bz_21), (zz0 az_22), (zz0 ez_23)]), (zz2 z z_10 v)], [((List.length L), (3, true))]⟩ [] 41
 else (OTurn Tryz.prog (fun _ => .none) 0 ⟨[zz33, (.cells [zz27, (zz1 bz_21), (zz0 az_22), (zz0 ez_23)]), (zz2 z z_10 v)], [((List.length L), (3, true))]⟩ (.call ⟨(.builtin .append), #[(.tmp 35), (.tmp 37)], #[199, 199]⟩) [(35, (zz131 L (List.length L))), (37, (.vec 3 [[(.val (.int .i64 (z))), (.val (.int .i64 (z_10))), (.vec 1 (v) .none)]] .full))] (zz131 (L ++ [p]) (List.length L + (1 : Nat))) ⟨[zz33, (.cells [zz27, (zz1 bz_21), (zz0 az_22), (zz0 ez_23)]), (zz2 z z_10 v)], [((List.length L + (1 : Nat)), (3, true))]⟩ ∧
 Q .normal (zz132 (L ++ [p]) (List.length L + (1 : Nat))) ⟨[zz33, (.cells [zz27, (zz1 bz_21), (zz0 az_22), (zz0 ez_23)]), (zz2 z z_10 v)], [((List.length L + (1 : Nat)), (3, true))]⟩ [] 41)))))))))))))))
 else (((@Eq (Bool) true true) ∧
 IsB (bz_11)) ∧
 (∀ z_15 : Int, (∀ bz_16 : Bs, (∀ az_17 : Int, (∀ ez_18 : Int, (((@Eq (Int) (z_15) (nmB (1 : Nat) bz_11 ez_13)) ∧
 ((@Eq (Bs) (bz_16) (tkR (↑(1 : Nat) : Int) bz_11 ez_13)) ∧
 (@Eq (Int) (ez_18) (tkE (↑(1 : Nat) : Int) bz_11 ez_13)))) → (((@Eq (Bool) true true) ∧
 IsB (bz_16)) ∧
 (∀ v : Bs, (∀ bz_21 : Bs, (∀ az_22 : Int, (∀ ez_23 : Int, (((@Eq (Bs) (v) (tkB z_15 bz_16 ez_18)) ∧
 ((@Eq (Bs) (bz_21) (tkR z_15 bz_16 ez_18)) ∧
 (@Eq (Int) (ez_23) (tkE z_15 bz_16 ez_18)))) → (((@Eq (Bool) true true) ∧
 IsB (bz_21)) ∧
 (bif eqRes BinOp.neq (k6 ez_23 (0 : Int))
 then Q .ret (zz132 L (List.length L)) ⟨[zz130, (.cells [zz27, (zz1 bz_21), (zz0 az_22), (zz0 ez_23)]), (zz2 z z_10 v)], [((List.length L), (3, true))]⟩ [] 41
 else (OTurn Tryz.prog (fun _ => .none) 0 ⟨[zz33, (.cells [zz27, (zz1 bz_21), (zz0 az_22), (zz0 ez_23)]), (zz2 z z_10 v)], [((List.length L), (3, true))]⟩ (.call ⟨(.builtin .append), #[(.tmp 35), (.tmp 37)], #[199, 199]⟩) [(35, (zz131 L (List.length L))), (37, (.vec 3 [[(.val (.int .i64 (z))), (.val (.int .i64 (z_10))), (.vec 1 (v) .none)]] .full))] (zz131 (L ++ [p]) (List.length L + (1 : Nat))) ⟨[zz33, (.cells [zz27, (zz1 bz_21), (zz0 az_22), (zz0 ez_23)]), (zz2 z z_10 v)], [((List.length L + (1 : Nat)), (3, true))]⟩ ∧
 Q .normal (zz132 (L ++ [p]) (List.length L + (1 : Nat))) ⟨[zz33, (.cells [zz27, (zz1 bz_21), (zz0 az_22), (zz0 ez_23)]), (zz2 z z_10 v)], [((List.length L + (1 : Nat)), (3, true))]⟩ [] 41))))))))))))))))))))))))))))
 else Q (.exit 0) (zz132 L (List.length L)) ⟨[zz33, (.cells [zz27, (zz1 b), (zz0 a), zz6])], [((List.length L), (3, true))]⟩ [] 41)) := by kernel_rfl
end Go.Proofs.YtogbdjlelkepcaaGreatDoor
namespace Go.Proofs.YtogbdjlelkepcaaGreatDoor
open Go.RowKit

def exF (z : Int) : Bool := eqRes BinOp.neq (keyEq (Value.int IntKind.i64 (IntKind.wrap IntKind.i64 (BitVec.toNat (BitVec.ofInt (IntKind.bits IntKind.i64) z &&& BitVec.ofInt (IntKind.bits IntKind.i64) (16 : Int)) : Nat))) (Value.int IntKind.i64 (0 : Int)))
def saC (b : Bs) : Int := nmB 1 b 0
def szK (b : Bs) : Nat := bif exF (saC b) then 2 else 1
def saT (b : Bs) : Int := nmB 1 (tkR 1 b 0) (tkE 1 b 0)
def saR2 (b : Bs) : Bs := tkR 1 (tkR 1 b 0) (tkE 1 b 0)
def saE2 (b : Bs) : Int := tkE 1 (tkR 1 b 0) (tkE 1 b 0)
def saN (b : Bs) : Int := nmB (szK b) (saR2 b) (saE2 b)
def saR3 (b : Bs) : Bs := tkR (szK b) (saR2 b) (saE2 b)
def saE3 (b : Bs) : Int := tkE (szK b) (saR2 b) (saE2 b)
def saV (b : Bs) : Bs := tkB (saN b) (saR3 b) (saE3 b)
def saB (b : Bs) : Bs := tkR (saN b) (saR3 b) (saE3 b)
def saZ (b : Bs) : Int := tkE (saN b) (saR3 b) (saE3 b)
abbrev Rw3 := Int × Int × Bs
def saGo : Nat → Bs → List Rw3 → Option (List Rw3)
 | 0, _, _ => none
 | k + 1, b, acc => bif decide (leB b 0 > 0) then (bif decide (saZ b = 0) then saGo k (saB b) (acc ++ [(saC b, saT b, saV b)]) else none) else some acc
def saP (b : Bs) : Option (List Rw3) := saGo (b.length + 1) b []
def saE (p : Rw3) : List TV := [.val (.int .i64 p.1), .val (.int .i64 p.2.1), .vec 1 p.2.2 .none]
def saA (b : Bs) : List Rw3 := (saP b).getD []
def saL (b : Bs) : Bs := (saA b).map saE
def saO (b : Bs) : Bool := (saP b).isSome
def saX (b : Bs) : TV := .tup [.vec 3 (saL b) .none, .agg [.val (.int .i64 (bif saO b then 0 else 3)), .val (.int .i64 (bif saO b then 0 else 1)), .vec 1 [] .none]]
def All3 (l : List Rw3) : Prop := ∀ p ∈ l, IsB p.2.2
theorem All3.nil : All3 [] := fun p hp => by simp at hp
theorem All3.snoc {l : List Rw3} (h : All3 l) {c t : Int} {v : Bs} (hv : IsB v) : All3 (l ++ [(c, t, v)]) := fun p hp => by
 rcases List.mem_append.1 hp with h1 | h1
 ·exact h p h1
 ·obtain rfl := List.mem_singleton.1 h1; exact hv
theorem renLL_sa (f g : Nat → Option Nat) : ∀ {l : List Rw3}, All3 l → renLL f g (l.map saE) = l.map saE
 | [], _ => rfl
 | a :: l, h => by
  have h1 := renLL_sa f g (l := l) fun p hp => h p (List.mem_cons_of_mem _ hp)
  have h2 := (h a List.mem_cons_self).ren f g
  simp only [List.map_cons, renLL, h1, saE, renL, TV.ren, h2, Tok.ren]
theorem saV_is {b : Bs} (h : IsB b) : IsB (saV b) := tkB_is (tkR_is (tkR_is (tkR_is h)))
theorem saB_is {b : Bs} (h : IsB b) : IsB (saB b) := tkR_is (tkR_is (tkR_is (tkR_is h)))
theorem saB_lt {b : Bs} (h : leB b 0 > 0) : (saB b).length < b.length := by
 have h1 := tk1_len h
 have h2 := tkR_le (n := 1) (b := tkR 1 b 0) (e := tkE 1 b 0)
 have h3 := tkR_le (n := szK b) (b := saR2 b) (e := saE2 b)
 have h4 := tkR_le (n := saN b) (b := saR3 b) (e := saE3 b)
 unfold saB
 unfold saR2 at h3
 unfold saR3 saR2 at h4
 unfold saR3 saR2
 omega
theorem saGo_fuel : ∀ (k j : Nat) (b : Bs) (acc : List Rw3), b.length < k → b.length < j → saGo k b acc = saGo j b acc
 | 0, _, _, _, h, _ => absurd h (Nat.not_lt_zero _)
 | _, 0, _, _, _, h => absurd h (Nat.not_lt_zero _)
 | k + 1, j + 1, b, acc, h1, h2 => by
  unfold saGo
  by_cases hl : leB b 0 > 0
  ·have := saB_lt hl
   rw [decide_eq_true hl, saGo_fuel k j (saB b) _ (by omega) (by omega)]
  ·rw [decide_eq_false hl]; rfl
theorem saGo_step {b : Bs} {acc : List Rw3} (hl : leB b 0 > 0) (hz : saZ b = 0) : saGo (b.length + 1) b acc = saGo ((saB b).length + 1) (saB b) (acc ++ [(saC b, saT b, saV b)]) := by
 have := saB_lt hl
 rw [saGo_fuel ((saB b).length + 1) b.length (saB b) _ (by omega) (by omega)]
 simp only [saGo, decide_eq_true hl, decide_eq_true hz, cond_true]
theorem saGo_bad {b : Bs} {acc : List Rw3} (hl : leB b 0 > 0) (hz : ¬ saZ b = 0) : saGo (b.length + 1) b acc = none := by
 simp only [saGo, decide_eq_true hl, decide_eq_false hz, cond_true, cond_false]
theorem saGo_end {b : Bs} {acc : List Rw3} (hl : ¬ leB b 0 > 0) : saGo (b.length + 1) b acc = some acc := by
 simp only [saGo, decide_eq_false hl, cond_false]
theorem saGo_is : ∀ (k : Nat) (b : Bs) (acc : List Rw3), IsB b → All3 acc → ∀ l, saGo k b acc = some l → All3 l
 | 0, _, _, _, _, l, h => by cases h
 | k + 1, b, acc, hb, ha, l, h => by
  unfold saGo at h
  cases h1 : decide (leB b 0 > 0) <;> rw [h1] at h
  ·injection h with h; subst h; exact ha
  ·cases h2 : decide (saZ b = 0) <;> rw [h2] at h
   ·cases h
   ·exact saGo_is k _ _ (saB_is hb) (ha.snoc (saV_is hb)) l h
theorem saA_is {b : Bs} (hb : IsB b) : All3 (saA b) := by
 unfold saA
 cases h : saP b with
 | none => exact .nil
 | some l => exact saGo_is _ _ _ hb .nil l h
theorem sa_eqs {b : Bs} {k : Nat} (hk : szK b = k) {z ez z2 e2 z3 e3 e4 : Int} {bz b2 b3 v b4 : Bs} (h1 : z = nmB (1 : Nat) b 0 ∧ bz = tkR (1 : Nat) b 0 ∧ ez = tkE (1 : Nat) b 0) (h2 : z2 = nmB (1 : Nat) bz ez ∧ b2 = tkR (1 : Nat) bz ez ∧ e2 = tkE (1 : Nat) bz ez) (h3 : z3 = nmB k b2 e2 ∧ b3 = tkR k b2 e2 ∧ e3 = tkE k b2 e2) (h4 : v = tkB z3 b3 e3 ∧ b4 = tkR z3 b3 e3 ∧ e4 = tkE z3 b3 e3) :
  z = saC b ∧ z2 = saT b ∧ v = saV b ∧ b4 = saB b ∧ e4 = saZ b := by
 obtain ⟨rfl, rfl, rfl⟩ := h1
 obtain ⟨rfl, rfl, rfl⟩ := h2
 subst hk
 obtain ⟨rfl, rfl, rfl⟩ := h3
 obtain ⟨rfl, rfl, rfl⟩ := h4
 exact ⟨rfl, rfl, rfl, rfl, rfl⟩
theorem raInf_ex : ∃ inf : TypeInfo, Tryz.prog.info? 204 = some inf ∧ inf.size = 3 ∧ inf.bytes + 1 ≤ 1000 ∧ inf.zero = some (.agg #[.int .i64 0, .int .i64 0, .slice none 0 0]) :=
 ⟨(Tryz.prog.info? 204).getD default, by kernel_rfl, by kernel_rfl, Nat.le_of_ble_eq_true (by kernel_rfl), by kernel_rfl⟩
theorem oturn_ra {ro : Nat} {T T1 : VT} {s x : Operand} {l : List (Nat × TV)} {es es2 : List (List TV)} {k n : Nat} {bn : Bool} (hs : vadopt T 3 (evOf noGl l s) = some (es, k, n, bn, T1)) (hx : srcOf 3 (evOf noGl l x) = some es2) (hb : es.length + es2.length ≤ 2000001) :
    OTurn Tryz.prog noGl ro T (.call ⟨.builtin .append, #[s, x], #[199, 199]⟩) l (.vec 3 (es ++ es2) (.tail k (n + es2.length))) { T1 with tails := T1.tails.set k (n + es2.length, 3, bn) } := by
  obtain ⟨inf, i1, i2, i3, i4⟩ := raInf_ex
  have h := oturn_app (inf := inf) (P := Tryz.prog) (G := noGl) (ro := ro) (T := T) (T1 := T1) (t := 199) (tx := 199) (s := s) (x := x) (l := l) (es := es) (es2 := es2) (k := k) (n := n) (bn := bn) Tryz.underlying199 i1 i4 (by rw [i2]; rfl) (by rw [i2]; decide) (by kernel_rfl) (by rw [i2]; exact hs) (by rw [i2]; exact hx)
    (by have h1 := i3
        have h2 := Nat.mul_le_mul hb h1
        omega)
  rw [i2] at h
  exact h
def spPost (N : Nat) (O : Bs → Int → Int → VO) (b0 : Bs) (ex : Exit) (vs : List TV) (T : VT) : Prop :=
 (∃ (l : List Rw3) (bz : Bs) (az ez : Int), saP b0 = some l ∧ ex = .normal ∧ vs = spV (l.map saE) ∧ T = ⟨[z7, O bz az ez], [(l.length, 3, true)]⟩) ∨
 (∃ (rest : List VO) (tlz : Tl7) (Lz : Bs), saP b0 = none ∧ ex = .ret ∧ vs = spV Lz ∧ T = ⟨f7 1 :: rest, tlz⟩)
theorem spPost_ok {N : Nat} {O : Bs → Int → Int → VO} {b0 : Bs} {K : KX} (hK : spR N O (saL b0) (saO b0) K) {ex : Exit} {vs : List TV} {T : VT} (h : spPost N O b0 ex vs T) : K ex (slotsN N spK vs) T [] := by
 unfold spR at hK
 rcases h with ⟨l, bz, az, ez, h1, rfl, rfl, rfl⟩ | ⟨rest, tlz, Lz, h1, rfl, rfl, rfl⟩
 ·simp only [saO, h1, Option.isSome_some, cond_true, saL, saA, Option.getD_some, List.length_map] at hK
  exact hK bz az ez
 ·simp only [saO, h1, Option.isSome_none, cond_false] at hK
  exact hK rest tlz Lz
theorem sp_round {b0 : Bs} (h0 : IsB b0) (K : KX) (hK : spR 41 srcO (saL b0) (saO b0) K) : VWx Tryz.prog noGl none 0 (codeAt Tryz.prog spF 0) (slotsN 41 spK (spV [])) ⟨[z7, srcO b0 0 0], [(0, 3, true)]⟩ [] K := by
  let sl : Bs × Int × List Rw3 → List TV := fun s => spV (s.2.2.map saE)
  let TT : Bs × Int × List Rw3 → VT := fun s => ⟨[z7, srcO s.1 s.2.1 0], [(s.2.2.length, 3, true)]⟩
  refine loopK (f := spF) (id := 0) (by kernel_rfl) 41 spK (fun s : Bs × Int × List Rw3 => s.1.length) sl TT (fun s => IsB s.1 ∧ All3 s.2.2 ∧ s.2.2.length + s.1.length ≤ b0.length ∧ saGo (s.1.length + 1) s.1 s.2.2 = saP b0) 2 1 (fun _ _ => ⟨Nat.le_refl _, Nat.le_refl _⟩)
    (spPost 41 srcO b0) (fun s hs => ?_) ⟨b0, 0, []⟩ ⟨h0, .nil, by simp, rfl⟩ K (fun ex vs T h => spPost_ok hK h)
  obtain ⟨b, a, acc⟩ := s
  obtain ⟨hrem, ha, hlen, hgo⟩ := hs
  have hsm := h0.small
  simp only at hrem ha hlen hgo
  have hS : SpecsOk Tryz.prog noGl (specs [(wLeF, slW), (wU8F, snU .i64 1), (wU16F, snU .i64 2), (wByF, sbU), (wErF, seW)]) := specs_ok fun p hp => by
    rcases List.mem_cons.1 hp with rfl | hp; exact wLe_ok
    rcases List.mem_cons.1 hp with rfl | hp; exact fun ro ys T K h => wU8_ok _ _ _ _ (snU_le h)
    rcases List.mem_cons.1 hp with rfl | hp; exact fun ro ys T K h => wU16_ok _ _ _ _ (snU_le h)
    rcases List.mem_cons.1 hp with rfl | hp; exact fun ro ys T K h => wBy_ok _ _ _ _ (sbU_le h)
    obtain rfl := List.mem_singleton.1 hp; exact wEr_ok
  have hv := ev_spA b (acc.map saE) (saE (saC b, saT b, saV b)) a
  rw [List.length_map] at hv
  refine vx_is mixedB_Tryz bodiesB_Tryz hS lsOk_none (hv _) ?_
  refine ⟨⟨rfl, hrem⟩, ?_⟩
  by_cases hl : leB b 0 > 0
  · have hlt := saB_lt hl
    refine condT (decide_eq_true hl) ⟨⟨rfl, hrem⟩, ?_⟩
    intro z bz az ez hq1
    have hbz : IsB bz := by rw [hq1.2.1]; exact tkR_is hrem
    refine ⟨⟨rfl, hbz⟩, ?_⟩
    intro z2 b2 a2 e2 hq2
    have hb2 : IsB b2 := by rw [hq2.2.1]; exact tkR_is hbz
    have hzc : z = saC b := hq1.1
    refine cond_of (fun hx => ?_) (fun hx => ?_)
    · rw [hzc] at hx
      have hk : szK b = 2 := by unfold szK; rw [show exF (saC b) = true from hx]; rfl
      refine ⟨⟨rfl, hb2⟩, ?_⟩
      intro z3 b3 a3 e3 hq3
      have hb3 : IsB b3 := by rw [hq3.2.1]; exact tkR_is hb2
      refine ⟨⟨rfl, hb3⟩, ?_⟩
      intro v b4 a4 e4 hq4
      have hb4 : IsB b4 := by rw [hq4.2.1]; exact tkR_is hb3
      obtain ⟨rfl, rfl, rfl, rfl, rfl⟩ := sa_eqs hk hq1 hq2 hq3 hq4
      refine ⟨⟨rfl, hb4⟩, ?_⟩
      by_cases hz : saZ b = 0
      · have ha2 : All3 (acc ++ [(saC b, saT b, saV b)]) := ha.snoc (saV_is hrem)
        have e1 : (acc ++ [(saC b, saT b, saV b)]).map saE = acc.map saE ++ [saE (saC b, saT b, saV b)] := by rw [List.map_append]; rfl
        rw [hz]
        refine condF (by rw [neI]; rfl) ⟨?_, rfl, rfl, ⟨saB b, a4, acc ++ [(saC b, saT b, saV b)]⟩, ⟨hb4, ha2, by simp only [List.length_append, List.length_cons, List.length_nil]; omega, by rw [← hgo]; exact (saGo_step hl hz).symm⟩, hlt, .inr ⟨?_, ?_⟩⟩
        · have h := oturn_ra (ro := 0) (T := ⟨[z7, srcO (saB b) a4 0, .cells (saE (saC b, saT b, saV b))], [(acc.length, 3, true)]⟩) (T1 := ⟨[z7, srcO (saB b) a4 0, .cells (saE (saC b, saT b, saV b))], [(acc.length, 3, true)]⟩) (s := .tmp 35) (x := .tmp 37) (l := [(35, .vec 3 (acc.map saE) (.tail 0 acc.length)), (37, .vec 3 [saE (saC b, saT b, saV b)] .full)]) (es := acc.map saE) (es2 := [saE (saC b, saT b, saV b)]) (k := 0) (n := acc.length) (bn := true)
            (by simp [evOf, evFind, vadopt]) rfl (by simp only [List.length_map, List.length_cons, List.length_nil]; omega)
          exact h
        · refine (show VT.keep ⟨z7 :: srcO (saB b) a4 0 :: _, _⟩ 2 1 = _ from ?_)
          simp only [VT.keep, List.take_succ_cons, List.take_zero, List.map_cons, List.map_nil, srcO_ren hb4]
          simp only [TT, List.length_append, List.length_cons, List.length_nil]
          rfl
        · have e2 := renLL_sa (Go.Proofs.YtogbdjlelkepcaaGreatDoor.keep 2) (Go.Proofs.YtogbdjlelkepcaaGreatDoor.keep 1) ha2
          rw [e1] at e2
          simp only [renL, TV.ren, e2, Tok.ren]
          simp only [sl, spV, e1, List.length_append, List.length_map, List.length_cons, List.length_nil]
          rfl
      · refine condT (by rw [neI]; exact congrArg Bool.not (decide_eq_false hz)) ⟨rfl, rfl, .inr ⟨_, _, acc.map saE, by rw [← hgo]; exact saGo_bad hl hz, rfl, by simp only [spV, List.length_map], rfl⟩⟩
    · rw [hzc] at hx
      have hk : szK b = 1 := by unfold szK; rw [show exF (saC b) = false from hx]; rfl
      refine ⟨⟨rfl, hb2⟩, ?_⟩
      intro z3 b3 a3 e3 hq3
      have hb3 : IsB b3 := by rw [hq3.2.1]; exact tkR_is hb2
      refine ⟨⟨rfl, hb3⟩, ?_⟩
      intro v b4 a4 e4 hq4
      have hb4 : IsB b4 := by rw [hq4.2.1]; exact tkR_is hb3
      obtain ⟨rfl, rfl, rfl, rfl, rfl⟩ := sa_eqs hk hq1 hq2 hq3 hq4
      refine ⟨⟨rfl, hb4⟩, ?_⟩
      by_cases hz : saZ b = 0
      · have ha2 : All3 (acc ++ [(saC b, saT b, saV b)]) := ha.snoc (saV_is hrem)
        have e1 : (acc ++ [(saC b, saT b, saV b)]).map saE = acc.map saE ++ [saE (saC b, saT b, saV b)] := by rw [List.map_append]; rfl
        rw [hz]
        refine condF (by rw [neI]; rfl) ⟨?_, rfl, rfl, ⟨saB b, a4, acc ++ [(saC b, saT b, saV b)]⟩, ⟨hb4, ha2, by simp only [List.length_append, List.length_cons, List.length_nil]; omega, by rw [← hgo]; exact (saGo_step hl hz).symm⟩, hlt, .inr ⟨?_, ?_⟩⟩
        · have h := oturn_ra (ro := 0) (T := ⟨[z7, srcO (saB b) a4 0, .cells (saE (saC b, saT b, saV b))], [(acc.length, 3, true)]⟩) (T1 := ⟨[z7, srcO (saB b) a4 0, .cells (saE (saC b, saT b, saV b))], [(acc.length, 3, true)]⟩) (s := .tmp 35) (x := .tmp 37) (l := [(35, .vec 3 (acc.map saE) (.tail 0 acc.length)), (37, .vec 3 [saE (saC b, saT b, saV b)] .full)]) (es := acc.map saE) (es2 := [saE (saC b, saT b, saV b)]) (k := 0) (n := acc.length) (bn := true)
            (by simp [evOf, evFind, vadopt]) rfl (by simp only [List.length_map, List.length_cons, List.length_nil]; omega)
          exact h
        · refine (show VT.keep ⟨z7 :: srcO (saB b) a4 0 :: _, _⟩ 2 1 = _ from ?_)
          simp only [VT.keep, List.take_succ_cons, List.take_zero, List.map_cons, List.map_nil, srcO_ren hb4]
          simp only [TT, List.length_append, List.length_cons, List.length_nil]
          rfl
        · have e2 := renLL_sa (Go.Proofs.YtogbdjlelkepcaaGreatDoor.keep 2) (Go.Proofs.YtogbdjlelkepcaaGreatDoor.keep 1) ha2
          rw [e1] at e2
          simp only [renL, TV.ren, e2, Tok.ren]
          simp only [sl, spV, e1, List.length_append, List.length_map, List.length_cons, List.length_nil]
          rfl
      · refine condT (by rw [neI]; exact congrArg Bool.not (decide_eq_false hz)) ⟨rfl, rfl, .inr ⟨_, _, acc.map saE, by rw [← hgo]; exact saGo_bad hl hz, rfl, by simp only [spV, List.length_map], rfl⟩⟩
  · exact condF (decide_eq_false hl) ⟨rfl, rfl, .inl ⟨acc, b, a, 0, by rw [← hgo]; exact saGo_end hl, rfl, by simp only [spV, List.length_map], rfl⟩⟩
theorem sp_loop {b : Bs} (h : IsB b) : LsOk Tryz.prog noGl (spL 41 srcO b (saL b) (saO b) (codeAt Tryz.prog spF 0)) := specsL_ok fun p hp => by
 obtain rfl := List.mem_singleton.1 hp
 exact loopL_ok fun K hK => sp_round h K hK
theorem sa_bad {b : Bs} (h : saO b = false) : TVle (.tup [.val (.slice none 0 0), .agg [.val (.int .i64 3), .val (.int .i64 1), .val (.slice none 0 0)]]) (saX b) := by
 have hl : saL b = [] := by
  unfold saL saA
  unfold saO at h
  cases hc : saP b with
  | none => rfl
  | some l => rw [hc] at h; cases h
 unfold saX
 rw [h, hl]
 exact .tup ⟨.nil 3, .agg ⟨.refl _, .refl _, .nil 1, trivial⟩, trivial⟩
theorem sa_good {b : Bs} (h : saO b = true) (tok : Tok) : TVle (.tup [.vec 3 (saL b) tok, .agg [.val (.int .i64 0), .val (.int .i64 0), .val (.slice none 0 0)]]) (saX b) := by
 unfold saX
 rw [h]
 exact .tup ⟨.vec 3 _ _, .agg ⟨.refl _, .refl _, .nil 1, trivial⟩, trivial⟩
theorem saL_ren {b : Bs} (hb : IsB b) (f g : Nat → Option Nat) : renLL f g (saL b) = saL b := renLL_sa f g (saA_is hb)
theorem sp_vcx {b : Bs} (hb : IsB b) : VCx Tryz.prog noGl 0 spF [.vec 1 b .none] ⟨[], []⟩ fun x T' => x = saX b ∧ T' = ⟨[], []⟩ := by
 refine VCx.toLe (Q := fun T' => T' = ⟨[], []⟩) (VCx.keepQ 0 0 (Nat.le_refl _) (Nat.le_refl _) (vcallF_is mixedB_Tryz bodiesB_Tryz (specs_ok fun p hp => by obtain rfl := List.mem_singleton.1 hp; exact wRdW_ok) (sp_loop hb) (ev_sp b (saL b) (saO b) _) ?_))
 refine ⟨hb, rfl, ⟨rfl, rfl, rfl, ⟨rfl, trivial⟩, rfl, rfl, rfl⟩, ?_⟩
 cases h : saO b
 ·exact fun rest tlz Lz => ⟨sa_bad h, rfl⟩
 ·refine fun bz az ez => ⟨?_, rfl⟩
  simp only [TV.ren, renL, saL_ren hb]
  exact sa_good h _
end Go.Proofs.YtogbdjlelkepcaaGreatDoor
namespace Go.Proofs.YtogbdjlelkepcaaGreatDoor
open Go.RowKit

abbrev ptF := 160
abbrev ctF := 178
abbrev ixF := 184
def iT (z : Int) : List TV := [.val (.int .i64 z)]
def iV (l : List Int) : Bs := l.map iT
def ixK : List Nat := [0, 1, 4, 6, 7, 8]
def ixV (L : Bs) (v r j : Int) : List TV := [.vec 1 L .none, .val (.int .i64 v), .val (.int .i64 r), .vec 1 L .none, .val (.int .i64 L.length), .val (.int .i64 j)]
def ixL (L : Bs) (v r j : Int) (hit : Bool) (c0 : Code) : Nat → Option (LSpec × Code) := specsL [(0, loopL 19 ixK [] (ixV L v 0 0) ⟨[], []⟩ fun K => bif hit then K .ret (slotsN 19 ixK (ixV L v r j)) ⟨[], []⟩ [] else K .normal (slotsN 19 ixK (ixV L v 0 L.length)) ⟨[], []⟩ [], c0)]
def has0 (L : Bs) : Bool := L.any fun r => decide (bval r = 0)
def ISm (L : Bs) : Prop := ∃ l : List Int, L = iV l ∧ l.length ≤ 1000
def ctW : Spec := fun _ ys T K => match ys with
 | [.vec 1 L _, .val (.int .i64 0)] => ISm L ∧ K (.val (.bool (has0 L))) T
 | _ => False
def ptK : List Nat := [2, 3, 4, 5]
def ptV (L : Bs) : List TV := [.val (.slice none 0 0), .val (.bool false), .ptr 0 0, .vec 1 L (.tail 0 L.length)]
def ptKI : List Nat := [2, 3, 4, 5, 35, 36]
def ptW (L : Bs) (n j : Int) : List TV := [.val (.slice none 0 0), .val (.bool false), .ptr 0 0, .vec 1 L (.tail 0 L.length), .val (.int .i64 n), .val (.int .i64 j)]
def ptLI (b b' L L' : Bs) (a e a' e' n : Int) (c0 : Code) : Nat → Option (LSpec × Code) := specsL [(2, loopL 55 ptKI [] (ptW L n 0) ⟨[srcO b a e], [(L.length, 1, true)]⟩ (fun K => K .normal (slotsN 55 ptKI (ptW L' n n)) ⟨[srcO b' a' e'], [(L'.length, 1, true)]⟩ []), c0)]
def ptR (P : Bs → Int → Prop) (N : Prop) (K : KX) : Prop := (∀ (L bz : Bs) (az ez : Int), (IsB bz ∧ P L ez) → K .normal (slotsN 55 ptK (ptV L)) ⟨[srcO bz az ez], [(L.length, 1, true)]⟩ []) ∧ (∀ (rest : List VO) (tlz : List (Nat × Nat × Bool)) (Lz : Bs), N → K .ret (slotsN 55 ptK (ptV Lz)) ⟨rest, tlz⟩ [])
def ptL (b : Bs) (P : Bs → Int → Prop) (N : Prop) (c0 : Code) : Nat → Option (LSpec × Code) := specsL [(0, loopL 55 ptK [(5, 1)] (ptV []) ⟨[srcO b 0 0], [(0, 1, true)]⟩ (ptR P N), c0)]
theorem ev_ix (L : Bs) (v r j : Int) (hit : Bool) (Q : TV → VT → Prop) : vcallF Tryz.prog noGl noSp noOra 300 (ixL L v r j hit (codeAt Tryz.prog ixF 0)) 0 ixF [.vec 1 L .none, .val (.int .i64 v)] zz151 Q =
 ((codeAt Tryz.prog ixF (0 : Nat) = codeAt Tryz.prog ixF (0 : Nat)) ∧
 (((@Eq (Option Nat) .none .none) ∧
 ((@Eq (Nat) 0 0) ∧
 ((@Eq (List Nat) [] []) ∧
 (True  ∧
 ((@Eq (VT) zz151 zz151) ∧
 ((@Eq (Bool) true true) ∧
 (@Eq (List TV) [(zz1 L), (zz0 v), zz6, (zz1 L), (zz0 (↑(List.length L) : Int)), zz6] [(zz1 L), (zz0 v), zz6, (zz1 L), (zz0 (↑(List.length L) : Int)), zz6]))))))) ∧
 (bif hit
 then Q (zz0 r) zz151
 else Q (zz0 (-1)) zz151))) := by kernel_rfl
theorem ev_ixA (L : Bs) (v r z : Int) (j : Nat) (Q : Exit → List TV → VT → List Nat → Nat → Prop) : vx Tryz.prog noGl noSp (tellS [(999998, .dead, none), (14, .elt (iT z), none)]) 300 noLp none 0 (loopAt Tryz.prog ixF 0) (slotsN 19 ixK (ixV L v r j)) zz151 [] (pickS ixK Q) =
 (bif decide ((↑j : Int) < (↑(List.length L) : Int))
 then (OPure Tryz.prog (fun _ => .none) (.indexAddr 59 (.tmp 12) (.tmp 13)) [(12, (zz1 L)), (13, (zz0 (↑j : Int)))] (.elt [(zz0 z)]) ∧
 (bif eqRes BinOp.eql (k6 v z)
 then Q .ret (zz129 L v (↑j : Int) L (↑(List.length L) : Int) (↑j : Int)) zz151 [] 19
 else Q .normal (zz129 L v r L (↑(List.length L) : Int) (IntKind.wrap IntKind.i64 ((↑j : Int) + (1 : Int)))) zz151 [] 19))
 else Q (.exit 0) (zz129 L v r L (↑(List.length L) : Int) (↑j : Int)) zz151 [] 19) := by kernel_rfl
theorem ev_ct (L : Bs) (v r : Int) (Q : TV → VT → Prop) : vcallF Tryz.prog noGl (specs [(ixF, pureAt [.vec 1 L .none, .val (.int .i64 v)] (zz0 r))]) noOra 300 noLp 0 ctF [.vec 1 L .none, .val (.int .i64 v)] zz151 Q =
 ((@Eq (List TV) [(zz1 L), (zz0 v)] [(zz1 L), (zz0 v)]) ∧
 Q (zz12 (decide (r ≥ (0 : Int)))) zz151) := by kernel_rfl
theorem ev_ptI (b L : Bs) (a e n : Int) (j : Nat) (Q : Exit → List TV → VT → List Nat → Nat → Prop) : vx Tryz.prog noGl (specs [(wU16F, snW .i64 2)]) (tellS [(999999, .dead, none), (42, .vec 1 (L ++ [iT (nmB 2 b e)]) (.tail 0 (L.length + 1)), some fun T => { T with tails := [(L.length + 1, 1, true)] })]) 300 noLp none 0 (loopAt Tryz.prog ptF 2) (slotsN 55 ptKI (ptW L n j)) ⟨[srcO b a e], [(L.length, 1, true)]⟩ [] (pickS ptKI Q) =
 (bif decide ((↑j : Int) < n)
 then (((@Eq (Bool) true true) ∧
 IsB (b)) ∧
 (OTurn Tryz.prog (fun _ => .none) 0 ⟨[(.cells [zz27, (zz1 (tkR (↑(2 : Nat) : Int) b e)), (zz0 (tkA (↑(2 : Nat) : Int) b e a)), (zz0 (tkE (↑(2 : Nat) : Int) b e))])], [((List.length L), (1, true))]⟩ (.call ⟨(.builtin .append), #[(.tmp 38), (.tmp 41)], #[59, 59]⟩) [(38, (zz126 L (List.length L))), (41, (zz59 [[(.val (.int .i64 (nmB (2 : Nat) b e)))]]))] (zz126 (L ++ [iT (nmB (2 : Nat) b e)]) (List.length L + (1 : Nat))) ⟨[(.cells [zz27, (zz1 (tkR (↑(2 : Nat) : Int) b e)), (zz0 (tkA (↑(2 : Nat) : Int) b e a)), (zz0 (tkE (↑(2 : Nat) : Int) b e))])], [((List.length L + (1 : Nat)), (1, true))]⟩ ∧
 Q .normal [zz5, zz8, zz19, (zz126 (L ++ [iT (nmB (2 : Nat) b e)]) (List.length L + (1 : Nat))), (zz0 n), (zz0 (IntKind.wrap IntKind.i64 ((↑j : Int) + (1 : Int))))] ⟨[(.cells [zz27, (zz1 (tkR (↑(2 : Nat) : Int) b e)), (zz0 (tkA (↑(2 : Nat) : Int) b e a)), (zz0 (tkE (↑(2 : Nat) : Int) b e))])], [((List.length L + (1 : Nat)), (1, true))]⟩ [] 55))
 else Q (.exit 2) [zz5, zz8, zz19, (zz126 L (List.length L)), (zz0 n), (zz0 (↑j : Int))] ⟨[(.cells [zz27, (zz1 b), (zz0 a), (zz0 e)])], [((List.length L), (1, true))]⟩ [] 55) := by kernel_rfl
abbrev zzy4 (b : Bs) (e : Int) (a : Int) : TV := (zz0 (tkA (↑(1 : Nat) : Int) (tkR (↑(1 : Nat) : Int) b e) (tkE (↑(1 : Nat) : Int) b e) (tkA (↑(1 : Nat) : Int) b e a)))
abbrev zzy5 (b : Bs) (e : Int) : TV := (zz1 (tkR (↑(1 : Nat) : Int) (tkR (↑(1 : Nat) : Int) b e) (tkE (↑(1 : Nat) : Int) b e)))
abbrev zzy6 (b : Bs) (e : Int) : TV := (zz0 (tkE (↑(1 : Nat) : Int) (tkR (↑(1 : Nat) : Int) b e) (tkE (↑(1 : Nat) : Int) b e)))
abbrev zzy7 (L : Bs) (b : Bs) (e : Int) : List TV := (zz127 L (List.length L) (nmB (1 : Nat) (tkR (↑(1 : Nat) : Int) b e) (tkE (↑(1 : Nat) : Int) b e)))
theorem ev_ptA (b b2 b' L L' : Bs) (a e a2 e2 a' e' n : Int) (Q : Exit → List TV → VT → List Nat → Nat → Prop) : vx Tryz.prog noGl (specs [(wLeF, slW), (wU8F, snW .i64 1)]) (tellS [(999999, .dead, none)]) 300 (ptLI b2 b' L L' a2 e2 a' e' n (codeAt Tryz.prog ptF 2)) none 0 (loopAt Tryz.prog ptF 0) (slotsN 55 ptK (ptV L)) ⟨[srcO b a e], [(L.length, 1, true)]⟩ [] (pickS ptK Q) =
 (((@Eq (Bool) true true) ∧
 IsB (b)) ∧
 (bif decide (leB b e > (0 : Int))
 then (((@Eq (Bool) true true) ∧
 IsB (b)) ∧
 (((@Eq (Bool) true true) ∧
 IsB (tkR (↑(1 : Nat) : Int) b e)) ∧
 (bif eqRes BinOp.neq (k6 (nmB (1 : Nat) b e) (1 : Int))
 then (bif eqRes BinOp.neq (k6 (nmB (1 : Nat) b e) (2 : Int))
 then Q .ret (zz128 L (List.length L)) ⟨[(.cells [zz27, (zzy5 b e), (zzy4 b e a), (zzy6 b e)])], [((List.length L), (1, true))]⟩ [] 55
 else (bif eqRes BinOp.eql (k6 (nmB (1 : Nat) (tkR (↑(1 : Nat) : Int) b e) (tkE (↑(1 : Nat) : Int) b e)) (0 : Int))
 then Q .ret (zz128 L (List.length L)) ⟨[(.cells [zz27, (zzy5 b e), (zzy4 b e a), (zzy6 b e)])], [((List.length L), (1, true))]⟩ [] 55
 else (bif decide (IntKind.wrap IntKind.i64 ((↑(List.length L) : Int) + nmB (1 : Nat) (tkR (↑(1 : Nat) : Int) b e) (tkE (↑(1 : Nat) : Int) b e)) > (16 : Int))
 then Q .ret (zz128 L (List.length L)) ⟨[(.cells [zz27, (zzy5 b e), (zzy4 b e a), (zzy6 b e)])], [((List.length L), (1, true))]⟩ [] 55
 else ((codeAt Tryz.prog ptF (2 : Nat) = codeAt Tryz.prog ptF (2 : Nat)) ∧
 (((@Eq (Option Nat) .none .none) ∧
 ((@Eq (Nat) 0 0) ∧
 ((@Eq (List Nat) [] []) ∧
 (True  ∧
 ((@Eq (VT) ⟨[(.cells [zz27, (zzy5 b e), (zzy4 b e a), (zzy6 b e)])], [((List.length L), (1, true))]⟩ ⟨[(.cells [zz27, (zz1 b2), (zz0 a2), (zz0 e2)])], [((List.length L), (1, true))]⟩) ∧
 ((@Eq (Bool) true true) ∧
 (@Eq (List TV) (zzy7 L b e) (zz127 L (List.length L) n)))))))) ∧
 Q .normal (zz128 L' (List.length L')) ⟨[(.cells [zz27, (zz1 b'), (zz0 a'), (zz0 e')])], [((List.length L'), (1, true))]⟩ [] 55)))))
 else (bif eqRes BinOp.eql (k6 (nmB (1 : Nat) (tkR (↑(1 : Nat) : Int) b e) (tkE (↑(1 : Nat) : Int) b e)) (0 : Int))
 then Q .ret (zz128 L (List.length L)) ⟨[(.cells [zz27, (zzy5 b e), (zzy4 b e a), (zzy6 b e)])], [((List.length L), (1, true))]⟩ [] 55
 else (bif decide (IntKind.wrap IntKind.i64 ((↑(List.length L) : Int) + nmB (1 : Nat) (tkR (↑(1 : Nat) : Int) b e) (tkE (↑(1 : Nat) : Int) b e)) > (16 : Int))
 then Q .ret (zz128 L (List.length L)) ⟨[(.cells [zz27, (zzy5 b e), (zzy4 b e a), (zzy6 b e)])], [((List.length L), (1, true))]⟩ [] 55
 else ((codeAt Tryz.prog ptF (2 : Nat) = codeAt Tryz.prog ptF (2 : Nat)) ∧
 (((@Eq (Option Nat) .none .none) ∧
 ((@Eq (Nat) 0 0) ∧
 ((@Eq (List Nat) [] []) ∧
 (True  ∧
 ((@Eq (VT) ⟨[(.cells [zz27, (zzy5 b e), (zzy4 b e a), (zzy6 b e)])], [((List.length L), (1, true))]⟩ ⟨[(.cells [zz27, (zz1 b2), (zz0 a2), (zz0 e2)])], [((List.length L), (1, true))]⟩) ∧
 ((@Eq (Bool) true true) ∧
 (@Eq (List TV) (zzy7 L b e) (zz127 L (List.length L) n)))))))) ∧
 Q .normal (zz128 L' (List.length L')) ⟨[(.cells [zz27, (zz1 b'), (zz0 a'), (zz0 e')])], [((List.length L'), (1, true))]⟩ [] 55)))))))
 else Q (.exit 0) (zz128 L (List.length L)) ⟨[(.cells [zz27, (zz1 b), (zz0 a), (zz0 e)])], [((List.length L), (1, true))]⟩ [] 55)) := by kernel_rfl
theorem ev_pt (b : Bs) (P : Bs → Int → Prop) (N : Prop) (Q : TV → VT → Prop) : vcallF Tryz.prog noGl (specs [(wRdF, sreadW), (wErF, seW), (ctF, ctW)]) (tellS [(999999, .dead, none)]) 300 (ptL b P N (codeAt Tryz.prog ptF 0)) 0 ptF [.vec 1 b .none] zz151 Q =
 (IsB (b) ∧
 ((codeAt Tryz.prog ptF (0 : Nat) = codeAt Tryz.prog ptF (0 : Nat)) ∧
 (((@Eq (Option Nat) .none .none) ∧
 ((@Eq (Nat) 0 0) ∧
 ((@Eq (List Nat) [] []) ∧
 (((@Eq (Option TV) (.some zz5) (.some zz5)) ∧
 True ) ∧
 ((@Eq (VT) ⟨[(.cells [zz27, (zz1 b), zz6, zz6])], [(0, (1, true))]⟩ ⟨[(.cells [zz27, (zz1 b), zz6, zz6])], [(0, (1, true))]⟩) ∧
 ((@Eq (Bool) true true) ∧
 (@Eq (List TV) [zz5, zz8, zz19, (.vec 1 [] (.tail 0 0))] [zz5, zz8, zz19, (.vec 1 [] (.tail 0 0))]))))))) ∧
 ((∀ L : Bs, (∀ bz : Bs, (∀ az : Int, (∀ ez : Int, ((IsB (bz) ∧
 P (L) (ez)) → (((@Eq (Bool) true true) ∧
 IsB (bz)) ∧
 (bif eqRes BinOp.eql (k6 ez (0 : Int))
 then (ISm (L) ∧
 (bif !!has0 L
 then Q zz140 ⟨[(.cells [zz27, (zz1 bz), (zz0 az), (zz0 ez)])], [((List.length L), (1, true))]⟩
 else Q (.tup [(zz126 L (List.length L)), zz27]) ⟨[(.cells [zz27, (zz1 bz), (zz0 az), (zz0 ez)])], [((List.length L), (1, true))]⟩))
 else Q zz140 ⟨[(.cells [zz27, (zz1 bz), (zz0 az), (zz0 ez)])], [((List.length L), (1, true))]⟩))))))) ∧
 (∀ rest : List VO, (∀ tlz : List (Nat × Nat × Bool), (∀ Lz : Bs, (N  → Q zz140 ⟨(rest), (tlz)⟩)))))))) := by kernel_rfl
end Go.Proofs.YtogbdjlelkepcaaGreatDoor
