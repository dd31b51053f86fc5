/- Loops and contracts for the evaluator: a block by its number, what is behind a round, a contract within a greater T. For any program. -/
import Derived.Test.YtapfboldkkodkaaGreatDoorVfin
namespace Go.Proofs.YtapfboldkkodkaaGreatDoor
open Go.RowKit

section
variable {P : Program} {G : Globs}
/-! ### Blocks by number -/
def findBlock (id : Nat) : Code → Option Code
  | .block i c => bif Nat.beq i id then some (.block i c) else findBlock id c
  | .seq a b => match findBlock id a with
    | some c => some c
    | none => findBlock id b
  | .cond _ a b => match findBlock id a with
    | some c => some c
    | none => findBlock id b
  | .loop c => findBlock id c
  | .scope c => findBlock id c
  | .rangeFunc _ _ a b => match findBlock id a with
    | some c => some c
    | none => findBlock id b
  | _ => none
def bodyAt (P : Program) (f : FuncId) : Code := match P.funcs[f]? with
  | some fn => fn.body.getD .skip
  | none => .skip
def codeAt (P : Program) (f : FuncId) (id : Nat) : Code := (findBlock id (bodyAt P f)).getD .skip
def insideLoop : Code → Code
  | .block _ (.loop c) => c
  | _ => .skip
def loopAt (P : Program) (f : FuncId) (id : Nat) : Code := insideLoop (codeAt P f id)
def isLoopBlock (id : Nat) : Code → Bool
  | .block i (.loop _) => Nat.beq i id
  | _ => false
theorem isLoopBlock_ok {id : Nat} {c : Code} (h : isLoopBlock id c = true) : c = .block id (.loop (insideLoop c)) := by
  unfold isLoopBlock at h
  split at h
  · rw [Nat.eq_of_beq_eq_true h]; rfl
  · cases h

/-! ### What is known of slots, weakened -/
def LEs : List TV → List (Option TV) → Prop
  | [], [] => True
  | _ :: l, none :: m => LEs l m
  | x :: l, some y :: m => x = y ∧ LEs l m
  | _, _ => False
def slots (m : List (Option TV)) : List TV := m.map fun o => o.getD .dead
theorem LEs.ok {g : Gh} {w : World} : ∀ {σ : List TV} {m : List (Option TV)} {us : List Value}, LEs σ m → VRs g w σ us → VRs g w (slots m) us
  | [], [], us, _, h => h
  | x :: l, none :: m, us, k, h => by
    match us, h with
    | [], h => have := h.1; simp at this
    | u :: us, h =>
      have h1 : VRs g w l us := ⟨by have := h.1; simpa using this, fun j y v hy hv => h.2 (j + 1) y v (by simpa using hy) (by simpa using hv)⟩
      exact VRs.cons (.dead u) (LEs.ok (show LEs l m from k) h1)
  | x :: l, some y :: m, us, k, h => by
    obtain ⟨rfl, k⟩ := k
    match us, h with
    | [], h => have := h.1; simp at this
    | u :: us, h =>
      have h1 : VRs g w l us := ⟨by have := h.1; simpa using this, fun j y v hy hv => h.2 (j + 1) y v (by simpa using hy) (by simpa using hv)⟩
      exact VRs.cons (h.2 0 x u rfl rfl) (LEs.ok k h1)
  | [], _ :: _, _, k, _ => k.elim
  | x :: l, [], _, k, _ => k.elim
theorem VWx.sub {rd : Option Nat} {ro : Nat} {c : Code} {σ σ' : List TV} {T : VT} {D : List Nat} {Q : KX} (h : VWx P G rd ro c σ' T D Q) (hs : ∀ g w us, VRs g w σ us → VRs g w σ' us) : VWx P G rd ro c σ T D Q :=
  fun r g w a rw0 hG hσ => h r g w a rw0 hG (hs _ _ _ hσ)

/-! ### Loops -/
/-- behind a round: the state of another one, that is nearer to the end; (or) what the round has made is forgotten -/
def vnextS {ι : Type} (μ : ι → Nat) (sl : ι → List (Option TV)) (tt : ι → VT) (Inv : ι → Prop) (N M : Nat) (s : ι) (σ : List TV) (T : VT) : Prop :=
  ∃ s', Inv s' ∧ μ s' < μ s ∧ ((T = tt s' ∧ LEs σ (sl s')) ∨ (T.keep N M = tt s' ∧ LEs (renL (Go.Proofs.YtapfboldkkodkaaGreatDoor.keep N) (Go.Proofs.YtapfboldkkodkaaGreatDoor.keep M) σ) (sl s')))
theorem VWx.loopS {ι : Type} {rd : Option Nat} {c : Code} {D : List Nat} {Q : KX} (μ : ι → Nat) (sl : ι → List (Option TV)) (tt : ι → VT) (Inv : ι → Prop) (N M : Nat) (hN : ∀ s, Inv s → (tt s).objs.length ≤ N ∧ (tt s).tails.length ≤ M) (hD : ∀ id ∈ D, id < N)
    (hbody : ∀ s, Inv s → VWx P G rd 0 c (slots (sl s)) (tt s) D (vthen (fun σ T D' => D' = D ∧ vnextS μ sl tt Inv N M s σ T) Q)) :
    ∀ s, Inv s → VWx P G rd 0 (.loop c) (slots (sl s)) (tt s) D Q := by
  intro s0 hs0
  refine VWx.loop (fun n σ T D' => ∃ s, Inv s ∧ μ s = n ∧ σ = slots (sl s) ∧ T = tt s ∧ D' = D) (μ s0) ⟨s0, hs0, rfl, rfl, rfl, rfl⟩ ?_
  rintro n σ T D' ⟨s, hs, rfl, rfl, rfl, rfl⟩
  intro r g w a rw0 hG hσ hd hDs hrd
  refine wpIn_mono (hbody s hs r g w a rw0 hG hσ hd hDs hrd) ?_
  rintro e a' w' ⟨g', σ', T', D'', hq, e', r', hσ', hd', hDs', hx⟩
  cases e <;> first
    | exact ⟨g', σ', T', D'', hq, e', r', hσ', hd', hDs', hx⟩
    | (obtain ⟨rfl, s', hs', hlt, ⟨rfl, hle⟩ | ⟨hT, hle⟩⟩ := hq
       · exact ⟨g', _, _, _, ⟨_, hlt, s', hs', rfl, rfl, rfl, rfl⟩, e', r', hle.ok hσ', hd', hDs', hx⟩
       · have hdk : ∀ id ∈ D'', (g'.keep N M).obj id = g'.obj id := fun id hid => by simp [Gh.keep, hD id hid]
         refine ⟨g'.keep N M, _, tt s', D'', ⟨_, hlt, s', hs', rfl, rfl, rfl, rfl⟩, e'.keep rw0 (hN s hs).1 (hN s hs).2, hT ▸ r'.keep N M, hle.ok (hσ'.ren (keep_ren g' N M)), ?_, ?_, ?_⟩
         · rw [hd']
           apply List.map_congr_left
           intro id hid
           simp only [mk, hdk id hid]
         · intro id hid
           rw [hdk id hid]; exact hDs' id hid
         · refine ⟨?_, fun i hi => absurd hi (Nat.not_lt_zero i), fun i o b hi => absurd hi (Nat.not_lt_zero i)⟩
           rw [← hT]
           simp only [VT.keep, List.length_map, List.length_take]
           have h1 := hx.len
           have h2 := (hN s hs).1
           omega)
/-- a block that is a loop -/
theorem VWx.blockS {ι : Type} {rd : Option Nat} {f : FuncId} {id : Nat} {D : List Nat} {Q : KX} (hc : isLoopBlock id (codeAt P f id) = true) (μ : ι → Nat) (sl : ι → List (Option TV)) (tt : ι → VT) (Inv : ι → Prop) (N M : Nat) (hN : ∀ s, Inv s → (tt s).objs.length ≤ N ∧ (tt s).tails.length ≤ M) (hD : ∀ id ∈ D, id < N)
    (hbody : ∀ s, Inv s → VWx P G rd 0 (loopAt P f id) (slots (sl s)) (tt s) D (vthen (fun σ T D' => D' = D ∧ vnextS μ sl tt Inv N M s σ T) (vblock id Q))) :
    ∀ s, Inv s → VWx P G rd 0 (codeAt P f id) (slots (sl s)) (tt s) D Q := by
  intro s hs
  rw [isLoopBlock_ok hc]
  exact VWx.block (VWx.loopS μ sl tt Inv N M hN hD hbody s hs)
/-- what a function's evaluation says of a loop: it stands at the state s0; R: what the loop leaves -/
def loopW {ι : Type} (sl : ι → List (Option TV)) (tt : ι → VT) (s0 : ι) (R : KX → Prop) : LSpec := fun rd ro σ T D K => (rd = none ∧ ro = 0 ∧ D = [] ∧ T = tt s0 ∧ LEs σ (sl s0)) ∧ R K
theorem lsOk_one {L : Nat → Option (LSpec × Code)} (h : ∀ id W c, L id = some (W, c) → ∀ rd ro σ T D K, W rd ro σ T D K → VWx P G rd ro c σ T D K) : LsOk P G L := h
theorem loopW_ok {ι : Type} {c : Code} {sl : ι → List (Option TV)} {tt : ι → VT} {s0 : ι} {R : KX → Prop} (h : ∀ K, R K → VWx P G none 0 c (slots (sl s0)) (tt s0) [] K) : ∀ rd ro σ T D K, loopW sl tt s0 R rd ro σ T D K → VWx P G rd ro c σ T D K := by
  rintro rd ro σ T D K ⟨⟨rfl, rfl, rfl, rfl, hle⟩, hR⟩
  exact (h K hR).sub fun g w us hu => hle.ok hu

/-! ### Contracts within a greater T -/
def GVals (G : Globs) : Prop := ∀ n cs, G n = some cs → ∃ vs : List Value, cs = vs.map .val
theorem gvals_none : GVals fun _ => none := fun _ _ h => by cases h
theorem GOk.sub {g g' : Gh} {w : World} {f h : Nat → Option Nat} (hv : GVals G) (k : GOk G g w) (r : Ren g g' f h) : GOk G g' w := fun n cs hn => by
  obtain ⟨vs, rfl⟩ := hv n cs hn
  have h1 := (k n _ hn).ren r
  simp only [TV.ren, renL_vals] at h1
  exact h1
theorem VCx.lift {ro : Nat} {f : FuncId} {xs ys : List TV} {T : VT} {Q : TV → VT → Prop} (is ks : List Nat) (hv : GVals G) (hi : is.Nodup) (hk : ks.Nodup) (hil : ∀ i ∈ is, ∃ o, T.objs[i]? = some o ∧ o.live = true) (hkl : ∀ k ∈ ks, k < T.tails.length) (hro : ∀ i ∈ is, ro ≤ i)
    (hx : renL (nameIn is) (nameIn ks) ys = xs) (h : VCx P G 0 f xs (T.give is ks) Q) (hlen : ∀ x T', Q x T' → is.length ≤ T'.objs.length ∧ ks.length ≤ T'.tails.length) :
    VCx P G ro f ys T fun y T'' => ∃ x T', Q x T' ∧ y = x.ren (nameOut T.objs.length is) (nameOut T.tails.length ks) ∧ T'' = T.back is ks T' := by
  intro g w us rw0 hG hxs
  have hargs := hxs.ren (sub_ren g T is ks)
  rw [hx] at hargs
  have hil' : ∀ i ∈ is, i < T.objs.length := fun i h => by obtain ⟨o, h1, _⟩ := hil i h; exact (List.getElem?_eq_some_iff.1 h1).1
  have r1 := rw0.give hi hk hil' hkl
  refine Calls.mono (h _ w _ r1 (hG.sub hv (sub_ren g T is ks)) hargs) ?_
  rintro e w' ⟨v, x, gc, T', rfl, hq, e', r', hv', _⟩
  obtain ⟨l1, l2⟩ := hlen x T' hq
  obtain ⟨g', ev, rb, rn⟩ := join_back rw0 hi hk hil hkl e' r' l1 l2
  obtain ⟨b1, b2, b3, b4⟩ := giveBack_at is T.objs (T'.objs.map (VO.ren (nameOut T.objs.length is) (nameOut T.tails.length ks))) hi hil' (by simpa using l1)
  refine ⟨v, _, g', _, rfl, ⟨x, T', hq, rfl, rfl⟩, ev, rb, hv'.ren rn, ?_, ?_, ?_⟩
  · show T.objs.length ≤ (giveBack T.objs is _).length
    rw [b1]; omega
  · intro i hir hil2
    exact b2 i hil2 fun hm => absurd (hro i hm) (by omega)
  · intro i o b hir ho hl hb
    have hnm : i ∉ is := fun hm => absurd (hro i hm) (by omega)
    exact e'.frb b (.inr (.inl ⟨i, o, ho, hl, hnm, hb⟩))
/-- a function that turns nothing and leaves nothing known -/
theorem VCx.liftPure {ro : Nat} {f : FuncId} {xs ys : List TV} {T : VT} {y : TV} {K : TV → VT → Prop} (hv : GVals G) (h : VCx P G 0 f xs ⟨[], []⟩ fun x T' => x = y ∧ T' = ⟨[], []⟩) (hx : renL (nameIn []) (nameIn []) ys = xs) (hy : ∀ f h, y.ren f h = y) (k : K y T) : VCx P G ro f ys T K := by
  refine (VCx.lift (T := T) [] [] hv List.nodup_nil List.nodup_nil (by simp) (by simp) (by simp) hx (by rw [VT.give_nil]; exact h) (fun _ _ _ => ⟨Nat.zero_le _, Nat.zero_le _⟩)).mono ?_
  rintro z T' ⟨x, T'', ⟨rfl, rfl⟩, rfl, rfl⟩
  have hb : T.back [] [] ⟨[], []⟩ = T := by rw [VT.back_nil]; cases T; simp
  rw [hy, hb]; exact k
/-- a contract, told by values: at the arguments of a it gives the value of a -/
def pureW {α : Type} (A : α → List TV) (Y : α → TV) (R : α → Prop) : Spec := fun _ ys T K => ∃ a, ys = A a ∧ R a ∧ K (Y a) T
theorem pureW_ok {α : Type} {f : FuncId} {A : α → List TV} {Y : α → TV} {R : α → Prop} (hv : GVals G) (hA : ∀ a, renL (nameIn []) (nameIn []) (A a) = A a) (hY : ∀ a f h, (Y a).ren f h = Y a) (h : ∀ a, R a → VCx P G 0 f (A a) ⟨[], []⟩ fun x T' => x = Y a ∧ T' = ⟨[], []⟩) :
    ∀ ro ys T K, pureW A Y R ro ys T K → VCx P G ro f ys T K := by
  rintro ro ys T K ⟨a, rfl, hR, hk⟩
  exact VCx.liftPure hv (h a hR) (hA a) (hY a) hk
def specs : List (FuncId × Spec) → FuncId → Option Spec
  | [], _ => none
  | (f, W) :: l, g => bif Nat.beq f g then some W else specs l g
theorem specs_ok : ∀ {l : List (FuncId × Spec)}, (∀ p ∈ l, ∀ ro xs T K, p.2 ro xs T K → VCx P G ro p.1 xs T K) → SpecsOk P G (specs l)
  | [], _ => fun _ _ h => by cases h
  | (f, W) :: l, h => fun g W' hW => by
    simp only [specs] at hW
    cases hb : Nat.beq f g with
    | true =>
      rw [hb] at hW
      injection hW with hW; subst hW
      have := Nat.eq_of_beq_eq_true hb
      subst this
      exact h _ List.mem_cons_self
    | false =>
      rw [hb] at hW
      exact specs_ok (fun p hp => h p (List.mem_cons_of_mem _ hp)) g W' hW
theorem cond_of {b : Bool} {X Y : Prop} (ht : b = true → X) (hf : b = false → Y) : cond b X Y := by
  cases b
  · exact hf rfl
  · exact ht rfl
/-- a function's contract with nothing around it -/
theorem VCx.keepQ {f : FuncId} {xs : List TV} {T : VT} {Q : TV → VT → Prop} (n m : Nat) (hn : T.objs.length ≤ n) (hm : T.tails.length ≤ m) (h : VCx P G 0 f xs T fun x T' => Q (x.ren (Go.Proofs.YtapfboldkkodkaaGreatDoor.keep n) (Go.Proofs.YtapfboldkkodkaaGreatDoor.keep m)) (T'.keep n m)) : VCx P G 0 f xs T Q := by
  intro g w us rw0 hG hx
  refine Calls.mono (h g w us rw0 hG hx) ?_
  rintro e w' ⟨v, x, g', T', he, hq, e', r', hv, hfx⟩
  refine ⟨v, _, g'.keep n m, T'.keep n m, he, hq, e'.keep rw0 hn hm, r'.keep n m, hv.ren (keep_ren g' n m), ?_, fun i hi => absurd hi (Nat.not_lt_zero i), fun i o b hi => absurd hi (Nat.not_lt_zero i)⟩
  simp only [VT.keep, List.length_map, List.length_take]
  have h1 := hfx.len
  omega
end
end Go.Proofs.YtapfboldkkodkaaGreatDoor
