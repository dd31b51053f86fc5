/- Operations that only read, on: slices, lengths, parts of results, functions; all of them together. For any program. -/
import Derived.Test.YtapfboldkkodkaaGreatDoorValR
namespace Go.Proofs.YtapfboldkkodkaaGreatDoor
open Go.RowKit

section
variable {P : Program} {g : Gh} {T : VT} {w : World}

/-- a bound: a number that is at least 0 -/
def natOf : TV → Option Nat
  | .val (.int _ z) => if 0 ≤ z then some z.toNat else none
  | _ => none
theorem natOf_ok {x : TV} {n : Nat} {u : Value} (h : natOf x = some n) (hx : VR g w x u) : ∃ k, u = .int k (n : Int) := by
  unfold natOf at h
  split at h
  · split at h
    · rename_i k z hz
      injection h with h
      exact ⟨k, by rw [hx.val_inv, ← h, Int.toNat_of_nonneg hz]⟩
    · cases h
  · cases h
def lowOf : Option TV → Option Nat
  | none => some 0
  | some x => natOf x
/-- s[lo:hi] -/
def vslice (P : Program) (t : TypeId) (x : TV) (lo hi mx : Option TV) : Option TV := match mx with
  | some _ => none
  | none => match P.underlying t with
    | some .string => match x with
      | .val (.string s) => (match lowOf lo, (match hi with | none => some s.size | some y => natOf y) with
        | some l, some h => if l ≤ h ∧ h ≤ s.size then some (.val (.string (s.extract l h))) else none
        | _, _ => none)
      | _ => none
    | some (.slice e) => match P.info? e with
      | some inf => (match x with
        | .vec size es tok => if inf.size = size then (match lowOf lo, hi with
          | some l, none => if l ≤ es.length then some (.vec size (es.drop l) tok) else none
          | some l, some y => (match natOf y with
            | some h => if l ≤ h ∧ h ≤ es.length then some (.vec size ((es.take h).drop l) .none) else none
            | none => none)
          | _, _ => none) else none
        | .sl id off n cap => (match lowOf lo, (match hi with | none => some n | some y => natOf y) with
          | some l, some h => if l ≤ h ∧ h ≤ cap ∧ l < cap then some (.sl id (off + l * inf.size) (h - l) (cap - l)) else none
          | _, _ => none)
        | _ => none)
      | none => none
    | some (.array n e) => match P.info? e, x with
      | some inf, .ptr id off => (match lowOf lo, (match hi with | none => some n | some y => natOf y) with
        | some l, some h => if l ≤ h ∧ h ≤ n ∧ l < n then some (.sl id (off + l * inf.size) (h - l) (n - l)) else none
        | _, _ => none)
      | _, _ => none
    | _ => none
theorem run_bound {u : Value} {k : IntKind} {n y : Nat} {c : BoundsCode} (h : n ≤ y) (hu : u = .int k (n : Int)) (w : World) : (Instr.sliceBound u y c).run P w = .ok n w := by
  subst hu
  simp [Instr.sliceBound, asIntOf, h]
/-- a bound that may be lacking -/
def BR (g : Gh) (w : World) (x : Option TV) (u : Option Value) : Prop := match x, u with
  | none, none => True
  | some x, some u => VR g w x u
  | _, _ => False
theorem low_run {lo : Option TV} {u : Option Value} {l y : Nat} {c : BoundsCode} (h : lowOf lo = some l) (hr : BR g w lo u) (hl : l ≤ y) (w' : World) :
    ((match u with | some v => Instr.sliceBound v y c | none => pure 0 : Sem Nat)).run P w' = .ok l w' := by
  cases lo with
  | none => cases u with
    | none => simp [lowOf] at h; subst h; rfl
    | some v => exact hr.elim
  | some x => cases u with
    | none => exact hr.elim
    | some v =>
      obtain ⟨k, hk⟩ := natOf_ok h hr
      exact run_bound hl hk w'
theorem bounds_run {isS : Bool} {len cap l h : Nat} {lo hi : Option TV} {ul uh : Option Value} (h1 : lowOf lo = some l) (h2 : (match hi with | none => some len | some y => natOf y) = some h) (hl : BR g w lo ul) (hh : BR g w hi uh)
    (hle : l ≤ h) (hc : h ≤ cap) (w' : World) : (Instr.sliceBounds isS len cap ul uh none).run P w' = .ok (l, h, cap) w' := by
  have e2 : ((match uh, (none : Option Value) with
    | some v, some _ => Instr.sliceBound v cap .slice3B
    | some v, none => Instr.sliceBound v cap (if isS then .sliceAcap else .sliceAlen)
    | none, none => pure len
    | none, some _ => stuck "Slice: max without high" : Sem Nat)).run P w' = .ok h w' := by
    cases hi with
    | none => cases uh with
      | none => simp at h2; subst h2; rfl
      | some v => exact hh.elim
    | some x => cases uh with
      | none => exact hh.elim
      | some v =>
        obtain ⟨k, hk⟩ := natOf_ok h2 hh
        exact run_bound hc hk w'
  have e1 := low_run (P := P) (y := h) (c := .sliceB) h1 hl hle w'
  cases uh <;> cases ul <;> simp_all [Instr.sliceBounds]
theorem VR.vec_drop {size : Nat} {es : List (List TV)} {tok : Tok} {u : Value} (h : VR g w (.vec size es tok) u) {l : Nat} (hl : l ≤ es.length) :
    ∃ a n c, u = .slice a n c ∧ n = es.length ∧ n ≤ c ∧ VR g w (.vec size (es.drop l) tok) (.slice (if c = l then a else a.map (·.add (l * size))) (n - l) (c - l)) ∧
      ∀ hh, l ≤ hh → hh ≤ es.length → VR g w (.vec size ((es.take hh).drop l) .none) (.slice (if c = l then a else a.map (·.add (l * size))) (hh - l) (c - l)) := by
  rcases h.vec_inv with ⟨rfl, rfl, h1⟩ | ⟨b, o, c, us, rfl, h1, h2, h3, h4, h5, h6, h7, h8⟩
  · have : l = 0 := by simpa using hl
    subst this
    refine ⟨none, 0, 0, rfl, rfl, Nat.le_refl _, by simpa using VR.nil h1, fun hh _ h2 => ?_⟩
    simp at h2; subst h2
    simpa using VR.nil (tok := .none) trivial
  · refine ⟨_, _, c, rfl, rfl, h1, ?_, fun hh hlh hh2 => ?_⟩
    · by_cases hcl : c = l
      · have : l = es.length := by omega
        subst this
        rw [if_pos hcl, List.drop_of_length_le (Nat.le_refl _)]
        refine .mk_vec (us := []) (by simp) (by omega) (by omega) (by simp) ?_ (by simpa using VRs.nil g w) (by simp) (by simp) (by simp)
        cases tok with
        | none => trivial
        | full => simp only [TokOk]; omega
        | tail k e => obtain ⟨x, a1, a2, a3, _⟩ := h4; exact ⟨x, a1, a2, a3, fun _ hlt => by omega, fun he ho => ⟨by omega, fun _ hp => by omega⟩⟩
      · rw [if_neg hcl]
        simp only [Option.map_some, Addr.add_none]
        have hfl := flatten_len h3
        have hmul : l * size ≤ es.length * size := Nat.mul_le_mul_right _ hl
        refine .mk_vec (us := us.drop (l * size)) (by simp) (by omega) (by omega) (fun e he => h3 e (List.mem_of_mem_drop he)) ?_ ?_ (fun j hj => ?_) (fun j v hv => ?_) (fun u hu => h8 u (List.mem_of_mem_drop hu))
        · cases tok with
          | none => trivial
          | full => simp only [TokOk] at h4 ⊢; omega
          | tail k e =>
            obtain ⟨x, a1, a2, a3, a4, a5⟩ := h4
            refine ⟨x, a1, a2, a3, fun he hlt => ?_, fun he hown => ?_⟩
            rotate_left
            · obtain ⟨d1, d2⟩ := a5 he hown
              refine ⟨by omega, fun hn hp => ?_⟩
              have : l = 0 := by omega
              subst this
              simpa using d2 (by omega) (by omega)
            obtain ⟨b1, b2, b3⟩ := a4 he (by omega)
            refine ⟨b1, ?_, ?_⟩
            · rw [b2, Nat.sub_mul]; omega
            · rw [b3, Nat.sub_mul]
              have : l * size ≤ c * size := Nat.mul_le_mul_right _ (by omega)
              omega
        · rw [← flatten_drop l h3 hl]; exact h5.drop _
        · rw [Nat.add_assoc]
          rw [← flatten_drop l h3 hl, List.length_drop] at hj
          exact h6 _ (by omega)
        · rw [Nat.add_assoc]; exact h7 _ v (by simpa using hv)
    · by_cases hcl : c = l
      · have : l = es.length := by omega
        subst this
        have : hh = es.length := by omega
        subst this
        rw [if_pos hcl, List.take_length, List.drop_of_length_le (Nat.le_refl _)]
        exact .mk_vec (us := []) (by simp) (by omega) (by omega) (by simp) trivial (by simpa using VRs.nil g w) (by simp) (by simp) (by simp)
      · rw [if_neg hcl]
        simp only [Option.map_some, Addr.add_none]
        have hfl := flatten_len h3
        have hmul : l * size ≤ hh * size := Nat.mul_le_mul_right _ hlh
        have hmul2 : hh * size ≤ es.length * size := Nat.mul_le_mul_right _ hh2
        have hft : ((es.take hh).drop l).flatten = (es.flatten.take (hh * size)).drop (l * size) := by
          rw [flatten_take hh h3 hh2, flatten_drop l (fun e he => h3 e (List.mem_of_mem_take he)) (by simp; omega)]
        refine .mk_vec (us := (us.take (hh * size)).drop (l * size)) (by simp; omega) (by omega) (by omega) (fun e he => h3 e (List.mem_of_mem_take (List.mem_of_mem_drop he))) trivial ?_ (fun j hj => ?_) (fun j v hv => ?_) (fun u hu => h8 u (List.mem_of_mem_take (List.mem_of_mem_drop hu)))
        · rw [hft]; exact (h5.take _).drop _
        · rw [hft] at hj
          rw [Nat.add_assoc]; exact h6 _ (by simp at hj; omega)
        · rw [Nat.add_assoc]
          simp only [List.getElem?_drop, List.getElem?_take] at hv
          split at hv
          · exact h7 _ v hv
          · cases hv
theorem vslice_ok {t : TypeId} {x y : TV} {lo hi mx : Option TV} {u : Value} {ul uh um : Option Value} (h : vslice P t x lo hi mx = some y) (hx : VR g w x u) (hl : BR g w lo ul) (hh : BR g w hi uh) (hm : BR g w mx um) :
    Looks0 P g w (Instr.sliceAt t u ul uh um) y := by
  unfold vslice at h
  split at h
  · cases h
  cases um with
  | some _ => exact hm.elim
  | none =>
  split at h
  · rename_i hu
    split at h
    · split at h
      · rename_i s l hh' h1 h2
        split at h
        · rename_i hle
          injection h with h; subst h
          rw [hx.val_inv]
          exact .of_ok (.val _) fun w' => by simp [Instr.sliceAt, run_underlying hu, Instr.slice, bounds_run h1 h2 hl hh hle.1 hle.2]
        · cases h
      · cases h
    · cases h
  · rename_i e hu
    split at h
    · rename_i inf hinf
      split at h
      · rename_i size es tok
        split at h
        · rename_i hsz
          split at h
          · rename_i l h1
            split at h
            · rename_i hle
              injection h with h; subst h
              obtain ⟨a, n, c, rfl, rfl, hnc, h2, _⟩ := hx.vec_drop hle
              exact .of_ok h2 fun w' => by
                have e1 := bounds_run (P := P) (isS := true) (len := es.length) (cap := c) (h := es.length) (hi := none) h1 rfl hl hh hle hnc w'
                simp [Instr.sliceAt, run_underlying hu, Instr.slice, e1, run_size hinf, hsz]
            · cases h
          · rename_i l hy h1
            split at h
            · rename_i h' h2
              split at h
              · rename_i hle
                injection h with h; subst h
                obtain ⟨a, n, c, rfl, rfl, hnc, _, h3⟩ := hx.vec_drop (l := l) (by omega)
                exact .of_ok (h3 h' hle.1 hle.2) fun w' => by
                  have e1 := bounds_run (P := P) (isS := true) (len := es.length) (cap := c) (h := h') (hi := some hy) h1 h2 hl hh hle.1 (by omega) w'
                  simp [Instr.sliceAt, run_underlying hu, Instr.slice, e1, run_size hinf, hsz]
              · cases h
            · cases h
          · cases h
        · cases h
      · rename_i id off n cap
        split at h
        · rename_i l h' h1 h2
          split at h
          · rename_i hle
            injection h with h; subst h
            obtain ⟨b, hb, rfl⟩ := hx.sl_inv
            exact .of_ok (.sl hb) fun w' => by
              have e1 := bounds_run (P := P) (isS := true) (len := n) (cap := cap) (h := h') h1 h2 hl hh hle.1 hle.2.1 w'
              have e2 : ¬ cap = l := by omega
              simp [Instr.sliceAt, run_underlying hu, Instr.slice, e1, run_size hinf, e2, Addr.add_none]
          · cases h
        · cases h
      · cases h
    · cases h
  · rename_i n e hu
    split at h
    · rename_i inf id off hinf
      split at h
      · rename_i l h' h1 h2
        split at h
        · rename_i hle
          injection h with h; subst h
          obtain ⟨b, hb, rfl⟩ := hx.ptr_inv
          exact .of_ok (.sl hb) fun w' => by
            have e1 := bounds_run (P := P) (isS := false) (len := n) (cap := n) (h := h') h1 h2 hl hh hle.1 hle.2.1 w'
            have e2 : ¬ n = l := by omega
            simp [Instr.sliceAt, run_underlying hu, Instr.sureAddr, e1, run_size hinf, e2, Addr.add_none]
        · cases h
      · cases h
    · cases h
  · cases h

/-! #### Lengths -/
def vlen (P : Program) (T : VT) (t : TypeId) (x : TV) : Option TV := match P.underlying t with
  | some (.slice _) => (match x with
    | .vec _ es _ => some (.val (.int .i64 es.length))
    | .sl _ _ n _ => some (.val (.int .i64 n))
    | .val (.slice _ n _) => some (.val (.int .i64 n))
    | _ => none)
  | some .string => (match x with
    | .val (.string s) => some (.val (.int .i64 s.size))
    | _ => none)
  | some (.array n _) => some (.val (.int .i64 n))
  | some (.map _ _) => (match x with
    | .val (.map none) => some (.val (.int .i64 0))
    | .map id => (match T.objs[id]? with
      | some (.map _ _ es _) => some (.val (.int .i64 es.length))
      | _ => none)
    | _ => none)
  | _ => none
theorem vlen_ok (r : RW g T w) {t ty : TypeId} {x y : TV} {u : Value} (h : vlen P T t x = some y) (hx : VR g w x u) : Looks P g T w (Builtin.len_ #[t] ty #[u]) y := by
  unfold vlen at h
  split at h
  · rename_i e hu
    split at h
    · injection h with h; subst h
      rcases hx.vec_inv with ⟨rfl, rfl, _⟩ | ⟨b, o, c, us, rfl, _⟩
      · exact .of_ok (.val _) fun w' => by simp [Builtin.len_, run_underlying hu, goInt]
      · exact .of_ok (.val _) fun w' => by simp [Builtin.len_, run_underlying hu, goInt]
    · injection h with h; subst h
      obtain ⟨b, _, rfl⟩ := hx.sl_inv
      exact .of_ok (.val _) fun w' => by simp [Builtin.len_, run_underlying hu, goInt]
    · injection h with h; subst h
      rw [hx.val_inv]
      exact .of_ok (.val _) fun w' => by simp [Builtin.len_, run_underlying hu, goInt]
    · cases h
  · rename_i hu
    split at h
    · injection h with h; subst h
      rw [hx.val_inv]
      exact .of_ok (.val _) fun w' => by simp [Builtin.len_, run_underlying hu, goInt]
    · cases h
  · rename_i n e hu
    injection h with h; subst h
    exact .of_ok (.val _) fun w' => by simp [Builtin.len_, run_underlying hu, goInt]
  · rename_i k e hu
    split at h
    · injection h with h; subst h
      rw [hx.val_inv]
      exact .of_ok (.val _) fun w' => by simp [Builtin.len_, run_underlying hu, goInt]
    · split at h
      · rename_i id _ sh look es ck hid
        injection h with h; subst h
        obtain ⟨b, hb, rfl⟩ := hx.map_inv
        obtain ⟨b', h1, ⟨ms, h2, h3, _⟩, _⟩ := r.obj id _ hid rfl
        rw [hb] at h1; injection h1 with h1; subst h1
        have hl : ms.size = es.length := by
          have := congrArg List.length h3
          simpa using this
        exact ⟨_, .val _, fun w' hs => by
          have h4 : w'.heap[b]? = some (.map ms ck) := (hs.obj id _ b hid rfl hb).trans h2
          simp [Builtin.len_, run_underlying hu, getObj, Sem.run, h4, goInt, hl]⟩
      · cases h
    · cases h
  · cases h

/-! #### All that only read -/
def vevals (ev : Operand → TV) : List Operand → List TV := List.map ev
def vcalls (P : Program) (T : VT) (c : Call) (ev : Operand → TV) : Option TV := match c.callee with
  | .builtin .len => match c.argTypes.toList, c.args.toList with
    | [t], [x] => vlen P T t (ev x)
    | _, _ => none
  | .builtin .min => (valsOf (c.args.toList.map ev)).bind fun vs => (pureRun P (Builtin.min_ c.argTypes 0 vs.toArray)).map .val
  | .builtin .max => (valsOf (c.args.toList.map ev)).bind fun vs => (pureRun P (Builtin.max_ c.argTypes 0 vs.toArray)).map .val
  | _ => none
def vread (P : Program) (T : VT) (op : Op) (ev : Operand → TV) : Option TV := match op with
  | .move x | .assign x => some (ev x)
  | .pick c a b => match ev c with
    | .val (.bool t) => some (bif t then ev a else ev b)
    | _ => none
  | .binOp op t x y _ => vbin P op t x y (ev x) (ev y)
  | .unOp op _ x => (toVal (ev x)).bind fun v => (pureRun P (Op.unary op v)).map .val
  | .convert s d x => (toVal (ev x)).bind fun v => (pureRun P (Go.convert s d v)).map .val
  | .field t x f => vfield P t (ev x) f
  | .fieldAddr s x f => vfieldAddr P s (ev x) f
  | .indexAddr t x i => vindexAddr P t (ev x) (ev i)
  | .index t x i => (toVal (ev x)).bind fun a => (toVal (ev i)).bind fun b => (pureRun P (Instr.index t a b)).map .val
  | .load t a => vload P T t (ev a)
  | .slice t x lo hi mx => vslice P t (ev x) (lo.map ev) (hi.map ev) (mx.map ev)
  | .extract x i => match ev x with
    | .tup cs => cs[i]?
    | .val (.tuple vs) => (vs[i]?).map .val
    | _ => none
  | .makeInterface t x => match P.underlying t with
    | some (.interface _) => none
    | some _ => some (.ifc t (ev x))
    | none => none
  | .makeFunc f fi ca => some (.fn f (fi.toList.map ev) (ca.toList.map ev))
  | .nilCheck x => match ev x with
    | .ptr a b => some (.ptr a b)
    | .elt cs => some (.elt cs)
    | _ => none
  | .call c => vcalls P T c ev
  | _ => none
theorem map_rel {ev : Operand → TV} {ρ : Operand → Value} (hev : ∀ x, VR g w (ev x) (ρ x)) (l : List Operand) : VRs g w (l.map ev) (l.map ρ) :=
  ⟨by simp, fun j x u hx hu => by
    rw [List.getElem?_map] at hx hu
    cases hl : l[j]? with
    | none => rw [hl] at hx; cases hx
    | some y => rw [hl] at hx hu; simp at hx hu; subst hx hu; exact hev y⟩
theorem BR.map {ev : Operand → TV} {ρ : Operand → Value} (hev : ∀ x, VR g w (ev x) (ρ x)) (o : Option Operand) : BR g w (o.map ev) (o.map ρ) := by cases o <;> simp [BR, hev]
theorem amap (f : Operand → Value) (a : Array Operand) : a.map f = (a.toList.map f).toArray := by rw [← Array.toList_map]
theorem Looks.next {s : Sem Value} {y : TV} {n : Sem Next} (h : Looks P g T w s y) (e : n = (do pure (.value (← s)))) : ∃ v, VR g w y v ∧ ∀ w', Same g T w w' → n.run P w' = .ok (.value v) w' := by
  obtain ⟨v, h1, h2⟩ := h
  exact ⟨v, h1, fun w' hs => by subst e; simp [h2 w' hs]⟩
set_option maxHeartbeats 1000000 in
theorem vread_ok (r : RW g T w) {o : Oper} {ev : Operand → TV} {ρ : Operand → Value} {y : TV} (h : vread P T o.op ev = some y) (hev : ∀ x, VR g w (ev x) (ρ x)) :
    ∃ v, VR g w y v ∧ ∀ w', Same g T w w' → (execOp ρ o).run P w' = .ok (.value v) w' := by
  obtain ⟨dst, op, ty, pos, af, gd⟩ := o
  simp only at h
  cases op <;> simp only [vread] at h <;> try (cases h)
  case move x => exact ⟨_, hev x, fun w' _ => rfl⟩
  case assign x => exact ⟨_, hev x, fun w' _ => rfl⟩
  case pick c a b =>
    split at h
    · rename_i t hc
      injection h with h; subst h
      have h1 := hev c
      rw [hc] at h1
      refine ⟨bif t then ρ a else ρ b, by cases t <;> simp [hev], fun w' _ => ?_⟩
      simp only [execOp, h1.val_inv]
      cases t <;> rfl
    · cases h
  case binOp op t x y yt => exact (vbin_ok h (hev x) (hev y)).looks.next (by rfl)
  case unOp op t x =>
    simp only [Option.bind_eq_some_iff, Option.map_eq_some_iff] at h
    obtain ⟨v, h1, c, h2, rfl⟩ := h
    exact (Looks.of_pure (T := T) h2).next (by simp only [execOp, toVal_ok h1 (hev x)])
  case convert s d x =>
    simp only [Option.bind_eq_some_iff, Option.map_eq_some_iff] at h
    obtain ⟨v, h1, c, h2, rfl⟩ := h
    exact (Looks.of_pure (T := T) h2).next (by simp only [execOp, toVal_ok h1 (hev x)])
  case field t x f => exact (vfield_ok h (hev x)).looks.next (by rfl)
  case fieldAddr s x f => exact (vfieldAddr_ok h (hev x)).looks.next (by rfl)
  case indexAddr t x i => exact (vindexAddr_ok h (hev x) (hev i)).looks.next (by rfl)
  case index t x i =>
    simp only [Option.bind_eq_some_iff, Option.map_eq_some_iff] at h
    obtain ⟨v, h1, v2, h2, c, h3, rfl⟩ := h
    exact (Looks.of_pure (T := T) h3).next (by simp only [execOp, toVal_ok h1 (hev x), toVal_ok h2 (hev i)])
  case load t a => exact (vload_ok r h (hev a)).next (by rfl)
  case slice t x lo hi mx => exact (vslice_ok h (hev x) (BR.map hev lo) (BR.map hev hi) (BR.map hev mx)).looks.next (by rfl)
  case extract x i =>
    split at h
    · rename_i cs hc
      have h1 := hev x
      rw [hc] at h1
      obtain ⟨us, h2, h3⟩ := h1.tup_inv
      obtain ⟨v, h4, h5⟩ := h3.at h
      exact ⟨v, h5, fun w' _ => by simp [execOp, h2, Instr.extract, h4]⟩
    · rename_i vs hc
      have h1 := hev x
      rw [hc] at h1
      simp only [Option.map_eq_some_iff] at h
      obtain ⟨v, h2, rfl⟩ := h
      exact ⟨v, .val v, fun w' _ => by simp [execOp, h1.val_inv, Instr.extract, h2]⟩
    · cases h
  case makeInterface t x =>
    split at h
    · cases h
    · rename_i d hnd hd
      injection h with h; subst h
      refine ⟨_, .ifc (hev x), fun w' _ => ?_⟩
      simp only [execOp, Instr.makeInterface, Sem.run_bind, run_underlying hd, Result.andThen_ok]
      cases d <;> first | rfl | exact absurd rfl (hnd _)
    · cases h
  case makeFunc f fi ca =>
    have h1 := map_rel hev fi.toList
    have h2 := map_rel hev ca.toList
    exact ⟨_, .fn h1.1 h1.2 h2.1 h2.2, fun w' _ => by simp [execOp, Instr.makeFunc, amap]⟩
  case nilCheck x =>
    split at h
    · rename_i a b hc
      injection h with h; subst h
      have h1 := hev x
      rw [hc] at h1
      obtain ⟨c, hb, h2⟩ := h1.ptr_inv
      exact ⟨_, .ptr hb, fun w' _ => by simp [execOp, h2]⟩
    · rename_i cs hc
      injection h with h; subst h
      have h1 := hev x
      rw [hc] at h1
      have h3 := h1
      obtain ⟨b, o, us, h2, _⟩ := h1.elt_inv
      rw [h2] at h3
      exact ⟨_, h3, fun w' _ => by simp [execOp, h2]⟩
    · cases h
  case call c =>
    obtain ⟨cal, args, ats⟩ := c
    unfold vcalls at h
    split at h
    · rename_i hc
      simp only at hc; subst hc
      split at h
      · rename_i t x h1 h2
        simp only at h1 h2
        have e1 : ats = #[t] := by rw [← Array.toArray_toList (xs := ats), h1]
        have e2 : args = #[x] := by rw [← Array.toArray_toList (xs := args), h2]
        subst e1 e2
        exact (vlen_ok r (ty := ty) h (hev x)).next (by simp [execOp, resolve, invoke, builtin])
      · cases h
    · rename_i hc
      simp only at hc; subst hc
      simp only [Option.bind_eq_some_iff, Option.map_eq_some_iff] at h
      obtain ⟨vs, h1, c, h2, rfl⟩ := h
      have h3 := valsOf_ok h1 (map_rel hev args.toList)
      have h4 : args.map ρ = vs.toArray := by rw [← h3, amap]
      exact (Looks.of_pure (T := T) (s := Builtin.min_ ats ty vs.toArray) h2).next (by simp [execOp, resolve, invoke, builtin, h4])
    · rename_i hc
      simp only at hc; subst hc
      simp only [Option.bind_eq_some_iff, Option.map_eq_some_iff] at h
      obtain ⟨vs, h1, c, h2, rfl⟩ := h
      have h3 := valsOf_ok h1 (map_rel hev args.toList)
      have h4 : args.map ρ = vs.toArray := by rw [← h3, amap]
      exact (Looks.of_pure (T := T) (s := Builtin.max_ ats ty vs.toArray) h2).next (by simp [execOp, resolve, invoke, builtin, h4])
    · cases h
end
end Go.Proofs.YtapfboldkkodkaaGreatDoor
