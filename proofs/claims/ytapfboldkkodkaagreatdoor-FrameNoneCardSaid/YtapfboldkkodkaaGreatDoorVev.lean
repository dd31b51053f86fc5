/- The evaluator. For any program. -/
import Derived.Test.YtapfboldkkodkaaGreatDoorVi
import Derived.Test.YtapfboldkkodkaaGreatDoorVh
namespace Go.Proofs.YtapfboldkkodkaaGreatDoor
open Go.RowKit

section
/-! ### Regions: a plan, reckoned -/
/-- it looks at no memory, and makes and turns nothing -/
def isPure (P : Program) : Op → Bool
  | .move _ | .assign _ | .pick .. | .binOp .. | .unOp .. | .field .. | .fieldAddr .. | .indexAddr .. | .index .. | .slice .. | .extract .. | .build .. | .makeFunc .. | .makeInterface .. | .nilCheck _ | .sliceToArrayPointer .. => true
  | .convert s d _ => match P.underlying s, P.underlying d with
    | some (.slice _), _ => false
    | _, some (.slice _) => false
    | _, _ => true
  | _ => false
/-- it only reads -/
def isRead (P : Program) : Op → Bool
  | .load .. | .lookup .. => true
  | .convert s d _ => match P.underlying s, P.underlying d with
    | some (.slice _), some .string => true
    | _, _ => false
  | .call c => match c.callee with
    | .builtin .len | .builtin .cap | .builtin .min | .builtin .max => true
    | _ => false
  | _ => false
def planFind (q : Op → Bool) (ops : Array Oper) (listed : Array Bool) : List Nat → Option Nat
  | [] => none
  | i :: l => cond (match ops[i]? with | some o => q o.op && Region.free .any ops listed i | none => false) (some i) (planFind q ops listed l)
def planAuto (P : Program) (ops : Array Oper) : Nat → Array Bool → List Nat → Option (List (Nat × PK))
  | 0, _, _ => some []
  | n + 1, listed, pend => match Region.ready .any ops listed with
    | [] => some []
    | r => match planFind (isPure P) ops listed r with
      | some i => (planAuto P ops n (listed.setIfInBounds i true) pend).map ((i, .pk0) :: ·)
      | none => match planFind (isRead P) ops listed r with
        | some i => (planAuto P ops n (listed.setIfInBounds i true) (i :: pend)).map ((i, .pk1) :: ·)
        | none => match r with
          | [i] => cond (pend.all fun j => anc ops ops.size i j) ((planAuto P ops n (listed.setIfInBounds i true) []).map ((i, .pk3) :: ·)) ((planAuto P ops n (listed.setIfInBounds i true) pend).map ((i, .pk2) :: ·))
          | _ => none
def planSet (ops : Array Oper) : List (Nat × PK) → List (Oper × PK)
  | [] => []
  | (i, k) :: l => match ops[i]? with
    | some o => (o, k) :: planSet ops l
    | none => planSet ops l
def planAll (P : Program) (ops : Array Oper) : Option (List (Oper × PK)) := match planAuto P ops ops.size (Array.replicate ops.size false) [] with
  | some p => cond (Region.noSelect ops && Nat.beq p.length ops.size && planChk ops p (Array.replicate ops.size false)) (some (planSet ops p)) none
  | none => none
def noDefers (ops : Array Oper) : Bool := ops.toList.all fun o => notDefer o.op

/-! ### Operations -/
def vwant (ops : Array Oper) (σ : List TV) (o : Oper) : Option Bool := match o.guard with
  | none => some true
  | some (j, want) => match vyield ops σ j with
    | some (some b) => some (bif want then b else !b)
    | some none => some false
    | none => none
theorem vwant_ok {ops : Array Oper} {σ : List TV} {o : Oper} {b : Bool} (h : vwant ops σ o = some b) : vwanted ops σ o = some b := by
  unfold vwant at h
  unfold vwanted
  split at h
  · rename_i hg; rw [hg]; exact h
  · rename_i j want hg
    rw [hg]
    simp only
    split at h
    · rename_i c hc; rw [hc]; injection h with h; subst h; cases c <;> cases want <;> rfl
    · rename_i hc; rw [hc]; injection h with h; subst h; rfl
    · cases h
/-- where it cannot go on: why; at which operation; on what -/
def vbad (_ : Nat) (_ : Op) (_ : List TV) : Prop := False
def vextF (P : Program) (ro : Nat) (T : VT) (f : FuncId) (xs : List TV) : Option (TV × VT) := match P.funcs[f]? with
  | some fn => bif fn.body.isNone then vext P ro T fn xs else none
  | none => none
/-! #### What the kernel cannot reckon (a look at what is known by a name alone), told from outside: it is left to be shown -/
def opTmps (σ : List TV) : List Operand → List (Nat × TV)
  | [] => []
  | .tmp t :: l => (t, σ.getD t .dead) :: opTmps σ l
  | _ :: l => opTmps σ l
def evFind : List (Nat × TV) → Nat → TV
  | [], _ => .dead
  | (t, x) :: l, s => bif Nat.beq t s then x else evFind l s
def evOf (G : Globs) (l : List (Nat × TV)) : Operand → TV
  | .tmp t => evFind l t
  | x => vev G [] x
/-- at an operation: what it gives; none: it only looks; some T: what is known behind it -/
abbrev Ora := Oper → List TV → VT → Option (TV × Option VT)
def noOra : Ora := fun _ _ _ => none
def vtakes (P : Program) (T0 : VT) (ph : Bool) (op : Op) (ev : Operand → TV) : Option TV := match vpure2 P op ev with
  | some x => some x
  | none => bif ph then vlate2 P T0 op ev else vread2 P T0 op ev
inductive OPure (P : Program) (G : Globs) (op : Op) (l : List (Nat × TV)) (y : TV) : Prop
  | mk (h : vpure2 P op (evOf G l) = some y)
inductive OTake (P : Program) (G : Globs) (T0 : VT) (ph : Bool) (op : Op) (l : List (Nat × TV)) (y : TV) : Prop
  | mk (h : vtakes P T0 ph op (evOf G l) = some y)
inductive OTurn (P : Program) (G : Globs) (ro : Nat) (T : VT) (op : Op) (l : List (Nat × TV)) (y : TV) (T' : VT) : Prop
  | mk (h : vopA P ro T op (evOf G l) = some (y, T'))
abbrev Callee0 := Nat → FuncId → List TV → VT → (TV → VT → Prop) → Prop
abbrev Round0 := Nat → Nat → List TV → VT → (TV → VT → Prop) → Prop
section
variable (P : Program) (G : Globs) (F : Ora) (call : Callee0) (rnd : Round0)
def vopQ (ro : Nat) (o : Oper) (σ : List TV) (T : VT) (K : List TV → VT → Prop) : Prop := match o.op with
  | .next it false => match vnexts T (vev G σ it) with
    | some (i, l) => cond (Nat.ble ro i) (vall (fun p => K (vput σ o.dst p.1) p.2) l) (vbad 3 o.op [])
    | none => vbad 2 o.op [vev G σ it]
  | .entry it => match ventry T (vev G σ it) with
    | some y => K (vput σ o.dst y) T
    | none => vbad 2 o.op [vev G σ it]
  | .range t x => match vrange P T t (vev G σ x) with
    | some (y, T') => K (vput σ o.dst y) T'
    | none => vbad 2 o.op [vev G σ x]
  | op => match vopA P ro T op (vev G σ) with
    | some (y, T') => K (vput σ o.dst y) T'
    | none => vbad 2 op (op.operands.toList.map (vev G σ))
def vopP (ro : Nat) (o : Oper) (σ : List TV) (T : VT) (K : List TV → VT → Prop) : Prop := match F o (o.op.operands.toList.map (vev G σ)) T with
  | some (y, none) => OPure P G o.op (opTmps σ o.op.operands.toList) y ∧ K (vput σ o.dst y) T
  | some (y, some T') => OTurn P G ro T o.op (opTmps σ o.op.operands.toList) y T' ∧ K (vput σ o.dst y) T'
  | none => vopQ P G ro o σ T K
def vopI (ro : Nat) (o : Oper) (σ : List TV) (T : VT) (K : List TV → VT → Prop) : Prop := match o.op with
  | .call ⟨.value fo, args, _⟩ => match vev G σ fo with
    | .fn (.func f) fi ca => match vextF P ro T f (fi ++ args.toList.map (vev G σ) ++ ca) with
      | some (y, T') => K (vput σ o.dst y) T'
      | none => call ro f (fi ++ args.toList.map (vev G σ) ++ ca) T fun x T' => K (vput σ o.dst x) T'
    | .yld id => rnd ro id (args.toList.map (vev G σ)) T fun x T' => K (vput σ o.dst x) T'
    | x => vbad 1 o.op [x]
  | _ => vopP P G F ro o σ T K
def vops (ro : Nat) (ops : Array Oper) : List Oper → List TV → VT → (List TV → VT → Prop) → Prop
  | [], σ, T, K => K σ T
  | o :: l, σ, T, K => match vwant ops σ o with
    | some b => cond b (vopI P G F call rnd ro o σ T fun σ' T' => vops ro ops l σ' T' K) (vops ro ops l (vput σ o.dst (.val undef)) T K)
    | none => vbad 4 o.op []
/-- T0: what was there as the part of the region began; ph: has something been made since? -/
def vplan (ro : Nat) (ops : Array Oper) : VT → Bool → List (Oper × PK) → List TV → VT → (List TV → VT → Prop) → Prop
  | _, _, [], σ, T, K => K σ T
  | T0, ph, (o, .pk0) :: l, σ, T, K => match vwant ops σ o with
    | some b => cond b (match F o (o.op.operands.toList.map (vev G σ)) T with
      | some (y, none) => OPure P G o.op (opTmps σ o.op.operands.toList) y ∧ vplan ro ops T0 ph l (vput σ o.dst y) T K
      | some (_, some _) => vbad 27 o.op []
      | none => match vpure2 P o.op (vev G σ) with
        | some x => vplan ro ops T0 ph l (vput σ o.dst x) T K
        | none => vbad 5 o.op (o.op.operands.toList.map (vev G σ))) (vplan ro ops T0 ph l (vput σ o.dst (.val undef)) T K)
    | none => vbad 4 o.op []
  | T0, ph, (o, .pk1) :: l, σ, T, K => match vwant ops σ o with
    | some b => cond b (match F o (o.op.operands.toList.map (vev G σ)) T with
      | some (y, none) => OTake P G T0 ph o.op (opTmps σ o.op.operands.toList) y ∧ vplan ro ops T0 ph l (vput σ o.dst y) T K
      | some (_, some _) => vbad 27 o.op []
      | none => match vtakes P T0 ph o.op (vev G σ) with
        | some x => vplan ro ops T0 ph l (vput σ o.dst x) T K
        | none => vbad 5 o.op (o.op.operands.toList.map (vev G σ))) (vplan ro ops T0 ph l (vput σ o.dst (.val undef)) T K)
    | none => vbad 4 o.op []
  | T0, _, (o, .pk2) :: l, σ, T, K => match vwant ops σ o with
    | some b => cond b (vopI P G F call rnd T0.objs.length o σ T fun σ' T' => vplan ro ops T0 true l σ' T' K) (vplan ro ops T0 true l (vput σ o.dst (.val undef)) T K)
    | none => vbad 4 o.op []
  | _, _, (o, .pk3) :: l, σ, T, K => match vwant ops σ o with
    | some b => cond b (vopI P G F call rnd ro o σ T fun σ' T' => vplan ro ops T' false l σ' T' K) (vplan ro ops T false l (vput σ o.dst (.val undef)) T K)
    | none => vbad 4 o.op []
def vdraw (ro : Nat) (ops : Array Oper) (σ : List TV) (T : VT) (K : List TV → VT → Prop) : Prop := cond (noDefers ops) (match planAll P ops with
  | some p => vplan P G F call rnd ro ops T false p σ T K
  | none => vbad 6 (ops.toList.getLastD default).op []) (vbad 15 default σ)
end
/-! ### Code -/
abbrev Spec := Nat → List TV → VT → (TV → VT → Prop) → Prop
abbrev LSpec := Option Nat → Nat → List TV → VT → List Nat → KX → Prop
def vthen (k : List TV → VT → List Nat → Prop) (K : KX) : KX
  | .normal, σ, T, D => k σ T D
  | e, σ, T, D => K e σ T D
def vblock (id : Nat) (K : KX) : KX
  | .exit id', σ, T, D => cond (Nat.beq id' id) (K .normal σ T D) (K (.exit id') σ T D)
  | e, σ, T, D => K e σ T D
def vscope (K : KX) : KX
  | .goto _, σ, _, _ => vbad 8 default σ
  | e, σ, T, D => K e σ T D
/-- the marks are taken off -/
def vmarks (ro : Nat) : List Nat → VT → Option VT
  | [], T => some T
  | id :: D, T => match T.objs[id]? with
    | some .defd => bif Nat.ble ro id then vmarks ro D (T.kill id) else none
    | _ => none
def vleave (P : Program) (fn : Func) (ro : Nat) (σ : List TV) (T : VT) (D : List Nat) (K : TV → VT → Prop) : Prop := match vmarks ro D T with
  | some T' => match vresults P T' σ fn.results with
    | some x => K x T'
    | none => vbad 7 default σ
  | none => vbad 16 default σ
def vback (P : Program) (fn : Func) (ro : Nat) (K : TV → VT → Prop) : KX
  | .normal, σ, T, D => vleave P fn ro σ T D K
  | .ret, σ, T, D => vleave P fn ro σ T D K
  | _, σ, _, _ => vbad 9 default σ
/-- the slots of a call that begins -/
def vstart (fn : Func) (xs : List TV) : List TV := xs ++ List.replicate (fn.ntmps - xs.length) (.val undef)
abbrev Run0 := Option Nat → Nat → Code → List TV → VT → List Nat → KX → Prop
def vcallee (P : Program) (C : FuncId → Option Spec) (run : Run0) : Callee0 := fun ro f xs T K => match P.funcs[f]? with
  | some fn => match fn.body with
    | some c => match C f with
      | some W => W ro xs T K
      | none => run none ro c (vstart fn xs) T [] (vback P fn ro K)
    | none => vbad 10 default [.val (.int .i64 f)]
  | none => vbad 11 default [.val (.int .i64 f)]
def VT.setLoop (T : VT) (id : Nat) (st : LoopState) (pend : Option Code) (σ : List TV) (ps : Array Tmp) (asg body : Code) : VT := { T with objs := T.objs.set id (.loop st pend σ ps asg body) }
def vparams : List Tmp → List TV → List TV → List TV
  | p :: ps, x :: xs, σ => vparams ps xs (σ.set p x)
  | _, _, σ => σ
/-- a round's end: the record of the loop id is set -/
def vroundEnd (ro id : Nat) (st : LoopState) (pend : Option Code) (T : VT) (K : VT → Prop) : Prop := match T.objs[id]? with
  | some (.loop _ _ σ ps asg body) => cond (Nat.ble ro id) (K (T.setLoop id st pend σ ps asg body)) (vbad 17 default [])
  | _ => vbad 18 default []
def vroundOut (ro id : Nat) (K : TV → VT → Prop) : KX
  | .normal, _, T, _ => vroundEnd ro id .ready none T fun T => K (.val (.bool true)) T
  | .ret, _, T, _ => vroundEnd ro id .done (some .ret) T fun T => K (.val (.bool false)) T
  | .exit x, _, T, _ => vroundEnd ro id .done (some (.exit x)) T fun T => K (.val (.bool false)) T
  | _, σ, _, _ => vbad 19 default σ
def vround (run : Run0) : Round0 := fun ro id xs T K => match T.objs[id]? with
  | some (.loop .ready none σ ps asg body) => cond (Nat.ble ro id && Nat.beq ps.size xs.length) (run (some id) ro asg (vparams ps.toList xs σ) T [] fun e σ1 T1 D1 => match e with
    | .normal => match T1.objs[id]? with
      | some (.loop .ready none σ' ps' asg' body') => run (some id) ro body σ1 (T1.setLoop id .busy none σ' ps' asg' body') D1 (vroundOut ro id K)
      | _ => vbad 20 default σ1
    | _ => vbad 21 default σ1) (vbad 22 default xs)
  | _ => vbad 23 default xs
/-- behind a range over a function -/
def vrangeEnd (ro id : Nat) (σ : List TV) (D : List Nat) (K : KX) (T : VT) : Prop := match T.objs[id]? with
  | some (.loop .ready none σ' ps asg body) => cond (Nat.ble ro id) (K .normal σ (T.setLoop id .exhausted none σ' ps asg body) D) (vbad 17 default [])
  | some (.loop .done (some .ret) σ' ps asg body) => cond (Nat.ble ro id) (K .ret σ (T.setLoop id .exhausted (some .ret) σ' ps asg body) D) (vbad 17 default [])
  | some (.loop .done (some (.exit x)) σ' ps asg body) => cond (Nat.ble ro id) (K (.exit x) σ (T.setLoop id .exhausted (some (.exit x)) σ' ps asg body) D) (vbad 17 default [])
  | _ => vbad 24 default σ
/-- the evaluator; C: what is known of functions; L: what is known of blocks -/
def vx (P : Program) (G : Globs) (C : FuncId → Option Spec) (F : Ora) : Nat → (Nat → Option (LSpec × Code)) → Run0
  | 0, _, _, _, _, σ, _, _, _ => vbad 12 default σ
  | n + 1, L, rd, ro, c, σ, T, D, K => match c with
    | .skip => K .normal σ T D
    | .exit id => K (.exit id) σ T D
    | .ret => K .ret σ T D
    | .seq a b => vx P G C F n L rd ro a σ T D (vthen (fun σ T D => vx P G C F n L rd ro b σ T D K) K)
    | .cond c x y => match vev G σ c with
      | .val (.bool b) => cond b (vx P G C F n L rd ro x σ T D K) (vx P G C F n L rd ro y σ T D K)
      | x => vbad 13 default [x]
    | .block id c => match L id with
      | some (W, c') => c' = .block id c ∧ W rd ro σ T D K
      | none => vx P G C F n L rd ro c σ T D (vblock id K)
    | .scope c => vx P G C F n L rd ro c σ T D (vscope K)
    | .loop c => vx P G C F n L rd ro c σ T D (vthen (fun σ T D => vx P G C F n L rd ro (.loop c) σ T D K) K)
    | .region _ ops false => vops P G F (vcallee P C (vx P G C noOra n fun _ => none)) (vround (vx P G C noOra n fun _ => none)) ro ops ops.toList σ T fun σ T => K .normal σ T D
    | .region _ ops true => vdraw P G F (vcallee P C (vx P G C noOra n fun _ => none)) (vround (vx P G C noOra n fun _ => none)) ro ops σ T fun σ T => K .normal σ T D
    | .rangeFunc f ps asg body => match vev G σ f with
      | .fn (.func fi) first ca => match rd with
        | none => vcallee P C (vx P G C noOra n fun _ => none) ro fi (first ++ [.yld (T.objs.length + 1)] ++ ca) { T with objs := T.objs ++ [.defd] ++ [.loop .ready none σ ps asg body] } fun _ T' => vrangeEnd ro (T.objs.length + 1) σ (T.objs.length :: D) K T'
        | some i0 => match T.objs[i0]? with
          | some (.loop ..) => vcallee P C (vx P G C noOra n fun _ => none) ro fi (first ++ [.yld T.objs.length] ++ ca) { T with objs := T.objs ++ [.loop .ready none σ ps asg body] } fun _ T' => vrangeEnd ro T.objs.length σ D K T'
          | _ => vbad 26 default σ
      | x => vbad 25 default [x]
    | _ => vbad 14 default σ
/-- a call, reckoned -/
def vcall (P : Program) (G : Globs) (C : FuncId → Option Spec) (n : Nat) (L : Nat → Option (LSpec × Code)) (ro : Nat) (f : FuncId) (xs : List TV) (T : VT) (K : TV → VT → Prop) : Prop := match P.funcs[f]? with
  | some fn => match fn.body with
    | some c => vx P G C noOra n L none ro c (vstart fn xs) T [] (vback P fn ro K)
    | none => False
  | none => False
/-- likewise, where something is told -/
def vcallF (P : Program) (G : Globs) (C : FuncId → Option Spec) (F : Ora) (n : Nat) (L : Nat → Option (LSpec × Code)) (ro : Nat) (f : FuncId) (xs : List TV) (T : VT) (K : TV → VT → Prop) : Prop := match P.funcs[f]? with
  | some fn => match fn.body with
    | some c => vx P G C F n L none ro c (vstart fn xs) T [] (vback P fn ro K)
    | none => False
  | none => False
end
/-! ### What it reckons is so -/
end Go.Proofs.YtapfboldkkodkaaGreatDoor
