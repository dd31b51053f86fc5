/- The evaluator. For any program. -/
import Derived.Test.YtapfboldkkodkaaGreatDoorVi
import Derived.Test.YtapfboldkkodkaaGreatDoorVh
namespace Go.Proofs.YtapfboldkkodkaaGreatDoor
open Go.RowKit

section
/-! ### Regions: a plan, reckoned -/
/-- it looks at no memory, and makes and turns nothing -/
def isPure (P : Program) : Op → Bool
  | .typeAssert .. | .move _ | .assign _ | .pick .. | .binOp .. | .unOp .. | .field .. | .fieldAddr .. | .indexAddr .. | .index .. | .slice .. | .extract .. | .build .. | .makeFunc .. | .makeInterface .. | .nilCheck _ | .sliceToArrayPointer .. => true
  | .convert s d _ => match P.underlying s, P.underlying d with
    | some (.slice _), _ => false
    | _, some (.slice _) => false
    | _, _ => true
  | _ => false
/-- it only reads -/
def isRead (P : Program) : Op → Bool
  | .load .. | .lookup .. => true
  | .convert s d _ => match P.underlying s, P.underlying d with
    | some (.slice _), some .string => true
    | _, _ => false
  | .call c => match c.callee with
    | .builtin .len | .builtin .cap | .builtin .min | .builtin .max => true
    | _ => false
  | _ => false
def planFind (q : Op → Bool) (ops : Array Oper) (listed : Array Bool) : List Nat → Option Nat
  | [] => none
  | i :: l => cond (match ops[i]? with | some o => q o.op && Region.free .any ops listed i | none => false) (some i) (planFind q ops listed l)
def planAuto (P : Program) (ops : Array Oper) : Nat → Array Bool → List Nat → Option (List (Nat × PK))
  | 0, _, _ => some []
  | n + 1, listed, pend => match Region.ready .any ops listed with
    | [] => some []
    | r => match planFind (isPure P) ops listed r with
      | some i => (planAuto P ops n (listed.setIfInBounds i true) pend).map ((i, .pk0) :: ·)
      | none => match planFind (isRead P) ops listed r with
        | some i => (planAuto P ops n (listed.setIfInBounds i true) (i :: pend)).map ((i, .pk1) :: ·)
        | none => match r with
          | [i] => cond (pend.all fun j => anc ops ops.size i j) ((planAuto P ops n (listed.setIfInBounds i true) []).map ((i, .pk3) :: ·)) (match ops[i]? with
            | some ⟨_, .store .., _, _, _, _⟩ => none
            | _ => (planAuto P ops n (listed.setIfInBounds i true) pend).map ((i, .pk2) :: ·))
          | _ => none
def planSet (ops : Array Oper) : List (Nat × PK) → List (Oper × PK)
  | [] => []
  | (i, k) :: l => match ops[i]? with
    | some o => (o, k) :: planSet ops l
    | none => planSet ops l
def planAll (P : Program) (ops : Array Oper) : Option (List (Oper × PK)) := match planAuto P ops ops.size (Array.replicate ops.size false) [] with
  | some p => cond (Region.noSelect ops && Nat.beq p.length ops.size && planChk ops p (Array.replicate ops.size false)) (some (planSet ops p)) none
  | none => none
def noDefers (ops : Array Oper) : Bool := ops.toList.all fun o => notDefer o.op

/-! ### Regions by virtual time: an operation is reckoned when that is easiest, and carried out whenever it comes up -/
inductive FK where
  | own
  | turn
  | bar
  | late
  | box (j : Nat)
  | put (pend : List Nat)
def isStore : Op → Bool
  | .store .. => true
  | _ => false
def eqL : List Nat → List Nat → Bool
  | [], [] => true
  | a :: l, b :: m => Nat.beq a b && eqL l m
  | _, _ => false
def isMkA : Op → Bool
  | .buildSlice .. => true
  | _ => false
def isOwn (P : Program) (op : Op) : Bool := isPure P op || isRead P op || isMkA op
/-- a new object, out of nothing; what it gives, what is known then -/
def vlateMk (P : Program) (T : VT) : Op → Option (TV × VT)
  | .alloc t => valloc P T t
  | .makeMap t none => vmakeMap P T t none
  | .makeSlice t (.const a) (.const b) => vmakeR P T t (.val a) (.val b)
  | _ => none
def lateAt (P : Program) (o : Oper) : Bool := (vlateMk P ⟨[], []⟩ o.op).isSome && o.guard.isNone && o.dst.isSome && notDefer o.op
/-- an alloc and the store that lays its first value: the value's cells -/
def vboxVal (P : Program) (op opj : Op) (ev : Operand → TV) : Option (List TV) := match op, opj with
  | .alloc t, .store _ _ x => match P.info? t, cellsOf (ev x) with
    | some i, some new => bif Nat.beq i.size new.length && new.all isCell then some new else none
    | _, _ => none
  | _, _ => none
def vboxMk (P : Program) (T : VT) (op opj : Op) (ev : Operand → TV) : Option (TV × VT) := (vboxVal P op opj ev).map fun new => (.ptr T.objs.length 0, { T with objs := T.objs ++ [.cells new] })
def isBoxOf (P : Program) (o oj : Oper) : Bool := match o.dst, o.op, oj.op with
  | some d, .alloc t, .store t' (.tmp d') x => Nat.beq d d' && Nat.beq t t' && oj.guard.isNone && oj.dst.isNone && (match x with
      | .tmp e => !(Nat.beq e d)
      | _ => true) && (match P.info? t with
      | some i => match i.zero with
        | some z => Nat.beq z.cells.size i.size
        | none => false
      | none => false)
  | _, _, _ => false
def boxFind (P : Program) (ops : Array Oper) (o : Oper) : List Nat → Option Nat
  | [] => none
  | j :: l => cond (match ops[j]? with | some oj => isBoxOf P o oj | none => false) (some j) (boxFind P ops o l)
def floats (P : Program) (ops : Array Oper) : List Nat → List (Nat × Option Nat)
  | [] => []
  | i :: l => match ops[i]? with
    | some o => cond (lateAt P o) ((i, boxFind P ops o (List.range ops.size)) :: floats P ops l) (floats P ops l)
    | none => floats P ops l
def floatL : List (Nat × Option Nat) → List Nat
  | [] => []
  | (i, none) :: l => i :: floatL l
  | (i, some j) :: l => i :: j :: floatL l
def setAll : List Nat → Array Bool → Array Bool
  | [], V => V
  | i :: l, V => setAll l (V.setIfInBounds i true)
def depsIn (ops : Array Oper) (V : Array Bool) (j : Nat) : Bool := match ops[j]? with
  | some o => o.after.toList.all fun e => !Region.binds .any e || V.getD e.on false
  | none => false
def ownFind (P : Program) (ops : Array Oper) : List Nat → Option Nat
  | [] => none
  | i :: l => cond (match ops[i]? with | some o => isOwn P o.op | none => false) (some i) (ownFind P ops l)
def lateFind (ops : Array Oper) (V : Array Bool) (r : List Nat) : List (Nat × Option Nat) → Option (Nat × Option Nat)
  | [] => none
  | (i, none) :: l => cond (inList r i) (some (i, none)) (lateFind ops V r l)
  | (i, some j) :: l => cond (inList r i && depsIn ops (V.setIfInBounds i true) j) (some (i, some j)) (lateFind ops V r l)
def plan2 (P : Program) (ops : Array Oper) (flo : List (Nat × Option Nat)) (F : List Nat) : Nat → Array Bool → List Nat → List (Nat × FK)
  | 0, _, _ => []
  | n + 1, V, pend => match Region.ready .any ops V with
    | [] => []
    | r => match ownFind P ops r with
      | some i => (i, .own) :: plan2 P ops flo F n (V.setIfInBounds i true) (match ops[i]? with | some o => bif isRead P o.op then i :: pend else pend | none => pend)
      | none => match r.filter fun i => !(inList F i) with
        | [i] => bif pend.all fun k => anc ops ops.size i k then (i, .bar) :: plan2 P ops flo F n (V.setIfInBounds i true) [] else (i, match ops[i]? with | some o => bif isStore o.op then .put pend else .turn | none => .turn) :: plan2 P ops flo F n (V.setIfInBounds i true) pend
        | [] => match lateFind ops V r flo with
          | some (i, none) => (i, .late) :: plan2 P ops flo F n (V.setIfInBounds i true) pend
          | some (i, some j) => (i, .box j) :: plan2 P ops flo F n ((V.setIfInBounds i true).setIfInBounds j true) pend
          | none => []
        | _ => []
/-- each slot is written once; who looks at it waits for that -/
def onceOk (ops : Array Oper) : Bool := (List.range ops.size).all fun i => match ops[i]? with
  | some o => match o.dst with
    | some d => !(inList (o.looksAt ops) d) && (List.range ops.size).all fun j => Nat.beq j i || match ops[j]? with
      | some oj => (match oj.dst with
          | some d' => !(Nat.beq d' d)
          | none => true) && (!(inList (oj.looksAt ops) d) || oj.after.toList.any fun e => Region.binds .any e && Nat.beq e.on i)
      | none => true
    | none => true
  | none => true
def remL (i : Nat) : List Nat → List Nat
  | [] => []
  | k :: l => bif Nat.beq k i then remL i l else k :: remL i l
/-- pend: what was read since the last bar -/
def plan2Chk (P : Program) (ops : Array Oper) (flo : List (Nat × Option Nat)) (F : List Nat) : List (Nat × FK) → Array Bool → List Nat → Bool
  | [], V, _ => (Region.ready .any ops V).isEmpty
  | (i, .own) :: l, V, pend => inList (Region.ready .any ops V) i && !(inList F i) && (match ops[i]? with | some o => notDefer o.op | none => false) && plan2Chk P ops flo F l (V.setIfInBounds i true) (match ops[i]? with | some o => bif isRead P o.op then i :: pend else pend | none => pend)
  | (i, .turn) :: l, V, pend => inList (Region.ready .any ops V) i && !(inList F i) && ((Region.ready .any ops (setAll F V)).all fun k => Nat.beq k i || inList F k) && plan2Chk P ops flo F l (V.setIfInBounds i true) pend
  | (i, .put pe) :: l, V, pend => eqL pe pend && inList (Region.ready .any ops V) i && !(inList F i) && ((Region.ready .any ops (setAll F V)).all fun k => Nat.beq k i || inList F k) && plan2Chk P ops flo F l (V.setIfInBounds i true) pend
  | (i, .bar) :: l, V, pend => inList (Region.ready .any ops V) i && !(inList F i) && ((Region.ready .any ops (setAll F V)).all fun k => Nat.beq k i || inList F k) && (pend.all fun k => anc ops ops.size i k) && plan2Chk P ops flo F l (V.setIfInBounds i true) []
  | (i, .late) :: l, V, pend => (flo.any fun p => Nat.beq p.1 i && p.2.isNone) && inList (Region.ready .any ops V) i && ((Region.ready .any ops (setAll (remL i F) V)).all fun k => inList F k) && plan2Chk P ops flo F l (V.setIfInBounds i true) pend
  | (i, .box j) :: l, V, pend => (flo.any fun p => Nat.beq p.1 i && match p.2 with | some j' => Nat.beq j' j | none => false) && inList (Region.ready .any ops V) i && depsIn ops (V.setIfInBounds i true) j && ((Region.ready .any ops (setAll (remL j F) V)).all fun k => inList F k) && plan2Chk P ops flo F l ((V.setIfInBounds i true).setIfInBounds j true) pend
/-- what the floats are: late operations; the stores of boxes wait for their alloc, and for no other float -/
def floChk (P : Program) (ops : Array Oper) (flo : List (Nat × Option Nat)) (F : List Nat) : Bool := flo.all fun p => match ops[p.1]? with
  | some o => lateAt P o && (match p.2 with
    | none => true
    | some j => match ops[j]? with
      | some oj => isBoxOf P o oj && (oj.after.toList.any fun e => Region.binds .any e && Nat.beq e.on p.1) && (oj.after.toList.all fun e => !Region.binds .any e || Nat.beq e.on p.1 || !(inList F e.on))
      | none => false)
  | none => false
def noDup : List Nat → Bool
  | [] => true
  | i :: l => !(inList l i) && noDup l
def plan2All (P : Program) (ops : Array Oper) : Option (List (Nat × FK)) :=
  cond (Region.noSelect ops && flowOk ops && onceOk ops && noDup (floatL (floats P ops (List.range ops.size))) && floChk P ops (floats P ops (List.range ops.size)) (floatL (floats P ops (List.range ops.size)))
    && plan2Chk P ops (floats P ops (List.range ops.size)) (floatL (floats P ops (List.range ops.size))) (plan2 P ops (floats P ops (List.range ops.size)) (floatL (floats P ops (List.range ops.size))) ops.size (Array.replicate ops.size false) []) (Array.replicate ops.size false) [])
    (some (plan2 P ops (floats P ops (List.range ops.size)) (floatL (floats P ops (List.range ops.size))) ops.size (Array.replicate ops.size false) [])) none
/-- the slots that an operation looks at -/
def onlyL (L : List Nat) : Nat → List TV → List TV
  | _, [] => []
  | s, x :: l => (bif inList L s then x else .dead) :: onlyL L (s + 1) l
def only (ops : Array Oper) (o : Oper) (σ : List TV) : List TV := onlyL (o.looksAt ops) 0 σ
def pickD (o : Oper) (s : List TV) : TV := match o.dst with
  | some d => s.getD d .dead
  | none => .dead
/-! ### Operations -/
def vwant (ops : Array Oper) (σ : List TV) (o : Oper) : Option Bool := match o.guard with
  | none => some true
  | some (j, want) => match vyield ops σ j with
    | some (some b) => some (bif want then b else !b)
    | some none => some false
    | none => none
theorem vwant_ok {ops : Array Oper} {σ : List TV} {o : Oper} {b : Bool} (h : vwant ops σ o = some b) : vwanted ops σ o = some b := by
  unfold vwant at h
  unfold vwanted
  split at h
  · rename_i hg; rw [hg]; exact h
  · rename_i j want hg
    rw [hg]
    simp only
    split at h
    · rename_i c hc; rw [hc]; injection h with h; subst h; cases c <;> cases want <;> rfl
    · rename_i hc; rw [hc]; injection h with h; subst h; rfl
    · cases h
/-- where it cannot go on: why; at which operation; on what -/
def vbad (_ : Nat) (_ : Op) (_ : List TV) : Prop := False
def vextF (P : Program) (ro : Nat) (T : VT) (f : FuncId) (xs : List TV) : Option (TV × VT) := match P.funcs[f]? with
  | some fn => bif fn.body.isNone then vext P ro T fn xs else none
  | none => none
/-! #### What the kernel cannot reckon (a look at what is known by a name alone), told from outside: it is left to be shown -/
def opTmps (σ : List TV) : List Operand → List (Nat × TV)
  | [] => []
  | .tmp t :: l => (t, σ.getD t .dead) :: opTmps σ l
  | _ :: l => opTmps σ l
def evFind : List (Nat × TV) → Nat → TV
  | [], _ => .dead
  | (t, x) :: l, s => bif Nat.beq t s then x else evFind l s
def evOf (G : Globs) (l : List (Nat × TV)) : Operand → TV
  | .tmp t => evFind l t
  | x => vev G [] x
/-- at an operation: what it gives; none: it only looks; some T: what is known behind it -/
abbrev Ora := Oper → List TV → VT → Option (TV × Option VT)
def noOra : Ora := fun _ _ _ => none
def vtakes (P : Program) (T0 : VT) (ph : Bool) (op : Op) (ev : Operand → TV) : Option TV := match vpure2 P op ev with
  | some x => some x
  | none => bif ph then vlate2 P T0 op ev else vread2 P T0 op ev
inductive OPure (P : Program) (G : Globs) (op : Op) (l : List (Nat × TV)) (y : TV) : Prop
  | mk (h : vpure2 P op (evOf G l) = some y)
inductive OTake (P : Program) (G : Globs) (T0 : VT) (ph : Bool) (op : Op) (l : List (Nat × TV)) (y : TV) : Prop
  | mk (h : vtakes P T0 ph op (evOf G l) = some y)
inductive OTurn (P : Program) (G : Globs) (ro : Nat) (T : VT) (op : Op) (l : List (Nat × TV)) (y : TV) (T' : VT) : Prop
  | mk (h : vopA P ro T op (evOf G l) = some (y, T'))
abbrev Callee0 := Nat → FuncId → List TV → VT → (TV → VT → Prop) → Prop
abbrev Round0 := Nat → Nat → List TV → VT → (TV → VT → Prop) → Prop
section
variable (P : Program) (G : Globs) (F : Ora) (call : Callee0) (rnd : Round0)
def vopQ (ro : Nat) (o : Oper) (σ : List TV) (T : VT) (K : List TV → VT → Prop) : Prop := match o.op with
  | .next it false => match vnexts T (vev G σ it) with
    | some (i, l) => cond (Nat.ble ro i) (vall (fun p => K (vput σ o.dst p.1) p.2) l) (vbad 3 o.op [])
    | none => vbad 2 o.op [vev G σ it]
  | .entry it => match ventry T (vev G σ it) with
    | some y => K (vput σ o.dst y) T
    | none => vbad 2 o.op [vev G σ it]
  | .range t x => match vrange P T t (vev G σ x) with
    | some (y, T') => K (vput σ o.dst y) T'
    | none => vbad 2 o.op [vev G σ x]
  | .binOp op t x y ty => cond (vNilE P op t (vev G σ x) (vev G σ y)) (K (vput σ o.dst (.val (.bool true))) T ∧ K (vput σ o.dst (.val (.bool false))) T) (match vopA P ro T (.binOp op t x y ty) (vev G σ) with
    | some (y, T') => K (vput σ o.dst y) T'
    | none => vbad 2 o.op [vev G σ x, vev G σ y])
  | op => match vopA P ro T op (vev G σ) with
    | some (y, T') => K (vput σ o.dst y) T'
    | none => vbad 2 op (op.operands.toList.map (vev G σ))
def vopP (ro : Nat) (o : Oper) (σ : List TV) (T : VT) (K : List TV → VT → Prop) : Prop := match F o (o.op.operands.toList.map (vev G σ)) T with
  | some (y, none) => OPure P G o.op (opTmps σ o.op.operands.toList) y ∧ K (vput σ o.dst y) T
  | some (y, some T') => OTurn P G ro T o.op (opTmps σ o.op.operands.toList) y T' ∧ K (vput σ o.dst y) T'
  | none => vopQ P G ro o σ T K
def vopI (ro : Nat) (o : Oper) (σ : List TV) (T : VT) (K : List TV → VT → Prop) : Prop := match o.op with
  | .call ⟨.value fo, args, _⟩ => match vev G σ fo with
    | .fn (.func f) fi ca => match vextF P ro T f (fi ++ args.toList.map (vev G σ) ++ ca) with
      | some (y, T') => K (vput σ o.dst y) T'
      | none => call ro f (fi ++ args.toList.map (vev G σ) ++ ca) T fun x T' => K (vput σ o.dst x) T'
    | .yld id => rnd ro id (args.toList.map (vev G σ)) T fun x T' => K (vput σ o.dst x) T'
    | x => vbad 1 o.op [x]
  | _ => vopP P G F ro o σ T K
def vops (ro : Nat) (ops : Array Oper) : List Oper → List TV → VT → (List TV → VT → Prop) → Prop
  | [], σ, T, K => K σ T
  | o :: l, σ, T, K => match vwant ops σ o with
    | some b => cond b (vopI P G F call rnd ro o σ T fun σ' T' => vops ro ops l σ' T' K) (vops ro ops l (vput σ o.dst (.val undef)) T K)
    | none => vbad 4 o.op []
/-- T0: what was there as the part of the region began; ph: has something been made since? -/
def vplan (ro : Nat) (ops : Array Oper) : VT → Bool → List (Oper × PK) → List TV → VT → (List TV → VT → Prop) → Prop
  | _, _, [], σ, T, K => K σ T
  | T0, ph, (o, .pk0) :: l, σ, T, K => match vwant ops σ o with
    | some b => cond b (match F o (o.op.operands.toList.map (vev G σ)) T with
      | some (y, none) => OPure P G o.op (opTmps σ o.op.operands.toList) y ∧ vplan ro ops T0 ph l (vput σ o.dst y) T K
      | some (_, some _) => vbad 27 o.op []
      | none => match vpure2 P o.op (vev G σ) with
        | some x => vplan ro ops T0 ph l (vput σ o.dst x) T K
        | none => vbad 5 o.op (o.op.operands.toList.map (vev G σ))) (vplan ro ops T0 ph l (vput σ o.dst (.val undef)) T K)
    | none => vbad 4 o.op []
  | T0, ph, (o, .pk1) :: l, σ, T, K => match vwant ops σ o with
    | some b => cond b (match F o (o.op.operands.toList.map (vev G σ)) T with
      | some (y, none) => OTake P G T0 ph o.op (opTmps σ o.op.operands.toList) y ∧ vplan ro ops T0 ph l (vput σ o.dst y) T K
      | some (_, some _) => vbad 27 o.op []
      | none => match vtakes P T0 ph o.op (vev G σ) with
        | some x => vplan ro ops T0 ph l (vput σ o.dst x) T K
        | none => vbad 5 o.op (o.op.operands.toList.map (vev G σ))) (vplan ro ops T0 ph l (vput σ o.dst (.val undef)) T K)
    | none => vbad 4 o.op []
  | T0, _, (o, .pk2) :: l, σ, T, K => match vwant ops σ o with
    | some b => cond b (vopI P G F call rnd T0.objs.length o σ T fun σ' T' => vplan ro ops T0 true l σ' T' K) (vplan ro ops T0 true l (vput σ o.dst (.val undef)) T K)
    | none => vbad 4 o.op []
  | _, _, (o, .pk3) :: l, σ, T, K => match vwant ops σ o with
    | some b => cond b (vopI P G F call rnd ro o σ T fun σ' T' => vplan ro ops T' false l σ' T' K) (vplan ro ops T false l (vput σ o.dst (.val undef)) T K)
    | none => vbad 4 o.op []
/-- a store into an object -/
def vput3 (P : Program) (ro : Nat) (T : VT) (t : TypeId) (a x : TV) : Option VT := match vstoreR P ro T t a x with
  | some (_, T') => some T'
  | none => match a with
    | .ptr id off => bif Nat.ble ro id then (vstore P T t (.ptr id off) x).map (·.2) else none
    | _ => none
/-- does it read nothing of these cells? -/
def apartRead (P : Program) (id off n : Nat) (op : Op) (ev : Operand → TV) : Bool := match op with
  | .load t a => match ev a with
    | .ptr id' off' => !(Nat.beq id' id) || (match P.info? t with
      | some i => Nat.ble (off' + max i.size 1) off || Nat.ble (off + n) off'
      | none => false)
    | .elt _ => true
    | _ => false
  | .lookup _ m _ _ => match ev m with
    | .map id' => !(Nat.beq id' id)
    | _ => false
  | .call c => match c.callee, c.args.toList with
    | .builtin .len, [x] => (match ev x with
      | .map id' => !(Nat.beq id' id)
      | _ => false)
    | _, _ => false
  | _ => false
def VT.takeO (T : VT) (n : Nat) : VT := { T with objs := T.objs.take n }
/-- what is looked at, or made with no number -/
def vownE (P : Program) (T0 : VT) (op : Op) (ev : Operand → TV) : Option TV := match vpure2 P op ev with
  | some x => some x
  | none => match (bif isRead P op then vread2 P T0 op ev else none) with
    | some x => some x
    | none => match op with
      | .buildSlice t n ps => (vmake P ⟨[], []⟩ (.buildSlice t n ps) ev).map (·.1)
      | _ => none
/-- the boxes whose value is there have cells -/
def boxesOk (ops : Array Oper) (V : Array Bool) (σ : List TV) : List (Nat × Option Nat) → Bool
  | [] => true
  | (_, none) :: l => boxesOk ops V σ l
  | (i, some j) :: l => (V.getD i false || !(depsIn ops (V.setIfInBounds i true) j) || (match ops[i]?, ops[j]? with
    | some o, some oj => (vboxVal P o.op oj.op (vev G (only ops oj σ))).isSome && (match o.dst with
      | some d => Nat.ble (d + 1) σ.length
      | none => false)
    | _, _ => false)) && boxesOk ops V σ l
/-- what was read, and may be read later still, is not turned -/
def pendApart (ops : Array Oper) (id off n : Nat) (σ : List TV) : List Nat → Bool
  | [] => true
  | k :: l => (match ops[k]? with
    | some o => (match vwant ops (only ops o σ) o with
      | some true => (vpure2 P o.op (vev G (only ops o σ))).isSome || apartRead P id off n o.op (vev G (only ops o σ))
      | some false => true
      | none => false)
    | none => false) && pendApart ops id off n σ l
def vplan2 (ro : Nat) (ops : Array Oper) (flo : List (Nat × Option Nat)) : Array Bool → VT → List (Nat × FK) → List TV → VT → (List TV → VT → Prop) → Prop
  | _, _, [], σ, T, K => K σ T
  | V, T0, (i, .own) :: l, σ, T, K => match ops[i]? with
    | some o => match vwant ops (only ops o σ) o with
      | some b => cond b (match F o (o.op.operands.toList.map (vev G σ)) T with
        | some (y, none) => OPure P G o.op (opTmps (only ops o σ) o.op.operands.toList) y ∧ vplan2 ro ops flo (V.setIfInBounds i true) T0 l (vput σ o.dst y) T K
        | some (_, some _) => vbad 27 o.op []
        | none => match vownE P T0 o.op (vev G (only ops o σ)) with
          | some y => vplan2 ro ops flo (V.setIfInBounds i true) T0 l (vput σ o.dst y) T K
          | none => vbad 5 o.op (o.op.operands.toList.map (vev G σ))) (vplan2 ro ops flo (V.setIfInBounds i true) T0 l (vput σ o.dst (.val undef)) T K)
      | none => vbad 4 o.op []
    | none => vbad 4 default []
  | V, T0, (i, .turn) :: l, σ, T, K => match ops[i]? with
    | some o => match vwant ops (only ops o σ) o with
      | some b => cond (boxesOk P G ops V σ flo) (cond b (vopI P G F call rnd T0.objs.length o (only ops o σ) T fun s T' => vplan2 ro ops flo (V.setIfInBounds i true) T0 l (vput σ o.dst (pickD o s)) T' K) (vplan2 ro ops flo (V.setIfInBounds i true) T0 l (vput σ o.dst (.val undef)) T K)) (vbad 28 o.op [])
      | none => vbad 4 o.op []
    | none => vbad 4 default []
  | V, T0, (i, .put pe) :: l, σ, T, K => match ops[i]? with
    | some o => match vwant ops (only ops o σ) o with
      | some b => cond (boxesOk P G ops V σ flo) (cond b (match o.op with
        | .store t a x => (match vev G (only ops o σ) a, cellsOf (vev G (only ops o σ) x) with
          | .ptr id off, some new => (match vput3 P ro T t (.ptr id off) (vev G (only ops o σ) x) with
            | some T' => cond (pendApart P G ops id off new.length σ pe) (vplan2 ro ops flo (V.setIfInBounds i true) (T'.takeO T0.objs.length) l (vput σ o.dst (pickD o (vput (only ops o σ) o.dst (.val undef)))) T' K) (vbad 29 o.op [vev G σ a])
            | none => vbad 2 o.op [vev G σ a, vev G σ x])
          | _, _ => vbad 2 o.op [vev G σ a, vev G σ x])
        | _ => vbad 4 o.op []) (vplan2 ro ops flo (V.setIfInBounds i true) (T.takeO T0.objs.length) l (vput σ o.dst (.val undef)) T K)) (vbad 28 o.op [])
      | none => vbad 4 o.op []
    | none => vbad 4 default []
  | V, _, (i, .bar) :: l, σ, T, K => match ops[i]? with
    | some o => match vwant ops (only ops o σ) o with
      | some b => cond (boxesOk P G ops V σ flo) (cond b (vopI P G F call rnd ro o (only ops o σ) T fun s T' => vplan2 ro ops flo (V.setIfInBounds i true) T' l (vput σ o.dst (pickD o s)) T' K) (vplan2 ro ops flo (V.setIfInBounds i true) T l (vput σ o.dst (.val undef)) T K)) (vbad 28 o.op [])
      | none => vbad 4 o.op []
    | none => vbad 4 default []
  | V, T0, (i, .late) :: l, σ, T, K => match ops[i]? with
    | some o => match vlateMk P T o.op with
      | some (y, T') => cond (boxesOk P G ops V σ flo) (vplan2 ro ops flo (V.setIfInBounds i true) T0 l (vput σ o.dst y) T' K) (vbad 28 o.op [])
      | none => vbad 2 o.op []
    | none => vbad 4 default []
  | V, T0, (i, .box j) :: l, σ, T, K => match ops[i]?, ops[j]? with
    | some o, some oj => match vboxMk P T o.op oj.op (vev G (only ops oj σ)) with
      | some (y, T') => cond (boxesOk P G ops V σ flo) (vplan2 ro ops flo ((V.setIfInBounds i true).setIfInBounds j true) T0 l (vput σ o.dst y) T' K) (vbad 28 o.op [])
      | none => vbad 2 o.op []
    | _, _ => vbad 4 default []
def vdraw (ro : Nat) (ops : Array Oper) (σ : List TV) (T : VT) (K : List TV → VT → Prop) : Prop := cond (noDefers ops) (match planAll P ops with
  | some p => vplan P G F call rnd ro ops T false p σ T K
  | none => match plan2All P ops with
    | some p => vplan2 P G F call rnd (min ro T.objs.length) ops (floats P ops (List.range ops.size)) (Array.replicate ops.size false) T p σ T K
    | none => vbad 6 (ops.toList.getLastD default).op []) (vbad 15 default σ)
end
/-! ### Code -/
abbrev Spec := Nat → List TV → VT → (TV → VT → Prop) → Prop
abbrev LSpec := Option Nat → Nat → List TV → VT → List Nat → KX → Prop
def vthen (k : List TV → VT → List Nat → Prop) (K : KX) : KX
  | .normal, σ, T, D => k σ T D
  | e, σ, T, D => K e σ T D
def vblock (id : Nat) (K : KX) : KX
  | .exit id', σ, T, D => cond (Nat.beq id' id) (K .normal σ T D) (K (.exit id') σ T D)
  | e, σ, T, D => K e σ T D
def vscope (K : KX) : KX
  | .goto _, σ, _, _ => vbad 8 default σ
  | e, σ, T, D => K e σ T D
/-- the marks are taken off -/
def vmarks (ro : Nat) : List Nat → VT → Option VT
  | [], T => some T
  | id :: D, T => match T.objs[id]? with
    | some .defd => bif Nat.ble ro id then vmarks ro D (T.kill id) else none
    | _ => none
def vleave (P : Program) (fn : Func) (ro : Nat) (σ : List TV) (T : VT) (D : List Nat) (K : TV → VT → Prop) : Prop := match vmarks ro D T with
  | some T' => match vresults P T' σ fn.results with
    | some x => K x T'
    | none => vbad 7 default σ
  | none => vbad 16 default σ
def vback (P : Program) (fn : Func) (ro : Nat) (K : TV → VT → Prop) : KX
  | .normal, σ, T, D => vleave P fn ro σ T D K
  | .ret, σ, T, D => vleave P fn ro σ T D K
  | _, σ, _, _ => vbad 9 default σ
/-- the slots of a call that begins -/
def vstart (fn : Func) (xs : List TV) : List TV := xs ++ List.replicate (fn.ntmps - xs.length) (.val undef)
abbrev Run0 := Option Nat → Nat → Code → List TV → VT → List Nat → KX → Prop
def vcallee (P : Program) (C : FuncId → Option Spec) (run : Run0) : Callee0 := fun ro f xs T K => match P.funcs[f]? with
  | some fn => match fn.body with
    | some c => match C f with
      | some W => W ro xs T K
      | none => run none ro c (vstart fn xs) T [] (vback P fn ro K)
    | none => vbad 10 default [.val (.int .i64 f)]
  | none => vbad 11 default [.val (.int .i64 f)]
def VT.setLoop (T : VT) (id : Nat) (st : LoopState) (pend : Option Code) (σ : List TV) (ps : Array Tmp) (asg body : Code) : VT := { T with objs := T.objs.set id (.loop st pend σ ps asg body) }
def vparams : List Tmp → List TV → List TV → List TV
  | p :: ps, x :: xs, σ => vparams ps xs (σ.set p x)
  | _, _, σ => σ
/-- a round's end: the record of the loop id is set -/
def vroundEnd (ro id : Nat) (st : LoopState) (pend : Option Code) (T : VT) (K : VT → Prop) : Prop := match T.objs[id]? with
  | some (.loop _ _ σ ps asg body) => cond (Nat.ble ro id) (K (T.setLoop id st pend σ ps asg body)) (vbad 17 default [])
  | _ => vbad 18 default []
def vroundOut (ro id : Nat) (K : TV → VT → Prop) : KX
  | .normal, _, T, _ => vroundEnd ro id .ready none T fun T => K (.val (.bool true)) T
  | .ret, _, T, _ => vroundEnd ro id .done (some .ret) T fun T => K (.val (.bool false)) T
  | .exit x, _, T, _ => vroundEnd ro id .done (some (.exit x)) T fun T => K (.val (.bool false)) T
  | _, σ, _, _ => vbad 19 default σ
def vround (run : Run0) : Round0 := fun ro id xs T K => match T.objs[id]? with
  | some (.loop .ready none σ ps asg body) => cond (Nat.ble ro id && Nat.beq ps.size xs.length) (run (some id) ro asg (vparams ps.toList xs σ) T [] fun e σ1 T1 D1 => match e with
    | .normal => match T1.objs[id]? with
      | some (.loop .ready none σ' ps' asg' body') => run (some id) ro body σ1 (T1.setLoop id .busy none σ' ps' asg' body') D1 (vroundOut ro id K)
      | _ => vbad 20 default σ1
    | _ => vbad 21 default σ1) (vbad 22 default xs)
  | _ => vbad 23 default xs
/-- behind a range over a function -/
def vrangeEnd (ro id : Nat) (σ : List TV) (D : List Nat) (K : KX) (T : VT) : Prop := match T.objs[id]? with
  | some (.loop .ready none σ' ps asg body) => cond (Nat.ble ro id) (K .normal σ (T.setLoop id .exhausted none σ' ps asg body) D) (vbad 17 default [])
  | some (.loop .done (some .ret) σ' ps asg body) => cond (Nat.ble ro id) (K .ret σ (T.setLoop id .exhausted (some .ret) σ' ps asg body) D) (vbad 17 default [])
  | some (.loop .done (some (.exit x)) σ' ps asg body) => cond (Nat.ble ro id) (K (.exit x) σ (T.setLoop id .exhausted (some (.exit x)) σ' ps asg body) D) (vbad 17 default [])
  | _ => vbad 24 default σ
/-- the evaluator; C: what is known of functions; L: what is known of blocks -/
def vx (P : Program) (G : Globs) (C : FuncId → Option Spec) (F : Ora) : Nat → (Nat → Option (LSpec × Code)) → Run0
  | 0, _, _, _, _, σ, _, _, _ => vbad 12 default σ
  | n + 1, L, rd, ro, c, σ, T, D, K => match c with
    | .skip => K .normal σ T D
    | .exit id => K (.exit id) σ T D
    | .ret => K .ret σ T D
    | .seq a b => vx P G C F n L rd ro a σ T D (vthen (fun σ T D => vx P G C F n L rd ro b σ T D K) K)
    | .cond c x y => match vev G σ c with
      | .val (.bool b) => cond b (vx P G C F n L rd ro x σ T D K) (vx P G C F n L rd ro y σ T D K)
      | x => vbad 13 default [x]
    | .block id c => match L id with
      | some (W, c') => c' = .block id c ∧ W rd ro σ T D K
      | none => vx P G C F n L rd ro c σ T D (vblock id K)
    | .scope c => vx P G C F n L rd ro c σ T D (vscope K)
    | .loop c => vx P G C F n L rd ro c σ T D (vthen (fun σ T D => vx P G C F n L rd ro (.loop c) σ T D K) K)
    | .region _ ops false => vops P G F (vcallee P C (vx P G C noOra n fun _ => none)) (vround (vx P G C noOra n fun _ => none)) ro ops ops.toList σ T fun σ T => K .normal σ T D
    | .region _ ops true => vdraw P G F (vcallee P C (vx P G C noOra n fun _ => none)) (vround (vx P G C noOra n fun _ => none)) ro ops σ T fun σ T => K .normal σ T D
    | .rangeFunc f ps asg body => match vev G σ f with
      | .fn (.func fi) first ca => match rd with
        | none => vcallee P C (vx P G C noOra n fun _ => none) ro fi (first ++ [.yld (T.objs.length + 1)] ++ ca) { T with objs := T.objs ++ [.defd] ++ [.loop .ready none σ ps asg body] } fun _ T' => vrangeEnd ro (T.objs.length + 1) σ (T.objs.length :: D) K T'
        | some i0 => match T.objs[i0]? with
          | some (.loop ..) => vcallee P C (vx P G C noOra n fun _ => none) ro fi (first ++ [.yld T.objs.length] ++ ca) { T with objs := T.objs ++ [.loop .ready none σ ps asg body] } fun _ T' => vrangeEnd ro T.objs.length σ D K T'
          | _ => vbad 26 default σ
      | x => vbad 25 default [x]
    | .label _ => K .normal σ T D
    | _ => vbad 14 default σ
/-- a call, reckoned -/
def vcall (P : Program) (G : Globs) (C : FuncId → Option Spec) (n : Nat) (L : Nat → Option (LSpec × Code)) (ro : Nat) (f : FuncId) (xs : List TV) (T : VT) (K : TV → VT → Prop) : Prop := match P.funcs[f]? with
  | some fn => match fn.body with
    | some c => vx P G C noOra n L none ro c (vstart fn xs) T [] (vback P fn ro K)
    | none => False
  | none => False
/-- likewise, where something is told -/
def vcallF (P : Program) (G : Globs) (C : FuncId → Option Spec) (F : Ora) (n : Nat) (L : Nat → Option (LSpec × Code)) (ro : Nat) (f : FuncId) (xs : List TV) (T : VT) (K : TV → VT → Prop) : Prop := match P.funcs[f]? with
  | some fn => match fn.body with
    | some c => vx P G C F n L none ro c (vstart fn xs) T [] (vback P fn ro K)
    | none => False
  | none => False
end
/-! ### What it reckons is so -/
end Go.Proofs.YtapfboldkkodkaaGreatDoor
