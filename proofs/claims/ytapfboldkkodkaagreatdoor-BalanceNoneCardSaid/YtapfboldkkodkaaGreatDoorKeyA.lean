/- Equality of values that hang on no memory (numbers, bools, strings, structs and arrays of these), as one Bool; keys of maps. For any program. -/
import Derived.Test.YtapfboldkkodkaaGreatDoorBase
import Derived.Laws.StructEq
import Derived.ChangeKeysEq
import Derived.MapKept
namespace Go.Proofs.YtapfboldkkodkaaGreatDoor
open Go.RowKit

/-! ### Shapes -/
inductive CK where
  | int (k : IntKind)
  | bool
  | str
def CK.fit : CK → Value → Bool
  | .int k, .int k' _ => decide (k = k')
  | .bool, .bool _ => true
  | .str, .string _ => true
  | _, _ => false
def fitAll : List CK → List Value → Bool
  | [], [] => true
  | k :: ks, v :: vs => k.fit v && fitAll ks vs
  | _, _ => false
def cellEq : Value → Value → Bool
  | .int _ a, .int _ b => a == b
  | .bool a, .bool b => a == b
  | .string a, .string b => a == b
  | _, _ => false
def eqAll : List Value → List Value → Bool
  | [], [] => true
  | x :: xs, y :: ys => bif cellEq x y then eqAll xs ys else false
  | _, _ => false
/-- a value's shape: is it an aggregate? its cells' kinds -/
structure KS where
  agg : Bool
  ks : List CK
def KS.cells (s : KS) (v : Value) : Option (List Value) := match v with
  | .agg cs => bif s.agg then some cs.toList else none
  | v => bif s.agg then none else some [v]
def KS.fits (s : KS) (v : Value) : Bool := match s.cells v with
  | some cs => fitAll s.ks cs
  | none => false
def keyEq (a b : Value) : Bool := match a, b with
  | .agg xs, .agg ys => eqAll xs.toList ys.toList
  | x, y => cellEq x y

theorem fitAll_len : ∀ {ks : List CK} {vs : List Value}, fitAll ks vs = true → vs.length = ks.length
  | [], [], _ => rfl
  | _ :: _, [], h => by simp [fitAll] at h
  | [], _ :: _, h => by simp [fitAll] at h
  | k :: ks, v :: vs, h => by simp only [fitAll, Bool.and_eq_true] at h; simp [fitAll_len h.2]
theorem fitAll_app : ∀ {ks ls : List CK} {vs : List Value}, fitAll (ks ++ ls) vs = true → fitAll ks (vs.take ks.length) = true ∧ fitAll ls (vs.drop ks.length) = true
  | [], ls, vs, h => by simpa using ⟨by simp [fitAll], h⟩
  | k :: ks, ls, [], h => by simp [fitAll] at h
  | k :: ks, ls, v :: vs, h => by
    simp only [List.cons_append, fitAll, Bool.and_eq_true] at h
    have := fitAll_app h.2
    simp only [List.length_cons, List.take_succ_cons, List.drop_succ_cons, fitAll, Bool.and_eq_true]
    exact ⟨⟨h.1, this.1⟩, this.2⟩
theorem eqAll_split (k : Nat) : ∀ {xs ys : List Value}, k ≤ xs.length → xs.length = ys.length → eqAll xs ys = (bif eqAll (xs.take k) (ys.take k) then eqAll (xs.drop k) (ys.drop k) else false) := by
  induction k with
  | zero => intro xs ys _ _; simp [eqAll]
  | succ k ih =>
    intro xs ys hk hl
    cases xs with
    | nil => simp at hk
    | cons x xs => cases ys with
      | nil => simp at hl
      | cons y ys =>
        simp only [List.length_cons, Nat.add_le_add_iff_right, Nat.add_right_cancel_iff] at hk hl
        simp only [List.take_succ_cons, List.drop_succ_cons, eqAll]
        rw [ih hk hl]
        cases cellEq x y <;> simp
theorem fit_eq {c : CK} {x y : Value} (hx : c.fit x = true) (hy : c.fit y = true) : cellEq x y = true ↔ x = y := by
  cases c <;> cases x <;> simp [CK.fit] at hx <;> cases y <;> simp [CK.fit] at hy
  · simp_all [cellEq]
  · simp_all [cellEq]
  · rename_i a b
    simp only [cellEq, Value.string.injEq]
    rw [beq_toListBytes, ByteArray.toList_eq, ByteArray.toList_eq]
    obtain ⟨⟨a⟩⟩ := a
    obtain ⟨⟨b⟩⟩ := b
    simp
theorem eqAll_iff : ∀ {ks : List CK} {xs ys : List Value}, fitAll ks xs = true → fitAll ks ys = true → (eqAll xs ys = true ↔ xs = ys)
  | [], [], [], _, _ => by simp [eqAll]
  | [], _ :: _, _, h, _ => by simp [fitAll] at h
  | [], _, _ :: _, _, h => by simp [fitAll] at h
  | _ :: _, [], _, h, _ => by simp [fitAll] at h
  | _ :: _, _, [], _, h => by simp [fitAll] at h
  | k :: ks, x :: xs, y :: ys, hx, hy => by
    simp only [fitAll, Bool.and_eq_true] at hx hy
    have h1 := fit_eq hx.1 hy.1
    have h2 := eqAll_iff hx.2 hy.2
    simp only [eqAll, List.cons.injEq, ← h1, ← h2]
    cases cellEq x y <;> simp
theorem keyEq_cells {s : KS} {a b : Value} {xs ys : List Value} (ha : s.cells a = some xs) (hb : s.cells b = some ys) : keyEq a b = eqAll xs ys := by
  unfold KS.cells at ha hb
  cases hs : s.agg <;> rw [hs] at ha hb
  · cases a <;> simp at ha <;> subst ha <;> cases b <;> simp at hb <;> subst hb <;> simp only [keyEq, eqAll, cellEq] <;> simp
  · cases a <;> simp at ha <;> subst ha <;> cases b <;> simp at hb <;> subst hb <;> simp only [keyEq]
theorem cells_inj {s : KS} {a b : Value} {xs : List Value} (ha : s.cells a = some xs) (hb : s.cells b = some xs) : a = b := by
  unfold KS.cells at ha hb
  cases hs : s.agg <;> rw [hs] at ha hb
  · cases a <;> simp at ha <;> subst ha <;> cases b <;> simp at hb <;> simp_all
  · cases a <;> simp at ha <;> subst ha <;> cases b <;> simp at hb
    rename_i u v
    have : u = v := by cases u; cases v; simp at hb; rw [hb]
    rw [this]
theorem keyEq_iff {s : KS} {a b : Value} (ha : s.fits a = true) (hb : s.fits b = true) : keyEq a b = true ↔ a = b := by
  unfold KS.fits at ha hb
  split at ha
  · rename_i xs hx
    split at hb
    · rename_i ys hy
      rw [keyEq_cells hx hy, eqAll_iff ha hb]
      exact ⟨fun h => by subst h; exact cells_inj hx hy, fun h => by subst h; rw [hx] at hy; injection hy⟩
    · cases hb
  · cases ha

/-- a map's entries: key, value, stamp -/
def mget {α : Type} (k : Value) : List (Value × α × Nat) → Option α
  | [] => none
  | e :: l => bif keyEq k e.1 then some e.2.1 else mget k l
def mput {α : Type} (k : Value) (v : α) (born : Nat) : List (Value × α × Nat) → List (Value × α × Nat)
  | [] => [(k, v, born)]
  | e :: l => bif keyEq k e.1 then (k, v, e.2.2) :: l else e :: mput k v born l
def mdel {α : Type} (k : Value) : List (Value × α × Nat) → List (Value × α × Nat)
  | [] => []
  | e :: l => bif keyEq k e.1 then l else e :: mdel k l
theorem mget_map {α β : Type} (f : α → β) (k : Value) : ∀ l : List (Value × α × Nat), mget k (l.map fun e => (e.1, f e.2.1, e.2.2)) = (mget k l).map f
  | [] => rfl
  | e :: l => by simp only [List.map_cons, mget]; cases keyEq k e.1 <;> simp [mget_map f k l]
end Go.Proofs.YtapfboldkkodkaaGreatDoor
