/- Operators and conversions, reckoned. For any program. -/
import Derived.Test.YtapfboldkkodkaaGreatDoorValT
namespace Go.Proofs.YtapfboldkkodkaaGreatDoor
open Go.RowKit

section
variable {P : Program} (t : TypeId) (xo yo : Operand) (k k' : IntKind) (a b : Int)
theorem vbin_and : vbin P .and t xo yo (.val (.int k a)) (.val (.int k b)) = some (.val (.int k (Go.bits .and k a b))) := by cases k <;> rfl
theorem vbin_or : vbin P .or t xo yo (.val (.int k a)) (.val (.int k b)) = some (.val (.int k (Go.bits .or k a b))) := by cases k <;> rfl
theorem vbin_xor : vbin P .xor t xo yo (.val (.int k a)) (.val (.int k b)) = some (.val (.int k (Go.bits .xor k a b))) := by cases k <;> rfl
theorem vbin_andNot : vbin P .andNot t xo yo (.val (.int k a)) (.val (.int k b)) = some (.val (.int k (Go.bits .andNot k a b))) := by cases k <;> rfl
theorem vbin_shl (h : ¬ b < 0) : vbin P .shl t xo yo (.val (.int k a)) (.val (.int k' b)) = some (.val (.int k (k.wrap (a * 2 ^ min b.toNat k.bits)))) := by
  have e : (do eqGuard .shl t xo yo (.int k a) (.int k' b); binOp .shl t (.int k a) (.int k' b) : Sem Value) = Op.shift .shl k a k' b := by cases k <;> rfl
  simp only [vbin, toVal]; rw [e]; simp only [Op.shift]; rw [if_neg h]; rfl
theorem vbin_shr (h : ¬ b < 0) : vbin P .shr t xo yo (.val (.int k a)) (.val (.int k' b)) = some (.val (.int k (a.fdiv (2 ^ min b.toNat k.bits)))) := by
  have e : (do eqGuard .shr t xo yo (.int k a) (.int k' b); binOp .shr t (.int k a) (.int k' b) : Sem Value) = Op.shift .shr k a k' b := by cases k <;> rfl
  simp only [vbin, toVal]; rw [e]; simp only [Op.shift]; rw [if_neg h]; rfl
theorem vbin_quo (h : ¬ b = 0) : vbin P .quo t xo yo (.val (.int k a)) (.val (.int k b)) = some (.val (.int k (k.wrap (a.tdiv b)))) := by
  have e : (do eqGuard .quo t xo yo (.int k a) (.int k b); binOp .quo t (.int k a) (.int k b) : Sem Value) = Op.intDiv .quo k a b := by cases k <;> rfl
  simp only [vbin, toVal]; rw [e]; simp only [Op.intDiv]; rw [if_neg h]; rfl
theorem vbin_rem (h : ¬ b = 0) : vbin P .rem t xo yo (.val (.int k a)) (.val (.int k b)) = some (.val (.int k (a.tmod b))) := by
  have e : (do eqGuard .rem t xo yo (.int k a) (.int k b); binOp .rem t (.int k a) (.int k b) : Sem Value) = Op.intDiv .rem k a b := by cases k <;> rfl
  simp only [vbin, toVal]; rw [e]; simp only [Op.intDiv]; rw [if_neg h]; rfl
theorem vbin_beq (p q : Bool) : vbin P .eql t xo yo (.val (.bool p)) (.val (.bool q)) = (pureRun P (Op.equal t (.bool p) (.bool q))).map fun b => .val (.bool b) := by
  have e : ∀ s : Sem Bool, pureRun P (do pure (Value.bool (← s))) = (pureRun P s).map Value.bool := by
    intro s
    induction s with
    | pure a => rfl
    | program k ih => exact ih P
    | mark m k ih => exact ih
    | _ => rfl
  have e2 : (do eqGuard .eql t xo yo (.bool p) (.bool q); binOp .eql t (.bool p) (.bool q) : Sem Value) = (do pure (Value.bool (← Op.equal t (.bool p) (.bool q)))) := rfl
  simp only [vbin, toVal]; rw [e2, e, Option.map_map]; rfl
theorem pr_conv (s d : TypeId) (ds : TypeDesc) (hs : P.underlying s = some ds) (hd : P.underlying d = some (.int k')) : pureRun P (Go.convert s d (.int k a)) = some (.int k' (k'.wrap a)) := by
  have e : ∀ (t : TypeId) (x : TypeDesc) (f : TypeDesc → Sem Value), P.underlying t = some x → pureRun P (underlying t >>= f) = pureRun P (f x) := by
    intro t x f h
    show pureRun P (Sem.bind (Sem.bind (.program .pure) _) f) = _
    simp only [Sem.bind, pureRun]
    rw [h]; rfl
  unfold Go.convert
  rw [e s ds _ hs, e d _ _ hd]
  cases ds <;> rfl
theorem vun_not (p : Bool) : (pureRun P (Op.unary .not (.bool p))) = some (.bool !p) := rfl
theorem vun_neg : (pureRun P (Op.unary .neg (.int k a))) = some (.int k (k.wrap (0 - a))) := rfl
theorem vmin2 (ts : Array TypeId) : pureRun P (Builtin.min_ ts 0 #[.int k a, .int k' b]) = some (.int k (if b < a then b else a)) := rfl
theorem vmax2 (ts : Array TypeId) : pureRun P (Builtin.max_ ts 0 #[.int k a, .int k' b]) = some (.int k (if b > a then b else a)) := rfl
end
end Go.Proofs.YtapfboldkkodkaaGreatDoor
