/- Rows that list variables and look at the library's own: the wrap; what the variables hold. -/
import Derived.Test.YtkjpbadlbpfpaaaDoorMbPTG
import Derived.Test.YtkjpbadlbpfpaaaDoorOpen28
import Derived.Test.YtkjpbadlbpfpaaaDoorMb5
import Derived.Test.YtkjpbadlbpfpaaaDoorMb4
import Derived.Lib.LaidTab
import Derived.Handed
import Derived.Shelf.Vars
import Derived.LaidHandle
namespace Go.Proofs.YtkjpbadlbpfpaaaDoor
open Go.ChangeShapes Go.WideShapes Go.ChangeAt Go.RowKit Go.Joins Go.Deep

theorem returns_shaped_and {H : Type} {enc : TypeId × Value → H} {a : Assume} {C : Checked} {os : Os} {f : FuncId} {fn : Func} {s : ChangeSpec} {conds : List PathCond} {apart fresh handsOn again : Bool} {X : World → Array Value → Prop}
    (hX : ∀ (w w' : World) (args : Array Value), w.heap = w'.heap → X w args → X w' args)
    (own : ownKnob C.prog.godebug = none) (started : os.Started) (noInit : C.prog.inits.idxOf? f = none) (hfn : C.prog.funcs[f]? = some fn)
    (witness : ∃ (w : World) (tape : Tape) (i : Input), w.os = os ∧ (w.forCall tape i).Shaped C.prog ∧ i.vars = [] ∧ Input.okWide C.prog (w.forCall tape i) .any w.heap.size f i ∧
      ((s.pre enc C.prog fn conds apart (w.forCall tape i).memory i.args ∧ X (w.forCall tape i).memory i.args) ∧ sizedMet enc C.prog fn (OpenSpec.ofChange s) apart (w.forCall tape i).memory i.args) ∧ a.holds C.prog (lone (Frame.enter C.prog f i.args .normal) [] (w.forCall tape i)))
    (contract : ∀ (W : World) (base : Nat) (args : Array Value) (ds gs : List (DataW H)) (before : List MemPlace),
      (∀ (j : Nat) t v, fn.params[j]? = some t → args[j]? = some v → Value.okWide C.prog W .any base t v) →
      DataW.Whole enc C.prog fn.params.toList s.vars apart W args.toList ds gs before →
      conds.all (PathCond.test C.prog ⟨fn.params.toList, ds, s.plain.varTypes C.prog, gs⟩) = true →
      (DataW.weightsEach C.prog (fn.params.toList ++ s.plain.varTypes C.prog) (ds ++ gs)).all (· ≤ reachBytes) = true → X W args → W.ShapedOpen C.prog →
      a.holds C.prog (lone (Frame.enter C.prog f args .normal) [] W) →
      Calls C.prog f args W fun e W' => ∃ v, e = .returned v ∧ s.post enc C.prog fn apart fresh handsOn again W args v W') :
    ReturnsInHanded a C os f .any (fun w args => (s.pre enc C.prog fn conds apart w args ∧ X w args) ∧ sizedMet enc C.prog fn (OpenSpec.ofChange s) apart w args) (s.post enc C.prog fn apart fresh handsOn again) :=
  returnsInHanded_of_calls own started noInit witness fun w tape i _ hsh _ hok hpre hholds => by
    obtain ⟨_, _, _, g, hg, _, _, _, _, hval⟩ := hok
    obtain rfl : g = fn := Option.some.inj (hg.symm.trans hfn)
    obtain ⟨⟨⟨ds, gs, before, hw, hc⟩, hx⟩, hz⟩ := hpre
    refine Calls.mono (contract _ _ _ ds gs before hval (DataW.Whole.of_heap (w' := w.forCall tape i) (by rfl) hw) hc (hz.weights hw) (hX _ _ _ (by rfl) hx) hsh hholds) ?_
    rintro e W' ⟨v, rfl, hp⟩
    exact ChangeSpec.post_blind hp
/-- a table that stands on the list -/
theorem tabIs_mem {P : Program} {W : World} {name : String} {k : IntKind} {zs : List Int} {g : Nat} {t e : TypeId} {n : Nat}
    (hg : P.globalNamed name = some g) (hty : (P.globals[g]?).map (·.type) = some t) (ht : P.underlying t = some (.array n e)) (he : P.underlying e = some (.int k)) (hce : P.cellsOf e = 1) (hct : P.cellsOf t = n) :
    ∀ (l : List (String × DataW Unit)) (ps : List MemPlace), DataW.LaidVars P W l ps → (name, Lib.tabData k zs) ∈ l → Lib.TabIs P W name k zs
  | [], _, _, hm => by cases hm
  | (n', d) :: r, ps, h, hm => by
    obtain ⟨g', t', cs, fuel, p, q, hg', ht', hvar, hd, hr, _⟩ := h
    rcases List.mem_cons.1 hm with hm | hm
    · injection hm with h1 h2
      subst h1 h2
      obtain rfl := Option.some.inj (hg.symm.trans hg')
      obtain rfl := Option.some.inj (hty.symm.trans ht')
      unfold Lib.TabIs
      rw [hvar, ← Lib.cells_of_tab ht he hce hct hd]
    · exact tabIs_mem hg hty ht he hce hct r q hr hm
def powZ : List Int := [1, 10, 100, 1000, 10000, 100000, 1000000, 10000000, 100000000, 1000000000, 10000000000, 100000000000, 1000000000000, 10000000000000, 100000000000000, 1000000000000000, 10000000000000000, 100000000000000000, 1000000000000000000, 10000000000000000000]
theorem glob_pow : Tryd.prog.globalNamed "internal/strconv.uint64pow10" = some 1 := by kernel_rfl
theorem max_of {w : World} (h : w.ShapedOpen Tryd.prog) : ∃ m, w.cell? ⟨0, 0, none⟩ = some (.int .i64 m) :=
  cell_of_shapedOpen_int (zero := #[.int .i64 0]) (t := 3) h (of_decide_eq_true (by kernel_rfl)) (by kernel_rfl) rfl (by kernel_rfl) (by kernel_rfl) Tryd.underlying3
theorem gok_pt {w : World} {m : Int} (hm : w.cell? ⟨0, 0, none⟩ = some (.int .i64 m)) (h : Lib.TabIs Tryd.prog w "internal/strconv.uint64pow10" .u64 powZ) : GOk (ptG m) (topG w) w := by
  intro n cs hn
  unfold ptG at hn
  cases hb : Nat.beq n 0 with
  | true =>
    rw [hb] at hn
    have := Nat.eq_of_beq_eq_true hb
    subst this
    injection hn with hn; subst hn
    have cell : ∀ (j : Nat) u, [Value.int .i64 m][j]? = some u → w.cell? ⟨0, 0 + j, none⟩ = some u := fun j u hj => by
      match j, hj with
      | 0, hj => simp only [List.getElem?_cons_zero, Option.some.injEq] at hj; subst hj; exact hm
      | j + 1, hj => simp at hj
    refine VR.mk_elt (us := [Value.int .i64 m]) (VRs.vals (topG w) w [.int .i64 m]) (fun j hj => ?_) cell (fun u hu => ?_)
    · show (w.cell? ⟨_, 0 + j, none⟩).isSome = true
      have hj' : j < [Value.int .i64 m].length := hj
      rw [cell j _ (List.getElem?_eq_getElem hj')]; rfl
    · obtain rfl := List.mem_singleton.1 hu
      rfl
  | false =>
    rw [hb] at hn
    cases hc : Nat.beq n 1 with
    | false => rw [hc] at hn; cases hn
    | true =>
      rw [hc] at hn
      have := Nat.eq_of_beq_eq_true hc
      subst this
      injection hn with hn; subst hn
      have cell : ∀ (j : Nat) u, (powZ.map fun z => Value.int .u64 z)[j]? = some u → w.cell? ⟨1, 0 + j, none⟩ = some u := fun j u hj => by
        have hlt : j < powZ.length := by
          have := (List.getElem?_eq_some_iff.1 hj).1
          simpa using this
        have h1 := h.cell glob_pow j hlt
        rw [Nat.zero_add, h1, ← hj, List.getElem?_map, List.getD_eq_getElem?_getD, List.getElem?_eq_getElem hlt]
        rfl
      refine VR.mk_elt (us := powZ.map fun z => Value.int .u64 z) (VRs.vals (topG w) w (powZ.map fun z => Value.int .u64 z)) (fun j hj => ?_) cell (fun u hu => ?_)
      · show (w.cell? ⟨_, 0 + j, none⟩).isSome = true
        have hj' : j < (powZ.map fun z => Value.int .u64 z).length := hj
        rw [cell j _ (List.getElem?_eq_getElem hj')]; rfl
      · obtain ⟨z, _, rfl⟩ := List.mem_map.1 hu
        rfl
end Go.Proofs.YtkjpbadlbpfpaaaDoor
