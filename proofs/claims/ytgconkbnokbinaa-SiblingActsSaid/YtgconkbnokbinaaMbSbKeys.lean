/- slices.Sorted(maps.Keys(m)) of a map whose keys are ints, on values. -/
import Derived.Test.YtgconkbnokbinaaSbLays
import Derived.Test.YtgconkbnokbinaaMb4
namespace Go.Proofs.Ytgconkbnokbinaa
open Go.RowKit Go.Maps Go.Sort Go.Shelf

abbrev skF := 24
abbrev mkF := 25
abbrev mk1F := 41
theorem sortsI (m : Nat) : AnyZI.SortsIn Try.prog Try.sortedI_ren Fence.wide m :=
  ⟨fun blk off cap ss W hH hblk hsz => callsIn_wide.2 (AnyM.slices_Sort_int Try.sortI blk off cap ss W hH hblk hsz),
   fun p cap W => callsIn_wide.2 (AnyM.slices_Sort_int_none Try.sortI p cap W)⟩
def anyR (_ : Value) : Option (DataW Unit × List MemPlace) := some (.nil, [])
def encI (z : Int) : Value := .int .i64 z
theorem wf_small {z : Int} (h : 0 ≤ z ∧ z < 1000) : (Lit.int .i64 z).wf = true := by
  simp only [Lit.wf]
  have e0 : IntKind.i64.min = -9223372036854775808 := by decide
  have e1 : IntKind.i64.max = 9223372036854775807 := by decide
  simp [e0, e1]; omega
theorem rg_key {x : MapEntry} {z : Int} (hx : x.key = encI z) (h : 0 ≤ z ∧ z < 1000) : Go.WideElems.rd Try.prog 3 anyR x = some (.int .i64 z, .nil) := by
  unfold Go.WideElems.rd
  rw [hx, encI, keyOf_int_mk Try.underlying3 (wf_small h)]
  rfl
/-- the data of a map whose keys are these -/
theorem keys_perm {ms : List MapEntry} {ids : List Int} (hk : ms.map (·.key) = ids.map encI) (hw : ∀ z ∈ ids, 0 ≤ z ∧ z < 1000) :
    (intKeys (.map ((ms.map (Go.WideElems.rg Try.prog 3 anyR)).foldr DataW.insert []) : DataW Unit)).Perm ids := by
  have h1 : ms.map (Go.WideElems.rg Try.prog 3 anyR) = ids.map fun z => (Lit.int .i64 z, (DataW.nil : DataW Unit)) := by
    induction ms generalizing ids with
    | nil =>
      cases ids with
      | nil => rfl
      | cons z l => simp at hk
    | cons x ms ih =>
      cases ids with
      | nil => simp at hk
      | cons z l =>
        simp only [List.map_cons, List.cons.injEq] at hk ⊢
        refine ⟨?_, ih hk.2 fun z hz => hw z (List.mem_cons_of_mem _ hz)⟩
        unfold Go.WideElems.rg
        rw [rg_key hk.1 (hw z List.mem_cons_self)]; rfl
  rw [h1]
  have h2 := Go.WideShapes.sorted_perm (H := Unit) (ids.map fun z => (Lit.int .i64 z, (DataW.nil : DataW Unit)))
  have h3 := h2.map fun p => Go.intOf p.1
  have h4 : (ids.map fun z => (Lit.int .i64 z, (DataW.nil : DataW Unit))).map (fun p => Go.intOf p.1) = ids := by
    rw [List.map_map]
    exact (List.map_congr_left fun z _ => rfl).trans (List.map_id _)
  rw [h4] at h3
  exact h3
theorem sk_vcx {G : Globs} {ro k m : Nat} {T : VT} {sh : KS} {look : Value → Option TV} {es : List (Value × TV × Nat)} {ck : Nat} {ids : List Int} (hk0 : T.objs[k]? = some (.cells [.map m])) (hm0 : T.objs[m]? = some (.map sh look es ck)) (hk : es.map (·.1) = ids.map encI) (hw : ∀ z ∈ ids, 0 ≤ z ∧ z < 1000) (hb1 : ∀ e ∈ es, e.2.2 < ck) (hb2 : (es.map (·.2.2)).Nodup) (hn : ids.length ≤ 100) :
    VCx Try.prog G ro skF [.fn (.func mk1F) [] [.ptr k 0]] T fun x T' => x = .vec 1 ((ids.mergeSort leI).map fun z => [.val (encI z)]) .none ∧ T' = T := by
  intro g w us r hG hx
  match us, hx.1 with
  | [u], _ =>
    obtain ⟨us', vs, rfl, h3, h4⟩ := (hx.2 0 _ u rfl rfl).fn_inv
    have e3 : us' = [] := List.eq_nil_of_length_eq_zero h3.1
    subst e3
    match vs, h4 with
    | [v], h4 =>
      obtain ⟨Bm, o1, rfl⟩ := (h4.2 0 _ v rfl rfl).ptr_inv
      obtain ⟨B0, p1, ⟨us0, t0, p2, p3, _⟩, _, _⟩ := r.obj k _ hk0 rfl
      rw [o1] at p1; injection p1 with p1; subst p1
      obtain ⟨b, q1, ⟨ms, q2, q3, q4, q5, q6, q7, q8⟩, _, _⟩ := r.obj m _ hm0 rfl
      have hBm : Bm < w.heap.size := (Array.getElem?_eq_some_iff.1 p2).1
      have hbl : b < w.heap.size := (Array.getElem?_eq_some_iff.1 q2).1
      have hcell : w.cell? ⟨Bm, 0, none⟩ = some (.map (some b)) := by
        match us0, p3 with
        | [x], p3 =>
          obtain ⟨b2, r1, rfl⟩ := (p3.2 0 _ x rfl rfl).map_inv
          rw [q1] at r1; injection r1 with r1; subst r1
          simp [World.cell?, p2]
        | [], p3 => have := p3.1; simp at this
        | _ :: _ :: _, p3 => have := p3.1; simp at this
      have hkeys : ms.toList.map (·.key) = ids.map encI := q3.trans hk
      have hlen : ms.toList.length = ids.length := by have := congrArg List.length hkeys; simpa using this
      have hown : w.ownsMap Try.prog 3 anyR b ids.length (.map ((ms.toList.map (Go.WideElems.rg Try.prog 3 anyR)).foldr DataW.insert [])) := by
        refine ⟨ms, ck, q2, ⟨?_, ⟨?_, ?_, ?_⟩, ?_⟩, ?_, rfl⟩
        · simp only [Array.length_toList] at hlen
          rw [hlen]; unfold maxLen; omega
        · intro x hx
          have hm : x.born ∈ ms.toList.map (·.born) := List.mem_map_of_mem hx
          rw [q5] at hm
          obtain ⟨e, he, heq⟩ := List.mem_map.1 hm
          rw [← heq]; exact hb1 e he
        · rw [q5]; exact hb2
        · rw [q3]; exact q7
        · intro x hx
          have hm : x.key ∈ ms.toList.map (·.key) := List.mem_map_of_mem hx
          rw [hkeys] at hm
          obtain ⟨z, hz, heq⟩ := List.mem_map.1 hm
          exact ⟨_, rg_key heq.symm (hw z hz)⟩
        · simp only [Array.length_toList] at hlen
          omega
      have hsz : Maps.size (.map ((ms.toList.map (Go.WideElems.rg Try.prog 3 anyR)).foldr DataW.insert []) : DataW Unit) = ids.length := by
        simp only [Maps.size, DataW.length_sorted, List.length_map]
        exact hlen
      have hseq : SeqGives Fence.wide 2 Try.prog mk1F #[.pointer (some ⟨Bm, 0, none⟩)] encZ (fun ss => ss.Perm (intKeys (.map ((ms.toList.map (Go.WideElems.rg Try.prog 3 anyR)).foldr DataW.insert []) : DataW Unit))) _ w :=
        AnyZI.keys_gives (ρ := Try.keysI_ren) { Try.keysI with } Fence.wide _ trivial rfl (by omega) Bm b ids.length _ w hBm hcell hown
      have cS := AnyZI.sorted_in Try.sortedI Fence.wide 5 trivial trivial trivial trivial rfl (by omega) (sortsI _) (enters_of Try.func40 (by kernel_rfl) rfl) mk1F #[.pointer (some ⟨Bm, 0, none⟩)] trivial (enters_of Try.func41 (by kernel_rfl) rfl) _ _ (by rw [hsz]; unfold maxLen; omega) (by rw [hsz]; omega) w hseq
      refine ((callsIn_wide (n := 5)).1 cS).mono ?_
      rintro e w' ⟨v, ss, rfl, hS, ⟨hl, hrow⟩, _, gr⟩
      have hsort : ss.mergeSort (fun x y => decide (x ≤ y)) = ids.mergeSort leI := mergeSort_of_perm_i (hS.trans (keys_perm hkeys hw))
      have hsl : ss.length = ids.length := (hS.trans (keys_perm hkeys hw)).length_eq
      rw [hsort] at hl hrow
      have r1 := r.gr gr
      have e1 := Evo.of_gr r gr
      have hms : (ids.mergeSort leI).length = ids.length := List.length_mergeSort ids
      rcases hrow with ⟨rfl, h0⟩ | ⟨b', cap, cur, rfl, hb, hg, hnc, hcm, hcs, htk⟩
      · have h1 : ids.mergeSort leI = [] := List.eq_nil_of_length_eq_zero (by omega)
        rw [h1]
        exact ⟨_, _, g, _, rfl, ⟨rfl, rfl⟩, e1, r1, .nil trivial, Fix.of_same (Same.of_gr r gr) (by simp)⟩
      · have hnf : ¬ g.fr b' := fun hf => by have := r.fr b' hf; omega
        have hcell' : ∀ (j : Nat) u, ((ids.mergeSort leI).map encI)[j]? = some u → w'.cell? ⟨b', 0 + j, none⟩ = some u := fun j u hu => by
          unfold World.cell?
          simp only [hg, Nat.zero_add]
          have hu' : ((ids.mergeSort leI).map encZ)[j]? = some u := hu
          rw [← htk, List.getElem?_take] at hu'
          split at hu'
          · simpa using hu'
          · cases hu'
        have hfl : ((ids.mergeSort leI).map fun z => [TV.val (encI z)]).flatten = ((ids.mergeSort leI).map encI).map .val := by
          have := flatV1 ((ids.mergeSort leI).map encI)
          rw [List.map_map] at this
          exact this
        refine ⟨_, _, g.addSt b' (fun o => o < (ids.mergeSort leI).length), _, rfl, ⟨rfl, rfl⟩, e1.trans (Evo.addSt hnf), r1.addSt hnf (fun id o h hl' => (r.fresh hb).obj id o h hl') (fun k x o hx _ hin => (r.fresh hb).tl k x hx (.inl ⟨o, hin⟩)) (fun o ho => ?_), ?_, Fix.of_same (Same.of_gr r gr) (by simp)⟩
        · have := hcell' o _ (by rw [List.getElem?_map, List.getElem?_eq_getElem ho]; rfl)
          rw [Nat.zero_add] at this
          rw [this]; rfl
        · refine .mk_vec (us := (ids.mergeSort leI).map encI) (by simp [hms, hsl]) hnc hcm (fun e he => by obtain ⟨z, _, rfl⟩ := List.mem_map.1 he; rfl) trivial (by rw [hfl]; exact VRs.vals _ _ _) (fun j hj => .inr ⟨rfl, ?_⟩) hcell' (fun u hu => by obtain ⟨z, _, rfl⟩ := List.mem_map.1 hu; rfl)
          rw [hfl] at hj
          simpa using hj
    | [], h4 => have := h4.1; simp at this
    | _ :: _ :: _, h4 => have := h4.1; simp at this
end Go.Proofs.Ytgconkbnokbinaa
