/- Siblings: what the program's table holds; its looks. -/
import Derived.Test.YtgconkbnokbinaaMbSbEv
import Derived.Test.YtgconkbnokbinaaMb4
namespace Go.Proofs.Ytgconkbnokbinaa
open Go.RowKit Go.Maps Go.Sort

theorem mixedB_Try : Try.prog.follows .mixedOrders = true := by kernel_rfl
theorem bodiesB_Try : bodiesOk Try.prog = true := by kernel_rfl
theorem gvals_noGl : GVals noGl := fun _ _ h => by cases h
/-- a site: its number, address, cost -/
abbrev SiT := Int × Int × Int
def siT (s : SiT) : TV := .agg (siC s.1 s.2.1 s.2.2)
def siE (s : SiT) : List TV := siC s.1 s.2.1 s.2.2
/-- the table of sites, in the order in which they came; st: the stamps -/
structure SitesOk (lk : Value → Option TV) (es : List (Value × TV × Nat)) (ck : Nat) (S : List SiT) (st : List Nat) : Prop where
  look : lk = fun k => (S.find? fun s => keyEq (encI s.1) k).map siT
  ents : es = List.zipWith (fun s b => (encI s.1, siT s, b)) S st
  slen : st.length = S.length
  nd : (S.map (·.1)).Nodup
  ids : ∀ s ∈ S, 0 ≤ s.1 ∧ s.1 < 256
  born : ∀ b ∈ st, b < ck
  borns : st.Nodup
  few : S.length ≤ 8
theorem zip_keys : ∀ {S : List SiT} {st : List Nat}, st.length = S.length → (List.zipWith (fun s b => (encI s.1, siT s, b)) S st).map (·.1) = (S.map (·.1)).map encI
  | [], [], _ => rfl
  | [], _ :: _, h => by simp at h
  | _ :: _, [], h => by simp at h
  | s :: S, b :: st, h => by
    simp only [List.zipWith_cons_cons, List.map_cons]
    rw [zip_keys (by simpa using h)]
theorem zip_born : ∀ {S : List SiT} {st : List Nat}, st.length = S.length → (List.zipWith (fun s b => (encI s.1, siT s, b)) S st).map (·.2.2) = st
  | [], [], _ => rfl
  | [], _ :: _, h => by simp at h
  | _ :: _, [], h => by simp at h
  | s :: S, b :: st, h => by
    simp only [List.zipWith_cons_cons, List.map_cons]
    rw [zip_born (by simpa using h)]
theorem SitesOk.keys {lk : Value → Option TV} {es : List (Value × TV × Nat)} {ck : Nat} {S : List SiT} {st : List Nat} (h : SitesOk lk es ck S st) : es.map (·.1) = (S.map (·.1)).map encI := by
  rw [h.ents, zip_keys h.slen]
theorem SitesOk.stamps {lk : Value → Option TV} {es : List (Value × TV × Nat)} {ck : Nat} {S : List SiT} {st : List Nat} (h : SitesOk lk es ck S st) : es.map (·.2.2) = st := by
  rw [h.ents, zip_born h.slen]
theorem SitesOk.len {lk : Value → Option TV} {es : List (Value × TV × Nat)} {ck : Nat} {S : List SiT} {st : List Nat} (h : SitesOk lk es ck S st) : es.length = S.length := by
  have := congrArg List.length h.keys
  simpa using this
theorem keyI (a b : Int) : keyEq (encI a) (encI b) = (a == b) := rfl
theorem SitesOk.at {lk : Value → Option TV} {es : List (Value × TV × Nat)} {ck : Nat} {S : List SiT} {st : List Nat} (h : SitesOk lk es ck S st) (z : Int) : lk (encI z) = (S.find? fun s => s.1 == z).map siT := by
  rw [h.look]; rfl
theorem ren_siT (f g : Nat → Option Nat) (s : SiT) : (siT s).ren f g = siT s := rfl
theorem SitesOk.ren {lk : Value → Option TV} {es : List (Value × TV × Nat)} {ck : Nat} {S : List SiT} {st : List Nat} (h : SitesOk lk es ck S st) (f g : Nat → Option Nat) : VO.ren f g (.map kI lk es ck) = .map kI lk es ck := by
  have h1 : (fun k => (lk k).map (TV.ren f g)) = lk := by
    funext k
    rw [h.look]
    simp only
    cases S.find? fun s => keyEq (encI s.1) k <;> rfl
  have h2 : es.map (fun e => (e.1, e.2.1.ren f g, e.2.2)) = es := by
    rw [h.ents]
    have go : ∀ (S : List SiT) (st : List Nat), (List.zipWith (fun s b => (encI s.1, siT s, b)) S st).map (fun e => (e.1, e.2.1.ren f g, e.2.2)) = List.zipWith (fun s b => (encI s.1, siT s, b)) S st := by
      intro S
      induction S with
      | nil => intro st; rfl
      | cons s S ih =>
        intro st
        cases st with
        | nil => rfl
        | cons b st => simp only [List.zipWith_cons_cons, List.map_cons, ih st, ren_siT]
    exact go S st
  simp only [VO.ren, h1, h2]
/-- the numbers, in order -/
def idsOf (S : List SiT) : List Int := (S.map (·.1)).mergeSort leI
theorem sk_ok {lk lk2 : Value → Option TV} {es es2 : List (Value × TV × Nat)} {ck ck2 : Nat} {S : List SiT} {st : List Nat} (h : SitesOk lk es ck S st) : ∀ ro ys T K, skW (sT3 lk lk2 es es2 ck ck2) ((idsOf S).map fun z => [.val (encI z)]) ro ys T K → VCx Try.prog noGl ro skF ys T K := by
  rintro ro ys T K ⟨⟨rfl, rfl, rfl⟩, hk⟩
  refine (sk_vcx (k := 3) (m := 1) (T := sT3 lk lk2 es es2 ck ck2) rfl rfl h.keys (fun z hz => ?_) (fun e he => ?_) (by rw [h.stamps]; exact h.borns) (by simp; have := h.few; omega)).mono ?_
  · obtain ⟨s, hs, rfl⟩ := List.mem_map.1 hz
    have := h.ids s hs
    omega
  · have hm : e.2.2 ∈ es.map (·.2.2) := List.mem_map_of_mem he
    rw [h.stamps] at hm
    exact h.born _ hm
  · rintro x T' ⟨rfl, rfl⟩
    exact hk
theorem idsOf_len (S : List SiT) : (idsOf S).length = S.length := by simp [idsOf, List.length_mergeSort]
/-- the sites, by their numbers -/
def byId (S : List SiT) : List SiT := (idsOf S).map fun z => (S.find? fun s => s.1 == z).getD (0, 0, 0)
theorem byId_at {S : List SiT} {j : Nat} (hj : j < (idsOf S).length) : ∃ s, S.find? (fun s => s.1 == (idsOf S)[j]) = some s ∧ (byId S)[j]? = some s := by
  have hm : (idsOf S)[j] ∈ S.map (·.1) := (List.mergeSort_perm (S.map (·.1)) leI).mem_iff.1 (List.getElem_mem hj)
  obtain ⟨s0, hs0, he⟩ := List.mem_map.1 hm
  cases hf : S.find? fun s => s.1 == (idsOf S)[j] with
  | none =>
    have := List.find?_eq_none.1 hf s0 hs0
    simp [he] at this
  | some s =>
    refine ⟨s, rfl, ?_⟩
    unfold byId
    rw [List.getElem?_map, List.getElem?_eq_getElem hj, Option.map_some, hf]; rfl
theorem siteInf_ex : ∃ inf : TypeInfo, Try.prog.info? 28 = some inf ∧ inf.size = 3 ∧ inf.bytes + 1 ≤ 1000 ∧ inf.zero = some (.agg #[.int .i64 0, .int .u32 0, .int .i64 0]) :=
  ⟨(Try.prog.info? 28).getD default, by kernel_rfl, by kernel_rfl, Nat.le_of_ble_eq_true (by kernel_rfl), by kernel_rfl⟩
end Go.Proofs.Ytgconkbnokbinaa
