/-
  Data that came in: a slice, its elements each by a reading of its cells.
-/
import Derived.Test.YtfbnlniabfiifaaBase
import Derived.ProofKit
import Derived.OpenShut
import Derived.Deep.Slices
import Derived.DataReads
namespace Go.Proofs.Ytfbnlniabfiifaa
open Go.RowKit Go.ChangeShapes Go.WideShapes Go.Deep
set_option linter.unusedVariables false
set_option linter.unusedSimpArgs false

/-- A slice value whose elements, k cells each, read as l. -/
def SliceIn {α : Type} (w : World) (k : Nat) (el : List Value → α → Prop) (v : Value) (l : List α) : Prop :=
  ∃ b c, v = .slice b l.length c ∧ (l.length ≤ c ∧ c ≤ 9223372036854775807) ∧ (0 < l.length → ∃ g o, b = some ⟨g, o, none⟩ ∧ ∀ j (hj : j < l.length), ∃ cs : List Value, cs.length = k ∧ (∀ i, i < k → w.cell? ⟨g, o + j * k + i, none⟩ = cs[i]?) ∧ el cs l[j])

theorem SliceIn.mod {α : Type} {S : Nat → Prop} {w w' : World} (m : Mod S w w') {k : Nat} {el : List Value → α → Prop} {v : Value} {l : List α} (h : SliceIn w k el v l) (hs : ∀ q, v.ownBlock = some q → ¬ S q) : SliceIn w' k el v l := by
  obtain ⟨b, c, rfl, h1, h2⟩ := h
  refine ⟨b, c, rfl, h1, fun h0 => ?_⟩
  obtain ⟨g, o, rfl, h3⟩ := h2 h0
  refine ⟨g, o, rfl, fun j hj => ?_⟩
  obtain ⟨cs, hk, hc, he⟩ := h3 j hj
  refine ⟨cs, hk, fun i hi => ?_, he⟩
  have : cs[i]? = some (cs[i]'(by omega)) := List.getElem?_eq_getElem (by omega)
  rw [this]
  exact m.cell ((hc i hi).trans this) (hs g rfl)

theorem list_of_fn {α : Type} [Inhabited α] (n : Nat) (p : Nat → α → Prop) (h : ∀ i, i < n → ∃ x, p i x) : ∃ l : List α, l.length = n ∧ ∀ i (hi : i < l.length), p i l[i] := by
  obtain ⟨f, hf⟩ := choose_lt h
  exact ⟨(List.range n).map f, by simp, fun i hi => by simpa using hf i (by simpa using hi)⟩

section
variable {H : Type} {enc : TypeId × Value → H} {P : Program} {w : World} {base : Nat} {spare : Nat → Bool} {held : Bool}
/-- A struct's field: its cells, read. -/
theorem field_of {t : TypeId} {fs : Array Field} {n : Nat} {cs : List Value} {y : DataW H × List MemPlace} (ht : P.underlying t = some (.struct fs)) (h : DataW.trod enc P w base spare held n t cs = some y)
    (i : Nat) (u : TypeId) (o k : Nat) (hi : (fs[i]?).map (fun f => (f.type, f.offset)) = some (u, o)) (hk : P.cellsOf u = k) : ∃ m z, DataW.trod enc P w base spare held m u ((cs.drop o).take k) = some z := by
  obtain ⟨xs, m, _, _, hl, hx, hf⟩ := DataW.trod_struct ht h
  obtain ⟨f, hfi, hfe⟩ := Option.map_eq_some_iff.1 hi
  simp only [Prod.mk.injEq] at hfe
  obtain ⟨rfl, rfl⟩ := hfe
  have hlt : i < xs.length := by rw [hx]; exact (Array.getElem?_eq_some_iff.1 hfi).1
  have := hf i f hfi
  rw [hk, List.getElem?_eq_getElem hlt] at this
  exact ⟨m, _, this⟩
theorem struct_len {t : TypeId} {fs : Array Field} {n : Nat} {cs : List Value} {y : DataW H × List MemPlace} (ht : P.underlying t = some (.struct fs)) (h : DataW.trod enc P w base spare held n t cs = some y) : cs.length = P.cellsOf t := by
  obtain ⟨xs, m, _, _, hl, hx, hf⟩ := DataW.trod_struct ht h
  exact hl
theorem open_slice_in {α : Type} [Inhabited α] (el : List Value → α → Prop) {t e : TypeId} {k fuel : Nat} {v : Value} {x : DataW H × List MemPlace} (ht : P.underlying t = some (.slice e)) (hk : P.cellsOf e = k) (hk0 : 0 < k)
    (hel : ∀ n cs y, DataW.trod enc P w base spare held n e cs = some y → ∃ a, el cs a) (h : DataW.trod enc P w base spare held fuel t [v] = some x) : ∃ l : List α, SliceIn w k el v l := by
  rcases open_slice ht h with ⟨hcs, _⟩ | ⟨a, len, cap, m, n, D, Pl, hcs, _, hlc, hcm, hm, _, hD⟩
  · simp at hcs
    exact ⟨[], none, 0, hcs, by simp, fun h0 => by simp at h0⟩
  · simp at hcs
    subst hcs
    rw [hk] at hD
    have hlm : len ≤ m := by rw [hm]; split <;> omega
    obtain ⟨l, hl, hp⟩ := list_of_fn len (fun i (y : α) => ∃ cs, w.cells? base (a.add (i * k)) k = some cs ∧ el cs y) (fun i hi => by
      obtain ⟨cs, h1, h2⟩ := hD i (by omega)
      obtain ⟨y, hy⟩ := hel _ _ _ h2
      exact ⟨y, cs, h1, hy⟩)
    refine ⟨l, some a, cap, by rw [hl], by unfold maxLen at hcm; omega, fun h0 => ?_⟩
    obtain ⟨g, o, sp⟩ := a
    have hsp : sp = none := by
      obtain ⟨cs, h1, _⟩ := hp 0 h0
      have h2 := World.cells?_some h1
      have h3 := h2.2.2 0 hk0
      have h4 : cs[0]? = some (cs[0]'(by omega)) := List.getElem?_eq_getElem (by omega)
      rw [h4] at h3
      simpa [Addr.add] using World.cell?_spot h3
    subst hsp
    refine ⟨g, o, rfl, fun j hj => ?_⟩
    obtain ⟨cs, h1, h2⟩ := hp j hj
    have h3 := World.cells?_some h1
    refine ⟨cs, h3.2.1, fun i hi => ?_, h2⟩
    have h4 := h3.2.2 i hi
    rw [Addr.add_lit, Addr.add_lit] at h4
    exact h4
end
end Go.Proofs.Ytfbnlniabfiifaa
