/-
  From a row that a call owns to the sort's own words, and back.
-/
import Derived.Test.YtfbnlniabfiifaaBase
import Derived.Shelf.GgSortFunc.RowK
import Derived.Shelf.GgSortFunc.InsertionK
namespace Go.Proofs.Ytfbnlniabfiifaa
open Go.RowKit Go.Sort
set_option linter.unusedVariables false
set_option linter.unusedSimpArgs false

theorem flatMap_get {α : Type} (enc : α → List Value) (k : Nat) (hk : ∀ x, (enc x).length = k) (h0 : 0 < k) : ∀ (l : List α) (t : Nat) (h : t / k < l.length), (l.flatMap enc)[t]? = (enc l[t / k])[t % k]? := by
  intro l
  induction l with
  | nil => intro t h; simp at h
  | cons a l ih =>
    intro t h
    rw [List.flatMap_cons, List.getElem?_append]
    by_cases ht : t < k
    · rw [if_pos (by rw [hk]; exact ht)]
      have e0 : t / k = 0 := Nat.div_eq_of_lt ht
      have e1 : t % k = t := Nat.mod_eq_of_lt ht
      simp [e0, e1]
    · rw [if_neg (by rw [hk]; exact ht), hk]
      obtain ⟨u, rfl⟩ : ∃ u, t = u + k := ⟨t - k, by omega⟩
      have e0 : (u + k) / k = u / k + 1 := Nat.add_div_right u h0
      have e1 : (u + k) % k = u % k := Nat.add_mod_right u k
      have hu : u / k < l.length := by rw [e0] at h; simpa using h
      rw [Nat.add_sub_cancel, ih u hu]
      simp [e0, e1]

theorem flatK_list {α : Type} [Inhabited α] (enc : α → List Value) (k : Nat) (hk : ∀ x, (enc x).length = k) (h0 : 0 < k) (l : List α) : (flatK enc k l.toArray).toList = l.flatMap enc := by
  have hl : (l.flatMap enc).length = l.length * k := by
    induction l with
    | nil => simp
    | cons a l ih => rw [List.flatMap_cons, List.length_append, hk, ih, List.length_cons, Nat.add_mul, Nat.one_mul, Nat.add_comm]
  apply List.ext_getElem?
  intro t
  by_cases ht : t < l.length * k
  · have hd : t / k < l.length := Nat.div_lt_of_lt_mul (by rw [Nat.mul_comm]; exact ht)
    rw [flatMap_get enc k hk h0 l t hd]
    have h1 : t < (flatK enc k l.toArray).size := by simpa using ht
    have h2 := get_flatK enc k l.toArray t (by simpa using ht)
    have hm : t % k < (enc l[t / k]).length := by rw [hk]; exact Nat.mod_lt _ h0
    rw [getElem!_pos _ t h1] at h2
    rw [Array.getElem?_toList, Array.getElem?_eq_getElem h1, h2, List.getElem?_eq_getElem hm]
    simp only [Option.some.injEq]
    have e : (l.toArray)[t / k]! = l[t / k] := by simp [hd]
    rw [e]
    exact getElem!_pos (enc l[t / k]) (t % k) hm
  · rw [List.getElem?_eq_none (by simp; omega), List.getElem?_eq_none (by omega)]

/-- What is owned is held. -/
theorem holds_of_owns {w : World} {B g n c size : Nat} {e : TypeId} {xs : List Value} (h : w.ownsRow B e size (.slice (some ⟨g, 0, none⟩) n c) n xs) : Holds id w g 0 xs.toArray := by
  intro j hj
  have hj' : j < xs.length := by simpa using hj
  refine ⟨?_, by rw [Nat.zero_add]; exact h.frozenAt j⟩
  have := h.cellAt j (by have := h.1; omega)
  rw [Nat.zero_add, this]
  simp [hj']

theorem owns_put {w : World} {B g n c size : Nat} {e : TypeId} {xs : List Value} (h : w.ownsRow B e size (.slice (some ⟨g, 0, none⟩) n c) n xs) (F : Array Value) (hF : F.size = n * size) (m : Nat) (os : Array Obj) :
    (grow (putRow id (Sort.ahead w m) g 0 F) os).ownsRow B e size (.slice (some ⟨g, 0, none⟩) n c) n F.toList ∧ Mod (fun k => k = g) w (grow (putRow id (Sort.ahead w m) g 0 F) os) := by
  obtain ⟨h1, h2⟩ := h
  rcases h2 with ⟨h', _⟩ | ⟨g', cap', cur, h', hb, hg, hnc, hcm, hcs, htake⟩
  · simp at h'
  · simp only [Value.slice.injEq, Option.some.injEq, Addr.mk.injEq, and_true, true_and] at h'
    obtain ⟨rfl, rfl⟩ := h'
    have hlt : g < w.heap.size := lt_blk hg
    have hnsz : n * size ≤ cur.size := by rw [hcs]; exact Nat.mul_le_mul_right _ hnc
    refine ⟨⟨by simpa using hF, .inr ⟨g, c, putCells id 0 F cur, rfl, hb, ?_, hnc, hcm, ?_, ?_⟩⟩, ⟨rfl, rfl, rfl, by simp, ?_⟩⟩
    · rw [heap_grow_old _ _ (by simpa using hlt)]
      simp [putRow, mapBlock, Array.getElem?_modify, hg, Sort.ahead, onCells]
    · simpa [putCells] using hcs
    · apply List.ext_getElem?
      intro t
      rw [List.getElem?_take]
      by_cases ht : t < n * size
      · have h3 : t < cur.size := by omega
        have h4 : t < F.size := by omega
        rw [if_pos ht]
        simp [putCells, Array.getElem?_mapIdx, h3, h4]
      · rw [if_neg ht, List.getElem?_eq_none (by simp; omega)]
    · intro k hk hs
      rw [heap_grow_old _ _ (by simpa using hk)]
      simp only [putRow, mapBlock, Array.getElem?_modify]
      rw [if_neg (fun e => hs e.symm)]
      rfl
end Go.Proofs.Ytfbnlniabfiifaa
