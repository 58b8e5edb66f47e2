/-
  The clock's plain laws: alarms as pairs (at, id), in their order; no program in sight.
-/
import Derived.Lib.SlBy
import Derived.Sort.LotA
import Derived.Shelf.SlSortCmp.Insertion
import Derived.Lib.Small
namespace Go.Proofs.Ytfbnlniabfiifaa
open Go.Lib Go.Sort

abbrev Al := Int × Int
/-- One alarm is ahead of another one. -/
def bef (x y : Al) : Bool := decide (x.1 < y.1) || (decide (x.1 = y.1) && decide (x.2 < y.2))
def cmpAl (x y : Al) : Int := if compareInt x.1 y.1 ≠ 0 then compareInt x.1 y.1 else compareInt x.2 y.2
def SortedAl (l : List Al) : Prop := l.Pairwise fun x y => bef y x = false

theorem ltOf_cmpAl (x y : Al) : ltOf cmpAl x y = bef x y := by
  unfold ltOf cmpAl bef compareInt
  by_cases h1 : x.1 < y.1
  · simp [h1]
  · by_cases h2 : x.1 > y.1
    · simp [h1, h2]; omega
    · have : x.1 = y.1 := by omega
      by_cases h3 : x.2 < y.2
      · simp [this, h3]
      · by_cases h4 : x.2 > y.2 <;> simp [this, h3, h4]

theorem bef_iff (x y : Al) : bef x y = true ↔ x.1 < y.1 ∨ (x.1 = y.1 ∧ x.2 < y.2) := by simp [bef]
theorem bef_false (x y : Al) : bef x y = false ↔ y.1 < x.1 ∨ (x.1 = y.1 ∧ y.2 ≤ x.2) := by
  rw [← Bool.not_eq_true, bef_iff]; omega

theorem swoAl : SWO (ltOf cmpAl) where
  irrefl x := by rw [ltOf_cmpAl, bef_false]; omega
  trans x y z h1 h2 := by rw [ltOf_cmpAl, bef_iff] at *; omega
  ntrans x y z h1 h2 := by rw [ltOf_cmpAl, bef_false] at *; omega

theorem bef_anti {x y : Al} (h1 : bef x y = false) (h2 : bef y x = false) : x = y := by
  rw [bef_false] at h1 h2
  exact Prod.ext (by omega) (by omega)

/-- What a sort hands back, as a list. -/
theorem sorted_list {d d' : Array Al} (hp : PermIn 0 d.size d d') (hs : SortedIn (ltOf cmpAl) 0 d.size d') : d'.toList.Perm d.toList ∧ SortedAl d'.toList := by
  obtain ⟨hsz, _, hperm⟩ := hp
  have e1 : d'.extract 0 d.size = d' := by rw [← hsz]; simp
  have e2 : d.extract 0 d.size = d := by simp
  rw [e1, e2] at hperm
  refine ⟨hperm, ?_⟩
  unfold SortedAl
  rw [List.pairwise_iff_getElem]
  intro i j hi hj hij
  have h := hs i j (Nat.zero_le _) hij (by simp at hj; omega)
  rw [ltOf_cmpAl] at h
  have hi' : i < d'.size := by simpa using hi
  have hj' : j < d'.size := by simpa using hj
  simpa [getElem!_pos, hi', hj'] using h

/-- There is one sorted permutation. -/
theorem sorted_unique {l l' : List Al} (hp : l.Perm l') (hs : SortedAl l) (hs' : SortedAl l') : l = l' := by
  exact hp.eq_of_pairwise (le := fun x y => bef y x = false) (fun a b _ _ h1 h2 => bef_anti h2 h1) hs hs'

/-- Where an alarm stands; -1: there is none. -/
def idx (l : List Al) (id : Int) : Int := idxBy (fun _ y => decide (y.2 = id)) l default
theorem idx_spec (l : List Al) (id : Int) : (idx l id = -1 ∧ ∀ a ∈ l, a.2 ≠ id) ∨ (∃ k : Nat, ∃ h : k < l.length, idx l id = k ∧ l[k].2 = id) := by
  by_cases h : ∃ k : Nat, ∃ h : k < l.length, l[k].2 = id ∧ ∀ j (hj : j < k), l[j].2 ≠ id
  · obtain ⟨k, hk, h1, h2⟩ := h
    right
    refine ⟨k, hk, ?_, h1⟩
    have := idxBy_hit (fun _ (y : Al) => decide (y.2 = id)) l l.length k default hk (Nat.le_refl _) (by simp [getElem!_pos, hk, h1]) (fun j hj => by
      have hj' : j < l.length := by omega
      simp [getElem!_pos, hj', h2 j hj])
    simpa [idx] using this
  · left
    have hall : ∀ (j : Nat) (hj : j < l.length), l[j].2 ≠ id := by
      intro j
      induction j using Nat.strongRecOn with
      | ind j ih =>
        intro hj he
        exact h ⟨j, hj, he, fun i hi => ih i hi (by omega)⟩
    refine ⟨?_, fun a ha => ?_⟩
    · have := idxBy_miss (fun _ (y : Al) => decide (y.2 = id)) l l.length default (fun j hj => by simp [getElem!_pos, hj, hall j hj])
      simpa [idx] using this
    · obtain ⟨j, hj, rfl⟩ := List.getElem_of_mem ha
      exact hall j hj
theorem idx_first (l : List Al) (id : Int) (k : Nat) (hk : k < l.length) (h : l[k].2 = id) (hno : ∀ j (hj : j < l.length), j < k → l[j].2 ≠ id) : idx l id = k := by
  have := idxBy_hit (fun _ (y : Al) => decide (y.2 = id)) l l.length k default hk (Nat.le_refl _) (by simp [getElem!_pos, hk, h]) (fun j hj => by
    have hj' : j < l.length := by omega
    simp [getElem!_pos, hj', hno j hj' hj])
  simpa [idx] using this
theorem idx_none (l : List Al) (id : Int) (hno : ∀ j (hj : j < l.length), l[j].2 ≠ id) : idx l id = -1 := by
  have := idxBy_miss (fun _ (y : Al) => decide (y.2 = id)) l l.length default (fun j hj => by simp [getElem!_pos, hj, hno j hj])
  simpa [idx] using this
theorem idx_neg (l : List Al) (id : Int) : idx l id < 0 ↔ ∀ a ∈ l, a.2 ≠ id := by
  rcases idx_spec l id with ⟨h, h1⟩ | ⟨k, hk, h, h1⟩
  · rw [h]; exact ⟨fun _ => h1, fun _ => by omega⟩
  · rw [h]; exact ⟨fun hh => by omega, fun hh => absurd h1 (hh _ (List.getElem_mem hk))⟩
theorem idx_range (l : List Al) (id : Int) : -1 ≤ idx l id ∧ idx l id < l.length := by
  rcases idx_spec l id with ⟨h, h1⟩ | ⟨k, hk, h, h1⟩ <;> omega

/-- Which error setting an alarm is; 0: none. -/
def setErr (now : Int) (l : List Al) (id after : Int) : Int :=
  if id < 0 ∨ after < 0 ∨ after > 1099511627776 then 1 else if 0 ≤ idx l id then 8 else if l.length = 64 then 5 else if after > 1099511627776 - now then 40 else 0
def tickErr (now n : Int) : Int := if n < 0 ∨ n > 1099511627776 then 1 else if n > 1099511627776 - now then 40 else 0
def dueOf (now : Int) (l : List Al) : List Int := (l.filter fun a => decide (a.1 ≤ now)).map (·.2)
def leftOf (now at_ : Int) : Int := if at_ ≤ now then 0 else at_ - now
end Go.Proofs.Ytfbnlniabfiifaa
