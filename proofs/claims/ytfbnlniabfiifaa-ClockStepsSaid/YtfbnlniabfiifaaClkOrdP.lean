/-
  ClockOrder's plain law, and two clocks that share nothing.
-/
import Derived.Test.YtfbnlniabfiifaaClkO
namespace Go.Proofs.Ytfbnlniabfiifaa
open Go.RowKit Go.Lib
set_option linter.unusedVariables false
set_option linter.unusedSimpArgs false

/-- Two clocks apart. -/
structure Two (w : World) (B a b : Nat) (va vb : Value) (na nb : Int) (la lb : List Al) : Prop where
  A : ClockAt w B a va na la
  B : ClockAt w B b vb nb lb
  ne : a ≠ b
  rows : ∀ k, va.ownBlock = some k → vb.ownBlock ≠ some k
theorem row_ne {w : World} {B b : Nat} {v : Value} {now : Int} {l : List Al} (h : ClockAt w B b v now l) {u : Value} {m : List Al} (hr : AlRow w B u m) : ∀ k, u.ownBlock = some k → k ≠ b := by
  intro k hk e
  subst e
  rcases hr.2 with ⟨rfl, _⟩ | ⟨g, cap, cur, rfl, _, hh, _⟩
  · simp [Value.ownBlock] at hk
  · simp [Value.ownBlock] at hk
    subst hk
    have := h.blk
    rw [hh] at this
    simp at this
theorem Two.symm {w : World} {B a b : Nat} {va vb : Value} {na nb : Int} {la lb : List Al} (h : Two w B a b va vb na nb la lb) : Two w B b a vb va nb na lb la :=
  ⟨h.B, h.A, h.ne.symm, fun k h1 h2 => h.rows k h2 h1⟩
theorem Two.fresh {w w' : World} (m : Fresh w w') {B a b : Nat} {va vb : Value} {na nb : Int} {la lb : List Al} (h : Two w B a b va vb na nb la lb) : Two w' B a b va vb na nb la lb :=
  ⟨h.A.fresh m, h.B.fresh m, h.ne, h.rows⟩
/-- The first one is written. -/
theorem Two.step {w w' : World} {B a b : Nat} {va vb : Value} {na nb : Int} {la lb : List Al} (h : Two w B a b va vb na nb la lb) (m : Mod (fun k => k = a ∨ va.ownBlock = some k) w w')
    {va' : Value} {na' : Int} {la' : List Al} (hA : ClockAt w' B a va' na' la') (hv : ∀ k, va'.ownBlock = some k → va.ownBlock = some k ∨ w.heap.size ≤ k) : Two w' B a b va' vb na' nb la' lb := by
  refine ⟨hA, h.B.mod m ?_ ?_, h.ne, ?_⟩
  · rintro (e | e)
    · exact h.ne e.symm
    · exact row_ne h.B h.A.row _ e rfl
  · rintro k hk (e | e)
    · exact row_ne h.A h.B.row _ hk e
    · exact h.rows k e hk
  · intro k hk e
    rcases hv k hk with e' | e'
    · exact h.rows k e' e
    · have := (World.ownsRow.lt h.B.row k e).2; omega

def okStp (s : Stp) : Bool := decide (0 ≤ s.id) && decide (0 ≤ s.n) && decide (s.n ≤ 1099511627776)
def alOf (s : Stp) : Al := (0 + s.n, s.id)
def valid (l : List Stp) : List Al := (l.filter okStp).map alOf
theorem valid_mem {l : List Stp} {a : Al} (h : a ∈ valid l) : ∃ s ∈ l, okStp s = true ∧ a = alOf s := by
  unfold valid at h
  obtain ⟨s, hs, rfl⟩ := List.mem_map.1 h
  have := List.mem_filter.1 hs
  exact ⟨s, this.1, this.2, rfl⟩
theorem valid_len (l : List Stp) : (valid l).length ≤ l.length := by unfold valid; rw [List.length_map]; exact List.length_filter_le ..
theorem valid_bounds {l : List Stp} {a : Al} (h : a ∈ valid l) : 0 ≤ a.1 ∧ a.1 ≤ 1099511627776 := by
  obtain ⟨s, _, hok, rfl⟩ := valid_mem h
  simp [okStp] at hok
  simp [alOf]
  omega
theorem ok_iff (s : Stp) : okStp s = true ↔ 0 ≤ s.id ∧ 0 ≤ s.n ∧ s.n ≤ 1099511627776 := by simp [okStp, and_assoc]

/-- One step: an alarm is set, or it cannot be. -/
theorem valid_step {p : List Stp} {la la' : List Al} {s : Stp} (hp : la.Perm (valid p)) (hs : SortedAl la) (hlen : p.length < 64) (hid : ∀ t ∈ p, t.id ≠ s.id)
    (h1 : setErr 0 la s.id s.n = 0 → la'.Perm ((0 + s.n, s.id) :: la) ∧ SortedAl la') (h2 : setErr 0 la s.id s.n ≠ 0 → la' = la) : la'.Perm (valid (s :: p)) ∧ SortedAl la' := by
  have hl := hp.length_eq
  have hv := valid_len p
  by_cases hok : okStp s = true
  · have ho := (ok_iff s).1 hok
    have hi : idx la s.id < 0 := by
      rw [idx_neg]
      intro a ha
      obtain ⟨t, ht, _, rfl⟩ := valid_mem (hp.mem_iff.1 ha)
      exact hid t ht
    have he : setErr 0 la s.id s.n = 0 := by
      unfold setErr
      rw [if_neg (by omega), if_neg (by omega), if_neg (by omega), if_neg (by omega)]
    obtain ⟨q1, q2⟩ := h1 he
    refine ⟨q1.trans ?_, q2⟩
    have e : valid (s :: p) = alOf s :: valid p := by unfold valid; rw [List.filter_cons_of_pos hok, List.map_cons]
    rw [e]
    exact List.Perm.cons _ hp
  · have hne : setErr 0 la s.id s.n ≠ 0 := by
      have := mt (ok_iff s).2 hok
      unfold setErr
      rw [if_pos (by omega)]
      decide
    obtain rfl := h2 hne
    have e : valid (s :: p) = valid p := by unfold valid; rw [List.filter_cons_of_neg hok]
    rw [e]
    exact ⟨hp, hs⟩
theorem valid_perm {p q : List Stp} (h : p.Perm q) : (valid p).Perm (valid q) := (h.filter _).map _

theorem take_snoc {l : List Stp} {k : Nat} (hk : k < l.length) : (l[k] :: l.take k).Perm (l.take (k + 1)) := by
  rw [List.take_succ_eq_append_getElem hk]
  exact (List.perm_append_comm (l₁ := l.take k) (l₂ := [l[k]])).symm
theorem drop_cons {l : List Stp} {k : Nat} (hk : k < l.length) : l.drop (l.length - (k + 1)) = l[l.length - 1 - k] :: l.drop (l.length - k) := by
  have h : l.length - (k + 1) < l.length := by omega
  rw [List.drop_eq_getElem_cons h]
  have e : l.length - (k + 1) + 1 = l.length - k := by omega
  have e2 : l.length - 1 - k = l.length - (k + 1) := by omega
  rw [e]
  simp only [e2]
/-- All ids ahead of the i-th are others. -/
def Apart (l : List Stp) (k : Nat) : Prop := ∀ i j (hi : i < l.length) (hj : j < l.length), j < i → i < k → l[i].id ≠ l[j].id
end Go.Proofs.Ytfbnlniabfiifaa
