/-
  ClockSteps' plain law: which alarms are due, which one is next.
-/
import Derived.Test.YtfbnlniabfiifaaClkDo
namespace Go.Proofs.Ytfbnlniabfiifaa
open Go.RowKit Go.Lib
set_option linter.unusedVariables false
set_option linter.unusedSimpArgs false

theorem Inv.due {now : Int} {l r : List Al} (h : Inv now l r) : (dueOf now r).length = (dueOf now l).length := by
  unfold dueOf
  rw [List.length_map, List.length_map]
  exact (h.perm.filter _).length_eq.symm
theorem Inv.rank {now : Int} {l r : List Al} (h : Inv now l r) {a : Al} (ha : a ∈ r) (hd : a.1 ≤ now) : ∃ hl : rankOf r a < (dueOf now l).length, (dueOf now l)[rankOf r a] = a.2 := by
  have hr : rankOf r a = rankOf l a := by unfold rankOf; exact (h.perm.filter _).length_eq.symm
  rw [hr]
  obtain ⟨p, q, e⟩ := List.append_of_mem (h.perm.mem_iff.2 ha)
  have hs := h.sorted
  have hn := h.ids
  rw [e] at hs hn ⊢
  unfold SortedAl at hs
  rw [List.pairwise_append] at hs
  obtain ⟨_, h2, h3⟩ := hs
  rw [List.pairwise_cons] at h2
  rw [List.map_append, List.map_cons, List.nodup_append] at hn
  have hp : ∀ x ∈ p, bef x a = true := by
    intro x hx
    have h4 := h3 x hx a (by simp)
    by_cases c : bef x a = true
    · exact c
    · have := bef_anti (by simpa using c) h4
      exact absurd (by rw [this]) (hn.2.2 x.2 (List.mem_map.2 ⟨x, hx, rfl⟩) a.2 (by simp))
  have e1 : rankOf (p ++ a :: q) a = p.length := by
    unfold rankOf
    rw [List.filter_append, List.filter_cons, List.filter_eq_self.2 hp, List.filter_eq_nil_iff.2 (fun y hy => by rw [h2.1 y hy]; simp), if_neg (by have : bef a a = false := (bef_false a a).2 (.inr ⟨rfl, Int.le_refl _⟩); rw [this]; simp)]
    simp
  have hpd : ∀ x ∈ p, x.1 ≤ now := by
    intro x hx
    have := (bef_iff _ _).1 (hp x hx)
    omega
  have e2 : dueOf now (p ++ a :: q) = p.map (·.2) ++ a.2 :: dueOf now q := by
    unfold dueOf
    rw [List.filter_append, List.filter_cons, List.filter_eq_self.2 (fun x hx => by simpa using hpd x hx), if_pos (by simpa using hd)]
    simp
  have hl : rankOf (p ++ a :: q) a < (dueOf now (p ++ a :: q)).length := by rw [e1, e2]; simp
  refine ⟨hl, ?_⟩
  rw [List.getElem_eq_iff, e1, e2, List.getElem?_append_right (by simp)]
  simp

/-- The reference's next one, so far. -/
def nextOf (now : Int) (l : List Al) : Int := l.foldl (fun m a => if m < 0 ∨ leftOf now a.1 < m then leftOf now a.1 else m) (-1)
theorem next_succ (now : Int) (l : List Al) (k : Nat) (hk : k < l.length) : nextOf now (l.take (k + 1)) = if nextOf now (l.take k) < 0 ∨ leftOf now l[k].1 < nextOf now (l.take k) then leftOf now l[k].1 else nextOf now (l.take k) := by
  unfold nextOf
  rw [List.take_succ_eq_append_getElem hk, List.foldl_append]
  rfl
theorem left_nonneg (now x : Int) : 0 ≤ leftOf now x := by unfold leftOf; split <;> omega
theorem left_mono (now x y : Int) (h : x ≤ y) : leftOf now x ≤ leftOf now y := by unfold leftOf; split <;> split <;> omega
theorem next_spec (now : Int) (l : List Al) (k : Nat) (hk : k ≤ l.length) : (k = 0 ∧ nextOf now (l.take k) = -1) ∨ (0 < k ∧ ∃ a ∈ l, nextOf now (l.take k) = leftOf now a.1 ∧ ∀ b ∈ l.take k, nextOf now (l.take k) ≤ leftOf now b.1) := by
  induction k with
  | zero => left; simp [nextOf]
  | succ k ih =>
    right
    refine ⟨by omega, ?_⟩
    have hk' : k < l.length := by omega
    rw [next_succ now l k hk']
    have hb : ∀ b ∈ l.take (k + 1), b ∈ l.take k ∨ b = l[k] := by
      intro b hb
      rw [List.take_succ_eq_append_getElem hk', List.mem_append] at hb
      rcases hb with hb | hb
      · exact .inl hb
      · exact .inr (by simpa using hb)
    rcases ih (by omega) with ⟨rfl, e⟩ | ⟨_, a, ha, e, h⟩
    · rw [e, if_pos (by omega)]
      refine ⟨_, List.getElem_mem hk', rfl, fun b hm => ?_⟩
      rcases hb b hm with hm | rfl
      · simp at hm
      · exact Int.le_refl _
    · have h0 := left_nonneg now a.1
      by_cases c : leftOf now l[k].1 < nextOf now (l.take k)
      · rw [if_pos (.inr c)]
        refine ⟨_, List.getElem_mem hk', rfl, fun b hm => ?_⟩
        rcases hb b hm with hm | rfl
        · have := h b hm; omega
        · exact Int.le_refl _
      · rw [if_neg (by omega)]
        refine ⟨a, ha, e, fun b hm => ?_⟩
        rcases hb b hm with hm | rfl
        · exact h b hm
        · omega
/-- What the clock says is next, and what the reference says. -/
theorem Inv.next {now : Int} {l r : List Al} (h : Inv now l r) : (l = [] ∧ nextOf now r = -1) ∨ (∃ a q, l = a :: q ∧ nextOf now r = leftOf now a.1) := by
  have hsp := next_spec now r r.length (Nat.le_refl _)
  rw [List.take_length] at hsp
  cases hl : l with
  | nil =>
    left
    refine ⟨rfl, ?_⟩
    have := h.rlen
    rw [hl] at this
    rcases hsp with ⟨_, e⟩ | ⟨h0, _⟩
    · exact e
    · rw [List.length_nil] at this; omega
  | cons a q =>
    right
    refine ⟨a, q, rfl, ?_⟩
    have hr := h.rlen
    rw [hl, List.length_cons] at hr
    rcases hsp with ⟨h0, _⟩ | ⟨_, b, hb, e, hm⟩
    · omega
    have h1 := hm a (h.perm.mem_iff.1 (by rw [hl]; simp))
    have hbl := h.perm.mem_iff.2 hb
    rw [hl] at hbl
    have h2 : a.1 ≤ b.1 := by
      rcases List.mem_cons.1 hbl with rfl | hq
      · exact Int.le_refl _
      · have hs := h.sorted
        unfold SortedAl at hs
        rw [hl, List.pairwise_cons] at hs
        have := (bef_false _ _).1 (hs.1 b hq)
        omega
    have h3 := left_mono now _ _ h2
    omega
/-- What the two of them say of one id. -/
theorem inv_left {now : Int} {l r : List Al} (h : Inv now l r) (id : Int) : (idx r id = -1 ∧ ∀ a ∈ l, a.2 ≠ id) ∨ (∃ k : Nat, ∃ hk : k < r.length, idx r id = k ∧ ∀ a ∈ l, a.2 = id → a = r[k]) := by
  rcases idx_spec r id with ⟨e, hno⟩ | ⟨k, hk, e, hid⟩
  · exact .inl ⟨e, fun a ha => hno a (h.perm.mem_iff.1 ha)⟩
  · exact .inr ⟨k, hk, e, fun a ha he => id_inj h.ids ha (h.perm.mem_iff.2 (List.getElem_mem hk)) (he.trans hid.symm)⟩
theorem Inv.rat {now : Int} {l r : List Al} (h : Inv now l r) (k : Nat) (hk : k < r.length) : 0 ≤ r[k].1 ∧ r[k].1 ≤ 1099511627776 := h.at_ _ (h.perm.mem_iff.2 (List.getElem_mem hk))
end Go.Proofs.Ytfbnlniabfiifaa
