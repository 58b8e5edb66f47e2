/-
  The statements' small case 'two'.
-/
import Derived.Test.YtfbnlniabfiifaaClkI
namespace Go.Proofs.Ytfbnlniabfiifaa
open Go.RowKit Go.Lib
set_option linter.unusedVariables false
set_option linter.unusedSimpArgs false

theorem sorted_pair : SortedAl [(2, 3), (2, 7)] := by
  unfold SortedAl
  simp [bef]

theorem ClockAt.own {w : World} {B b : Nat} {v : Value} {now : Int} {l : List Al} (h : ClockAt w B b v now l) : ∀ k, k = b ∨ v.ownBlock = some k → B ≤ k := by
  intro k hk
  rcases hk with rfl | hk
  · exact h.hb
  · exact (World.ownsRow.lt h.row k hk).1
theorem fresh_then {S : Nat → Prop} {w w1 w2 : World} (m1 : Fresh w w1) (m2 : Mod S w1 w2) (h : ∀ k, S k → w.heap.size ≤ k) : Fresh w w2 :=
  m1.trans' m2 (fun k hk e => by have := h k e; omega)

set_option maxHeartbeats 1000000 in
theorem two_any (w : World) : Calls Try.prog 9 #[] w (BoolPost w true) := by
  go_enter Try.func9, Try.ntmps9
  go_wp2_with fail
  refine (new_any _).mono ?_
  rintro e w1 ⟨rfl, m1, hc1⟩
  go_wp2_with fail
  refine (set_any hc1 7 2 m1.size (by omega) (by omega) (by simp)).mono ?_
  rintro e w2 ⟨rfl, m2, v2, l2, hc2, hv2, hs2, _⟩
  obtain ⟨hp2, _⟩ := hs2 rfl
  have hl2 : l2 = [(2, 7)] := by simpa using hp2
  subst hl2
  have f2 : Fresh w w2 := fresh_then m1 m2 hc1.own
  clear hp2 hs2 m1 m2 hc1 hv2
  have e1 : setErr 0 [] 7 2 = 0 := rfl
  rw [e1]
  clear e1
  go_wp2_with fail
  refine (tick_any hc2 1 (by omega) (by omega)).mono ?_
  rintro e w3 ⟨rfl, m3, hc3⟩
  have f3 : Fresh w w3 := fresh_then f2 m3 (fun k e => hc2.own k (.inl e))
  have e1 : tickErr 0 1 = 0 := rfl
  rw [e1] at hc3 ⊢
  simp only [if_true, Int.zero_add] at hc3
  clear e1 m3 hc2 f2
  go_wp2_with fail
  refine (set_any hc3 3 1 f3.size (by omega) (by omega) (by simp)).mono ?_
  rintro e w4 ⟨rfl, m4, v4, l4, hc4, hv4, hs4, _⟩
  obtain ⟨hp4, hso4⟩ := hs4 rfl
  have hl4 : l4 = [(2, 3), (2, 7)] := sorted_unique hp4 hso4 sorted_pair
  subst hl4
  have f4 : Fresh w w4 := fresh_then f3 m4 hc3.own
  have e1 : setErr 1 [(2, 7)] 3 1 = 0 := rfl
  rw [e1]
  clear hp4 hs4 m4 hc3 hv4 hso4 e1 f3
  go_wp2_with fail
  refine (tick_any hc4 1 (by omega) (by omega)).mono ?_
  rintro e w5 ⟨rfl, m5, hc5⟩
  have f5 : Fresh w w5 := fresh_then f4 m5 (fun k e => hc4.own k (.inl e))
  have e1 : tickErr 1 1 = 0 := rfl
  rw [e1] at hc5 ⊢
  simp only [if_true] at hc5
  have e2 : (1 : Int) + 1 = 2 := rfl
  rw [e2] at hc5
  clear e1 e2 m5 hc4 f4
  go_wp2_with fail
  refine (due_any hc5 (by simp)).mono ?_
  rintro e w6 ⟨v6, rfl, hr6, m6⟩
  have hc6 := hc5.fresh m6
  have f6 := f5.trans m6
  have e1 : dueOf 2 [(2, 3), (2, 7)] = [3, 7] := rfl
  rw [e1] at hr6
  obtain ⟨a6, n6, c6, rfl⟩ := hr6.sl
  clear e1 hc5 f5 m6
  have m7 : Fresh w6 (w6.alloc (.cells #[.int .i64 3, .int .i64 7] 3)) := (Mod.refl _ w6).alloc _
  have hi := hr6.reads.mod m7 (fun _ _ f => f)
  have hi2 : IntsIn (w6.alloc (.cells #[.int .i64 3, .int .i64 7] 3)) (.slice (some ⟨w6.heap.size, 0, none⟩) 2 2) [3, 7] :=
    ⟨_, 2, rfl, by simp, fun _ => ⟨_, 0, rfl, fun j hj => by
      have : j = 0 ∨ j = 1 := by simp at hj; omega
      rcases this with rfl | rfl <;> simp⟩⟩
  have hc7 := hc6.fresh m7
  have f7 := f6.trans m7
  have hq := ints_eq hi hi2
  clear m7 hr6 hc6 hi hi2
  have e3 : decide (([3, 7] : List Int) = [3, 7]) = true := rfl
  rw [e3] at hq
  clear e3
  go_wp2_with fail
  refine hq.mono ?_
  rintro e w8 ⟨rfl, m8⟩
  have f8 := f7.trans m8
  have d0 := (hc7.fresh m8).now
  clear m8 hc7 f7 hq f6
  go_wp2_with fail
  refine (now_any _ _ _ d0).mono ?_
  rintro e w9 ⟨rfl, rfl⟩
  go_wp2_with fail
  go_ret
  exact ⟨rfl, f8⟩
end Go.Proofs.Ytfbnlniabfiifaa
