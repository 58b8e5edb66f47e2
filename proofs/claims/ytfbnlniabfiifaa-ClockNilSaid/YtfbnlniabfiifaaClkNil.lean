/-
  ClockNil: the walk: a nil clock has no alarms.
-/
import Derived.Test.YtfbnlniabfiifaaClkO
namespace Go.Proofs.Ytfbnlniabfiifaa
open Go.RowKit Go.Lib
set_option linter.unusedVariables false
set_option linter.unusedSimpArgs false

theorem set_nil_any (w : World) (id after : Int) : Calls Try.prog 10 #[.pointer none, .int .i64 id, .int .i64 after] w fun e w' => e = .returned (.int .i64 (if 0 ≤ id ∧ 0 ≤ after ∧ after ≤ 1099511627776 then 7 else 1)) ∧ w = w' := by
  by_cases h : 0 ≤ id ∧ 0 ≤ after ∧ after ≤ 1099511627776
  · rw [if_pos h]; exact set_nil id after h.1 h.2.1 h.2.2
  · rw [if_neg h]; exact set_arg id after (by omega)
theorem tick_nil_any (w : World) (n : Int) : Calls Try.prog 11 #[.pointer none, .int .i64 n] w fun e w' => e = .returned (.int .i64 (if 0 ≤ n ∧ n ≤ 1099511627776 then 7 else 1)) ∧ w = w' := by
  by_cases h : 0 ≤ n ∧ n ≤ 1099511627776
  · rw [if_pos h]; exact tick_nil n h.1 h.2
  · rw [if_neg h]; exact tick_arg n (by omega)

set_option maxHeartbeats 4000000 in
theorem nil_any (W : World) {s v : _} (hs : v = Value.agg #[.int .i64 (Stp.what s), .int .i64 s.id, .int .i64 s.n] ∧ I64 s.what ∧ I64 s.id ∧ I64 s.n) : Calls Try.prog 7 #[v] W (BoolPost W true) := by
  obtain ⟨rfl, _, _, _⟩ := hs
  obtain ⟨wh, id, n⟩ := s
  simp only
  have two := two_any
  have m1 : Fresh W (W.alloc (.cells #[.int .i64 wh, .int .i64 id, .int .i64 n] 33)) := (Mod.refl _ W).alloc _
  have c1 : (W.alloc (.cells #[.int .i64 wh, .int .i64 id, .int .i64 n] 33)).cell? ⟨W.heap.size, 1, none⟩ = some (.int .i64 id) := by simp
  have c2 : (W.alloc (.cells #[.int .i64 wh, .int .i64 id, .int .i64 n] 33)).cell? ⟨W.heap.size, 2, none⟩ = some (.int .i64 n) := by simp
  by_cases a1 : 0 ≤ id <;> by_cases a2 : 0 ≤ n <;> by_cases a3 : n ≤ 1099511627776
  all_goals try (exfalso; omega)
  all_goals
    have hs := set_nil_any (W.alloc (.cells #[.int .i64 wh, .int .i64 id, .int .i64 n] 33)) id n
    have ht := tick_nil_any (W.alloc (.cells #[.int .i64 wh, .int .i64 id, .int .i64 n] 33)) n
    first | rw [if_pos (by omega)] at hs | rw [if_neg (by omega)] at hs
    first | rw [if_pos (by omega)] at ht | rw [if_neg (by omega)] at ht
    have hl := left_nil (W.alloc (.cells #[.int .i64 wh, .int .i64 id, .int .i64 n] 33)) id
    go_enter Try.func7, Try.ntmps7
    go_wp2_with fail
    refine hs.mono ?_
    rintro e w' ⟨rfl, rfl⟩
    go_wp2_with fail
    refine ht.mono ?_
    rintro e w' ⟨rfl, rfl⟩
    go_wp2_with fail
    refine hl.mono ?_
    rintro e w3 ⟨rfl, m3⟩
    have d1 := m3.cell c1 (fun f => f)
    have f3 := m1.trans m3
    clear m1 m3 c1 c2 hs ht hl
    go_wp2_with fail
    refine (next_nil _).mono ?_
    rintro e w' ⟨rfl, rfl⟩
    go_wp2_with fail
    refine (drop_nil id).mono ?_
    rintro e w' ⟨rfl, rfl⟩
    go_wp2_with fail
    refine (due_nil _).mono ?_
    rintro e w' ⟨rfl, rfl⟩
    go_wp2_with fail
    refine (now_nil _).mono ?_
    rintro e w' ⟨rfl, rfl⟩
    go_wp2_with fail
    refine (two _).mono ?_
    rintro e w6 ⟨rfl, m6⟩
    go_wp2_with fail
    go_ret
    exact ⟨rfl, f3.trans m6⟩
end Go.Proofs.Ytfbnlniabfiifaa
