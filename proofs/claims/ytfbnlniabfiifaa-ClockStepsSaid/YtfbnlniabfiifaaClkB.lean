/-
  The clock's inner functions: the order of alarms (a function value of the sort), and where an alarm stands.
-/
import Derived.Test.YtfbnlniabfiifaaClkA
import Derived.Test.YtfbnlniabfiifaaClkP
import Derived.StillTailTactics
namespace Go.Proofs.Ytfbnlniabfiifaa
open Go.RowKit Go.Lib
set_option linter.unusedVariables false
set_option linter.unusedSimpArgs false

theorem or2_cmp (x y : Al) : or2 (compareInt x.1 y.1) (compareInt x.2 y.2) = cmpAl x y := by unfold or2 cmpAl; split <;> rfl

set_option maxHeartbeats 1000000 in
/-- (alarm).compare, as a function value of the sort: it lays blocks, and draws. -/
theorem alarm_compare (x y : Al) (W : World) : Calls Try.prog 25 #[.agg #[.int .i64 x.1, .int .i64 x.2], .agg #[.int .i64 y.1, .int .i64 y.2]] W fun e w' => e = .returned (.int .i64 (cmpAl x y)) ∧ ∃ q os', w' = Go.Sort.grow (W.drewN q) os' := by
  have hc := fun a b W' => compare_any a b W'
  obtain ⟨W2, hW2⟩ : ∃ W2, W2 = ((W.alloc (.cells #[.int .i64 x.1, .int .i64 x.2] 59)).alloc (.cells #[.int .i64 y.1, .int .i64 y.2] 59)).drew := ⟨_, rfl⟩
  have k0 : W2.cell? ⟨W.heap.size, 0, none⟩ = some (.int .i64 x.1) := by rw [hW2]; simp
  have k1 : W2.cell? ⟨W.heap.size, 1, none⟩ = some (.int .i64 x.2) := by rw [hW2]; simp
  have k2 : W2.cell? ⟨W.heap.size + 1, 0, none⟩ = some (.int .i64 y.1) := by rw [hW2]; simp
  have k3 : W2.cell? ⟨W.heap.size + 1, 1, none⟩ = some (.int .i64 y.2) := by rw [hW2]; simp
  have HW := Lib.hid hW2
  clear hW2
  rw [← or2_cmp]
  go_enter Try.func25, Try.ntmps25
  go_wp2
  refine wp_region_still_tail 10 (by kernel_rfl) (by kernel_rfl) ?_
  simp only [List.take_succ_cons, List.take_zero, List.drop_succ_cons, List.drop_zero]
  change wpStill Try.prog _ (World.drew _) _ _ _
  rw [← HW.out]
  repeat still_step
  still_call ((hc _ _ _).mono fun _ _ ⟨a, b⟩ => ⟨a, b.symm⟩)
  repeat still_step
  still_call ((hc _ _ _).mono fun _ _ ⟨a, b⟩ => ⟨a, b.symm⟩)
  refine wpStill_nil ?_
  change wpList _ _ _ _ _ (World.drew _)
  rw [← HW.out]
  go_wp2_with (go_at_call 36; refine (or_any _ (compareInt x.1 y.1) (compareInt x.2 y.2) _ _ (by simp) (by simp)).mono ?_; rintro e w' ⟨rfl, rfl⟩)
  go_ret
  refine ⟨rfl, 1, #[.cells #[.int .i64 x.1, .int .i64 x.2] 59, .cells #[.int .i64 y.1, .int .i64 y.2] 59, .cells #[.int .i64 (compareInt x.1 y.1), .int .i64 (compareInt x.2 y.2)] 3], ?_⟩
  rw [HW.out]
  unfold World.alloc World.drew World.drewN Go.Sort.grow
  simp only [Array.push_eq_append, Array.append_assoc]
  rfl
end Go.Proofs.Ytfbnlniabfiifaa
