/-
  The clock's inner functions, each by a contract: Now, compare, find, later.
-/
import Derived.Test.YtfbnlniabfiifaaBase
import Derived.Test.YtfbnlniabfiifaaProg
import Derived.Laws.LoneSync
import Derived.Lib.Small
import Derived.Lib.SliceRun
import Derived.Deep.QuietTactic
import Derived.BigQuiet
import Derived.Deep.RegionWith
import Derived.Deep.RegionHeld3
namespace Go.Proofs.Ytfbnlniabfiifaa
open Go.RowKit Go.Lib
set_option linter.unusedVariables false
set_option linter.unusedSimpArgs false

/-- sync/atomic.LoadInt64, by its field. -/
theorem load_any (b o : Nat) (x : Int) (w : World) (hc : w.cell? ⟨b, o, none⟩ = some (.int .i64 x)) :
    Calls Try.prog 30 #[.pointer (some ⟨b, o, none⟩)] w fun e w' => e = .returned (.int .i64 x) ∧ w = w' := by
  have hl := run_call_load (P := Try.prog) Try.func39 (by kernel_rfl) (by kernel_rfl) (by kernel_rfl) .i64 (by kernel_rfl) hc
  go_enter Try.func30, Try.ntmps30
  go_wp2
  go_ret
  exact ⟨rfl, rfl⟩

theorem now_any (b : Nat) (x : Int) (w : World) (hc : w.cell? ⟨b, 0, none⟩ = some (.int .i64 x)) :
    Calls Try.prog 17 #[.pointer (some ⟨b, 0, none⟩)] w fun e w' => e = .returned (.int .i64 x) ∧ w = w' := by
  go_enter Try.func17, Try.ntmps17
  go_wp2_with (go_at_call 30; refine (load_any b 0 x _ hc).mono ?_; rintro e w' ⟨rfl, rfl⟩)
  go_ret
  exact ⟨rfl, rfl⟩

theorem now_nil (w : World) :
    Calls Try.prog 17 #[.pointer none] w fun e w' => e = .returned (.int .i64 0) ∧ w = w' := by
  go_enter Try.func17, Try.ntmps17
  go_wp2
  go_ret
  exact ⟨rfl, rfl⟩

theorem compare_any (x y : Int) (w : World) : Calls Try.prog 37 #[.int .i64 x, .int .i64 y] w fun e w' => e = .returned (.int .i64 (compareInt x y)) ∧ w = w' := by
  unfold compareInt
  by_cases h1 : x < y
  · go_enter Try.func37, Try.ntmps37
    go_wp2
    go_ret
    exact ⟨by simp [h1], rfl⟩
  · by_cases h2 : x > y
    · go_enter Try.func37, Try.ntmps37
      go_wp2
      go_ret
      exact ⟨by simp [h1, h2], rfl⟩
    · go_enter Try.func37, Try.ntmps37
      go_wp2
      go_ret
      exact ⟨by simp [h1, h2], rfl⟩
/-- cmp.Or at two numbers. -/
def or2 (x y : Int) : Int := if x ≠ 0 then x else y
set_option maxHeartbeats 400000 in
theorem or_any (g : Nat) (x y : Int) (c : Nat) (w : World) (h0 : w.cell? ⟨g, 0, none⟩ = some (.int .i64 x)) (h1 : w.cell? ⟨g, 1, none⟩ = some (.int .i64 y)) :
    Calls Try.prog 36 #[.slice (some ⟨g, 0, none⟩) 2 c] w fun e w' => e = .returned (.int .i64 (or2 x y)) ∧ w = w' := by
  have e1 : x ≠ 0 → x = or2 x y := fun h => by simp [or2, h]
  have e2 : x = 0 → y = or2 x y := fun h => by simp [or2, h]
  generalize or2 x y = r at *
  have E1 := Lib.hid e1
  have E2 := Lib.hid e2
  clear e1 e2
  by_cases hx : x = 0 <;> by_cases hy : y = 0
  all_goals
    have tx := Lib.hid hx
    have ty := Lib.hid hy
    first | (have bx : (x != 0) = true := by simpa using hx) | (have bx : (x != 0) = false := by simpa using hx)
    first | (have bz : (y != 0) = true := by simpa using hy) | (have bz : (y != 0) = false := by simpa using hy)
    clear hx hy
    go_enter Try.func36, Try.ntmps36
    go_wp2
    go_loop [8] (fun i => ∃ k : Nat, k ≤ 2 ∧ i = .int .i64 k ∧ (1 ≤ k → x = 0) ∧ (2 ≤ k → y = 0)) (fun i => 2 - (intOf i).toNat)
    case atStart => exact ⟨0, by omega, rfl, by omega, by omega⟩
    case round =>
      obtain ⟨k, hk, rfl, hx, hy⟩ := hrel
      have Hx := Lib.hid hx
      have Hy := Lib.hid hy
      clear hx hy
      have hk3 : k = 0 ∨ k = 1 ∨ k = 2 := by omega
      rcases hk3 with rfl | rfl | rfl
      all_goals
        go_wp2
        first
        | (go_ret; first | exact ⟨ret_int (E1.out tx.out), rfl⟩ | exact ⟨ret_int (E2.out (Hx.out (by omega))), rfl⟩ | exact ⟨ret_int ((Hy.out (by omega)).symm.trans (E2.out (Hx.out (by omega)))), rfl⟩)
        | (go_round
           case rel => first | exact ⟨1, by omega, rfl, fun _ => tx.out, by omega⟩ | exact ⟨2, by omega, rfl, fun _ => Hx.out (by omega), fun _ => ty.out⟩
           case measure => simp [intOf])
end Go.Proofs.Ytfbnlniabfiifaa
