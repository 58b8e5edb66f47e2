/-
  The clock's methods that look: find, later, Left, Next, Due, and Tick.
-/
import Derived.Test.YtfbnlniabfiifaaClkC
namespace Go.Proofs.Ytfbnlniabfiifaa
open Go.RowKit Go.Lib
set_option linter.unusedVariables false
set_option linter.unusedSimpArgs false

/-- A clock: its block, its slice's value, its time, its alarms. -/
structure ClockAt (w : World) (B b : Nat) (v : Value) (now : Int) (l : List Al) : Prop where
  hb : B ≤ b
  blk : w.heap[b]? = some (.cells #[.int .i64 now, v] 57 (0, 0))
  row : AlRow w B v l
theorem ClockAt.now {w : World} {B b : Nat} {v : Value} {now : Int} {l : List Al} (h : ClockAt w B b v now l) : w.cell? ⟨b, 0, none⟩ = some (.int .i64 now) := by rw [cell_blk h.blk]; rfl
theorem ClockAt.val {w : World} {B b : Nat} {v : Value} {now : Int} {l : List Al} (h : ClockAt w B b v now l) : w.cell? ⟨b, 1, none⟩ = some v := by rw [cell_blk h.blk]; rfl
theorem ClockAt.mod {S : Nat → Prop} {w w' : World} (m : Mod S w w') {B b : Nat} {v : Value} {now : Int} {l : List Al} (h : ClockAt w B b v now l) (h1 : ¬ S b) (h2 : ∀ k, v.ownBlock = some k → ¬ S k) : ClockAt w' B b v now l :=
  ⟨h.hb, m.heap h.blk h1, h.row.mod m h2⟩
theorem ClockAt.fresh {w w' : World} (m : Fresh w w') {B b : Nat} {v : Value} {now : Int} {l : List Al} (h : ClockAt w B b v now l) : ClockAt w' B b v now l := h.mod m (fun f => f) (fun _ _ f => f)
theorem ClockAt.ne {w : World} {B b : Nat} {v : Value} {now : Int} {l : List Al} (h : ClockAt w B b v now l) : ∀ k, v.ownBlock = some k → k ≠ b := by
  intro k hk e
  subst e
  rcases h.row.2 with ⟨rfl, _⟩ | ⟨g, cap, cur, rfl, _, hh, _⟩
  · simp [Value.ownBlock] at hk
  · simp [Value.ownBlock] at hk
    subst hk
    have := h.blk
    rw [hh] at this
    simp at this

theorem find_any {w : World} {B b : Nat} {v : Value} {now : Int} {l : List Al} (h : ClockAt w B b v now l) (id : Int) :
    Calls Try.prog 22 #[.pointer (some ⟨b, 0, none⟩), .int .i64 id] w fun e w' => e = .returned (.int .i64 (idx l id)) ∧ Fresh w w' := by
  have hv := h.val
  have hbl := lt_blk h.blk
  have m1 : Fresh w (w.alloc (.cells #[.int .i64 id] 3)) := (Mod.refl _ w).alloc _
  have hv' := m1.cell hv (fun f => f)
  have hi := indexFunc_id B v l id w.heap.size (w.alloc (.cells #[.int .i64 id] 3)) (h.row.mod m1 (fun _ _ f => f)) (by simp)
  have hr := h.row.sl
  have Hi := Lib.hid hi
  have M1 := Lib.hid m1
  clear hi m1
  obtain ⟨a, n, c, rfl⟩ := hr
  go_enter Try.func22, Try.ntmps22
  go_wp2_with (go_at_call 32; refine (Hi.out).mono ?_; rintro e w' ⟨rfl, hf⟩)
  go_ret
  exact ⟨rfl, M1.out.trans hf⟩

theorem find_nil (w : World) (id : Int) : Calls Try.prog 22 #[.pointer none, .int .i64 id] w fun e w' => e = .returned (.int .i64 (-1)) ∧ Fresh w w' := by
  go_enter Try.func22, Try.ntmps22
  go_wp2
  go_ret
  exact ⟨rfl, (Mod.refl _ w).alloc _⟩

/-- The time so much later: two results. -/
theorem later_ok {w : World} {b : Nat} {now : Int} (h : w.cell? ⟨b, 0, none⟩ = some (.int .i64 now)) (n : Int) (h0 : 0 ≤ now) (h1 : now ≤ 1099511627776) (n0 : 0 ≤ n) (n1 : n ≤ 1099511627776) (hn : n ≤ 1099511627776 - now) :
    Calls Try.prog 23 #[.pointer (some ⟨b, 0, none⟩), .int .i64 n] w fun e w' => e = .returned (.tuple #[.int .i64 (now + n), .bool true]) ∧ w = w' := by
  go_enter Try.func23, Try.ntmps23
  go_wp2_with (go_at_call 17; refine (now_any b now _ h).mono ?_; rintro e w' ⟨rfl, rfl⟩)
  go_ret2
  exact ⟨rfl, rfl⟩
theorem later_no {w : World} {b : Nat} {now : Int} (h : w.cell? ⟨b, 0, none⟩ = some (.int .i64 now)) (n : Int) (h0 : 0 ≤ now) (h1 : now ≤ 1099511627776) (n0 : 0 ≤ n) (n1 : n ≤ 1099511627776) (hn : n > 1099511627776 - now) :
    Calls Try.prog 23 #[.pointer (some ⟨b, 0, none⟩), .int .i64 n] w fun e w' => e = .returned (.tuple #[.int .i64 0, .bool false]) ∧ w = w' := by
  go_enter Try.func23, Try.ntmps23
  go_wp2_with (go_at_call 17; refine (now_any b now _ h).mono ?_; rintro e w' ⟨rfl, rfl⟩)
  go_ret2
  exact ⟨rfl, rfl⟩
end Go.Proofs.Ytfbnlniabfiifaa
