/-
  The clock's Set, at every state; a nil clock's methods.
-/
import Derived.Test.YtfbnlniabfiifaaClkG
namespace Go.Proofs.Ytfbnlniabfiifaa
open Go.RowKit Go.Lib
set_option linter.unusedVariables false
set_option linter.unusedSimpArgs false

/-- What setting an alarm leaves. -/
def SetPost (w : World) (B b : Nat) (v : Value) (now : Int) (l : List Al) (id after : Int) (e : Ending) (w' : World) : Prop :=
  e = .returned (.int .i64 (setErr now l id after)) ∧ Mod (fun k => k = b ∨ v.ownBlock = some k) w w' ∧
    ∃ v' l', ClockAt w' B b v' now l' ∧ (∀ k, v'.ownBlock = some k → v.ownBlock = some k ∨ w.heap.size ≤ k) ∧
      (setErr now l id after = 0 → l'.Perm ((now + after, id) :: l) ∧ SortedAl l') ∧ (setErr now l id after ≠ 0 → l' = l)

theorem setPost_same {w w' : World} {B b : Nat} {v : Value} {now : Int} {l : List Al} (h : ClockAt w B b v now l) {id after x : Int} (hx : setErr now l id after = x) (h0 : x ≠ 0) (m : Fresh w w') : SetPost w B b v now l id after (.returned (.int .i64 x)) w' :=
  ⟨by rw [hx], m.any, v, l, h.fresh m, fun k hk => .inl hk, fun h' => absurd (hx.symm.trans h') h0, fun _ => rfl⟩

theorem set_arg {w : World} {p : Option Addr} (id after : Int) (h : id < 0 ∨ after < 0 ∨ after > 1099511627776) :
    Calls Try.prog 10 #[.pointer p, .int .i64 id, .int .i64 after] w fun e w' => e = .returned (.int .i64 1) ∧ w = w' := by
  by_cases h1 : id < 0
  · clear h
    go_enter Try.func10, Try.ntmps10
    go_wp2_with fail
    go_ret
    exact ⟨rfl, rfl⟩
  · by_cases h2 : after < 0
    · clear h
      go_enter Try.func10, Try.ntmps10
      go_wp2_with fail
      go_ret
      exact ⟨rfl, rfl⟩
    · have h3 : 1099511627776 < after := by omega
      clear h
      go_enter Try.func10, Try.ntmps10
      go_wp2_with fail
      go_ret
      exact ⟨rfl, rfl⟩
theorem set_nil {w : World} (id after : Int) (h1 : 0 ≤ id) (h2 : 0 ≤ after) (h3 : after ≤ 1099511627776) :
    Calls Try.prog 10 #[.pointer none, .int .i64 id, .int .i64 after] w fun e w' => e = .returned (.int .i64 7) ∧ w = w' := by
  go_enter Try.func10, Try.ntmps10
  go_wp2_with fail
  go_ret
  exact ⟨rfl, rfl⟩
theorem tick_arg {w : World} {p : Option Addr} (n : Int) (h : n < 0 ∨ n > 1099511627776) :
    Calls Try.prog 11 #[.pointer p, .int .i64 n] w fun e w' => e = .returned (.int .i64 1) ∧ w = w' := by
  by_cases h1 : n < 0
  · clear h
    go_enter Try.func11, Try.ntmps11
    go_wp2_with fail
    go_ret
    exact ⟨rfl, rfl⟩
  · have h3 : 1099511627776 < n := by omega
    clear h
    go_enter Try.func11, Try.ntmps11
    go_wp2_with fail
    go_ret
    exact ⟨rfl, rfl⟩
theorem tick_nil {w : World} (n : Int) (h1 : 0 ≤ n) (h3 : n ≤ 1099511627776) :
    Calls Try.prog 11 #[.pointer none, .int .i64 n] w fun e w' => e = .returned (.int .i64 7) ∧ w = w' := by
  go_enter Try.func11, Try.ntmps11
  go_wp2_with fail
  go_ret
  exact ⟨rfl, rfl⟩
theorem drop_nil {w : World} (id : Int) :
    Calls Try.prog 21 #[.pointer none, .int .i64 id] w fun e w' => e = .returned (.int .i64 7) ∧ w = w' := by
  go_enter Try.func21, Try.ntmps21
  go_wp2_with fail
  go_ret
  exact ⟨rfl, rfl⟩

theorem set_any {w : World} {B b : Nat} {v : Value} {now : Int} {l : List Al} (h : ClockAt w B b v now l) (id after : Int) (hB : B ≤ w.heap.size) (h0 : 0 ≤ now) (h1 : now ≤ 1099511627776) (hl : l.length ≤ 64) :
    Calls Try.prog 10 #[.pointer (some ⟨b, 0, none⟩), .int .i64 id, .int .i64 after] w (SetPost w B b v now l id after) := by
  by_cases hA : id < 0 ∨ after < 0 ∨ after > 1099511627776
  · refine (set_arg id after hA).mono ?_
    rintro e w' ⟨rfl, rfl⟩
    exact setPost_same h (by simp [setErr, hA]) (by omega) (Mod.refl _ w)
  · have hA1 : 0 ≤ id := by omega
    have hA2 : 0 ≤ after := by omega
    have hA3 : after ≤ 1099511627776 := by omega
    obtain ⟨r1, r2⟩ := idx_range l id
    have hf := find_any h id
    by_cases hi : 0 ≤ idx l id
    · have e : setErr now l id after = 8 := by simp [setErr, hA, hi]
      have hp := fun w' m => setPost_same (w' := w') h e (by omega) m
      have HP := Lib.hid hp
      clear hp e h hA
      generalize idx l id = q at *
      have hlen : (q : Int) < 64 := by omega
      go_enter Try.func10, Try.ntmps10
      go_wp2_with (go_at_call 22; refine hf.mono ?_; rintro e w1 ⟨rfl, m1⟩)
      go_ret
      exact HP.out _ m1
    · have hi' : idx l id = -1 := by omega
      obtain ⟨a, c, hvs⟩ : ∃ a c, v = .slice a l.length c := by
        rcases h.row.form with ⟨e, e2⟩ | ⟨g, c, e, _⟩
        · subst e2; exact ⟨_, _, e⟩
        · exact ⟨_, _, e⟩
      by_cases hfull : l.length = 64
      · have e : setErr now l id after = 5 := by simp [setErr, hA, hi, hfull]
        have hp := fun w' m => setPost_same (w' := w') h e (by omega) m
        have HP := Lib.hid hp
        rw [hi'] at hf
        have hv := h.val
        rw [hvs] at hv
        rw [hfull] at hv
        clear hp e h hA hi hi' r1 r2 hvs hfull hl
        go_enter Try.func10, Try.ntmps10
        go_wp2_with (go_at_call 22; refine hf.mono ?_; rintro e w1 ⟨rfl, m1⟩; have d0 := m1.cell hv (fun f => f))
        go_ret
        exact HP.out _ m1
      · by_cases ho : after > 1099511627776 - now
        · have e : setErr now l id after = 40 := by simp [setErr, hA, hi, hfull, ho]
          have hp := fun w' m => setPost_same (w' := w') h e (by omega) m
          have HP := Lib.hid hp
          rw [hi'] at hf
          have hv := h.val
          rw [hvs] at hv
          have hn := h.now
          have hz64 : ((l.length : Int) == 64) = false := by simp; omega
          clear hp e h hA hi hi' r1 r2 hvs hfull
          go_enter Try.func10, Try.ntmps10
          go_wp2_with (first | (go_at_call 22; refine hf.mono ?_; rintro e w1 ⟨rfl, m1⟩; have d0 := m1.cell hv (fun f => f)) | (go_at_call 23; refine (later_no (m1.cell hn (fun f => f)) after h0 h1 hA2 hA3 ho).mono ?_; rintro e w2 ⟨rfl, rfl⟩))
          go_ret
          exact HP.out _ m1
        · have e : setErr now l id after = 0 := by simp [setErr, hA, hi, hfull, ho]
          refine (set_ok h id after hB h0 h1 (by omega) hA1 hA2 (by omega) hi').mono ?_
          rintro x w' ⟨rfl, m, v', l', hc, hp, hs, hb⟩
          exact ⟨by rw [e], m, v', l', hc, hb, fun _ => ⟨hp, hs⟩, fun h' => absurd e h'⟩
end Go.Proofs.Ytfbnlniabfiifaa
