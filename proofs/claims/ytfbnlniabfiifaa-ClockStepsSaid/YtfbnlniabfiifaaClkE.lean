/-
  The clock's methods: Tick, Left, Next, Due.
-/
import Derived.Test.YtfbnlniabfiifaaClkD
namespace Go.Proofs.Ytfbnlniabfiifaa
open Go.RowKit Go.Lib
set_option linter.unusedVariables false
set_option linter.unusedSimpArgs false
attribute [local go_sem] bmax bmin

theorem store_any (b o : Nat) (u : Value) (y : Int) (w : World) (hc : w.cell? ⟨b, o, none⟩ = some u) (hz : w.frozen? ⟨b, o, none⟩ = false) :
    Calls Try.prog 26 #[.pointer (some ⟨b, o, none⟩), .int .i64 y] w fun e w' => e = .returned (.tuple #[]) ∧ w.setCell ⟨b, o, none⟩ (.int .i64 y) = w' := by
  have hl := run_call_store (P := Try.prog) Try.func38 (by kernel_rfl) (by kernel_rfl) (by kernel_rfl) (by kernel_rfl) (k := .i64) (y := y) hc hz
  go_enter Try.func26, Try.ntmps26
  go_wp2
  go_end0
  exact ⟨rfl, rfl⟩

theorem tick_any {w : World} {B b : Nat} {v : Value} {now : Int} {l : List Al} (h : ClockAt w B b v now l) (n : Int) (h0 : 0 ≤ now) (h1 : now ≤ 1099511627776) :
    Calls Try.prog 11 #[.pointer (some ⟨b, 0, none⟩), .int .i64 n] w fun e w' => e = .returned (.int .i64 (tickErr now n)) ∧ Mod (fun k => k = b) w w' ∧ ClockAt w' B b v (if tickErr now n = 0 then now + n else now) l := by
  have hc := h.now
  have hz := free_blk h.blk 0
  have H := Lib.hid h
  have hblk := Lib.hid h.blk
  clear h
  by_cases a1 : n < 0
  · have e : tickErr now n = 1 := by simp [tickErr, a1]
    rw [e]
    clear e
    go_enter Try.func11, Try.ntmps11
    go_wp2
    go_ret
    exact ⟨rfl, Mod.refl _ w, H.out⟩
  · by_cases a2 : n > 1099511627776
    · have e : tickErr now n = 1 := by simp [tickErr, a2]
      rw [e]
      clear e
      go_enter Try.func11, Try.ntmps11
      go_wp2
      go_ret
      exact ⟨rfl, Mod.refl _ w, H.out⟩
    · by_cases a3 : n > 1099511627776 - now
      · have e : tickErr now n = 40 := by simp [tickErr, a1, a2, a3]
        rw [e]
        clear e
        go_enter Try.func11, Try.ntmps11
        go_wp2_with (go_at_call 23; refine (later_no hc n h0 h1 (by omega) (by omega) a3).mono ?_; rintro e w' ⟨rfl, rfl⟩)
        go_ret
        exact ⟨rfl, Mod.refl _ w, H.out⟩
      · have e : tickErr now n = 0 := by simp [tickErr, a1, a2, a3]
        rw [e]
        clear e
        go_enter Try.func11, Try.ntmps11
        go_wp2_with (first | (go_at_call 23; refine (later_ok hc n h0 h1 (by omega) (by omega) (by omega)).mono ?_; rintro e w' ⟨rfl, rfl⟩) | (go_at_call 26; refine (store_any b 0 _ (now + n) _ hc hz).mono ?_; rintro e w' ⟨rfl, rfl⟩))
        go_ret
        refine ⟨rfl, (Mod.refl (fun k => k = b) w).setCell (fun _ => rfl) _, ⟨H.out.hb, ?_, ?_⟩⟩
        · rw [set_blk hblk.out]; simp
        · exact H.out.row.mod ((Mod.refl (fun k => k = b) w).setCell (fun _ => rfl) _) H.out.ne

theorem left_eq {now at_ x : Int} (h : (at_ ≤ now ∧ x = 0) ∨ (now < at_ ∧ x = at_ - now)) : x = leftOf now at_ := by
  unfold leftOf; split <;> omega
/-- What Left answers: there is none; or there is one, and so long it is. -/
def LeftPost (w : World) (now : Int) (l : List Al) (id : Int) (e : Ending) (w' : World) : Prop :=
  Fresh w w' ∧ ((idx l id = -1 ∧ (∀ a ∈ l, a.2 ≠ id) ∧ e = .returned (.tuple #[.int .i64 0, .bool false])) ∨ ∃ a ∈ l, a.2 = id ∧ e = .returned (.tuple #[.int .i64 (leftOf now a.1), .bool true]))
/-- What Next answers. -/
def NextPost (w : World) (now : Int) (l : List Al) (e : Ending) (w' : World) : Prop :=
  Fresh w w' ∧ ((l = [] ∧ e = .returned (.tuple #[.int .i64 0, .bool false])) ∨ ∃ a r, l = a :: r ∧ e = .returned (.tuple #[.int .i64 (leftOf now a.1), .bool true]))
set_option maxHeartbeats 400000 in
theorem left_any {w : World} {B b : Nat} {v : Value} {now : Int} {l : List Al} (h : ClockAt w B b v now l) (id : Int) (h0 : 0 ≤ now) (h1 : now ≤ 1099511627776) (hl : ∀ a ∈ l, 0 ≤ a.1 ∧ a.1 ≤ 1099511627776) :
    Calls Try.prog 15 #[.pointer (some ⟨b, 0, none⟩), .int .i64 id] w (LeftPost w now l id) := by
  rcases idx_spec l id with ⟨hi, hno⟩ | ⟨k, hk, hi, hid⟩
  · have Hno := Lib.hid hno
    have Hi := Lib.hid hi
    clear hno hl
    have hf := find_any h id
    rw [hi] at hf
    clear hi h
    go_enter Try.func15, Try.ntmps15
    go_wp2_with (go_at_call 22; refine (hf).mono ?_; rintro e w' ⟨rfl, m⟩)
    go_ret2
    exact ⟨m, .inl ⟨Hi.out, Hno.out, rfl⟩⟩
  · have hf := find_any h id
    rw [hi] at hf
    clear hi
    have hlen := h.row.len
    have ha := hl _ (List.getElem_mem hk)
    have hm := List.getElem_mem hk
    obtain ⟨g, c, hv⟩ : ∃ g c, v = .slice (some ⟨g, 0, none⟩) l.length c := by
      rcases h.row.form with ⟨_, rfl⟩ | ⟨g, c, e, _⟩
      · simp at hk
      · exact ⟨g, c, e⟩
    subst hv
    obtain ⟨c0, c1⟩ := h.row.cells k hk
    have H := Lib.hid h
    clear h hl c1
    generalize l[k] = a at *
    obtain ⟨at_, id'⟩ := a
    have Hd := Lib.hid hid
    clear hid
    have Hm := Lib.hid hm
    clear hm
    simp only at ha c0
    obtain ⟨ha0, ha1⟩ := ha
    go_enter Try.func15, Try.ntmps15
    go_wp2_with (go_at_call 22; refine (hf).mono ?_; rintro e w' ⟨rfl, m⟩; have d0 := m.cell c0 (fun f => f); have d1 := m.cell H.out.now (fun f => f); have d2 := m.cell H.out.val (fun f => f))
    have hnow := fun n => (now_any b now (w'.drewN n) d1).mono fun _ _ ⟨x, y⟩ => (⟨x, y.symm⟩ : _ ∧ _)
    go_quiet ((go_at_call 17; exact Calls.quiet_of_same (hnow _)))
    go_wp2
    all_goals
      go_ret2
      exact ⟨m.drewN _, .inr ⟨(at_, id'), Hm.out, Hd.out, ret_int_bool (left_eq (by omega)) rfl⟩⟩

theorem left_nil (w : World) (id : Int) : Calls Try.prog 15 #[.pointer none, .int .i64 id] w fun e w' => e = .returned (.tuple #[.int .i64 0, .bool false]) ∧ Fresh w w' := by
  go_enter Try.func15, Try.ntmps15
  go_wp2_with (go_at_call 22; refine (find_nil _ id).mono ?_; rintro e w' ⟨rfl, m⟩)
  go_ret2
  exact ⟨rfl, m⟩

theorem next_nil (w : World) : Calls Try.prog 13 #[.pointer none] w fun e w' => e = .returned (.tuple #[.int .i64 0, .bool false]) ∧ w = w' := by
  go_enter Try.func13, Try.ntmps13
  go_wp2
  go_ret2
  exact ⟨rfl, rfl⟩

set_option maxHeartbeats 400000 in
theorem next_any {w : World} {B b : Nat} {v : Value} {now : Int} {l : List Al} (h : ClockAt w B b v now l) (h0 : 0 ≤ now) (h1 : now ≤ 1099511627776) (hl : ∀ a ∈ l, 0 ≤ a.1 ∧ a.1 ≤ 1099511627776) :
    Calls Try.prog 13 #[.pointer (some ⟨b, 0, none⟩)] w (NextPost w now l) := by
  have d1 := h.now
  have d2 := h.val
  have hlen := h.row.len
  cases l with
  | nil =>
    obtain ⟨a, c, hv⟩ : ∃ a c, v = .slice a 0 c := by
      rcases h.row.form with ⟨e, _⟩ | ⟨g, c, e, _⟩
      · exact ⟨_, _, e⟩
      · exact ⟨_, _, e⟩
    subst hv
    clear h
    go_enter Try.func13, Try.ntmps13
    go_wp2
    go_ret2
    exact ⟨Mod.refl _ w, .inl ⟨rfl, rfl⟩⟩
  | cons x r =>
    have ha := hl x (List.mem_cons_self ..)
    obtain ⟨g, c, hv⟩ : ∃ g c, v = .slice (some ⟨g, 0, none⟩) (r.length + 1) c := by
      rcases h.row.form with ⟨_, e⟩ | ⟨g, c, e, _⟩
      · cases e
      · exact ⟨g, c, e⟩
    subst hv
    obtain ⟨c0, c1⟩ := h.row.cells 0 (by simp)
    clear h hl c1
    simp only [List.length_cons] at hlen
    obtain ⟨at_, id'⟩ := x
    simp only [List.getElem_cons_zero, Nat.zero_mul] at ha c0
    obtain ⟨ha0, ha1⟩ := ha
    have hz : (((r.length : Int) + 1) == 0) = false := by simp; omega
    have hnow := fun n => (now_any b now (w.drewN n) d1).mono fun _ _ ⟨x, y⟩ => (⟨x, y.symm⟩ : _ ∧ _)
    go_enter Try.func13, Try.ntmps13
    go_wp2
    go_quiet ((go_at_call 17; exact Calls.quiet_of_same (hnow _)))
    go_wp2
    all_goals
      go_ret2
      exact ⟨(Mod.refl _ w).drewN _, .inr ⟨(at_, id'), r, rfl, ret_int_bool (left_eq (by omega)) rfl⟩⟩
end Go.Proofs.Ytfbnlniabfiifaa
