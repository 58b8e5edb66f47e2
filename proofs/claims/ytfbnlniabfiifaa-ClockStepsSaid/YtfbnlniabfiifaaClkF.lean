/-
  The clock's methods: Due.
-/
import Derived.Test.YtfbnlniabfiifaaClkE
namespace Go.Proofs.Ytfbnlniabfiifaa
open Go.RowKit Go.Lib
set_option linter.unusedVariables false
set_option linter.unusedSimpArgs false

def ints (xs : List Int) : List Value := xs.map (Value.int .i64)
/-- A slice of ints of the call's own. -/
def IntRow (w : World) (B : Nat) (v : Value) (xs : List Int) : Prop := w.ownsRow B 3 1 v xs.length (ints xs)
theorem IntRow.mod {S : Nat → Prop} {w w' : World} (h : Mod S w w') {B : Nat} {v : Value} {l : List Int} (hr : IntRow w B v l) (hs : ∀ k, v.ownBlock = some k → ¬ S k) : IntRow w' B v l := h.ownsRow hr hs
theorem IntRow.form {w : World} {B : Nat} {v : Value} {l : List Int} (h : IntRow w B v l) : (v = .slice none 0 0 ∧ l = []) ∨ ∃ g c, v = .slice (some ⟨g, 0, none⟩) l.length c ∧ l.length ≤ c ∧ B ≤ g ∧ g < w.heap.size := by
  rcases h.2 with ⟨rfl, h0⟩ | ⟨g, cap, cur, rfl, hb, hh, hc, _⟩
  · exact .inl ⟨rfl, List.eq_nil_of_length_eq_zero h0⟩
  · exact .inr ⟨g, cap, rfl, hc, hb, lt_blk hh⟩
theorem IntRow.cells {w : World} {B g n c : Nat} {l : List Int} (h : IntRow w B (.slice (some ⟨g, 0, none⟩) n c) l) (j : Nat) (hj : j < l.length) : w.cell? ⟨g, j, none⟩ = some (.int .i64 l[j]) := by
  have hx := World.ownsRow.cells h (g := g) rfl j (.int .i64 l[j]) (by simp [ints, hj])
  rw [Addr.add_lit, Nat.zero_add] at hx
  exact hx
theorem IntRow.sl {w : World} {B : Nat} {v : Value} {l : List Int} (h : IntRow w B v l) : ∃ a n c, v = .slice a n c := by
  rcases h.form with ⟨rfl, _⟩ | ⟨g, c, rfl, _⟩
  · exact ⟨_, _, _, rfl⟩
  · exact ⟨_, _, _, rfl⟩
theorem IntRow.len {w : World} {B : Nat} {v : Value} {l : List Int} (h : IntRow w B v l) : l.length ≤ 9223372036854775807 := by
  rcases h.2 with ⟨_, h0⟩ | ⟨g, cap, cur, rfl, hb, hh, hc, hm, _⟩
  · omega
  · unfold maxLen at hm; omega

theorem info3 : (Try.prog.info? 3).map (fun i => (i.zero, i.size, i.bytes)) = some (some (.int .i64 0), 1, 8) := by kernel_rfl

theorem due_succ (now : Int) (l : List Al) (k : Nat) (hk : k < l.length) : dueOf now (l.take (k + 1)) = dueOf now (l.take k) ++ if l[k].1 ≤ now then [l[k].2] else [] := by
  unfold dueOf
  rw [List.take_succ_eq_append_getElem hk, List.filter_append, List.map_append]
  congr 1
  by_cases h : l[k].1 ≤ now <;> simp [h, List.filter_cons]
theorem due_le (now : Int) (l : List Al) (k : Nat) : (dueOf now (l.take k)).length ≤ k := by
  unfold dueOf
  rw [List.length_map]
  exact Nat.le_trans (List.length_filter_le ..) (List.length_take_le ..)

theorem due_nil (w : World) : Calls Try.prog 12 #[.pointer none] w fun e w' => e = .returned (.slice none 0 0) ∧ w = w' := by
  go_enter Try.func12, Try.ntmps12
  go_wp2
  go_ret
  exact ⟨rfl, rfl⟩

def DuePost (w : World) (now : Int) (l : List Al) (e : Ending) (w' : World) : Prop := ∃ v, e = .returned v ∧ IntRow w' w.heap.size v (dueOf now l) ∧ Fresh w w'
set_option maxHeartbeats 1000000 in
theorem due_any {w : World} {B b : Nat} {v : Value} {now : Int} {l : List Al} (h : ClockAt w B b v now l) (hl : l.length ≤ 64) :
    Calls Try.prog 12 #[.pointer (some ⟨b, 0, none⟩)] w (DuePost w now l) := by
  have d1 := h.now
  have d2 := h.val
  have hbl := lt_blk h.blk
  obtain ⟨i0, hi, hz0, hz1, hz2⟩ := info_parts info3
  rcases h.row.form with ⟨e1, e2⟩ | ⟨g, c, e1, hlc, hBg, hg⟩
  · subst e1 e2
    clear h
    go_enter Try.func12, Try.ntmps12
    go_wp2
    refine wp_loop_rounds 1 ?_
    rw [rounds_succ]
    go_wp2
    go_ret
    exact ⟨_, rfl, World.ownsRow_nil _ _ _ _, Mod.refl _ w⟩
  · subst e1
    have hcell := fun j hj => h.row.cells j hj
    have hcl := Lib.hid hcell
    clear hcell h
    go_enter Try.func12, Try.ntmps12
    go_wp2
    go_loopw [3, 14] (fun v i wr => ∃ k : Nat, k ≤ l.length ∧ i = .int .i64 k ∧ IntRow wr w.heap.size v (dueOf now (l.take k)) ∧ Fresh w wr) (fun _ i _ => l.length - (intOf i).toNat)
    case atStart => exact ⟨0, by omega, rfl, World.ownsRow_nil _ _ _ _, Mod.refl _ w⟩
    case round =>
      obtain ⟨k, hk, rfl, hown, hf⟩ := hrel
      by_cases hlt : k < l.length
      · obtain ⟨c0, c1⟩ := hcl.out k hlt
        have hsz := hf.size
        have d0 := hf.cell c0 (fun f => f)
        have dd := hf.cell c1 (fun f => f)
        have dn := hf.cell d1 (fun f => f)
        have hdue := due_succ now l k hlt
        have HD := Lib.hid hdue
        have hle := due_le now l k
        clear hdue c0 c1
        generalize l[k] = a at *
        obtain ⟨at_, id⟩ := a
        simp only at d0 dd
        have hnow := fun n => (now_any b now ((wr.alloc (.cells #[.int .i64 at_, .int .i64 id] 59)).drewN n) (by rw [World.cell?_drewN, World.cell?_alloc_past _ _ _ (by omega)]; exact dn)).mono fun _ _ ⟨x, y⟩ => (⟨x, y.symm⟩ : _ ∧ _)
        have hsl : IntRow wr w.heap.size _ _ := hown
        obtain ⟨sa, sn, sc, rfl⟩ := hsl.sl
        by_cases hat : at_ ≤ now
        · rw [if_pos hat] at HD
          go_wp2
          go_quiet ((go_at_call 17; exact Calls.quiet_of_same (hnow _)))
          have m1 : Fresh wr ((wr.alloc (.cells #[.int .i64 at_, .int .i64 id] 59)).drewN nq) := ((Mod.refl _ wr).alloc _).drewN nq
          have a1 : ((wr.alloc (.cells #[.int .i64 at_, .int .i64 id] 59)).drewN nq).cell? ⟨wr.heap.size, 1, none⟩ = some (.int .i64 id) := by simp
          clear hnow
          generalize (wr.alloc (.cells #[.int .i64 at_, .int .i64 id] 59)).drewN nq = W1 at *
          have HO := hown.mod m1 (fun _ _ f => f)
          have hs1 := m1.size
          go_wp2_with (at_builtin; refine wpList_push HO rfl _ _ 28 #[.int .i64 id] rfl Try.underlying28 info3 rfl (by decide) rfl rfl rfl (by simp [Value.oneCell']) (by omega) (by decide) (by omega) ?_)
          intro v1 w1 hown1 m2 hat1 _
          have R : IntRow w1 w.heap.size v1 (dueOf now (l.take (k + 1))) := by rw [HD.out]; unfold IntRow ints at *; simpa using hown1
          have F : Fresh w w1 := (hf.trans m1).trans' m2 (fun i hi e => by have := (hown.lt i e).1; omega)
          obtain ⟨sa1, sn1, sc1, rfl⟩ := R.sl
          clear hown1 m2 hat1 HO hown hsl d0 dd dn m1 a1
          go_wp2
          go_roundw
          case rel => exact ⟨k + 1, by omega, by go_num, R, F⟩
          case measure => simp [intOf]; omega
        · rw [if_neg hat] at HD
          go_wp2
          go_quiet ((go_at_call 17; exact Calls.quiet_of_same (hnow _)))
          go_wp2
          go_roundw
          case rel => exact ⟨k + 1, by omega, by go_num, by rw [HD.out, List.append_nil]; exact hown.mod (((Mod.refl _ wr).alloc _).drewN nq) (fun _ _ f => f), (hf.alloc _).drewN nq⟩
          case measure => simp [intOf]; omega
      · obtain rfl : k = l.length := by omega
        rw [List.take_length] at hown
        have hsl : IntRow wr w.heap.size _ _ := hown
        obtain ⟨sa, sn, sc, rfl⟩ := hsl.sl
        go_wp2
        go_ret
        exact ⟨_, rfl, hown, hf⟩
end Go.Proofs.Ytfbnlniabfiifaa
