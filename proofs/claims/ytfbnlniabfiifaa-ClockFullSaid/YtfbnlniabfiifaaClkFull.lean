/-
  ClockFull: the walk: a clock has just 64 alarms, each by its own id.
-/
import Derived.Test.YtfbnlniabfiifaaClkJ
namespace Go.Proofs.Ytfbnlniabfiifaa
open Go.RowKit Go.Lib
set_option linter.unusedVariables false
set_option linter.unusedSimpArgs false
attribute [local go_sem] bmax bmin

/-- Behind so many alarms that were set. -/
structure FullInv (k : Nat) (l : List Al) : Prop where
  len : l.length = min k 64
  all : ∀ a ∈ l, a.1 ≤ 100 ∧ 0 ≤ a.2 ∧ a.2 < k ∧ a.2 < 64
  zero : 0 < k → ∃ a ∈ l, a.2 = 0
theorem FullInv.err {k : Nat} {l : List Al} (h : FullInv k l) (hk : k < 100) : setErr 0 l k (100 - k) = if k > 63 then 5 else 0 := by
  have hi : idx l k < 0 := by rw [idx_neg]; intro a ha; have := h.all a ha; omega
  have hl := h.len
  unfold setErr
  rw [if_neg (by omega), if_neg (by omega)]
  split
  · rw [if_pos (by omega)]
  · rw [if_neg (by omega), if_neg (by omega)]
theorem FullInv.step {k : Nat} {l l' : List Al} (h : FullInv k l) (hk : k < 100) (h1 : setErr 0 l k (100 - k) = 0 → l'.Perm ((0 + (100 - k), (k : Int)) :: l) ∧ SortedAl l') (h2 : setErr 0 l k (100 - k) ≠ 0 → l' = l) : FullInv (k + 1) l' := by
  have he := h.err hk
  have hl := h.len
  by_cases hf : k > 63
  · rw [if_pos hf] at he
    obtain rfl := h2 (by omega)
    exact ⟨by omega, fun a ha => by have := h.all a ha; omega, fun _ => h.zero (by omega)⟩
  · rw [if_neg hf] at he
    obtain ⟨hp, _⟩ := h1 he
    refine ⟨by rw [hp.length_eq]; simp; omega, fun a ha => ?_, fun _ => ?_⟩
    · have := hp.mem_iff.1 ha
      rcases List.mem_cons.1 this with rfl | h3
      · simp; omega
      · have := h.all a h3; omega
    · by_cases h0 : k = 0
      · subst h0
        exact ⟨_, hp.mem_iff.2 (List.mem_cons_self ..), rfl⟩
      · obtain ⟨a, ha, h3⟩ := h.zero (by omega)
        exact ⟨a, hp.mem_iff.2 (List.mem_cons_of_mem _ ha), h3⟩
theorem FullInv.due {k : Nat} {l : List Al} (h : FullInv k l) : (dueOf 100 l).length = min k 64 := by
  unfold dueOf
  rw [List.length_map, List.filter_eq_self.2 (fun a ha => by simpa using (h.all a ha).1), h.len]
theorem FullInv.again0 {l : List Al} (h : FullInv 0 l) : l = [] := List.eq_nil_of_length_eq_zero (by have := h.len; omega)
theorem FullInv.again {k : Nat} {l : List Al} (h : FullInv k l) (hk : 0 < k) : setErr 0 l 0 5 = 8 := by
  obtain ⟨a, ha, h3⟩ := h.zero hk
  have hi : ¬ idx l 0 < 0 := by rw [idx_neg]; intro hh; exact hh a ha h3
  unfold setErr
  rw [if_neg (by omega), if_pos (by omega)]

set_option maxHeartbeats 2000000 in
theorem full_any (n : Int) (w : World) (hn1 : -9223372036854775808 ≤ n) (hn2 : n ≤ 9223372036854775807) : Calls Try.prog 3 #[.int .i64 n] w (BoolPost w true) := by
  by_cases hg : n < 0 ∨ n > 100
  · have h2 := two_any
    rcases hg with hg | hg
    all_goals
      have hd : decide (n < 0) = true ∨ decide (n < 0) = false := by cases decide (n < 0) <;> simp
      go_enter Try.func3, Try.ntmps3
      go_wp2_with fail
      refine (new_any _).mono ?_
      rintro e w1 ⟨rfl, m1, hc1⟩
      clear hc1 hd
      go_wp2_with fail
      refine (h2 _).mono ?_
      rintro e w2 ⟨rfl, m2⟩
      go_wp2_with fail
      go_ret
      exact ⟨rfl, m1.trans m2⟩
  · obtain ⟨m, rfl⟩ := Int.eq_ofNat_of_zero_le (show 0 ≤ n by omega)
    have hm : m ≤ 100 := by omega
    clear hg hn1 hn2
    go_enter Try.func3, Try.ntmps3
    go_wp2_with fail
    refine (new_any _).mono ?_
    rintro e w1 ⟨rfl, m1, hc1⟩
    go_wp2_with fail
    go_loopw [4] (fun i wr => ∃ k : Nat, k ≤ m ∧ i = .int .i64 k ∧ (∃ v l, ClockAt wr w.heap.size w.heap.size v 0 l ∧ FullInv k l) ∧ Fresh w wr) (fun i _ => m - (intOf i).toNat)
    case atStart => exact ⟨0, by omega, rfl, ⟨_, _, hc1, ⟨rfl, fun a ha => by simp at ha, fun h => by omega⟩⟩, m1⟩
    case round =>
      obtain ⟨k, hk, rfl, ⟨v, l, hc, hI⟩, hf⟩ := hrel
      have hl64 : l.length ≤ 64 := by have := hI.len; omega
      by_cases hlt : k < m
      · have hs := set_any hc k (100 - k) hf.size (by omega) (by omega) hl64
        have herr := hI.err (by omega)
        have HS := Lib.hid hs
        by_cases h63 : k > 63
        · rw [if_pos h63] at herr
          have HE := Lib.hid herr
          clear hs herr
          go_wp2_with (go_at_call 10; refine (HS.out).mono ?_; rintro e w2 ⟨rfl, m2, v2, l2, hc2, _, hs1, hs2⟩; rw [HE.out])
          have hI2 := hI.step (by omega) hs1 hs2
          have f2 := fresh_then hf m2 hc.own
          clear hs1 hs2 m2 hI hc
          go_roundw
          case rel => exact ⟨k + 1, by omega, by go_num, ⟨v2, l2, hc2, hI2⟩, f2⟩
          case measure => simp [intOf]; omega
        · rw [if_neg h63] at herr
          have HE := Lib.hid herr
          clear hs herr
          go_wp2_with (go_at_call 10; refine (HS.out).mono ?_; rintro e w2 ⟨rfl, m2, v2, l2, hc2, _, hs1, hs2⟩; rw [HE.out])
          have hI2 := hI.step (by omega) hs1 hs2
          have f2 := fresh_then hf m2 hc.own
          clear hs1 hs2 m2 hI hc
          go_roundw
          case rel => exact ⟨k + 1, by omega, by go_num, ⟨v2, l2, hc2, hI2⟩, f2⟩
          case measure => simp [intOf]; omega
      · obtain rfl : k = m := by omega
        clear hlt
        by_cases h0 : k = 0
        · subst h0
          obtain rfl := hI.again0
          clear hI hl64 hk hc1 m1
          go_wp2_with fail
          refine (set_any hc 0 5 hf.size (by omega) (by omega) (by simp)).mono ?_
          rintro e w2 ⟨rfl, m2, v2, l2, hc2, _, hs1, _⟩
          have hl2 : l2 = [(5, 0)] := by simpa using (hs1 rfl).1
          subst hl2
          have f2 := fresh_then hf m2 hc.own
          have e1 : setErr 0 [] 0 5 = 0 := rfl
          rw [e1]
          clear e1 hs1 m2 hc hf
          go_wp2_with fail
          refine (tick_any hc2 100 (by omega) (by omega)).mono ?_
          rintro e w3 ⟨rfl, m3, hc3⟩
          have f3 := fresh_then f2 m3 (fun k e => hc2.own k (.inl e))
          have e1 : tickErr 0 100 = 0 := rfl
          rw [e1] at hc3 ⊢
          simp only [if_true, Int.zero_add] at hc3
          clear e1 m3 hc2 f2
          go_wp2_with fail
          refine (due_any hc3 (by simp)).mono ?_
          rintro e w4 ⟨v4, rfl, hr4, m4⟩
          have f4 := f3.trans m4
          have e1 : dueOf 100 [(5, 0)] = [0] := rfl
          rw [e1] at hr4
          obtain ⟨a4, c4, hv4⟩ : ∃ a c, v4 = .slice a 1 c := by
            rcases hr4.form with ⟨_, e⟩ | ⟨g, c, e, _⟩
            · cases e
            · exact ⟨_, _, e⟩
          subst hv4
          clear hr4 e1 f3 hc3 m4
          go_wp2_with fail
          refine (two_any _).mono ?_
          rintro e w5 ⟨rfl, m5⟩
          go_wp2_with fail
          go_ret
          exact ⟨rfl, f4.trans m5⟩
        · have hk0 : 0 < k := by omega
          have e1 := hI.again hk0
          have e2 := hI.due
          have E2 := Lib.hid e2
          have hz : ((k : Int) == 0) = false := by simp; omega
          clear hc1 m1 h0 e2
          go_wp2_with fail
          refine (set_any hc 0 5 hf.size (by omega) (by omega) hl64).mono ?_
          rintro e w2 ⟨rfl, m2, v2, l2, hc2, _, _, hs2⟩
          obtain rfl := hs2 (by omega)
          have f2 := fresh_then hf m2 hc.own
          rw [e1]
          clear e1 hs2 m2 hc hf
          go_wp2_with fail
          refine (tick_any hc2 100 (by omega) (by omega)).mono ?_
          rintro e w3 ⟨rfl, m3, hc3⟩
          have f3 := fresh_then f2 m3 (fun k e => hc2.own k (.inl e))
          have e1 : tickErr 0 100 = 0 := rfl
          rw [e1] at hc3 ⊢
          simp only [if_true, Int.zero_add] at hc3
          clear e1 m3 hc2 f2
          go_wp2_with fail
          refine (due_any hc3 hl64).mono ?_
          rintro e w4 ⟨v4, rfl, hr4, m4⟩
          have f4 := f3.trans m4
          obtain ⟨a4, c4, hv4⟩ : ∃ a c, v4 = .slice a (min k 64) c := by
            rcases hr4.form with ⟨e, e'⟩ | ⟨g, c, e, _⟩
            · have := E2.out; rw [e'] at this; simp at this; omega
            · rw [E2.out] at e; exact ⟨_, _, e⟩
          clear hr4 f3 hc3 m4 hI
          by_cases hbig : 64 < k
          · have hm64 : min k 64 = 64 := by omega
            rw [hm64] at hv4
            subst hv4
            clear hm64
            go_wp2_with fail
            refine (two_any _).mono ?_
            rintro e w5 ⟨rfl, m5⟩
            go_wp2_with fail
            go_ret
            exact ⟨rfl, f4.trans m5⟩
          · have hm64 : min k 64 = k := by omega
            rw [hm64] at hv4
            subst hv4
            clear hm64
            go_wp2_with fail
            refine (two_any _).mono ?_
            rintro e w5 ⟨rfl, m5⟩
            go_wp2_with fail
            go_ret
            exact ⟨rfl, f4.trans m5⟩

theorem full_walk (W : World) {n : Int} (wf : (Lit.int .i64 n).wf = true) : Calls Try.prog 3 #[.int .i64 n] W fun e w' => e = .returned (.bool true) ∧ Fresh W w' := by
  have hb := i64_bounds wf
  exact full_any n W hb.1 hb.2
end Go.Proofs.Ytfbnlniabfiifaa
