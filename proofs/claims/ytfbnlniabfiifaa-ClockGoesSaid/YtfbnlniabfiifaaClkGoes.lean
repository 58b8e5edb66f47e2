/-
  ClockGoes: the walk: an alarm is due just if so much time went by.
-/
import Derived.Test.YtfbnlniabfiifaaClkO
namespace Go.Proofs.Ytfbnlniabfiifaa
open Go.RowKit Go.Lib
set_option linter.unusedVariables false
set_option linter.unusedSimpArgs false

theorem due_one (now after : Int) : dueOf now [(after, 1)] = if after ≤ now then [1] else [] := by
  unfold dueOf
  by_cases h : after ≤ now <;> simp [h, List.filter_cons]

def GoesPost (w : World) (e : Ending) (w' : World) : Prop := e = .returned (.bool true) ∧ Fresh w w'
set_option maxHeartbeats 4000000 in
theorem goes_any (W : World) {after : Int} {v : Value} {ticks : List Int} (wf : (Lit.int .i64 after).wf = true) (ht : SliceIn W 1 IntCells v ticks) : Calls Try.prog 5 #[.int .i64 after, v] W (GoesPost W) := by
  have hb := i64_bounds wf
  have hform := ht.form
  have hlen := hform.1
  have ht0 := ht
  obtain ⟨A, c, hv, hlc, hcm⟩ := hform.2
  subst hv
  have HT := Lib.hid ht0
  clear ht0
  have two := two_any
  by_cases hg : ticks.length > 100 ∨ after < 0 ∨ after > 1099511627776
  · have hq : (decide ((100 : Int) < ticks.length) || decide (after < 0) || decide (1099511627776 < after)) = true := by
      simp; omega
    have HQ := Lib.hid hq
    by_cases g1 : (100 : Int) < ticks.length
    · clear hg hq hform
      go_enter Try.func5, Try.ntmps5
      go_wp2_with fail
      refine (new_any _).mono ?_
      rintro e w1 ⟨rfl, m1, hc1⟩
      clear hc1
      go_wp2_with fail
      refine (two _).mono ?_
      rintro e w2 ⟨rfl, m2⟩
      go_wp2_with fail
      go_ret
      exact ⟨rfl, m1.trans m2⟩
    · by_cases g2 : after < 0
      · clear hg hq hform
        go_enter Try.func5, Try.ntmps5
        go_wp2_with fail
        refine (new_any _).mono ?_
        rintro e w1 ⟨rfl, m1, hc1⟩
        clear hc1
        go_wp2_with fail
        refine (two _).mono ?_
        rintro e w2 ⟨rfl, m2⟩
        go_wp2_with fail
        go_ret
        exact ⟨rfl, m1.trans m2⟩
      · have g3 : 1099511627776 < after := by omega
        clear hg hq hform
        go_enter Try.func5, Try.ntmps5
        go_wp2_with fail
        refine (new_any _).mono ?_
        rintro e w1 ⟨rfl, m1, hc1⟩
        clear hc1
        go_wp2_with fail
        refine (two _).mono ?_
        rintro e w2 ⟨rfl, m2⟩
        go_wp2_with fail
        go_ret
        exact ⟨rfl, m1.trans m2⟩
  · have g1 : ticks.length ≤ 100 := by omega
    have g2 : 0 ≤ after := by omega
    have g3 : after ≤ 1099511627776 := by omega
    clear hg hb hform
    go_enter Try.func5, Try.ntmps5
    go_wp2_with fail
    refine (new_any _).mono ?_
    rintro e w1 ⟨rfl, m1, hc1⟩
    go_wp2_with fail
    refine (set_any hc1 1 after m1.size (by omega) (by omega) (by simp)).mono ?_
    rintro e w2 ⟨rfl, m2, v2, l2, hc2, _, hs2, _⟩
    have e1 : setErr 0 [] 1 after = 0 := by
      unfold setErr
      rw [if_neg (by omega), if_neg (by decide), if_neg (by decide), if_neg (by omega)]
    have hl2 : l2 = [(after, 1)] := by simpa using (hs2 e1).1
    subst hl2
    have f2 := fresh_then m1 m2 hc1.own
    rw [e1]
    clear e1 hs2 m2 hc1 m1
    go_wp2_with fail
    go_loopw [6, 38] (fun x i wr => ∃ k : Nat, k ≤ ticks.length ∧ i = .int .i64 k ∧ ∃ now, x = .int .i64 now ∧ 0 ≤ now ∧ now ≤ 1099511627776 ∧ ClockAt wr W.heap.size W.heap.size v2 now [(after, 1)] ∧ Fresh W wr) (fun _ i _ => ticks.length - (intOf i).toNat)
    case atStart => exact ⟨0, by omega, rfl, 0, rfl, by omega, by omega, hc2, f2⟩
    case round =>
      obtain ⟨k, hk, rfl, now, rfl, n0, n1, hc, hf⟩ := hrel
      clear hc2 f2
      by_cases hlt : k < ticks.length
      · obtain ⟨g, o, rfl, hg, hcell, hti⟩ := HT.out.intAt k hlt
        have d0 := hf.cell hcell (fun f => f)
        clear hcell
        generalize ticks[k] = t at *
        obtain ⟨t0, t1⟩ := hti
        have htick := tick_any hc t n0 n1
        have HK := Lib.hid htick
        clear htick
        by_cases hok : tickErr now t = 0
        · have hb2 : 0 ≤ t ∧ t ≤ 1099511627776 - now := by
            unfold tickErr at hok
            split at hok
            · omega
            · split at hok <;> omega
          have HO := Lib.hid hok
          clear hok
          obtain ⟨b0, b1⟩ := hb2
          go_wp2_with fail
          refine HK.out.mono ?_
          rintro e w3 ⟨rfl, m3, hc3⟩
          have f3 := fresh_then hf m3 (fun k e => hc.own k (.inl e))
          rw [HO.out] at hc3 ⊢
          rw [if_pos rfl] at hc3
          clear m3 hc hf d0
          obtain ⟨now', hn'⟩ : ∃ n', n' = now + t := ⟨_, rfl⟩
          have n0' : 0 ≤ now' := by omega
          have n1' : now' ≤ 1099511627776 := by omega
          rw [← hn'] at hc3
          have HN := Lib.hid hn'
          clear hn'
          go_wp2_with fail
          rw [← HN.out]
          refine (left_any hc3 1 n0' n1' (by intro a ha; simp at ha; subst ha; exact ⟨g2, g3⟩)).mono ?_
          rintro e w4 ⟨m4, hL⟩
          have hL2 : e = .returned (.tuple #[.int .i64 (leftOf now' after), .bool true]) := by
            rcases hL with ⟨_, hno, _⟩ | ⟨a, ha, _, rfl⟩
            · exact absurd rfl (hno (after, 1) (by simp))
            · simp at ha; subst ha; rfl
          subst hL2
          have hc4 := hc3.fresh m4
          have f4 := f3.trans m4
          clear hL m4 hc3 f3
          have hdue := due_any hc4 (by simp)
          have HD := Lib.hid hdue
          clear hdue
          by_cases hge : after ≤ now'
          · have el : leftOf now' after = 0 := by unfold leftOf; rw [if_pos hge]
            rw [el]
            clear el
            go_wp2_with fail
            refine HD.out.mono ?_
            rintro e w5 ⟨v5, rfl, hr5, m5⟩
            rw [due_one, if_pos hge] at hr5
            obtain ⟨a5, c5, hv5⟩ : ∃ a c, v5 = .slice a 1 c := by
              rcases hr5.form with ⟨_, e⟩ | ⟨g, c, e, _⟩
              · cases e
              · exact ⟨_, _, e⟩
            subst hv5
            have hc5 := hc4.fresh m5
            have f5 := f4.trans m5
            clear hr5 m5 hc4 f4
            go_wp2_with fail
            go_roundw
            case rel => exact ⟨k + 1, by omega, by go_num, now', rfl, n0', n1', hc5, f5⟩
            case measure => simp [intOf]; omega
          · have el : leftOf now' after = after - now' := by unfold leftOf; rw [if_neg hge]
            rw [el]
            clear el
            have hz : ((after - now') == 0) = false := by simp; omega
            go_wp2_with fail
            refine HD.out.mono ?_
            rintro e w5 ⟨v5, rfl, hr5, m5⟩
            rw [due_one, if_neg (by omega)] at hr5
            obtain ⟨a5, c5, hv5⟩ : ∃ a c, v5 = .slice a 0 c := by
              rcases hr5.form with ⟨e, _⟩ | ⟨g, c, e, _⟩
              · exact ⟨_, _, e⟩
              · exact ⟨_, _, e⟩
            subst hv5
            have hc5 := hc4.fresh m5
            have f5 := f4.trans m5
            clear hr5 m5 hc4 f4
            go_wp2_with fail
            go_roundw
            case rel => exact ⟨k + 1, by omega, by go_num, now', rfl, n0', n1', hc5, f5⟩
            case measure => simp [intOf]; omega
        · have hz : (tickErr now t == 0) = false := by simpa using hok
          go_wp2_with fail
          refine HK.out.mono ?_
          rintro e w3 ⟨rfl, m3, hc3⟩
          have f3 := fresh_then hf m3 (fun k e => hc.own k (.inl e))
          rw [if_neg hok] at hc3
          clear m3 hc hf d0 hok
          generalize tickErr now t = q at *
          obtain ⟨now', hn'⟩ : ∃ n', n' = now := ⟨_, rfl⟩
          have n0' : 0 ≤ now' := by omega
          have n1' : now' ≤ 1099511627776 := by omega
          subst hn'
          go_wp2_with fail
          refine (left_any hc3 1 n0' n1' (by intro a ha; simp at ha; subst ha; exact ⟨g2, g3⟩)).mono ?_
          rintro e w4 ⟨m4, hL⟩
          have hL2 : e = .returned (.tuple #[.int .i64 (leftOf now' after), .bool true]) := by
            rcases hL with ⟨_, hno, _⟩ | ⟨a, ha, _, rfl⟩
            · exact absurd rfl (hno (after, 1) (by simp))
            · simp at ha; subst ha; rfl
          subst hL2
          have hc4 := hc3.fresh m4
          have f4 := f3.trans m4
          clear hL m4 hc3 f3
          have hdue := due_any hc4 (by simp)
          have HD := Lib.hid hdue
          clear hdue
          by_cases hge : after ≤ now'
          · have el : leftOf now' after = 0 := by unfold leftOf; rw [if_pos hge]
            rw [el]
            clear el
            go_wp2_with fail
            refine HD.out.mono ?_
            rintro e w5 ⟨v5, rfl, hr5, m5⟩
            rw [due_one, if_pos hge] at hr5
            obtain ⟨a5, c5, hv5⟩ : ∃ a c, v5 = .slice a 1 c := by
              rcases hr5.form with ⟨_, e⟩ | ⟨g, c, e, _⟩
              · cases e
              · exact ⟨_, _, e⟩
            subst hv5
            have hc5 := hc4.fresh m5
            have f5 := f4.trans m5
            clear hr5 m5 hc4 f4
            go_wp2_with fail
            go_roundw
            case rel => exact ⟨k + 1, by omega, by go_num, now', rfl, n0', n1', hc5, f5⟩
            case measure => simp [intOf]; omega
          · have el : leftOf now' after = after - now' := by unfold leftOf; rw [if_neg hge]
            rw [el]
            clear el
            have hz : ((after - now') == 0) = false := by simp; omega
            go_wp2_with fail
            refine HD.out.mono ?_
            rintro e w5 ⟨v5, rfl, hr5, m5⟩
            rw [due_one, if_neg (by omega)] at hr5
            obtain ⟨a5, c5, hv5⟩ : ∃ a c, v5 = .slice a 0 c := by
              rcases hr5.form with ⟨e, _⟩ | ⟨g, c, e, _⟩
              · exact ⟨_, _, e⟩
              · exact ⟨_, _, e⟩
            subst hv5
            have hc5 := hc4.fresh m5
            have f5 := f4.trans m5
            clear hr5 m5 hc4 f4
            go_wp2_with fail
            go_roundw
            case rel => exact ⟨k + 1, by omega, by go_num, now', rfl, n0', n1', hc5, f5⟩
            case measure => simp [intOf]; omega
      · go_wp2_with fail
        refine (two _).mono ?_
        rintro e w5 ⟨rfl, m5⟩
        go_wp2_with fail
        go_ret
        exact ⟨rfl, hf.trans m5⟩
end Go.Proofs.Ytfbnlniabfiifaa
