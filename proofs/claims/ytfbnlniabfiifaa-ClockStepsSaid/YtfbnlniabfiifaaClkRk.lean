/-
  The reference's Rank and Tick by contracts.
-/
import Derived.Test.YtfbnlniabfiifaaClkR
namespace Go.Proofs.Ytfbnlniabfiifaa
open Go.RowKit Go.Lib
set_option linter.unusedVariables false
set_option linter.unusedSimpArgs false

def rankOf (l : List Al) (a : Al) : Nat := (l.filter fun b => bef b a).length
theorem rank_succ (l : List Al) (a : Al) (k : Nat) (hk : k < l.length) : rankOf (l.take (k + 1)) a = rankOf (l.take k) a + if bef l[k] a = true then 1 else 0 := by
  unfold rankOf
  rw [List.take_succ_eq_append_getElem hk, List.filter_append, List.length_append]
  congr 1
  by_cases h : bef l[k] a = true <;> simp [h, List.filter_cons]
theorem rank_le (l : List Al) (a : Al) (k : Nat) : rankOf (l.take k) a ≤ k := Nat.le_trans (List.length_filter_le ..) (List.length_take_le ..)

set_option maxRecDepth 100000 in
set_option maxHeartbeats 4000000 in
theorem rank_any {w : World} {B b : Nat} {v : Value} {now : Int} {l : List Al} (h : RefAt w B b v now l) (i : Nat) (hi : i < l.length) :
    Calls Try.prog 20 #[.pointer (some ⟨b, 0, none⟩), .int .i64 i] w fun e w' => e = .returned (.int .i64 (rankOf l l[i])) ∧ Fresh w w' := by
  have hval := h.val
  obtain ⟨A, c, rfl, hlc, hcm, hg⟩ := h.row.form
  obtain ⟨g, rfl, _, hgs⟩ := hg (by omega)
  have HR := Lib.hid h.row
  have hb := lt_blk h.blk
  obtain ⟨i0, i1⟩ := HR.out.cells i hi
  have hlen : l.length ≤ 9223372036854775807 := by omega
  clear h hg
  obtain ⟨a, ha⟩ : ∃ a, a = l[i] := ⟨_, rfl⟩
  rw [← ha] at i0 i1 ⊢
  have HA := Lib.hid ha
  clear ha
  have I0 := Lib.hid i0
  have I1 := Lib.hid i1
  have HV := Lib.hid hval
  clear i0 i1
  go_enter Try.func20, Try.ntmps20
  go_wp2
  go_loopw [5, 13] (fun n j wr => ∃ k : Nat, k ≤ l.length ∧ j = .int .i64 k ∧ n = .int .i64 (rankOf (l.take k) a) ∧ Fresh w wr) (fun _ j _ => l.length - (intOf j).toNat)
  case atStart => exact ⟨0, by omega, rfl, rfl, Mod.refl _ w⟩
  case round =>
    obtain ⟨k, hk, rfl, rfl, hf⟩ := hrel
    clear hval
    by_cases hlt : k < l.length
    · obtain ⟨c0, c1⟩ := HR.out.cells k hlt
      have hrk := rank_succ l a k hlt
      have hrl := rank_le l a k
      obtain ⟨x, hx⟩ : ∃ x, x = l[k] := ⟨_, rfl⟩
      rw [← hx] at c0 c1 hrk
      have HK := Lib.hid hrk
      clear hrk hx
      have hsz := hf.size
      have d0 := hf.cell c0 (fun f => f)
      have d1 := hf.cell c1 (fun f => f)
      have mb : Fresh wr (wr.alloc (.cells #[.int .i64 x.2, .int .i64 x.1] 48)) := (Mod.refl _ wr).alloc _
      have e0 := mb.cell (hf.cell I0.out (fun f => f)) (fun f => f)
      have e1 := mb.cell (hf.cell I1.out (fun f => f)) (fun f => f)
      have e2 := mb.cell (hf.cell HV.out (fun f => f)) (fun f => f)
      have hil : (i : Int) < l.length := by omega
      clear c0 c1
      obtain ⟨xa, xi⟩ := x
      obtain ⟨aa, ai⟩ := a
      simp only at d0 d1 e0 e1
      by_cases h1 : xa < aa
      · have hq : bef (xa, xi) (aa, ai) = true := by rw [bef_iff]; exact .inl h1
        rw [if_pos hq] at HK
        have hr : rankOf (l.take (k + 1)) (aa, ai) = rankOf (l.take k) (aa, ai) + 1 := HK.out
        have HKK := Lib.hid hr
        clear hr hq HK
        go_wp2
        go_quiet (fail)
        go_wp2
        go_roundw
        case rel => exact ⟨k + 1, by omega, by go_num, by rw [HKK.out]; go_num, (hf.trans mb).drewN _⟩
        case measure => simp [intOf]; omega
      · by_cases h2 : xa = aa
        · subst h2
          have hbq : (xa == xa) = true := by simp
          by_cases h3 : xi < ai
          · have hq : bef (xa, xi) (xa, ai) = true := by rw [bef_iff]; exact .inr ⟨rfl, h3⟩
            rw [if_pos hq] at HK
            have hr : rankOf (l.take (k + 1)) (xa, ai) = rankOf (l.take k) (xa, ai) + 1 := HK.out
            have HKK := Lib.hid hr
            have hd : decide (xa < xa) = false := by simp
            clear hr hq HK
            go_wp2
            go_quiet (fail)
            go_wp2
            go_roundw
            case rel => exact ⟨k + 1, by omega, by go_num, by rw [HKK.out]; go_num, (hf.trans mb).drewN _⟩
            case measure => simp [intOf]; omega
          · have hq : ¬ bef (xa, xi) (xa, ai) = true := by rw [bef_iff]; simp; omega
            rw [if_neg hq] at HK
            have hr : rankOf (l.take (k + 1)) (xa, ai) = rankOf (l.take k) (xa, ai) := HK.out
            have HKK := Lib.hid hr
            have hd : decide (xa < xa) = false := by simp
            have hd2 : decide (xi < ai) = false := by simp; omega
            clear hr hq HK
            go_wp2
            go_quiet (fail)
            go_wp2
            go_roundw
            case rel => exact ⟨k + 1, by omega, by go_num, by rw [HKK.out], (hf.trans mb).drewN _⟩
            case measure => simp [intOf]; omega
        · have hbq : (xa == aa) = false := by simpa using h2
          have hq : ¬ bef (xa, xi) (aa, ai) = true := by rw [bef_iff]; simp; omega
          rw [if_neg hq] at HK
          have hr : rankOf (l.take (k + 1)) (aa, ai) = rankOf (l.take k) (aa, ai) := HK.out
          have HKK := Lib.hid hr
          have hd : decide (xa < aa) = false := by simp; omega
          clear hr hq HK
          go_wp2
          go_quiet (fail)
          go_wp2
          go_roundw
          case rel => exact ⟨k + 1, by omega, by go_num, by rw [HKK.out], (hf.trans mb).drewN _⟩
          case measure => simp [intOf]; omega
    · obtain rfl : k = l.length := by omega
      have e : rankOf (l.take l.length) a = rankOf l a := by rw [List.take_length]
      have E := Lib.hid e
      clear e
      go_wp2
      go_ret
      exact ⟨ret_int (by rw [E.out]), hf⟩

theorem rtick_any {w : World} {B b : Nat} {v : Value} {now : Int} {l : List Al} (h : RefAt w B b v now l) (n : Int) (h0 : 0 ≤ now) (h1 : now ≤ 1099511627776) (hn : I64 n) :
    Calls Try.prog 29 #[.pointer (some ⟨b, 0, none⟩), .int .i64 n] w fun e w' => e = .returned (.int .i64 (tickErr now n)) ∧ Mod (fun k => k = b) w w' ∧ RefAt w' B b v (if tickErr now n = 0 then now + n else now) l := by
  have hc := h.now
  have hz := free_blk h.blk 0
  have H := Lib.hid h
  have hblk := Lib.hid h.blk
  clear h
  obtain ⟨n0, n1⟩ := hn
  by_cases a1 : n < 0
  · have e : tickErr now n = 1 := by simp [tickErr, a1]
    rw [e]
    clear e
    go_enter Try.func29, Try.ntmps29
    go_wp2
    go_ret
    exact ⟨rfl, Mod.refl _ w, H.out⟩
  · by_cases a2 : n > 1099511627776
    · have e : tickErr now n = 1 := by simp [tickErr, a2]
      rw [e]
      clear e
      go_enter Try.func29, Try.ntmps29
      go_wp2
      go_ret
      exact ⟨rfl, Mod.refl _ w, H.out⟩
    · by_cases a3 : 1099511627776 < now + n
      · have e : tickErr now n = 40 := by simp [tickErr, a1, a2]; omega
        rw [e]
        clear e
        go_enter Try.func29, Try.ntmps29
        go_wp2
        go_ret
        exact ⟨rfl, Mod.refl _ w, H.out⟩
      · have e : tickErr now n = 0 := by simp [tickErr, a1, a2]; omega
        rw [e]
        clear e
        go_enter Try.func29, Try.ntmps29
        go_wp2
        go_ret
        refine ⟨rfl, (Mod.refl (fun k => k = b) w).setCell (fun _ => rfl) _, ⟨H.out.hb, ?_, ?_⟩⟩
        · rw [set_blk hblk.out]; simp
        · exact H.out.row.mod ((Mod.refl (fun k => k = b) w).setCell (fun _ => rfl) _) H.out.ne
end Go.Proofs.Ytfbnlniabfiifaa
