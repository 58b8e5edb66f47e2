/-
  Plain comparison of lists of ints; the statements' small case 'two'.
-/
import Derived.Test.YtfbnlniabfiifaaClkH
namespace Go.Proofs.Ytfbnlniabfiifaa
open Go.RowKit Go.Lib
set_option linter.unusedVariables false
set_option linter.unusedSimpArgs false

/-- A slice value that reads as ints. -/
def IntsIn (w : World) (v : Value) (xs : List Int) : Prop :=
  ∃ b c, v = .slice b xs.length c ∧ xs.length ≤ 9223372036854775807 ∧ (0 < xs.length → ∃ g o, b = some ⟨g, o, none⟩ ∧ ∀ j (hj : j < xs.length), w.cell? ⟨g, o + j, none⟩ = some (.int .i64 xs[j]))
theorem IntRow.reads {w : World} {B : Nat} {v : Value} {l : List Int} (h : IntRow w B v l) : IntsIn w v l := by
  have hl := h.len
  rcases h.form with ⟨rfl, rfl⟩ | ⟨g, c, rfl, _⟩
  · exact ⟨_, _, rfl, by simp, fun h0 => by simp at h0⟩
  · exact ⟨_, _, rfl, hl, fun _ => ⟨g, 0, rfl, fun j hj => by rw [Nat.zero_add]; exact h.cells j hj⟩⟩
theorem IntsIn.mod {S : Nat → Prop} {w w' : World} (m : Mod S w w') {v : Value} {l : List Int} (h : IntsIn w v l) (hs : ∀ k, v.ownBlock = some k → ¬ S k) : IntsIn w' v l := by
  obtain ⟨b, c, rfl, h1, h2⟩ := h
  refine ⟨b, c, rfl, h1, fun h0 => ?_⟩
  obtain ⟨g, o, rfl, h3⟩ := h2 h0
  exact ⟨g, o, rfl, fun j hj => m.cell (h3 j hj) (hs g rfl)⟩

def BoolPost (w : World) (r : Bool) (e : Ending) (w' : World) : Prop := e = .returned (.bool r) ∧ Fresh w w'
set_option maxHeartbeats 1000000 in
theorem ints_eq {w : World} {va vb : Value} {xs ys : List Int} (ha : IntsIn w va xs) (hb : IntsIn w vb ys) :
    Calls Try.prog 14 #[va, vb] w (BoolPost w (decide (xs = ys))) := by
  obtain ⟨a, ca, rfl, la, ga⟩ := ha
  obtain ⟨b, cb, rfl, lb, gb⟩ := hb
  have Ga := Lib.hid ga
  have Gb := Lib.hid gb
  clear ga gb
  go_enter Try.func14, Try.ntmps14
  go_wp2
  go_loopw [8] (fun i wr => ∃ k : Nat, k ≤ xs.length ∧ k ≤ ys.length ∧ i = .int .i64 k ∧ xs.take k = ys.take k ∧ Fresh w wr) (fun i _ => xs.length - (intOf i).toNat)
  case atStart => exact ⟨0, by omega, by omega, rfl, by simp, Mod.refl _ w⟩
  case round =>
    obtain ⟨k, hk, hk2, rfl, htake, hf⟩ := hrel
    have HT := Lib.hid htake
    clear htake
    by_cases hlt : k < xs.length
    · obtain ⟨g, o, rfl, hc⟩ := Ga.out (by omega)
      have c0 := hf.cell (hc k hlt) (fun f => f)
      have Hc := Lib.hid hc
      clear hc
      by_cases hlt2 : k < ys.length
      · obtain ⟨g2, o2, rfl, hc2⟩ := Gb.out (by omega)
        have c1 := hf.cell (hc2 k hlt2) (fun f => f)
        have Hc2 := Lib.hid hc2
        clear hc2
        by_cases heq : xs[k] = ys[k]
        · have HE := Lib.hid heq
          have hb1 : (xs[k] != ys[k]) = false := by simpa using heq
          clear heq
          have hd : decide ((ys.length : Int) ≤ k) = false := by simp; omega
          go_wp2
          go_quiet (fail)
          go_wp2
          go_roundw
          case rel =>
            refine ⟨k + 1, by omega, by omega, by go_num, ?_, hf.drewN _⟩
            rw [List.take_succ_eq_append_getElem hlt, List.take_succ_eq_append_getElem hlt2, HT.out, HE.out]
          case measure => simp [intOf]; omega
        · have HE := Lib.hid heq
          have hb1 : (xs[k] != ys[k]) = true := by simpa using heq
          clear heq
          have hd : decide ((ys.length : Int) ≤ k) = false := by simp; omega
          go_wp2
          go_quiet (fail)
          go_wp2
          go_ret
          refine ⟨ret_bool ?_, hf.drewN _⟩
          symm
          apply decide_eq_false
          intro e
          subst e
          exact HE.out rfl
      · have hd : decide ((ys.length : Int) ≤ k) = true := by simp; omega
        go_wp2
        go_quiet (fail)
        go_wp2
        go_ret
        refine ⟨ret_bool ?_, hf.drewN _⟩
        symm
        apply decide_eq_false
        intro e
        subst e
        omega
    · obtain rfl : k = xs.length := by omega
      go_wp2
      go_ret
      refine ⟨ret_bool ?_, hf⟩
      have h1 := HT.out
      rw [List.take_length] at h1
      by_cases hl : xs.length = ys.length
      · rw [hl, List.take_length] at h1
        simp [h1]
      · have : xs ≠ ys := fun e => hl (by rw [e])
        simp [this]
        omega
end Go.Proofs.Ytfbnlniabfiifaa
