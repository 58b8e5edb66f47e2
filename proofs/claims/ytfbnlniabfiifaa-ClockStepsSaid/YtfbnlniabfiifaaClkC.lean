/-
  A clock as it lies in memory; where an alarm stands (find), how much later (later).
-/
import Derived.Test.YtfbnlniabfiifaaClkB
namespace Go.Proofs.Ytfbnlniabfiifaa
open Go.RowKit Go.Lib
set_option linter.unusedVariables false
set_option linter.unusedSimpArgs false

def encAl (x : Al) : List Value := [.int .i64 x.1, .int .i64 x.2]
def flatAl (l : List Al) : List Value := l.flatMap encAl
theorem flatAl_length (l : List Al) : (flatAl l).length = l.length * 2 := by
  induction l with
  | nil => rfl
  | cons a l ih => simp only [flatAl, List.flatMap_cons, List.length_append, List.length_cons] at *; rw [ih]; simp [encAl]; omega
theorem flatAl_get (l : List Al) (j : Nat) (hj : j < l.length) : (flatAl l)[j * 2]? = some (.int .i64 l[j].1) ∧ (flatAl l)[j * 2 + 1]? = some (.int .i64 l[j].2) := by
  induction l generalizing j with
  | nil => simp at hj
  | cons a l ih =>
    cases j with
    | zero => simp [flatAl, encAl]
    | succ j =>
      have := ih j (by simpa using hj)
      have e : flatAl (a :: l) = .int .i64 a.1 :: .int .i64 a.2 :: flatAl l := rfl
      rw [e, show (j + 1) * 2 = j * 2 + 1 + 1 by omega, show j * 2 + 1 + 1 + 1 = (j * 2 + 1) + 1 + 1 by omega]
      simpa using this

/-- A slice of alarms of the call's own: the value, and what it holds. -/
def AlRow (w : World) (B : Nat) (v : Value) (l : List Al) : Prop := w.ownsRow B 59 2 v l.length (flatAl l)
theorem AlRow.cells {w : World} {B g n c : Nat} {l : List Al} (h : AlRow w B (.slice (some ⟨g, 0, none⟩) n c) l) (j : Nat) (hj : j < l.length) :
    w.cell? ⟨g, j * 2, none⟩ = some (.int .i64 l[j].1) ∧ w.cell? ⟨g, j * 2 + 1, none⟩ = some (.int .i64 l[j].2) := by
  have hx := World.ownsRow.cells h (g := g) rfl
  have := flatAl_get l j hj
  have a := hx (j * 2) _ this.1
  have b := hx (j * 2 + 1) _ this.2
  rw [Addr.add_lit, Nat.zero_add] at a b
  exact ⟨a, b⟩
theorem AlRow.form {w : World} {B : Nat} {v : Value} {l : List Al} (h : AlRow w B v l) : (v = .slice none 0 0 ∧ l = []) ∨ ∃ g c, v = .slice (some ⟨g, 0, none⟩) l.length c ∧ l.length ≤ c ∧ B ≤ g ∧ g < w.heap.size := by
  rcases h.2 with ⟨rfl, h0⟩ | ⟨g, cap, cur, rfl, hb, hh, hc, _⟩
  · exact .inl ⟨rfl, List.eq_nil_of_length_eq_zero h0⟩
  · exact .inr ⟨g, cap, rfl, hc, hb, lt_blk hh⟩
theorem AlRow.sl {w : World} {B : Nat} {v : Value} {l : List Al} (h : AlRow w B v l) : ∃ a n c, v = .slice a n c := by
  rcases h.form with ⟨rfl, _⟩ | ⟨g, c, rfl, _⟩
  · exact ⟨_, _, _, rfl⟩
  · exact ⟨_, _, _, rfl⟩
theorem AlRow.len {w : World} {B : Nat} {v : Value} {l : List Al} (h : AlRow w B v l) : l.length ≤ 9223372036854775807 := by
  rcases h.2 with ⟨_, h0⟩ | ⟨g, cap, cur, rfl, hb, hh, hc, hm, _⟩
  · omega
  · unfold maxLen at hm; omega
theorem AlRow.mod {S : Nat → Prop} {w w' : World} (h : Mod S w w') {B : Nat} {v : Value} {l : List Al} (hr : AlRow w B v l) (hs : ∀ k, v.ownBlock = some k → ¬ S k) : AlRow w' B v l := h.ownsRow hr hs

/-- The closure of find: is it the alarm of that id? It boxes its argument. -/
theorem is_id (a : Al) (id : Int) (b : Nat) (W : World) (hc : W.cell? ⟨b, 0, none⟩ = some (.int .i64 id)) :
    Calls Try.prog 33 #[.agg #[.int .i64 a.1, .int .i64 a.2], .pointer (some ⟨b, 0, none⟩)] W fun e w' => e = .returned (.bool (decide (a.2 = id))) ∧ Fresh W w' := by
  have hb : b < W.heap.size := World.block_lt_of_cell? W _ hc
  have hc' : (W.alloc (.cells #[.int .i64 a.1, .int .i64 a.2] 59)).cell? ⟨b, 0, none⟩ = some (.int .i64 id) := by rw [World.cell?_alloc_past _ _ _ hb]; exact hc
  have hne : b ≠ W.heap.size := by omega
  by_cases h : a.2 = id
  · have h' : (a.2 == id) = true := by simpa using h
    have H := Lib.hid h
    clear h
    go_enter Try.func33, Try.ntmps33
    go_wp2
    all_goals (go_ret; exact ⟨ret_bool (by simpa using H.out), (Mod.refl _ W).alloc _⟩)
  · have h' : (a.2 == id) = false := by simpa using h
    have H := Lib.hid h
    clear h
    go_enter Try.func33, Try.ntmps33
    go_wp2
    all_goals (go_ret; exact ⟨ret_bool (by simpa using H.out), (Mod.refl _ W).alloc _⟩)

set_option maxHeartbeats 800000 in
/-- slices.IndexFunc with find's closure. -/
theorem indexFunc_id (B : Nat) (v : Value) (l : List Al) (id : Int) (b : Nat) (w : World) (hr : AlRow w B v l) (hc : w.cell? ⟨b, 0, none⟩ = some (.int .i64 id)) :
    Calls Try.prog 32 #[v, .func (.func 33) #[] #[.pointer (some ⟨b, 0, none⟩)]] w fun e w' => e = .returned (.int .i64 (idx l id)) ∧ Fresh w w' := by
  have hlen := hr.len
  rcases hr.form with ⟨rfl, rfl⟩ | ⟨g, c, rfl, hlc, hBg, hg⟩
  · have e : idx [] id = -1 := rfl
    have E := Lib.hid e
    clear e hc
    go_enter Try.func32, Try.ntmps32
    go_wp2
    refine wp_loop_rounds 1 ?_
    rw [rounds_succ]
    go_wp2
    go_ret
    exact ⟨ret_int E.out.symm, Mod.refl _ w⟩
  · have hcell := fun j hj => hr.cells j hj
    have hcl := Lib.hid hcell
    clear hcell
    have eg : ∀ args w, (callFunc 33 args).run Try.prog w = .ok (.enter 33 args) w := enters_of Try.func33 (by kernel_rfl) rfl
    go_enter Try.func32, Try.ntmps32
    go_wp2
    go_loopw [8] (fun i wr => ∃ k : Nat, k ≤ l.length ∧ i = .int .i64 k ∧ Fresh w wr ∧ (∀ j (hj : j < l.length), j < k → l[j].2 ≠ id)) (fun i _ => l.length - (intOf i).toNat)
    case atStart => exact ⟨0, by omega, rfl, Mod.refl _ w, by omega⟩
    case round =>
      obtain ⟨k, hk, rfl, hf, hno⟩ := hrel
      have Hno := Lib.hid hno
      clear hno
      by_cases hlt : k < l.length
      · obtain ⟨c0, c1⟩ := hcl.out k hlt
        have d0 := hf.cell c0 (fun f => f)
        have d1 := hf.cell c1 (fun f => f)
        have dc := hf.cell hc (fun f => f)
        clear c0 c1
        by_cases hid : l[k].2 = id
        · have Hd := Lib.hid hid
          have e : idx l id = k := idx_first l id k hlt hid Hno.out
          have E := Lib.hid e
          clear e hid
          go_wp2_with fail
          refine (is_id l[k] id b _ dc).mono ?_
          rintro e w' ⟨rfl, hf'⟩
          rw [decide_eq_true Hd.out]
          go_wp2
          go_ret
          exact ⟨ret_int E.out.symm, hf.trans hf'⟩
        · have Hd := Lib.hid hid
          clear hid
          go_wp2_with fail
          refine (is_id l[k] id b _ dc).mono ?_
          rintro e w' ⟨rfl, hf'⟩
          rw [decide_eq_false Hd.out]
          go_wp2
          go_roundw
          case rel =>
            refine ⟨k + 1, by omega, by go_num, hf.trans hf', fun j hj hj' => ?_⟩
            by_cases e : j = k
            · subst e; exact Hd.out
            · exact Hno.out j hj (by omega)
          case measure => simp [intOf]; omega
      · obtain rfl : k = l.length := by omega
        have e : idx l id = -1 := idx_none l id (fun j hj => Hno.out j hj hj)
        have E := Lib.hid e
        clear e
        go_wp2
        go_ret
        exact ⟨ret_int E.out.symm, hf⟩
end Go.Proofs.Ytfbnlniabfiifaa
