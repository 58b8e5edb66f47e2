/-
  The reference's clock as it lies in memory; At, Left, Rank, Tick by contracts.
-/
import Derived.Test.YtfbnlniabfiifaaClkOrdP
namespace Go.Proofs.Ytfbnlniabfiifaa
open Go.RowKit Go.Lib
set_option linter.unusedVariables false
set_option linter.unusedSimpArgs false

/-- An alarm of the reference's: its id, then its time. -/
def encRf (x : Al) : List Value := [.int .i64 x.2, .int .i64 x.1]
def flatRf (l : List Al) : List Value := l.flatMap encRf
theorem flatRf_get (l : List Al) (j : Nat) (hj : j < l.length) : (flatRf l)[j * 2]? = some (.int .i64 l[j].2) ∧ (flatRf l)[j * 2 + 1]? = some (.int .i64 l[j].1) := by
  induction l generalizing j with
  | nil => simp at hj
  | cons a l ih =>
    cases j with
    | zero => simp [flatRf, encRf]
    | succ j =>
      have := ih j (by simpa using hj)
      have e : flatRf (a :: l) = .int .i64 a.2 :: .int .i64 a.1 :: flatRf l := rfl
      rw [e, show (j + 1) * 2 = j * 2 + 1 + 1 by omega, show j * 2 + 1 + 1 + 1 = (j * 2 + 1) + 1 + 1 by omega]
      simpa using this
def RfRow (w : World) (B : Nat) (v : Value) (l : List Al) : Prop := w.ownsRow B 48 2 v l.length (flatRf l)
theorem RfRow.cells {w : World} {B g n c : Nat} {l : List Al} (h : RfRow w B (.slice (some ⟨g, 0, none⟩) n c) l) (j : Nat) (hj : j < l.length) :
    w.cell? ⟨g, j * 2, none⟩ = some (.int .i64 l[j].2) ∧ w.cell? ⟨g, j * 2 + 1, none⟩ = some (.int .i64 l[j].1) := by
  have hx := World.ownsRow.cells h (g := g) rfl
  have := flatRf_get l j hj
  have a := hx (j * 2) _ this.1
  have b := hx (j * 2 + 1) _ this.2
  rw [Addr.add_lit, Nat.zero_add] at a b
  exact ⟨a, b⟩
theorem RfRow.form {w : World} {B : Nat} {v : Value} {l : List Al} (h : RfRow w B v l) : ∃ a c, v = .slice a l.length c ∧ l.length ≤ c ∧ c ≤ 9223372036854775807 ∧ (0 < l.length → ∃ g, a = some ⟨g, 0, none⟩ ∧ B ≤ g ∧ g < w.heap.size) := by
  rcases h.2 with ⟨rfl, h0⟩ | ⟨g, cap, cur, rfl, hb, hh, hc, hm, _⟩
  · exact ⟨none, 0, by rw [h0], by omega, by omega, fun h => by omega⟩
  · exact ⟨_, cap, rfl, hc, by unfold maxLen at hm; omega, fun _ => ⟨g, rfl, hb, lt_blk hh⟩⟩
theorem RfRow.mod {S : Nat → Prop} {w w' : World} (h : Mod S w w') {B : Nat} {v : Value} {l : List Al} (hr : RfRow w B v l) (hs : ∀ k, v.ownBlock = some k → ¬ S k) : RfRow w' B v l := h.ownsRow hr hs

structure RefAt (w : World) (B b : Nat) (v : Value) (now : Int) (l : List Al) : Prop where
  hb : B ≤ b
  blk : w.heap[b]? = some (.cells #[.int .i64 now, v] 43 (0, 0))
  row : RfRow w B v l
theorem RefAt.now {w : World} {B b : Nat} {v : Value} {now : Int} {l : List Al} (h : RefAt w B b v now l) : w.cell? ⟨b, 0, none⟩ = some (.int .i64 now) := by rw [cell_blk h.blk]; rfl
theorem RefAt.val {w : World} {B b : Nat} {v : Value} {now : Int} {l : List Al} (h : RefAt w B b v now l) : w.cell? ⟨b, 1, none⟩ = some v := by rw [cell_blk h.blk]; rfl
theorem RefAt.mod {S : Nat → Prop} {w w' : World} (m : Mod S w w') {B b : Nat} {v : Value} {now : Int} {l : List Al} (h : RefAt w B b v now l) (h1 : ¬ S b) (h2 : ∀ k, v.ownBlock = some k → ¬ S k) : RefAt w' B b v now l :=
  ⟨h.hb, m.heap h.blk h1, h.row.mod m h2⟩
theorem RefAt.fresh {w w' : World} (m : Fresh w w') {B b : Nat} {v : Value} {now : Int} {l : List Al} (h : RefAt w B b v now l) : RefAt w' B b v now l := h.mod m (fun f => f) (fun _ _ f => f)
theorem RefAt.own {w : World} {B b : Nat} {v : Value} {now : Int} {l : List Al} (h : RefAt w B b v now l) : ∀ k, k = b ∨ v.ownBlock = some k → B ≤ k := by
  intro k hk
  rcases hk with rfl | hk
  · exact h.hb
  · exact (World.ownsRow.lt h.row k hk).1
theorem RefAt.ne {w : World} {B b : Nat} {v : Value} {now : Int} {l : List Al} (h : RefAt w B b v now l) : ∀ k, v.ownBlock = some k → k ≠ b := by
  intro k hk e
  subst e
  rcases h.row.2 with ⟨rfl, _⟩ | ⟨g, cap, cur, rfl, _, hh, _⟩
  · simp [Value.ownBlock] at hk
  · simp [Value.ownBlock] at hk
    subst hk
    have := h.blk
    rw [hh] at this
    simp at this

set_option maxHeartbeats 1000000 in
theorem at_any {w : World} {B b : Nat} {v : Value} {now : Int} {l : List Al} (h : RefAt w B b v now l) (id : Int) :
    Calls Try.prog 18 #[.pointer (some ⟨b, 0, none⟩), .int .i64 id] w fun e w' => e = .returned (.int .i64 (idx l id)) ∧ Fresh w w' := by
  have hval := h.val
  obtain ⟨A, c, rfl, hlc, hcm, hg⟩ := h.row.form
  have HR := Lib.hid h.row
  have HG := Lib.hid hg
  clear h hg
  go_enter Try.func18, Try.ntmps18
  go_wp2
  go_loopw [12] (fun i wr => ∃ k : Nat, k ≤ l.length ∧ i = .int .i64 k ∧ Fresh w wr ∧ (∀ j (hj : j < l.length), j < k → l[j].2 ≠ id)) (fun i _ => l.length - (intOf i).toNat)
  case atStart => exact ⟨0, by omega, rfl, Mod.refl _ w, by omega⟩
  case round =>
    obtain ⟨k, hk, rfl, hf, hno⟩ := hrel
    have Hno := Lib.hid hno
    clear hno
    by_cases hlt : k < l.length
    · obtain ⟨g, rfl, _, hgs⟩ := HG.out (by omega)
      obtain ⟨c0, c1⟩ := HR.out.cells k hlt
      have d0 := hf.cell c0 (fun f => f)
      have d1 := hf.cell c1 (fun f => f)
      clear c0 c1
      by_cases hid : l[k].2 = id
      · have e : idx l id = k := idx_first l id k hlt hid Hno.out
        have E := Lib.hid e
        have hbq : (l[k].2 == id) = true := by simpa using hid
        clear e hid
        go_wp2
        go_ret
        exact ⟨ret_int E.out.symm, hf.alloc _⟩
      · have Hd := Lib.hid hid
        have hbq : (l[k].2 == id) = false := by simpa using hid
        clear hid
        go_wp2
        go_roundw
        case rel =>
          refine ⟨k + 1, by omega, by go_num, hf.alloc _, fun j hj hj' => ?_⟩
          by_cases e : j = k
          · subst e; exact Hd.out
          · exact Hno.out j hj (by omega)
        case measure => simp [intOf]; omega
    · obtain rfl : k = l.length := by omega
      have e : idx l id = -1 := idx_none l id (fun j hj => Hno.out j hj hj)
      have E := Lib.hid e
      clear e
      go_wp2
      go_ret
      exact ⟨ret_int E.out.symm, hf⟩

theorem rleft_any {w : World} {B b : Nat} {v : Value} {now : Int} {l : List Al} (h : RefAt w B b v now l) (k : Nat) (hk : k < l.length) (n0 : 0 ≤ now) (n1 : now ≤ 1099511627776) (b0 : 0 ≤ l[k].1) (b1 : l[k].1 ≤ 1099511627776) :
    Calls Try.prog 19 #[.pointer (some ⟨b, 0, none⟩), .int .i64 k] w fun e w' => e = .returned (.int .i64 (leftOf now l[k].1)) ∧ Fresh w w' := by
  have hval := h.val
  have hnow := h.now
  obtain ⟨A, c, rfl, hlc, hcm, hg⟩ := h.row.form
  obtain ⟨g, rfl, _, hgs⟩ := hg (by omega)
  obtain ⟨c0, c1⟩ := h.row.cells k hk
  clear h hg
  generalize l[k] = a at *
  obtain ⟨x, y⟩ := a
  simp only at c1 b0 b1
  by_cases hle : x ≤ now
  · have e : (0 : Int) = leftOf now x := left_eq (by omega)
    have E := Lib.hid e
    clear e
    go_enter Try.func19, Try.ntmps19
    go_wp2
    go_quiet (fail)
    go_wp2
    go_ret
    exact ⟨ret_int E.out, (Mod.refl _ w).drewN _⟩
  · have e : x - now = leftOf now x := left_eq (by omega)
    have E := Lib.hid e
    clear e
    go_enter Try.func19, Try.ntmps19
    go_wp2
    go_quiet (fail)
    go_wp2
    go_quiet (fail)
    go_wp2
    go_ret
    exact ⟨ret_int E.out, ((Mod.refl _ w).drewN _).drewN _⟩
end Go.Proofs.Ytfbnlniabfiifaa
