/-
  The statements' arguments, opened: a Step, a list of Steps, a list of ints.
-/
import Derived.Test.YtfbnlniabfiifaaData
import Derived.Test.YtfbnlniabfiifaaClkJ
import Derived.Lib.SmallJoins
namespace Go.Proofs.Ytfbnlniabfiifaa
open Go.RowKit Go.ChangeShapes Go.WideShapes Go.Deep
set_option linter.unusedVariables false
set_option linter.unusedSimpArgs false

structure Stp where
  what : Int
  id : Int
  n : Int
  deriving Inhabited
def I64 (n : Int) : Prop := -9223372036854775808 ≤ n ∧ n ≤ 9223372036854775807
def StpCells (cs : List Value) (s : Stp) : Prop := cs = [.int .i64 s.what, .int .i64 s.id, .int .i64 s.n] ∧ I64 s.what ∧ I64 s.id ∧ I64 s.n
def IntCells (cs : List Value) (n : Int) : Prop := cs = [.int .i64 n] ∧ I64 n

section
variable {H : Type} {enc : TypeId × Value → H} {w : World} {base : Nat} {spare : Nat → Bool} {held : Bool}
theorem cells_int (n : Nat) (cs : List Value) (y : DataW H × List MemPlace) (h : DataW.trod enc Try.prog w base spare held n 3 cs = some y) : ∃ a, IntCells cs a := by
  obtain ⟨a, rfl, _, hw⟩ := DataW.trod_int Try.underlying3 h
  exact ⟨a, rfl, i64_bounds hw⟩
theorem cells_stp (n : Nat) (cs : List Value) (y : DataW H × List MemPlace) (h : DataW.trod enc Try.prog w base spare held n 33 cs = some y) : ∃ a, StpCells cs a := by
  have hl3 : cs.length = 3 := (struct_len Try.underlying33 h).trans (by kernel_rfl)
  match cs, hl3 with
  | [c0, c1, c2], _ =>
    obtain ⟨_, _, h0⟩ := field_of Try.underlying33 h 0 3 0 1 rfl (by kernel_rfl)
    obtain ⟨_, _, h1⟩ := field_of Try.underlying33 h 1 3 1 1 rfl (by kernel_rfl)
    obtain ⟨_, _, h2⟩ := field_of Try.underlying33 h 2 3 2 1 rfl (by kernel_rfl)
    obtain ⟨a0, e0⟩ := cells_int _ _ _ h0
    obtain ⟨a1, e1⟩ := cells_int _ _ _ h1
    obtain ⟨a2, e2⟩ := cells_int _ _ _ h2
    obtain ⟨e0, b0⟩ := e0
    obtain ⟨e1, b1⟩ := e1
    obtain ⟨e2, b2⟩ := e2
    simp at e0 e1 e2
    subst e0 e1 e2
    exact ⟨⟨a0, a1, a2⟩, rfl, b0, b1, b2⟩

/-- A Step that is handed over by value. -/
theorem open_stp {r : Reach} {b0 : Nat} {v : Value} {d : DataW H} {p : List MemPlace} (hv : Value.okWide Try.prog w r b0 33 v) (h : DataW.Trod enc Try.prog w base spare held 33 v d p) :
    ∃ s : Stp, v = .agg #[.int .i64 s.what, .int .i64 s.id, .int .i64 s.n] ∧ I64 s.what ∧ I64 s.id ∧ I64 s.n := by
  obtain ⟨cs, rfl, hsz⟩ := okWide_struct Try.underlying33 hv
  obtain ⟨fuel, hf⟩ := h
  obtain ⟨s, e, b⟩ := cells_stp _ _ _ hf
  refine ⟨s, ?_, b⟩
  have : cs.toList = [.int .i64 s.what, .int .i64 s.id, .int .i64 s.n] := by simpa [Value.cells] using e
  rw [show cs = cs.toList.toArray by simp, this]
theorem open_stps {r : Reach} {b0 : Nat} {v : Value} {d : DataW H} {p : List MemPlace} (hv : Value.okWide Try.prog w r b0 31 v) (h : DataW.Trod enc Try.prog w base spare held 31 v d p) : ∃ l : List Stp, SliceIn w 3 StpCells v l := by
  obtain ⟨a0, len0, cap0, rfl⟩ := okWide_slice Try.underlying31 hv
  obtain ⟨fuel, hf⟩ := h
  exact open_slice_in StpCells Try.underlying31 (by kernel_rfl) (by decide) cells_stp hf
theorem open_int_list {r : Reach} {b0 : Nat} {v : Value} {d : DataW H} {p : List MemPlace} (hv : Value.okWide Try.prog w r b0 28 v) (h : DataW.Trod enc Try.prog w base spare held 28 v d p) : ∃ l : List Int, SliceIn w 1 IntCells v l := by
  obtain ⟨a0, len0, cap0, rfl⟩ := okWide_slice Try.underlying28 hv
  obtain ⟨fuel, hf⟩ := h
  exact open_slice_in IntCells Try.underlying28 (by kernel_rfl) (by decide) cells_int hf
end
theorem SliceIn.stp {w : World} {g o n c : Nat} {l : List Stp} (h : SliceIn w 3 StpCells (.slice (some ⟨g, o, none⟩) n c) l) (j : Nat) (hj : j < l.length) :
    w.cell? ⟨g, o + j * 3, none⟩ = some (.int .i64 l[j].what) ∧ w.cell? ⟨g, o + j * 3 + 1, none⟩ = some (.int .i64 l[j].id) ∧ w.cell? ⟨g, o + j * 3 + 2, none⟩ = some (.int .i64 l[j].n) ∧ I64 l[j].what ∧ I64 l[j].id ∧ I64 l[j].n := by
  obtain ⟨b, c', e, _, h2⟩ := h
  obtain ⟨g', o', e2, h3⟩ := h2 (by omega)
  simp at e
  obtain ⟨rfl, _, _⟩ := e
  simp at e2
  obtain ⟨rfl, rfl⟩ := e2
  obtain ⟨cs, _, hc, rfl, hb⟩ := h3 j hj
  exact ⟨hc 0 (by omega), hc 1 (by omega), hc 2 (by omega), hb⟩
theorem SliceIn.int {w : World} {g o n c : Nat} {l : List Int} (h : SliceIn w 1 IntCells (.slice (some ⟨g, o, none⟩) n c) l) (j : Nat) (hj : j < l.length) :
    w.cell? ⟨g, o + j, none⟩ = some (.int .i64 l[j]) ∧ I64 l[j] := by
  obtain ⟨b, c', e, _, h2⟩ := h
  obtain ⟨g', o', e2, h3⟩ := h2 (by omega)
  simp at e
  obtain ⟨rfl, _, _⟩ := e
  simp at e2
  obtain ⟨rfl, rfl⟩ := e2
  obtain ⟨cs, _, hc, rfl, hb⟩ := h3 j hj
  have := hc 0 (by omega)
  rw [Nat.mul_one, Nat.add_zero] at this
  exact ⟨this, hb⟩
theorem SliceIn.intAt {w : World} {A : Option Addr} {n c : Nat} {l : List Int} (h : SliceIn w 1 IntCells (.slice A n c) l) (j : Nat) (hj : j < l.length) :
    ∃ g o, A = some ⟨g, o, none⟩ ∧ g < w.heap.size ∧ w.cell? ⟨g, o + j, none⟩ = some (.int .i64 l[j]) ∧ I64 l[j] := by
  have h' := h
  obtain ⟨b, c', e, _, h2⟩ := h
  obtain ⟨g', o', e2, h3⟩ := h2 (by omega)
  simp only [Value.slice.injEq] at e
  obtain ⟨rfl, _, _⟩ := e
  subst e2
  have := h'.int j hj
  exact ⟨g', o', rfl, World.block_lt_of_cell? w _ this.1, this.1, this.2⟩
theorem SliceIn.stpAt {w : World} {A : Option Addr} {n c : Nat} {l : List Stp} (h : SliceIn w 3 StpCells (.slice A n c) l) (j : Nat) (hj : j < l.length) :
    ∃ g o, A = some ⟨g, o, none⟩ ∧ g < w.heap.size ∧ w.cell? ⟨g, o + j * 3, none⟩ = some (.int .i64 l[j].what) ∧ w.cell? ⟨g, o + j * 3 + 1, none⟩ = some (.int .i64 l[j].id) ∧ w.cell? ⟨g, o + j * 3 + 2, none⟩ = some (.int .i64 l[j].n) ∧ I64 l[j].what ∧ I64 l[j].id ∧ I64 l[j].n := by
  have h' := h
  obtain ⟨b, c', e, _, h2⟩ := h
  obtain ⟨g', o', e2, h3⟩ := h2 (by omega)
  simp only [Value.slice.injEq] at e
  obtain ⟨rfl, _, _⟩ := e
  subst e2
  have := h'.stp j hj
  exact ⟨g', o', rfl, World.block_lt_of_cell? w _ this.1, this⟩
theorem SliceIn.form {α : Type} {w : World} {k : Nat} {el : List Value → α → Prop} {v : Value} {l : List α} (h : SliceIn w k el v l) : l.length ≤ 9223372036854775807 ∧ ∃ b c, v = .slice b l.length c ∧ l.length ≤ c ∧ c ≤ 9223372036854775807 := by
  obtain ⟨b, c, rfl, h1, h2⟩ := h
  exact ⟨by omega, b, c, rfl, h1⟩
end Go.Proofs.Ytfbnlniabfiifaa
