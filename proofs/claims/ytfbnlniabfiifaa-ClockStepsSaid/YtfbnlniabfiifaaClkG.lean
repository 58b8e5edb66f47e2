/-
  The clock's methods that write: New, Set.
-/
import Derived.Test.YtfbnlniabfiifaaClkF
import Derived.Test.YtfbnlniabfiifaaSortK
import Derived.Test.YtfbnlniabfiifaaSort
namespace Go.Proofs.Ytfbnlniabfiifaa
open Go.RowKit Go.Lib Go.Sort Go.Shelf
set_option linter.unusedVariables false
set_option linter.unusedSimpArgs false

theorem info59 : (Try.prog.info? 59).map (fun i => (i.zero, i.size, i.bytes)) = some (some (.agg #[.int .i64 0, .int .i64 0]), 2, 16) := by kernel_rfl

theorem new_any (w : World) : Calls Try.prog 8 #[] w fun e w' => e = .returned (.pointer (some ⟨w.heap.size, 0, none⟩)) ∧ Fresh w w' ∧ ClockAt w' w.heap.size w.heap.size (.slice none 0 0) 0 [] := by
  go_enter Try.func8, Try.ntmps8
  go_wp2
  go_ret
  exact ⟨rfl, (Mod.refl _ w).alloc _, ⟨Nat.le_refl _, heap_alloc_new w _, World.ownsRow_nil _ _ _ _⟩⟩

/-- slices.SortFunc of alarms, by their order. -/
theorem sort_any {w : World} {B g c : Nat} {l : List Al} (hr : AlRow w B (.slice (some ⟨g, 0, none⟩) l.length c) l) (hm : l.length ≤ 100) :
    Calls Try.prog 24 #[.slice (some ⟨g, 0, none⟩) l.length c, .func (.func 25) #[] #[]] w fun e w' => e = .returned (.tuple #[]) ∧ Mod (fun k => k = g) w w' ∧
      ∃ l' : List Al, l'.Perm l ∧ SortedAl l' ∧ AlRow w' B (.slice (some ⟨g, 0, none⟩) l'.length c) l' := by
  have eg : ∀ args w, (callFunc 25 args).run Try.prog w = .ok (.enter 25 args) w := enters_of Try.func25 (by kernel_rfl) rfl
  have hk : ∀ x : Al, (encAl x).length = 2 := fun _ => rfl
  have hH : HoldsK encAl 2 w g 0 l.toArray := by
    have h := holds_of_owns hr
    have e : flatK encAl 2 l.toArray = (flatAl l).toArray := by unfold flatAl; rw [← flatK_list encAl 2 hk (by omega) l]
    unfold HoldsK
    rw [e]
    exact h
  have hg : g < w.heap.size := by
    rcases hr.form with ⟨h, _⟩ | ⟨g', c', h, _, _, h4⟩
    · cases h
    · simp at h; omega
  have hcmp : CmpLays Try.prog 25 #[] encAl 2 cmpAl g 0 l.toArray.size w := fun m os dk _ x y => alarm_compare x y _
  have hs := AnyQ.slices_SortFunc Try.sortAl 2 Try.isAgg59 Try.sizeOf59 encAl hk (fun x v hv => by simp [encAl] at hv; rcases hv with rfl | rfl <;> rfl) cmpAl swoAl 25 #[] g 0 c l.toArray w eg hcmp hH hg (by simp; omega)
  refine hs.mono ?_
  rintro e w' ⟨rfl, d', n, os, hp, hso, rfl⟩
  have ⟨h1, h2⟩ := sorted_list hp hso
  have hlen : d'.toList.length = l.length := by simpa using h1.length_eq
  have e2 : (flatK encAl 2 d').toList = flatAl d'.toList := by unfold flatAl; have := flatK_list encAl 2 hk (by omega) d'.toList; simpa using this
  have R := owns_put hr (flatK encAl 2 d') (by rw [size_flatK]; simp at hlen; rw [hlen]) n os
  refine ⟨rfl, R.2, d'.toList, h1, h2, ?_⟩
  have := R.1
  rw [e2] at this
  rw [hlen]
  unfold AlRow
  rw [hlen]
  exact this

theorem set_ok {w : World} {B b : Nat} {v : Value} {now : Int} {l : List Al} (h : ClockAt w B b v now l) (id after : Int) (hB : B ≤ w.heap.size) (h0 : 0 ≤ now) (h1 : now ≤ 1099511627776) (hl : l.length < 64) (i0 : 0 ≤ id) (a0 : 0 ≤ after) (a1 : after ≤ 1099511627776 - now) (hi : idx l id = -1) :
    Calls Try.prog 10 #[.pointer (some ⟨b, 0, none⟩), .int .i64 id, .int .i64 after] w fun e w' => e = .returned (.int .i64 0) ∧ Mod (fun k => k = b ∨ v.ownBlock = some k) w w' ∧
      ∃ v' l', ClockAt w' B b v' now l' ∧ l'.Perm ((now + after, id) :: l) ∧ SortedAl l' ∧ (∀ k, v'.ownBlock = some k → v.ownBlock = some k ∨ w.heap.size ≤ k) := by
  have hf := find_any h id
  rw [hi] at hf
  have hv := h.val
  obtain ⟨a, c, hvs⟩ : ∃ a c, v = .slice a l.length c := by
    rcases h.row.form with ⟨e, e2⟩ | ⟨g, c, e, _⟩
    · subst e2; exact ⟨_, _, e⟩
    · exact ⟨_, _, e⟩
  have hz64 : ((l.length : Int) == 64) = false := by simp; omega
  have H := Lib.hid h
  have HV := Lib.hid hvs
  clear h hi hvs
  rw [HV.out] at hv
  go_enter Try.func10, Try.ntmps10
  go_wp2_with (first | (go_at_call 22; refine hf.mono ?_; rintro e w1 ⟨rfl, m1⟩; have d0 := m1.cell (HV.out ▸ H.out.val) (fun f => f)) | (go_at_call 23; refine (later_ok (m1.cell H.out.now (fun f => f)) after h0 h1 a0 (by omega) a1).mono ?_; rintro e w2 ⟨rfl, rfl⟩) | (at_builtin; refine wpList_push (HV.out ▸ H.out.row.mod m1 (fun _ _ f => f)) rfl _ _ 55 #[.int .i64 (now + after), .int .i64 id] rfl Try.underlying55 info59 rfl (by decide) rfl rfl rfl (by simp [Value.oneCell']) (by have := m1.size; omega) (by decide) (by omega) ?_))
  intro v1 w2 hown m2 hat _
  have hrow : AlRow w2 B v1 (l ++ [(now + after, id)]) := by
    unfold AlRow
    rw [List.length_append]
    have e : flatAl (l ++ [(now + after, id)]) = flatAl l ++ [.int .i64 (now + after), .int .i64 id] := by simp [flatAl, encAl]
    rw [e]
    exact hown
  have hC := H.out.fresh m1
  have hb2 : w2.heap[b]? = some (.cells #[.int .i64 now, v] 57 (0, 0)) := m2.heap hC.blk (fun e => H.out.ne b (HV.out ▸ e) rfl)
  have hm2 : Mod (fun k => k = b ∨ v.ownBlock = some k) w w2 := (m1.any).trans (m2.mono (fun k _ e => .inr (HV.out ▸ e)))
  have hat' : ∀ k, v1.ownBlock = some k → v.ownBlock = some k ∨ w.heap.size ≤ k := fun k hk => (hat k hk).elim (fun e => .inl (HV.out ▸ e)) (fun e => .inr (by have := m1.size; omega))
  have fz := free_blk hb2 1
  have d1 : w2.cell? ⟨b, 1, none⟩ = some v := by rw [cell_blk hb2]; rfl
  obtain ⟨g, c1, hv1, hlc, hBg, hg2⟩ : ∃ g c, v1 = .slice (some ⟨g, 0, none⟩) (l ++ [(now + after, id)]).length c ∧ (l ++ [(now + after, id)]).length ≤ c ∧ B ≤ g ∧ g < w2.heap.size := by
    rcases hrow.form with ⟨_, e⟩ | ⟨g, c, e⟩
    · simp at e
    · exact ⟨g, c, e⟩
  have hgb : g ≠ b := by
    intro e
    subst e
    rcases hrow.2 with ⟨h', _⟩ | ⟨g', cap, cur, h', _, hh, _⟩
    · rw [hv1] at h'; cases h'
    · rw [hv1] at h'
      simp only [Value.slice.injEq, Option.some.injEq, Addr.mk.injEq, and_true, true_and] at h'
      obtain ⟨rfl, rfl⟩ := h'
      rw [hb2] at hh
      simp at hh
  subst hv1
  have hl1 : (l ++ [(now + after, id)]).length ≤ 100 := by simp; omega
  have hp1 : (l ++ [(now + after, id)]).Perm ((now + after, id) :: l) := List.perm_append_comm
  have Hp1 := Lib.hid hp1
  have Hat := Lib.hid hat'
  clear hat hat' hp1 hown m2 d0 hf hv hC
  generalize l ++ [(now + after, id)] = l1 at *
  have hrow3 : AlRow (w2.setCell ⟨b, 1, none⟩ (.slice (some ⟨g, 0, none⟩) l1.length c1)) B (.slice (some ⟨g, 0, none⟩) l1.length c1) l1 :=
    hrow.mod ((Mod.refl (fun k => k = b) w2).setCell (fun _ => rfl) _) (fun k hk => by simp [Value.ownBlock] at hk; omega)
  have hs := sort_any hrow3 hl1
  have hb3 : (w2.setCell ⟨b, 1, none⟩ (.slice (some ⟨g, 0, none⟩) l1.length c1)).heap[b]? = some (.cells #[.int .i64 now, .slice (some ⟨g, 0, none⟩) l1.length c1] 57 (0, 0)) := by rw [set_blk hb2]; rfl
  have hm3 : Mod (fun k => k = b ∨ v.ownBlock = some k) w (w2.setCell ⟨b, 1, none⟩ (.slice (some ⟨g, 0, none⟩) l1.length c1)) := hm2.setCell (fun _ => .inl rfl) _
  have Hm3 := Lib.hid hm3
  have Hb3 := Lib.hid hb3
  have Hs := Lib.hid hs
  clear hm3 hb3 hs hrow3 hrow
  go_wp2_with (go_at_call 24; refine (Hs.out).mono ?_; rintro e w4 ⟨rfl, m4, l', hp, hsd, hr4⟩)
  have hlen : l'.length = l1.length := hp.length_eq
  have Hh := Lib.hid hlen
  clear hlen
  go_wp2
  go_ret
  refine ⟨rfl, Hm3.out.trans' m4 (fun k hk e => ?_), .slice (some ⟨g, 0, none⟩) l'.length c1, l', ⟨H.out.hb, ?_, hr4⟩, hp.trans Hp1.out, hsd, fun k hk => Hat.out k hk⟩
  · rw [e] at hk ⊢
    exact .inr ((Hat.out g rfl).resolve_right (by omega))
  · have := m4.heap Hb3.out (fun e => hgb e.symm)
    rw [Hh.out]
    exact this
end Go.Proofs.Ytfbnlniabfiifaa
