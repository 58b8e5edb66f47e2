/-
  The reference's Set by a contract.
-/
import Derived.Test.YtfbnlniabfiifaaClkRk
import Derived.StillTailTactics
namespace Go.Proofs.Ytfbnlniabfiifaa
open Go.RowKit Go.Lib
set_option linter.unusedVariables false
set_option linter.unusedSimpArgs false

theorem info48 : (Try.prog.info? 48).map (fun i => (i.zero, i.size, i.bytes)) = some (some (.agg #[.int .i64 0, .int .i64 0]), 2, 16) := by kernel_rfl
/-- What setting an alarm leaves of the reference's clock. -/
def RSetPost (w : World) (B b : Nat) (v : Value) (now : Int) (l : List Al) (id after : Int) (e : Ending) (w' : World) : Prop :=
  e = .returned (.int .i64 (setErr now l id after)) ∧ Mod (fun k => k = b ∨ v.ownBlock = some k) w w' ∧
    ∃ v', RefAt w' B b v' now (if setErr now l id after = 0 then l ++ [(now + after, id)] else l) ∧ (∀ k, v'.ownBlock = some k → v.ownBlock = some k ∨ w.heap.size ≤ k)
theorem rsetPost_same {w w' : World} {B b : Nat} {v : Value} {now : Int} {l : List Al} (h : RefAt w B b v now l) {id after x : Int} (hx : setErr now l id after = x) (h0 : x ≠ 0) (m : Fresh w w') : RSetPost w B b v now l id after (.returned (.int .i64 x)) w' :=
  ⟨by rw [hx], m.any, v, by rw [if_neg (by omega)]; exact h.fresh m, fun k hk => .inl hk⟩

theorem rset_facts {w1 w2 : World} {X : Obj} {B b : Nat} {v : Value} {now : Int} {l : List Al} {a : Al} {A : Option Addr} {c : Nat} (h : RefAt w1 B b v now l) (hv : v = .slice A l.length c) {v1 : Value}
    (hown : w2.ownsRow B 48 2 v1 (l.length + 1) (flatRf l ++ #[.int .i64 a.2, .int .i64 a.1].toList)) (m : Mod (fun k => (Value.slice A l.length c).ownBlock = some k) ((w1.alloc X).drew) w2) :
    RfRow w2 B v1 (l ++ [a]) ∧ w2.heap[b]? = some (.cells #[.int .i64 now, .slice A l.length c] 43 (0, 0)) ∧ ∃ a1 c1, v1 = .slice a1 (l.length + 1) c1 := by
  have hr : RfRow w2 B v1 (l ++ [a]) := by
    unfold RfRow
    rw [List.length_append]
    have e : flatRf (l ++ [a]) = flatRf l ++ [.int .i64 a.2, .int .i64 a.1] := by simp [flatRf, encRf]
    rw [e]
    exact hown
  refine ⟨hr, ?_, ?_⟩
  · subst hv
    have h1 : ((w1.alloc X).drew).heap[b]? = some (.cells #[.int .i64 now, .slice A l.length c] 43 (0, 0)) := Mod.heap (((Mod.refl (fun _ => False) w1).alloc _).drew) h.blk (fun f => f)
    exact m.heap h1 (fun e => h.ne b e rfl)
  · obtain ⟨a1, c1, e, _⟩ := hr.form
    exact ⟨a1, c1, by rw [e]; simp⟩

set_option maxRecDepth 100000 in
set_option maxHeartbeats 2000000 in
theorem rset_any {w : World} {B b : Nat} {v : Value} {now : Int} {l : List Al} (h : RefAt w B b v now l) (id after : Int) (hB : B ≤ w.heap.size) (h0 : 0 ≤ now) (h1 : now ≤ 1099511627776) (hl : l.length ≤ 64) (hi : I64 id) (ha : I64 after) :
    Calls Try.prog 27 #[.pointer (some ⟨b, 0, none⟩), .int .i64 id, .int .i64 after] w (RSetPost w B b v now l id after) := by
  have hval := h.val
  have hnow := h.now
  have H := Lib.hid h
  obtain ⟨ha0, ha1⟩ := ha
  by_cases c1 : id < 0
  · have hp := rsetPost_same (w' := w) h (id := id) (after := after) (x := 1) (by unfold setErr; rw [if_pos (by omega)]) (by omega) (Mod.refl _ w)
    have HP := Lib.hid hp
    clear h hp
    go_enter Try.func27, Try.ntmps27
    go_wp2_with fail
    go_ret
    exact HP.out
  · by_cases c2 : after < 0
    · have hp := rsetPost_same (w' := w) h (id := id) (after := after) (x := 1) (by unfold setErr; rw [if_pos (by omega)]) (by omega) (Mod.refl _ w)
      have HP := Lib.hid hp
      clear h hp
      go_enter Try.func27, Try.ntmps27
      go_wp2_with fail
      go_ret
      exact HP.out
    · by_cases c3 : 1099511627776 < after
      · have hp := rsetPost_same (w' := w) h (id := id) (after := after) (x := 1) (by unfold setErr; rw [if_pos (by omega)]) (by omega) (Mod.refl _ w)
        have HP := Lib.hid hp
        clear h hp
        go_enter Try.func27, Try.ntmps27
        go_wp2_with fail
        go_ret
        exact HP.out
      · have hat := at_any h id
        have HAT := Lib.hid hat
        obtain ⟨r1, r2⟩ := idx_range l id
        obtain ⟨A, c, hv, hlc, hcm, hgg⟩ := h.row.form
        clear hgg
        rw [hv] at hval
        have HV := Lib.hid hv
        clear hat hv
        have hp : ∀ x w', setErr now l id after = x → x ≠ 0 → Fresh w w' → RSetPost w B b v now l id after (.returned (.int .i64 x)) w' := fun x w' e1 e2 m => rsetPost_same h e1 e2 m
        have HP := Lib.hid hp
        clear h hp
        by_cases c4 : 0 ≤ idx l id
        · have e : setErr now l id after = 8 := by unfold setErr; rw [if_neg (by omega), if_pos c4]
          have E := Lib.hid e
          clear e
          generalize idx l id = q at *
          go_enter Try.func27, Try.ntmps27
          go_wp2_with (go_at_call 18; refine HAT.out.mono ?_; rintro e w1 ⟨rfl, m1⟩)
          go_ret
          exact HP.out _ _ E.out (by omega) m1
        · have hq : idx l id = -1 := by omega
          rw [hq] at HAT
          by_cases c5 : 63 < l.length
          · have e : setErr now l id after = 5 := by unfold setErr; rw [if_neg (by omega), if_neg (by omega), if_pos (by omega)]
            have E := Lib.hid e
            clear e hq r1 r2 c4
            go_enter Try.func27, Try.ntmps27
            go_wp2_with (go_at_call 18; refine HAT.out.mono ?_; rintro e w1 ⟨rfl, m1⟩; have d0 := m1.cell hval (fun f => f))
            go_ret
            exact HP.out _ _ E.out (by omega) m1
          · by_cases c6 : 1099511627776 < now + after
            · have e : setErr now l id after = 40 := by unfold setErr; rw [if_neg (by omega), if_neg (by omega), if_neg (by omega), if_pos (by omega)]
              have E := Lib.hid e
              clear e hq r1 r2 c4
              go_enter Try.func27, Try.ntmps27
              go_wp2_with (go_at_call 18; refine HAT.out.mono ?_; rintro e w1 ⟨rfl, m1⟩; have d0 := m1.cell hval (fun f => f); have d1 := m1.cell hnow (fun f => f))
              go_ret
              exact HP.out _ _ E.out (by omega) m1
            · have e : setErr now l id after = 0 := by unfold setErr; rw [if_neg (by omega), if_neg (by omega), if_neg (by omega), if_neg (by omega)]
              have E := Lib.hid e
              clear e hq r1 r2 c4
              go_enter Try.func27, Try.ntmps27
              go_wp2_with (go_at_call 18; refine HAT.out.mono ?_; rintro e w1 ⟨rfl, m1⟩; have d0 := m1.cell hval (fun f => f); have d1 := m1.cell hnow (fun f => f))
              have HO := H.out.row.mod m1 (fun _ _ f => f)
              have hne := H.out.ne
              have hbs : B ≤ w1.heap.size := by have := m1.size; omega
              have hnb := World.new_ne w1 ⟨b, 0, none⟩ d1
              rw [HV.out] at HO hne
              have HN := Lib.hid hne
              clear hne
              have wq : IntKind.i64.wrap (now + after) = now + after := IntWalk.i64_in _ (by omega)
              have hb1 := H.out.fresh m1
              have q0 := Mod.cell ((Mod.refl (fun _ => False) w1).alloc (.cells #[.int .i64 id, .int .i64 (now + after)] 48)) d0 (fun f => f)
              have q1 := Mod.cell ((Mod.refl (fun _ => False) w1).alloc (.cells #[.int .i64 id, .int .i64 (now + after)] 48)) d1 (fun f => f)
              go_region_law (((refine step_push rfl _ _ 41 #[.int .i64 id, .int .i64 (now + after)] (by rfl) Try.underlying41 info48 rfl (by decide) (by rfl) (by rfl) ((HO.alloc _).drew) (heap_alloc_new w1 _) rfl (by simp [Value.oneCell']) (by simp; omega) (by decide) (by omega) ?_); intro v1 w2 hown m2 hat _; obtain ⟨hsl, hb2, a1, c1, rfl⟩ := rset_facts (a := (now + after, id)) hb1 HV.out hown m2; have fz := free_blk hb2 1; have cz := cell_blk hb2 1))
              all_goals
                go_wp2
                go_ret
                have ms : Mod (fun k => k = b ∨ v.ownBlock = some k) w w2 := ((m1.alloc _).drew.any).trans' m2 (fun k hk e => .inr (by rw [HV.out]; exact e))
                have he : setErr now l id after = 0 := E.out
                have hst : RefAt (w2.setCell ⟨b, 1, none⟩ (.slice a1 (l.length + 1) c1)) B b (.slice a1 (l.length + 1) c1) now (l ++ [(now + after, id)]) := by
                  refine ⟨H.out.hb, by rw [set_blk hb2]; rfl, hsl.mod ((Mod.refl (fun k => k = b) w2).setCell (fun _ => rfl) _) (fun k hk e => ?_)⟩
                  subst e
                  rcases hat k hk with e | e
                  · exact HN.out k e rfl
                  · simp at e; have := lt_blk hb1.blk; omega
                refine ⟨by rw [he]; rfl, ms.setCell (fun _ => .inl rfl) _, _, by rw [if_pos he]; exact hst, fun k hk => ?_⟩
                rcases hat k hk with e | e
                · exact .inl (by rw [HV.out]; exact e)
                · simp at e; right; have := m1.size; omega
end Go.Proofs.Ytfbnlniabfiifaa
