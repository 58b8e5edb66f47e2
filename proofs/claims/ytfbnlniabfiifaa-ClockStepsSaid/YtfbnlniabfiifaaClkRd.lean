/-
  The reference's Drop by a contract.
-/
import Derived.Test.YtfbnlniabfiifaaClkRs
import Derived.Test.YtfbnlniabfiifaaClkApp
namespace Go.Proofs.Ytfbnlniabfiifaa
open Go.RowKit Go.Lib
set_option linter.unusedVariables false
set_option linter.unusedSimpArgs false

theorem flatRf_append (p q : List Al) : flatRf (p ++ q) = flatRf p ++ flatRf q := by simp [flatRf]
theorem flatRf_length (l : List Al) : (flatRf l).length = l.length * 2 := by
  induction l with
  | nil => rfl
  | cons a l ih => simp only [flatRf, List.flatMap_cons, List.length_append, List.length_cons] at *; rw [ih]; simp [encRf]; omega
theorem flatRf_one (l : List Al) : ∀ u ∈ flatRf l, u.oneCell' = true := by
  intro u hu
  obtain ⟨a, _, h⟩ := List.mem_flatMap.1 hu
  simp [encRf] at h
  rcases h with rfl | rfl <;> rfl
theorem cells_take {w : World} {B g n c : Nat} {l : List Al} (h : RfRow w B (.slice (some ⟨g, 0, none⟩) n c) l) (k : Nat) : ∀ j u, (flatRf (l.take k))[j]? = some u → w.cell? ((⟨g, 0, none⟩ : Addr).add j) = some u := by
  intro j u hu
  refine World.ownsRow.cells h (g := g) rfl j u ?_
  have e : flatRf l = flatRf (l.take k) ++ flatRf (l.drop k) := by rw [← flatRf_append, List.take_append_drop]
  rw [e, List.getElem?_append_left (List.getElem?_eq_some_iff.1 hu).1]
  exact hu
theorem cells_drop {w : World} {B g n c : Nat} {l : List Al} (h : RfRow w B (.slice (some ⟨g, 0, none⟩) n c) l) (k : Nat) (hk : k ≤ l.length) : ∀ j u, (flatRf (l.drop k))[j]? = some u → w.cell? ((⟨g, k * 2, none⟩ : Addr).add j) = some u := by
  intro j u hu
  have hx := World.ownsRow.cells h (g := g) rfl (k * 2 + j) u ?_
  · rw [Addr.add_lit] at hx ⊢
    rw [Nat.zero_add] at hx
    exact hx
  · have e : flatRf l = flatRf (l.take k) ++ flatRf (l.drop k) := by rw [← flatRf_append, List.take_append_drop]
    rw [e, List.getElem?_append_right (by rw [flatRf_length]; simp; omega), flatRf_length]
    have : k * 2 + j - (l.take k).length * 2 = j := by simp; omega
    rw [this]
    exact hu

def RDropPost (w : World) (B b : Nat) (v : Value) (now : Int) (l : List Al) (id : Int) (e : Ending) (w' : World) : Prop :=
  e = .returned (.int .i64 (if idx l id < 0 then 6 else 0)) ∧ Mod (fun k => k = b ∨ v.ownBlock = some k) w w' ∧
    ∃ v', RefAt w' B b v' now (if idx l id < 0 then l else l.take (idx l id).toNat ++ l.drop ((idx l id).toNat + 1)) ∧ (∀ k, v'.ownBlock = some k → v.ownBlock = some k ∨ w.heap.size ≤ k)

set_option maxRecDepth 100000 in
set_option maxHeartbeats 2000000 in
theorem rdrop_any {w : World} {B b : Nat} {v : Value} {now : Int} {l : List Al} (h : RefAt w B b v now l) (id : Int) (hB : B ≤ w.heap.size) (hl : l.length ≤ 64) :
    Calls Try.prog 28 #[.pointer (some ⟨b, 0, none⟩), .int .i64 id] w (RDropPost w B b v now l id) := by
  have hat := at_any h id
  have H := Lib.hid h
  rcases idx_spec l id with ⟨hi, hno⟩ | ⟨k, hk, hi, hid⟩
  · have hp : ∀ w', Fresh w w' → RDropPost w B b v now l id (.returned (.int .i64 6)) w' := fun w' m => ⟨by rw [if_pos (by omega)], m.any, v, by rw [if_pos (by omega)]; exact h.fresh m, fun k hk => .inl hk⟩
    have HP := Lib.hid hp
    rw [hi] at hat
    clear h hp hno hi
    go_enter Try.func28, Try.ntmps28
    go_wp2_with (go_at_call 18; refine hat.mono ?_; rintro e w1 ⟨rfl, m1⟩)
    go_ret
    exact HP.out _ m1
  · have hval := h.val
    obtain ⟨A, c, hv, hlc, hcm, hgg⟩ := h.row.form
    obtain ⟨g, rfl, hBg, hgs⟩ := hgg (by omega)
    rw [hv] at hval
    have HV := Lib.hid hv
    have hp : ∀ (e : Ending) (w' : World), e = .returned (.int .i64 0) → Mod (fun k => k = b ∨ v.ownBlock = some k) w w' → (∃ v', RefAt w' B b v' now (l.take k ++ l.drop (k + 1)) ∧ (∀ k, v'.ownBlock = some k → v.ownBlock = some k ∨ w.heap.size ≤ k)) → RDropPost w B b v now l id e w' := by
      intro e w' e1 e2 e3
      refine ⟨by rw [if_neg (by omega)]; exact e1, e2, ?_⟩
      rw [if_neg (by omega), hi]
      exact e3
    have HP := Lib.hid hp
    rw [hi] at hat
    clear h hp hi hid hv
    obtain ⟨p, hpe⟩ : ∃ p, p = l.take k := ⟨_, rfl⟩
    obtain ⟨q, hqe⟩ : ∃ q, q = l.drop (k + 1) := ⟨_, rfl⟩
    have hpl : p.length ≤ k := by rw [hpe]; exact List.length_take_le ..
    have hpl2 : k ≤ p.length := by rw [hpe]; simp; omega
    have hql : q.length + (k + 1) ≤ l.length := by rw [hqe]; simp; omega
    have hql2 : l.length ≤ q.length + (k + 1) := by rw [hqe]; simp; omega
    rw [← hpe, ← hqe] at HP
    have HPE := Lib.hid hpe
    have HQE := Lib.hid hqe
    clear hpe hqe
    by_cases hcap : c = k + 1
    · subst hcap
      have hkl : l.length = k + 1 := by omega
      have HL := Lib.hid hkl
      have hl1 : ((l.length : Int)) ≤ k + 1 := by omega
      have hl2 : (k : Int) + 1 ≤ l.length := by omega
      clear hkl hgg
      go_enter Try.func28, Try.ntmps28
      go_wp2_with (first | (go_at_call 18; refine hat.mono ?_; rintro e w1 ⟨rfl, m1⟩; have d0 := m1.cell hval (fun f => f)) | (at_builtin; refine wpList_app (W := w1) (base := w.heap.size) (World.ownsRow_nil _ _ _ _) rfl (.tmp 12) (.tmp 18) 41 ⟨g, 0, none⟩ k (k + 1) (flatRf p) rfl Try.underlying41 info48 rfl (by decide) rfl rfl (by rw [flatRf_length]; omega) (by rw [HPE.out]; exact cells_take (HV.out ▸ H.out.row.mod m1 (fun _ _ f => f)) k) (flatRf_one _) m1.size (by decide) (by omega) ?_))
      intro v1 w2 hown1 m2 hat1
      have f2 : Fresh w w2 := m1.trans' m2 (fun k hk e => by simp [Value.ownBlock] at e)
      have d2 := f2.cell hval (fun f => f)
      have hrow2 := H.out.row.mod f2 (fun _ _ f => f)
      rw [HV.out] at hrow2
      have hsl : RfRow w2 w.heap.size v1 p := by
        unfold RfRow
        have e : p.length = 0 + k := by omega
        rw [e]
        simpa using hown1
      have HS1 := Lib.hid hsl
      have hfm := hsl.form
      obtain ⟨a1, c1, hv1, _⟩ := hfm
      subst hv1
      have HR2 := Lib.hid hrow2
      have hb2 := lt_blk (H.out.fresh f2).blk
      have fs2 := f2.size
      clear hown1 m2 hat1 m1 d0 hsl hrow2
      go_wp2_with (at_builtin; refine wpList_app (W := w2) (base := w.heap.size) (HS1.out) rfl (.tmp 20) (.tmp 27) 41 ⟨g, 0, none⟩ 0 0 (flatRf q) rfl Try.underlying41 info48 rfl (by decide) rfl rfl (by rw [flatRf_length]; omega) (by rw [HQE.out]; intro j u hu; rw [List.drop_of_length_le (by omega)] at hu; simp [flatRf] at hu) (flatRf_one _) fs2 (by decide) (by omega) ?_)
      intro v3 w3 hown3 m3 hat3
      have f3 : Fresh w w3 := f2.trans' m3 (fun k hk e => by have := (World.ownsRow.lt HS1.out k e).1; omega)
      have hsl3 : RfRow w3 w.heap.size v3 (p ++ q) := by
        unfold RfRow
        rw [flatRf_append]
        have e : (p ++ q).length = p.length + 0 := by rw [List.length_append]; omega
        rw [e]
        exact hown3
      have HS3 := Lib.hid hsl3
      obtain ⟨a3, c3, hv3, _⟩ := hsl3.form
      have hl3 : (p ++ q).length = p.length + q.length := List.length_append
      rw [hl3] at hv3
      subst hv3
      have hb3 := (H.out.fresh f3).blk
      have fz := free_blk hb3 1
      have cz : w3.cell? ⟨b, 1, none⟩ = some v := by rw [cell_blk hb3]; rfl
      rw [HV.out] at cz
      have HB3 := Lib.hid hb3
      clear hown3 m3 hat3 hsl3 d2 hl3 hb3
      go_wp2_with fail
      go_ret
      refine HP.out _ _ rfl (f3.any.setCell (fun _ => .inl rfl) _) ⟨_, ⟨H.out.hb, by rw [set_blk HB3.out]; rfl, ?_⟩, fun k hk => .inr (World.ownsRow.lt HS3.out k hk).1⟩
      have hr : RfRow w3 B _ (p ++ q) := ownsRow_base HS3.out (fun k hk => Nat.le_trans hB (World.ownsRow.lt HS3.out k hk).1)
      exact RfRow.mod (S := fun k => k = b) ((Mod.refl (fun k => k = b) w3).setCell (fun _ => rfl) _) hr (fun k hk e => by subst e; have := (World.ownsRow.lt HS3.out k hk).1; have := lt_blk H.out.blk; omega)
    · clear hgg
      go_enter Try.func28, Try.ntmps28
      go_wp2_with (first | (go_at_call 18; refine hat.mono ?_; rintro e w1 ⟨rfl, m1⟩; have d0 := m1.cell hval (fun f => f)) | (at_builtin; refine wpList_app (W := w1) (base := w.heap.size) (World.ownsRow_nil _ _ _ _) rfl (.tmp 12) (.tmp 18) 41 ⟨g, 0, none⟩ k c (flatRf p) rfl Try.underlying41 info48 rfl (by decide) rfl rfl (by rw [flatRf_length]; omega) (by rw [HPE.out]; exact cells_take (HV.out ▸ H.out.row.mod m1 (fun _ _ f => f)) k) (flatRf_one _) m1.size (by decide) (by omega) ?_))
      intro v1 w2 hown1 m2 hat1
      have f2 : Fresh w w2 := m1.trans' m2 (fun k hk e => by simp [Value.ownBlock] at e)
      have d2 := f2.cell hval (fun f => f)
      have hrow2 := H.out.row.mod f2 (fun _ _ f => f)
      rw [HV.out] at hrow2
      have hsl : RfRow w2 w.heap.size v1 p := by
        unfold RfRow
        have e : p.length = 0 + k := by omega
        rw [e]
        simpa using hown1
      have HS1 := Lib.hid hsl
      have hfm := hsl.form
      obtain ⟨a1, c1, hv1, _⟩ := hfm
      subst hv1
      have HR2 := Lib.hid hrow2
      have hb2 := lt_blk (H.out.fresh f2).blk
      have fs2 := f2.size
      clear hown1 m2 hat1 m1 d0 hsl hrow2
      go_wp2_with (at_builtin; refine wpList_app (W := w2) (base := w.heap.size) (HS1.out) rfl (.tmp 20) (.tmp 27) 41 ⟨g, (k + 1) * 2, none⟩ (l.length - (k + 1)) (c - (k + 1)) (flatRf q) rfl Try.underlying41 info48 rfl (by decide) rfl rfl (by rw [flatRf_length]; omega) (by rw [HQE.out]; exact cells_drop HR2.out (k + 1) (by omega)) (flatRf_one _) fs2 (by decide) (by omega) ?_)
      intro v3 w3 hown3 m3 hat3
      have f3 : Fresh w w3 := f2.trans' m3 (fun k hk e => by have := (World.ownsRow.lt HS1.out k e).1; omega)
      have hsl3 : RfRow w3 w.heap.size v3 (p ++ q) := by
        unfold RfRow
        rw [flatRf_append]
        have e : (p ++ q).length = p.length + (l.length - (k + 1)) := by rw [List.length_append]; omega
        rw [e]
        exact hown3
      have HS3 := Lib.hid hsl3
      obtain ⟨a3, c3, hv3, _⟩ := hsl3.form
      have hl3 : (p ++ q).length = p.length + q.length := List.length_append
      rw [hl3] at hv3
      subst hv3
      have hb3 := (H.out.fresh f3).blk
      have fz := free_blk hb3 1
      have cz : w3.cell? ⟨b, 1, none⟩ = some v := by rw [cell_blk hb3]; rfl
      rw [HV.out] at cz
      have HB3 := Lib.hid hb3
      clear hown3 m3 hat3 hsl3 d2 hl3 hb3
      go_wp2_with fail
      go_ret
      refine HP.out _ _ rfl (f3.any.setCell (fun _ => .inl rfl) _) ⟨_, ⟨H.out.hb, by rw [set_blk HB3.out]; rfl, ?_⟩, fun k hk => .inr (World.ownsRow.lt HS3.out k hk).1⟩
      have hr : RfRow w3 B _ (p ++ q) := ownsRow_base HS3.out (fun k hk => Nat.le_trans hB (World.ownsRow.lt HS3.out k hk).1)
      exact RfRow.mod (S := fun k => k = b) ((Mod.refl (fun k => k = b) w3).setCell (fun _ => rfl) _) hr (fun k hk e => by subst e; have := (World.ownsRow.lt HS3.out k hk).1; have := lt_blk H.out.blk; omega)
end Go.Proofs.Ytfbnlniabfiifaa
