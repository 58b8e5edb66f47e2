/-
  ClockSteps: one step of both clocks, by a contract.
-/
import Derived.Test.YtfbnlniabfiifaaClkSt
import Derived.Deep.RegionHeld3
namespace Go.Proofs.Ytfbnlniabfiifaa
open Go.RowKit Go.Lib
set_option linter.unusedVariables false
set_option linter.unusedSimpArgs false

theorem AlRow.type {w : World} {B : Nat} {v : Value} {l : List Al} (h : AlRow w B v l) {k : Nat} (hk : v.ownBlock = some k) : ∃ cur, w.heap[k]? = some (.cells cur 59 (0, 0)) := by
  rcases h.2 with ⟨rfl, _⟩ | ⟨g, cap, cur, rfl, _, hh, _⟩
  · simp [Value.ownBlock] at hk
  · simp [Value.ownBlock] at hk
    subst hk
    exact ⟨cur, hh⟩
theorem RfRow.type {w : World} {B : Nat} {v : Value} {l : List Al} (h : RfRow w B v l) {k : Nat} (hk : v.ownBlock = some k) : ∃ cur, w.heap[k]? = some (.cells cur 48 (0, 0)) := by
  rcases h.2 with ⟨rfl, _⟩ | ⟨g, cap, cur, rfl, _, hh, _⟩
  · simp [Value.ownBlock] at hk
  · simp [Value.ownBlock] at hk
    subst hk
    exact ⟨cur, hh⟩
theorem type_ne {w : World} {i j : Nat} {x y : Array Value} {s t : TypeId} (h1 : w.heap[i]? = some (.cells x s (0, 0))) (h2 : w.heap[j]? = some (.cells y t (0, 0))) (h : s ≠ t) : i ≠ j := by
  intro e
  subst e
  rw [h1] at h2
  simp at h2
  exact h h2.2
theorem ref_keep {w w' : World} {B a b : Nat} {va vb : Value} {n m : Int} {l r : List Al} (A : ClockAt w B a va n l) (R : RefAt w B b vb m r) (h : Mod (fun k => k = a ∨ va.ownBlock = some k) w w') : RefAt w' B b vb m r := by
  refine R.mod h ?_ ?_
  · rintro (e | e)
    · exact type_ne R.blk A.blk (by decide) e
    · obtain ⟨cur, hc⟩ := A.row.type e
      exact type_ne R.blk hc (by decide) rfl
  · rintro k hk (e | e)
    · obtain ⟨cur, hc⟩ := R.row.type hk
      exact type_ne hc A.blk (by decide) e
    · obtain ⟨cur, hc⟩ := R.row.type hk
      obtain ⟨cur', hc'⟩ := A.row.type e
      exact type_ne hc hc' (by decide) rfl
theorem clk_keep {w w' : World} {B a b : Nat} {va vb : Value} {n m : Int} {l r : List Al} (A : ClockAt w B a va n l) (R : RefAt w B b vb m r) (h : Mod (fun k => k = b ∨ vb.ownBlock = some k) w w') : ClockAt w' B a va n l := by
  refine A.mod h ?_ ?_
  · rintro (e | e)
    · exact type_ne A.blk R.blk (by decide) e
    · obtain ⟨cur, hc⟩ := R.row.type e
      exact type_ne A.blk hc (by decide) rfl
  · rintro k hk (e | e)
    · obtain ⟨cur, hc⟩ := A.row.type hk
      exact type_ne hc R.blk (by decide) e
    · obtain ⟨cur, hc⟩ := A.row.type hk
      obtain ⟨cur', hc'⟩ := R.row.type e
      exact type_ne hc hc' (by decide) rfl

structure Both (w : World) (B a b : Nat) (va vb : Value) (now : Int) (l r : List Al) : Prop where
  A : ClockAt w B a va now l
  R : RefAt w B b vb now r
  I : Inv now l r
theorem Both.fresh {w w' : World} (m : Fresh w w') {B a b : Nat} {va vb : Value} {now : Int} {l r : List Al} (h : Both w B a b va vb now l r) : Both w' B a b va vb now l r := ⟨h.A.fresh m, h.R.fresh m, h.I⟩
def DoesPost (w : World) (B a b : Nat) (e : Ending) (w' : World) : Prop :=
  e = .returned (.bool true) ∧ Mod (fun k => B ≤ k) w w' ∧ ∃ va vb now l r, Both w' B a b va vb now l r
theorem does_same {w w' : World} {B a b : Nat} {va vb : Value} {now : Int} {l r : List Al} (h : Both w B a b va vb now l r) (m : Fresh w w') : DoesPost w B a b (.returned (.bool true)) w' :=
  ⟨rfl, m.any, va, vb, now, l, r, h.fresh m⟩
/-- The clock is written, then the reference's. -/
theorem does_two {w w1 w2 w3 : World} {B a b : Nat} {va vb va' vb' : Value} {now now' : Int} {l r l' r' : List Al} (h : Both w B a b va vb now l r) (m1 : Fresh w w1) (m2 : Mod (fun k => k = a ∨ va.ownBlock = some k) w1 w2)
    (hA : ClockAt w2 B a va' now' l') (m3 : Mod (fun k => k = b ∨ vb.ownBlock = some k) w2 w3) (hR : RefAt w3 B b vb' now' r') (hI : Inv now' l' r') : DoesPost w B a b (.returned (.bool true)) w3 := by
  have h1 := h.fresh m1
  have R2 := ref_keep h1.A h1.R m2
  refine ⟨rfl, (m1.any.trans (m2.mono ?_)).trans (m3.mono ?_), va', vb', now', l', r', clk_keep hA R2 m3, hR, hI⟩
  · intro k _ hk
    exact h1.A.own k hk
  · intro k _ hk
    exact R2.own k hk

theorem inv_set {now : Int} {l r l' : List Al} (h : Inv now l r) (id after : Int) {x : Int} (hx : x = setErr now l id after) (hz : x = 0 → l'.Perm ((now + after, id) :: l) ∧ SortedAl l') (hn : x ≠ 0 → l' = l) :
    Inv now l' (if x = 0 then r ++ [(now + after, id)] else r) := by
  by_cases c : x = 0
  · rw [if_pos c]
    exact h.set id after (hx ▸ c) (hz c).1 (hz c).2
  · rw [if_neg c, hn c]
    exact h

set_option maxHeartbeats 4000000 in
theorem does_any {w : World} {B a b : Nat} {va vb : Value} {now : Int} {l r : List Al} (h : Both w B a b va vb now l r) (wh id n : Int) (hs1 : I64 id) (hs2 : I64 n) (hB : B ≤ w.heap.size) :
    Calls Try.prog 16 #[.pointer (some ⟨a, 0, none⟩), .pointer (some ⟨b, 0, none⟩), .agg #[.int .i64 wh, .int .i64 id, .int .i64 n]] w (DoesPost w B a b) := by
  have ha := lt_blk h.A.blk
  have hb := lt_blk h.R.blk
  have hn1 : ∀ k, k = a ∨ va.ownBlock = some k → k ≠ w.heap.size := by
    rintro k (rfl | hk) e
    · omega
    · have := (World.ownsRow.lt h.A.row k hk).2; omega
  have hn2 : ∀ k, k = b ∨ vb.ownBlock = some k → k ≠ w.heap.size := by
    rintro k (rfl | hk) e
    · omega
    · have := (World.ownsRow.lt h.R.row k hk).2; omega
  have H := Lib.hid h
  have HN1 := Lib.hid hn1
  have HN2 := Lib.hid hn2
  have HS := Lib.hid (And.intro hs1 hs2)
  have i0 := h.I.n0
  have i1 := h.I.n1
  have il := h.I.len
  have irl := h.I.rlen
  clear h hn1 hn2 hs1 hs2 ha hb
  by_cases c0 : wh = 0 ∨ wh = 1 ∨ wh = 2
  · have hse := H.out.I.setErr id n
    obtain ⟨x, hx⟩ : ∃ x, x = setErr now l id n := ⟨_, rfl⟩
    rw [← hx] at hse
    have HX := Lib.hid (And.intro hx hse)
    clear hx hse
    rcases c0 with rfl | rfl | rfl
    · go_enter Try.func16, Try.ntmps16
      go_wp2_with fail
      obtain ⟨w1, hw1⟩ : ∃ w1, w1 = w.alloc (.cells #[.int .i64 0, .int .i64 id, .int .i64 n] 33) := ⟨_, rfl⟩
      rw [← hw1]
      have m1 : Fresh w w1 := by rw [hw1]; exact (Mod.refl _ w).alloc _
      have k1 : w1.cell? ⟨w.heap.size, 1, none⟩ = some (.int .i64 id) := by rw [hw1, cell_blk (heap_alloc_new w _)]; rfl
      have k2 : w1.cell? ⟨w.heap.size, 2, none⟩ = some (.int .i64 n) := by rw [hw1, cell_blk (heap_alloc_new w _)]; rfl
      have md := m1.drew
      have sz := md.size
      have MD := Lib.hid md
      clear hw1 m1 md
      go_region_held3 (fun w' => w'.cell? ⟨w.heap.size, 1, none⟩ = some (.int .i64 id) ∧ w'.cell? ⟨w.heap.size, 2, none⟩ = some (.int .i64 n)) (go_keep) (first | (go_at_call 10; refine (set_any (H.out.A.fresh MD.out) id n (by omega) i0 i1 il).mono ?_; rintro e w2 ⟨he, m2, va', l', hA, -, hz, hn⟩; rw [← HX.out.1] at he hz hn; subst he; have j1 := m2.cell (p := ⟨w.heap.size, 1, none⟩) (v := .int .i64 id) k1 (fun hk => HN1.out _ hk rfl); have j2 := m2.cell (p := ⟨w.heap.size, 2, none⟩) (v := .int .i64 n) k2 (fun hk => HN1.out _ hk rfl); have sz2 := m2.size; have M2 := Lib.hid m2; have HA := Lib.hid hA; have HR2 := Lib.hid (ref_keep (H.out.A.fresh MD.out) (H.out.R.fresh MD.out) m2); have HZ := Lib.hid (And.intro hz hn); clear m2 hA hz hn) | (go_at_call 27; refine (rset_any HR2.out id n (by omega) i0 i1 (by omega) HS.out.1 HS.out.2).mono ?_; rintro e w3 ⟨he, m3, vb', hR, -⟩; rw [HX.out.2] at he hR; subst he; have q1 := m3.cell j1 (fun hk => HN2.out _ hk rfl); have q2 := m3.cell j2 (fun hk => HN2.out _ hk rfl); have M3 := Lib.hid m3; have HR := Lib.hid hR; clear m3 hR))
      go_wp2
      go_ret
      exact does_two H.out MD.out M2.out HA.out M3.out HR.out (inv_set H.out.I id n HX.out.1 HZ.out.1 HZ.out.2)
    · go_enter Try.func16, Try.ntmps16
      go_wp2_with fail
      obtain ⟨w1, hw1⟩ : ∃ w1, w1 = w.alloc (.cells #[.int .i64 1, .int .i64 id, .int .i64 n] 33) := ⟨_, rfl⟩
      rw [← hw1]
      have m1 : Fresh w w1 := by rw [hw1]; exact (Mod.refl _ w).alloc _
      have k1 : w1.cell? ⟨w.heap.size, 1, none⟩ = some (.int .i64 id) := by rw [hw1, cell_blk (heap_alloc_new w _)]; rfl
      have k2 : w1.cell? ⟨w.heap.size, 2, none⟩ = some (.int .i64 n) := by rw [hw1, cell_blk (heap_alloc_new w _)]; rfl
      have md := m1.drew
      have sz := md.size
      have MD := Lib.hid md
      clear hw1 m1 md
      go_region_held3 (fun w' => w'.cell? ⟨w.heap.size, 1, none⟩ = some (.int .i64 id) ∧ w'.cell? ⟨w.heap.size, 2, none⟩ = some (.int .i64 n)) (go_keep) (first | (go_at_call 10; refine (set_any (H.out.A.fresh MD.out) id n (by omega) i0 i1 il).mono ?_; rintro e w2 ⟨he, m2, va', l', hA, -, hz, hn⟩; rw [← HX.out.1] at he hz hn; subst he; have j1 := m2.cell (p := ⟨w.heap.size, 1, none⟩) (v := .int .i64 id) k1 (fun hk => HN1.out _ hk rfl); have j2 := m2.cell (p := ⟨w.heap.size, 2, none⟩) (v := .int .i64 n) k2 (fun hk => HN1.out _ hk rfl); have sz2 := m2.size; have M2 := Lib.hid m2; have HA := Lib.hid hA; have HR2 := Lib.hid (ref_keep (H.out.A.fresh MD.out) (H.out.R.fresh MD.out) m2); have HZ := Lib.hid (And.intro hz hn); clear m2 hA hz hn) | (go_at_call 27; refine (rset_any HR2.out id n (by omega) i0 i1 (by omega) HS.out.1 HS.out.2).mono ?_; rintro e w3 ⟨he, m3, vb', hR, -⟩; rw [HX.out.2] at he hR; subst he; have q1 := m3.cell j1 (fun hk => HN2.out _ hk rfl); have q2 := m3.cell j2 (fun hk => HN2.out _ hk rfl); have M3 := Lib.hid m3; have HR := Lib.hid hR; clear m3 hR))
      go_wp2
      go_ret
      exact does_two H.out MD.out M2.out HA.out M3.out HR.out (inv_set H.out.I id n HX.out.1 HZ.out.1 HZ.out.2)
    · go_enter Try.func16, Try.ntmps16
      go_wp2_with fail
      obtain ⟨w1, hw1⟩ : ∃ w1, w1 = w.alloc (.cells #[.int .i64 2, .int .i64 id, .int .i64 n] 33) := ⟨_, rfl⟩
      rw [← hw1]
      have m1 : Fresh w w1 := by rw [hw1]; exact (Mod.refl _ w).alloc _
      have k1 : w1.cell? ⟨w.heap.size, 1, none⟩ = some (.int .i64 id) := by rw [hw1, cell_blk (heap_alloc_new w _)]; rfl
      have k2 : w1.cell? ⟨w.heap.size, 2, none⟩ = some (.int .i64 n) := by rw [hw1, cell_blk (heap_alloc_new w _)]; rfl
      have md := m1.drew
      have sz := md.size
      have MD := Lib.hid md
      clear hw1 m1 md
      go_region_held3 (fun w' => w'.cell? ⟨w.heap.size, 1, none⟩ = some (.int .i64 id) ∧ w'.cell? ⟨w.heap.size, 2, none⟩ = some (.int .i64 n)) (go_keep) (first | (go_at_call 10; refine (set_any (H.out.A.fresh MD.out) id n (by omega) i0 i1 il).mono ?_; rintro e w2 ⟨he, m2, va', l', hA, -, hz, hn⟩; rw [← HX.out.1] at he hz hn; subst he; have j1 := m2.cell (p := ⟨w.heap.size, 1, none⟩) (v := .int .i64 id) k1 (fun hk => HN1.out _ hk rfl); have j2 := m2.cell (p := ⟨w.heap.size, 2, none⟩) (v := .int .i64 n) k2 (fun hk => HN1.out _ hk rfl); have sz2 := m2.size; have M2 := Lib.hid m2; have HA := Lib.hid hA; have HR2 := Lib.hid (ref_keep (H.out.A.fresh MD.out) (H.out.R.fresh MD.out) m2); have HZ := Lib.hid (And.intro hz hn); clear m2 hA hz hn) | (go_at_call 27; refine (rset_any HR2.out id n (by omega) i0 i1 (by omega) HS.out.1 HS.out.2).mono ?_; rintro e w3 ⟨he, m3, vb', hR, -⟩; rw [HX.out.2] at he hR; subst he; have q1 := m3.cell j1 (fun hk => HN2.out _ hk rfl); have q2 := m3.cell j2 (fun hk => HN2.out _ hk rfl); have M3 := Lib.hid m3; have HR := Lib.hid hR; clear m3 hR))
      go_wp2
      go_ret
      exact does_two H.out MD.out M2.out HA.out M3.out HR.out (inv_set H.out.I id n HX.out.1 HZ.out.1 HZ.out.2)
  by_cases c3 : wh = 3
  · subst c3
    have hse : (if idx r id < 0 then (6 : Int) else 0) = (if idx l id < 0 then 6 else 0) := by
      by_cases c : idx l id < 0
      · rw [if_pos c, if_pos ((H.out.I.idx id).1 c)]
      · rw [if_neg c, if_neg (fun c' => c ((H.out.I.idx id).2 c'))]
    obtain ⟨x, hx⟩ : ∃ x : Int, x = (if idx l id < 0 then 6 else 0) := ⟨_, rfl⟩
    rw [← hx] at hse
    have HX := Lib.hid (And.intro hx hse)
    clear hx hse
    · go_enter Try.func16, Try.ntmps16
      go_wp2_with fail
      obtain ⟨w1, hw1⟩ : ∃ w1, w1 = w.alloc (.cells #[.int .i64 3, .int .i64 id, .int .i64 n] 33) := ⟨_, rfl⟩
      rw [← hw1]
      have m1 : Fresh w w1 := by rw [hw1]; exact (Mod.refl _ w).alloc _
      have k1 : w1.cell? ⟨w.heap.size, 1, none⟩ = some (.int .i64 id) := by rw [hw1, cell_blk (heap_alloc_new w _)]; rfl
      have k2 : w1.cell? ⟨w.heap.size, 2, none⟩ = some (.int .i64 n) := by rw [hw1, cell_blk (heap_alloc_new w _)]; rfl
      have md := m1.drew
      have sz := md.size
      have MD := Lib.hid md
      clear hw1 m1 md
      go_region_held3 (fun w' => w'.cell? ⟨w.heap.size, 1, none⟩ = some (.int .i64 id) ∧ w'.cell? ⟨w.heap.size, 2, none⟩ = some (.int .i64 n)) (go_keep) (first | (go_at_call 21; refine (drop_any (H.out.A.fresh MD.out) id il).mono ?_; rintro e w2 ⟨he, m2, va', hA, -⟩; rw [← HX.out.1] at he; subst he; have j1 := m2.cell (p := ⟨w.heap.size, 1, none⟩) (v := .int .i64 id) k1 (fun hk => HN1.out _ hk rfl); have j2 := m2.cell (p := ⟨w.heap.size, 2, none⟩) (v := .int .i64 n) k2 (fun hk => HN1.out _ hk rfl); have sz2 := m2.size; have M2 := Lib.hid m2; have HA := Lib.hid hA; have HR2 := Lib.hid (ref_keep (H.out.A.fresh MD.out) (H.out.R.fresh MD.out) m2); clear m2 hA) | (go_at_call 28; refine (rdrop_any HR2.out id (by omega) (by omega)).mono ?_; rintro e w3 ⟨he, m3, vb', hR, -⟩; rw [HX.out.2] at he; subst he; have q1 := m3.cell j1 (fun hk => HN2.out _ hk rfl); have q2 := m3.cell j2 (fun hk => HN2.out _ hk rfl); have M3 := Lib.hid m3; have HR := Lib.hid hR; clear m3 hR))
      go_wp2
      go_ret
      exact does_two H.out MD.out M2.out HA.out M3.out HR.out (H.out.I.drop id)
  by_cases c4 : wh = 4 ∨ wh = 5
  · obtain ⟨x, hx⟩ : ∃ x, x = tickErr now n := ⟨_, rfl⟩
    have hI : Inv (if x = 0 then now + n else now) l r := hx ▸ H.out.I.tick n
    have HI := Lib.hid hI
    have HX := Lib.hid hx
    clear hx hI
    rcases c4 with rfl | rfl
    · go_enter Try.func16, Try.ntmps16
      go_wp2_with fail
      obtain ⟨w1, hw1⟩ : ∃ w1, w1 = w.alloc (.cells #[.int .i64 4, .int .i64 id, .int .i64 n] 33) := ⟨_, rfl⟩
      rw [← hw1]
      have m1 : Fresh w w1 := by rw [hw1]; exact (Mod.refl _ w).alloc _
      have k1 : w1.cell? ⟨w.heap.size, 1, none⟩ = some (.int .i64 id) := by rw [hw1, cell_blk (heap_alloc_new w _)]; rfl
      have k2 : w1.cell? ⟨w.heap.size, 2, none⟩ = some (.int .i64 n) := by rw [hw1, cell_blk (heap_alloc_new w _)]; rfl
      have md := m1.drew
      have sz := md.size
      have MD := Lib.hid md
      clear hw1 m1 md
      go_region_held3 (fun w' => w'.cell? ⟨w.heap.size, 1, none⟩ = some (.int .i64 id) ∧ w'.cell? ⟨w.heap.size, 2, none⟩ = some (.int .i64 n)) (go_keep) (first | (go_at_call 11; refine (tick_any (H.out.A.fresh MD.out) n i0 i1).mono ?_; rintro e w2 ⟨he, m2', hA⟩; rw [← HX.out] at he hA; subst he; have m2 : Mod (fun k => k = a ∨ va.ownBlock = some k) _ w2 := m2'.mono (fun _ _ e => .inl e); have j1 := m2.cell (p := ⟨w.heap.size, 1, none⟩) (v := .int .i64 id) k1 (fun hk => HN1.out _ hk rfl); have j2 := m2.cell (p := ⟨w.heap.size, 2, none⟩) (v := .int .i64 n) k2 (fun hk => HN1.out _ hk rfl); have sz2 := m2.size; have M2 := Lib.hid m2; have HA := Lib.hid hA; have HR2 := Lib.hid (ref_keep (H.out.A.fresh MD.out) (H.out.R.fresh MD.out) m2); clear m2 m2' hA) | (go_at_call 29; refine (rtick_any HR2.out n i0 i1 HS.out.2).mono ?_; rintro e w3 ⟨he, m3', hR⟩; rw [← HX.out] at he hR; subst he; have m3 : Mod (fun k => k = b ∨ vb.ownBlock = some k) w2 w3 := m3'.mono (fun _ _ e => .inl e); have q1 := m3.cell j1 (fun hk => HN2.out _ hk rfl); have q2 := m3.cell j2 (fun hk => HN2.out _ hk rfl); have M3 := Lib.hid m3; have HR := Lib.hid hR; clear m3 m3' hR))
      go_wp2
      go_ret
      exact does_two H.out MD.out M2.out HA.out M3.out HR.out HI.out
    · go_enter Try.func16, Try.ntmps16
      go_wp2_with fail
      obtain ⟨w1, hw1⟩ : ∃ w1, w1 = w.alloc (.cells #[.int .i64 5, .int .i64 id, .int .i64 n] 33) := ⟨_, rfl⟩
      rw [← hw1]
      have m1 : Fresh w w1 := by rw [hw1]; exact (Mod.refl _ w).alloc _
      have k1 : w1.cell? ⟨w.heap.size, 1, none⟩ = some (.int .i64 id) := by rw [hw1, cell_blk (heap_alloc_new w _)]; rfl
      have k2 : w1.cell? ⟨w.heap.size, 2, none⟩ = some (.int .i64 n) := by rw [hw1, cell_blk (heap_alloc_new w _)]; rfl
      have md := m1.drew
      have sz := md.size
      have MD := Lib.hid md
      clear hw1 m1 md
      go_region_held3 (fun w' => w'.cell? ⟨w.heap.size, 1, none⟩ = some (.int .i64 id) ∧ w'.cell? ⟨w.heap.size, 2, none⟩ = some (.int .i64 n)) (go_keep) (first | (go_at_call 11; refine (tick_any (H.out.A.fresh MD.out) n i0 i1).mono ?_; rintro e w2 ⟨he, m2', hA⟩; rw [← HX.out] at he hA; subst he; have m2 : Mod (fun k => k = a ∨ va.ownBlock = some k) _ w2 := m2'.mono (fun _ _ e => .inl e); have j1 := m2.cell (p := ⟨w.heap.size, 1, none⟩) (v := .int .i64 id) k1 (fun hk => HN1.out _ hk rfl); have j2 := m2.cell (p := ⟨w.heap.size, 2, none⟩) (v := .int .i64 n) k2 (fun hk => HN1.out _ hk rfl); have sz2 := m2.size; have M2 := Lib.hid m2; have HA := Lib.hid hA; have HR2 := Lib.hid (ref_keep (H.out.A.fresh MD.out) (H.out.R.fresh MD.out) m2); clear m2 m2' hA) | (go_at_call 29; refine (rtick_any HR2.out n i0 i1 HS.out.2).mono ?_; rintro e w3 ⟨he, m3', hR⟩; rw [← HX.out] at he hR; subst he; have m3 : Mod (fun k => k = b ∨ vb.ownBlock = some k) w2 w3 := m3'.mono (fun _ _ e => .inl e); have q1 := m3.cell j1 (fun hk => HN2.out _ hk rfl); have q2 := m3.cell j2 (fun hk => HN2.out _ hk rfl); have M3 := Lib.hid m3; have HR := Lib.hid hR; clear m3 m3' hR))
      go_wp2
      go_ret
      exact does_two H.out MD.out M2.out HA.out M3.out HR.out HI.out
  have t0 : (wh == 0) = false := by simp; omega
  have t1 : (wh == 1) = false := by simp; omega
  have t2 : (wh == 2) = false := by simp; omega
  have t3 : (wh == 3) = false := by simp; omega
  have t4 : (wh == 4) = false := by simp; omega
  have t5 : (wh == 5) = false := by simp; omega
  clear c0 c3 c4
  go_enter Try.func16, Try.ntmps16
  go_wp2_with fail
  go_ret
  exact does_same H.out ((Mod.refl _ w).alloc _)
end Go.Proofs.Ytfbnlniabfiifaa
