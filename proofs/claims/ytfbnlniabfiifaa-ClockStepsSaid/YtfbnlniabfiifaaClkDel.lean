/-
  slices.Delete of one alarm, and the clock's Drop, by contracts.
-/
import Derived.Test.YtfbnlniabfiifaaClkJ
import Derived.Deep.RegionLaw
import Derived.Lib.SliceRun
namespace Go.Proofs.Ytfbnlniabfiifaa
open Go.RowKit Go.Lib
set_option linter.unusedVariables false
set_option linter.unusedSimpArgs false

theorem Mod.setCells {S : Nat → Prop} {a : World} (g : Nat) (hg : S g) : ∀ (vs : List Value) (o : Nat) {b : World}, Mod S a b → Mod S a (b.setCells g o vs)
  | [], _, _, h => h
  | v :: r, o, _, h => Mod.setCells g hg r (o + 1) (h.setCell (fun _ => hg) v)
/-- What a run of cells written leaves of its row. -/
theorem setRow {g : Nat} {e : TypeId} : ∀ (vs : List Value) (o : Nat) (w : World) (cur : Array Value), w.heap[g]? = some (.cells cur e (0, 0)) → o + vs.length ≤ cur.size →
    ∃ cur', (w.setCells g o vs).heap[g]? = some (.cells cur' e (0, 0)) ∧ cur'.size = cur.size ∧ cur'.toList = cur.toList.take o ++ vs ++ cur.toList.drop (o + vs.length)
  | [], o, w, cur, h, _ => ⟨cur, h, rfl, by simp⟩
  | v :: r, o, w, cur, h, hl => by
    have h2 : (w.setCell ⟨g, o, none⟩ v).heap[g]? = some (.cells (cur.setIfInBounds o v) e (0, 0)) := set_blk h o v
    simp only [List.length_cons] at hl
    obtain ⟨cur', h3, h4, h5⟩ := setRow r (o + 1) (w.setCell ⟨g, o, none⟩ v) _ h2 (by simp; omega)
    refine ⟨cur', h3, by rw [h4]; simp, ?_⟩
    rw [h5, Array.toList_setIfInBounds]
    have ho : o < cur.toList.length := by rw [Array.length_toList]; omega
    rw [List.take_set, List.drop_set_of_lt (by omega)]
    simp only [List.length_cons]
    rw [show o + 1 + r.length = o + (r.length + 1) by omega]
    congr 1
    rw [List.take_succ_eq_append_getElem ho, List.set_append_right _ _ (by rw [List.length_take]; omega)]
    have ho' : o < cur.size := by omega
    simp [Nat.min_eq_left (Nat.le_of_lt ho')]

theorem clear_one (w : World) (ty : TypeId) (b o c : Nat) (hc : ∀ j, j < 2 → (w.cell? ⟨b, o + j, none⟩).isSome = true) (hf : ∀ j, j < 2 → w.frozen? ⟨b, o + j, none⟩ = false) :
    (Builtin.clear_ #[55] ty #[.slice (some ⟨b, o, none⟩) 1 c]).run Try.prog w = .ok (.tuple #[]) (w.setCells b o [.int .i64 0, .int .i64 0]) := by
  have hzc : (Builtin.zeroCells (Value.agg #[.int .i64 0, .int .i64 0]).cells 1).toList = [.int .i64 0, .int .i64 0] := by kernel_rfl
  have hst := run_storeCells_cells (P := Try.prog) b o [.int .i64 0, .int .i64 0] 0 w (by simpa using hc) (by simpa using hf) (by simp [Value.oneCell'])
  simp only [Nat.add_zero] at hst
  simp [Builtin.clear_, run_underlying Try.underlying55, Try.zeroValue59, hzc, hst]

theorem flatAl_append (p q : List Al) : flatAl (p ++ q) = flatAl p ++ flatAl q := by simp [flatAl]
theorem flatAl_one (l : List Al) : ∀ u ∈ flatAl l, u.oneCell' = true := by
  intro u hu
  obtain ⟨a, _, h⟩ := List.mem_flatMap.1 hu
  simp [encAl] at h
  rcases h with rfl | rfl <;> rfl
theorem al_drop {w : World} {B g n c : Nat} {l : List Al} (h : AlRow w B (.slice (some ⟨g, 0, none⟩) n c) l) (k : Nat) (hk : k ≤ l.length) : ∀ j u, (flatAl (l.drop k))[j]? = some u → w.cell? ((⟨g, k * 2, none⟩ : Addr).add j) = some u := by
  intro j u hu
  have hx := World.ownsRow.cells h (g := g) rfl (k * 2 + j) u ?_
  · rw [Addr.add_lit] at hx ⊢
    rw [Nat.zero_add] at hx
    exact hx
  · have e : flatAl l = flatAl (l.take k) ++ flatAl (l.drop k) := by rw [← flatAl_append, List.take_append_drop]
    rw [e, List.getElem?_append_right (by rw [flatAl_length]; simp; omega), flatAl_length]
    have : k * 2 + j - (l.take k).length * 2 = j := by simp; omega
    rw [this]
    exact hu

set_option maxHeartbeats 2000000 in
set_option maxRecDepth 100000 in
theorem delete_any {w : World} {B g n c : Nat} {l : List Al} (h : AlRow w B (.slice (some ⟨g, 0, none⟩) n c) l) (i j : Nat) (hi : i + 1 = j) (hj : j ≤ n) :
    Calls Try.prog 31 #[.slice (some ⟨g, 0, none⟩) n c, .int .i64 i, .int .i64 j] w fun e w' => e = .returned (.slice (some ⟨g, 0, none⟩) (i + (n - j)) c) ∧ AlRow w' B (.slice (some ⟨g, 0, none⟩) (i + (n - j)) c) (l.take i ++ l.drop j) ∧ Mod (fun k => k = g) w w' := by
  obtain ⟨i0, hi0, hzz⟩ := Option.map_eq_some_iff.1 info59
  simp only [Prod.mk.injEq] at hzz
  obtain ⟨-, hz1, -⟩ := hzz
  have hlen := h.1
  rcases h.2 with ⟨h0, _⟩ | ⟨g', c', cur, hv, hBg, hh, hnc, hcm, hcs, htake⟩
  · simp at h0
  simp only [Value.slice.injEq, Option.some.injEq, Addr.mk.injEq, and_true] at hv
  obtain ⟨rfl, hnl, rfl⟩ := hv
  have hcm' : c ≤ 9223372036854775807 := by unfold maxLen at hcm; exact hcm
  have hd := al_drop h j (by omega)
  obtain ⟨news, hnews⟩ : ∃ news, news = flatAl (l.drop j) := ⟨_, rfl⟩
  have s0 : news.length = (n - j) * 2 := by rw [hnews, flatAl_length, List.length_drop, hnl]
  have s1 := Lib.hid s0
  have s2 : Hid (∀ u ∈ news, u.oneCell' = true) := by rw [hnews]; exact flatAl_one _
  rw [← hnews] at hd
  have hh1 : w.drew.heap[g]? = some (.cells cur 59 (0, 0)) := hh
  obtain ⟨cur1, hc1, hc1s, hc1l⟩ := setRow news (i * 2) w.drew cur hh1 (by rw [s0, hcs]; omega)
  obtain ⟨W1, hW1⟩ : ∃ W1, W1 = w.drew.setCells g (i * 2) news := ⟨_, rfl⟩
  rw [← hW1] at hc1
  obtain ⟨cur2, hc2, hc2s, hc2l⟩ := setRow [.int .i64 0, .int .i64 0] ((i + (n - j)) * 2) W1 cur1 hc1 (by rw [hc1s, hcs]; simp; omega)
  have s3 : Hid (∀ t, t < news.length → (w.drew.cell? ⟨g, 0 + i * 2 + t, none⟩).isSome = true ∧ w.drew.frozen? ⟨g, 0 + i * 2 + t, none⟩ = false) := by
    intro t ht
    rw [s0] at ht
    refine ⟨?_, free_blk hh1 _⟩
    rw [cell_blk hh1]
    simp
    omega
  have hone : n - (i + (n - j)) = 1 := by omega
  have hcl : ∀ ty, (Builtin.clear_ #[55] ty #[.slice (some ⟨g, (i + (n - j)) * 2, none⟩) (n - (i + (n - j))) (c - (i + (n - j)))]).run Try.prog W1 = .ok (.tuple #[]) (W1.setCells g ((i + (n - j)) * 2) [.int .i64 0, .int .i64 0]) := by
    intro ty
    rw [hone]
    refine clear_one W1 ty g _ _ (fun t ht => ?_) (fun t ht => free_blk hc1 _)
    rw [cell_blk hc1]
    simp
    omega
  have hown : AlRow (W1.setCells g ((i + (n - j)) * 2) [.int .i64 0, .int .i64 0]) B (.slice (some ⟨g, 0, none⟩) (i + (n - j)) c) (l.take i ++ l.drop j) := by
    have hl2 : (l.take i ++ l.drop j).length = i + (n - j) := by simp; omega
    refine ⟨by rw [flatAl_length], .inr ⟨g, c, cur2, by rw [hl2], hBg, hc2, by omega, hcm, by omega, ?_⟩⟩
    rw [hl2, hc2l, List.append_assoc, List.take_append_of_le_length (by simp; omega), List.take_take, Nat.min_self, hc1l, flatAl_append, ← hnews]
    have e1 : cur.toList.take (i * 2) = flatAl (l.take i) := by
      have e2 : cur.toList.take (i * 2) = (flatAl l).take (i * 2) := by rw [← htake, List.take_take, Nat.min_eq_left (by omega)]
      have e3 : flatAl l = flatAl (l.take i) ++ flatAl (l.drop i) := by rw [← flatAl_append, List.take_append_drop]
      rw [e2, e3, List.take_append_of_le_length (by rw [flatAl_length]; simp; omega), List.take_of_length_le (by rw [flatAl_length]; simp; omega)]
    rw [e1, List.take_append_of_le_length (by simp [flatAl_length, s0]; omega), List.take_of_length_le (by simp [flatAl_length, s0]; omega)]
  have hmod : Mod (fun k => k = g) w (W1.setCells g ((i + (n - j)) * 2) [.int .i64 0, .int .i64 0]) := by
    refine Mod.setCells (S := fun k => k = g) g rfl _ _ ?_
    rw [hW1]
    exact Mod.setCells (S := fun k => k = g) g rfl _ _ (Mod.refl _ w).drew
  have HF := Lib.hid (And.intro hown hmod)
  have HD := Lib.hid hd
  have hW : Hid (W1 = w.drew.setCells g (i * 2) news) := hW1
  have h3 : ((i : Int) == (j : Int)) = false := by simp; omega
  have hij : i ≤ j := by omega
  have hjn : n ≤ c := by omega
  have hic : i ≤ c := by omega
  have hjc : j ≤ c := by omega
  have hi00 : (0 : Int) ≤ (i : Int) := by omega
  clear hone hown hmod hd hW1 h hlen hh hh1 hc1 hc1s hc1l hc2 hc2s hc2l s0 hnews htake hcs hnl hcm hBg
  by_cases hcap : c = j
  · have HD' : Hid (∀ t u, news[t]? = some u → w.drew.cell? ((⟨g, 0, none⟩ : Addr).add t) = some u) := by
      intro t u hu
      have h0 : news.length = 0 := by rw [s1.out]; omega
      rw [List.length_eq_zero_iff.1 h0] at hu
      simp at hu
    have hn0 : n = c := by omega
    subst hn0
    subst hcap
    simp only [Nat.sub_self, Nat.add_zero] at hcl s1 HF ⊢
    go_enter Try.func31, Try.ntmps31
    go_wp2_with fail
    go_region_law (refine step_append_room rfl (.tmp 22) (.tmp 25) 55 rfl 59 i0 2 Try.underlying55 hi0 hz1 g 0 i n (by simp [Act.eval, Act.put]) ⟨g, 0, none⟩ 0 0 news (by simp [Act.eval, Act.put]) (by rw [s1.out]) HD'.out s2.out (by omega) s3.out ?_; rw [Nat.zero_add, ← hW.out])
    go_wp2
    go_ret
    exact ⟨rfl, HF.out⟩
  · go_enter Try.func31, Try.ntmps31
    go_wp2_with fail
    go_region_law (refine step_append_room rfl (.tmp 22) (.tmp 25) 55 rfl 59 i0 2 Try.underlying55 hi0 hz1 g 0 i c (by simp [Act.eval, Act.put]) ⟨g, j * 2, none⟩ (n - j) (c - j) news (by simp [Act.eval, Act.put, hcap]) s1.out HD.out s2.out (by omega) s3.out ?_; rw [Nat.zero_add, ← hW.out])
    go_wp2
    go_ret
    exact ⟨rfl, HF.out⟩

def DropPost (w : World) (B b : Nat) (v : Value) (now : Int) (l : List Al) (id : Int) (e : Ending) (w' : World) : Prop :=
  e = .returned (.int .i64 (if idx l id < 0 then 6 else 0)) ∧ Mod (fun k => k = b ∨ v.ownBlock = some k) w w' ∧
    ∃ v', ClockAt w' B b v' now (if idx l id < 0 then l else l.take (idx l id).toNat ++ l.drop ((idx l id).toNat + 1)) ∧ (∀ k, v'.ownBlock = some k → v.ownBlock = some k ∨ w.heap.size ≤ k)

set_option maxHeartbeats 2000000 in
theorem drop_any {w : World} {B b : Nat} {v : Value} {now : Int} {l : List Al} (h : ClockAt w B b v now l) (id : Int) (hl : l.length ≤ 64) :
    Calls Try.prog 21 #[.pointer (some ⟨b, 0, none⟩), .int .i64 id] w (DropPost w B b v now l id) := by
  have hfi := find_any h id
  have hne := h.ne
  have H := Lib.hid h
  have hbl := lt_blk h.blk
  rcases idx_spec l id with ⟨hi, hno⟩ | ⟨k, hk, hi, hid⟩
  · have hp : ∀ w', Fresh w w' → DropPost w B b v now l id (.returned (.int .i64 6)) w' := fun w' m => ⟨by rw [if_pos (by omega)], m.any, v, by rw [if_pos (by omega)]; exact h.fresh m, fun k hk => .inl hk⟩
    have HP := Lib.hid hp
    rw [hi] at hfi
    clear h hp hno hi hne
    go_enter Try.func21, Try.ntmps21
    go_wp2_with (go_at_call 22; refine hfi.mono ?_; rintro e w1 ⟨rfl, m1⟩)
    go_ret
    exact HP.out _ m1
  · have hval := h.val
    rcases h.row.form with ⟨_, h0⟩ | ⟨g, c, rfl, hlc, hBg, hgs⟩
    · rw [h0] at hk; simp at hk
    have hgb : g ≠ b := hne g rfl
    have hp : ∀ (e : Ending) (w' : World), e = .returned (.int .i64 0) → Mod (fun k => k = b ∨ k = g) w w' → ClockAt w' B b (.slice (some ⟨g, 0, none⟩) (k + (l.length - (k + 1))) c) now (l.take k ++ l.drop (k + 1)) → DropPost w B b (.slice (some ⟨g, 0, none⟩) l.length c) now l id e w' := by
      intro e w' e1 e2 e3
      refine ⟨by rw [if_neg (by omega)]; exact e1, e2.mono (fun j _ hj => ?_), .slice (some ⟨g, 0, none⟩) (k + (l.length - (k + 1))) c, ?_, fun j hj => .inl hj⟩
      · rcases hj with rfl | rfl
        · exact .inl rfl
        · exact .inr rfl
      · rw [if_neg (by omega), hi]
        exact e3
    have HP := Lib.hid hp
    have hfr : ∀ w1, Fresh w w1 → Calls Try.prog 31 #[.slice (some ⟨g, 0, none⟩) l.length c, .int .i64 k, .int .i64 ((k : Int) + 1)] w1 fun e w' => e = .returned (.slice (some ⟨g, 0, none⟩) (k + (l.length - (k + 1))) c) ∧ AlRow w' B (.slice (some ⟨g, 0, none⟩) (k + (l.length - (k + 1))) c) (l.take k ++ l.drop (k + 1)) ∧ Mod (fun k => k = g) w1 w' := by
      intro w1 m
      have := delete_any (h.fresh m).row k (k + 1) rfl (by omega)
      rwa [Int.natCast_add] at this
    have HR := Lib.hid hfr
    rw [hi] at hfi
    clear h hp hi hid hne hfr
    go_enter Try.func21, Try.ntmps21
    go_wp2_with (first | (go_at_call 22; refine hfi.mono ?_; rintro e w1 ⟨rfl, m1⟩; have d0 := m1.cell hval (fun f => f)) | (go_at_call 31; refine (HR.out _ m1).mono ?_; rintro e w2 ⟨rfl, hr, m2⟩; have hb2 := m2.heap (H.out.fresh m1).blk (fun e => hgb e.symm); have HB := Lib.hid hb2; have fz := free_blk hb2 1; have cz := cell_blk hb2 1; have HRow := Lib.hid hr; clear hr hb2 d0))
    go_ret
    refine HP.out _ _ rfl ((m1.any.trans (m2.mono (fun j _ e => .inr e))).setCell (fun _ => .inl rfl) _) ⟨H.out.hb, by rw [set_blk HB.out]; rfl, ?_⟩
    exact AlRow.mod (S := fun k => k = b) ((Mod.refl (fun k => k = b) w2).setCell (fun _ => rfl) _) HRow.out (fun j hj e => by simp [Value.ownBlock] at hj; omega)
end Go.Proofs.Ytfbnlniabfiifaa
