/-
  ClockOrder: the walk: the order in which alarms are set says nothing.
-/
import Derived.Test.YtfbnlniabfiifaaClkOrdP
import Derived.StillTailTactics
namespace Go.Proofs.Ytfbnlniabfiifaa
open Go.RowKit Go.Lib
set_option linter.unusedVariables false
set_option linter.unusedSimpArgs false

theorem ClockAt.base {w : World} {B B' b : Nat} {v : Value} {now : Int} {l : List Al} (h : ClockAt w B b v now l) (hB : B' ≤ B) : ClockAt w B' b v now l :=
  ⟨Nat.le_trans hB h.hb, h.blk, ownsRow_base h.row (fun k hk => Nat.le_trans hB (World.ownsRow.lt h.row k hk).1)⟩

set_option maxRecDepth 100000 in
set_option maxHeartbeats 4000000 in
theorem order_any (W : World) {v : Value} {l : List Stp} {n : Int} (hs : SliceIn W 3 StpCells v l) (wf : (Lit.int .i64 n).wf = true) : Calls Try.prog 4 #[v, .int .i64 n] W (BoolPost W true) := by
  have hb := i64_bounds wf
  have hlen := hs.form.1
  have ht0 := hs
  obtain ⟨A, c, hv, hlc, hcm⟩ := hs.form.2
  clear hs
  subst hv
  have HT := Lib.hid ht0
  clear ht0
  have two := two_any
  by_cases hg : 40 < l.length
  · go_enter Try.func4, Try.ntmps4
    go_wp2_with fail
    refine (new_any _).mono ?_
    rintro e w1 ⟨rfl, m1, hc1⟩
    clear hc1
    go_wp2_with fail
    refine (new_any _).mono ?_
    rintro e w2 ⟨rfl, m2, hc2⟩
    clear hc2
    go_wp2_with fail
    refine (two _).mono ?_
    rintro e w3 ⟨rfl, m3⟩
    go_wp2_with fail
    go_ret
    exact ⟨rfl, (m1.trans m2).trans m3⟩
  · go_enter Try.func4, Try.ntmps4
    go_wp2_with fail
    refine (new_any _).mono ?_
    rintro e w1 ⟨rfl, m1, hc1⟩
    go_wp2_with fail
    refine (new_any _).mono ?_
    rintro e w2 ⟨rfl, m2, hc2⟩
    have hT : Two w2 W.heap.size W.heap.size w1.heap.size (.slice none 0 0) (.slice none 0 0) 0 0 [] [] :=
      ⟨hc1.fresh m2, hc2.base m1.size, by have := lt_blk hc1.blk; omega, fun k hk => by cases hk⟩
    have f2 := m1.trans m2
    clear hc1 hc2 m1 m2
    generalize w1.heap.size = b at *
    go_wp2_with fail
    go_loopw [42] (fun i wr => ∃ k : Nat, k ≤ l.length ∧ i = .int .i64 k ∧ Apart l k ∧ Two wr W.heap.size W.heap.size b (.slice none 0 0) (.slice none 0 0) 0 0 [] [] ∧ Fresh W wr) (fun i _ => l.length - (intOf i).toNat)
    case atStart => exact ⟨0, by omega, rfl, fun i j hi hj _ h => by omega, hT, f2⟩
    case round =>
      obtain ⟨k, hk, rfl, hap, hTr, hf⟩ := hrel
      obtain ⟨wo, rfl⟩ : ∃ wo : World, wo = wr := ⟨_, rfl⟩
      clear hT f2
      have HA := Lib.hid hap
      clear hap
      by_cases hlt : k < l.length
      · obtain ⟨g, o, rfl, hg, c0, c1, c2, i0, i1, i2⟩ := HT.out.stpAt k hlt
        have d0 := hf.cell c0 (fun f => f)
        have d1 := hf.cell c1 (fun f => f)
        have d2 := hf.cell c2 (fun f => f)
        clear c0 c1 c2 i0 i1 i2
        obtain ⟨s, hs⟩ : ∃ s, s = l[k] := ⟨_, rfl⟩
        rw [← hs] at d0 d1 d2
        have HS := Lib.hid hs
        clear hs
        have mb : Fresh wo (wo.alloc (.cells #[.int .i64 s.what, .int .i64 s.id, .int .i64 s.n] 33)) := (Mod.refl _ wo).alloc _
        have sc1 : (wo.alloc (.cells #[.int .i64 s.what, .int .i64 s.id, .int .i64 s.n] 33)).cell? ⟨wo.heap.size, 1, none⟩ = some (.int .i64 s.id) := by simp
        have ssz : wo.heap.size + 1 = (wo.alloc (.cells #[.int .i64 s.what, .int .i64 s.id, .int .i64 s.n] 33)).heap.size := by simp
        have SC := Lib.hid sc1
        have SZ := Lib.hid ssz
        clear sc1 ssz
        go_wp2_with fail
        go_loopw [51] (fun i ws => ∃ j : Nat, j ≤ k ∧ i = .int .i64 j ∧ (∀ q (hq : q < l.length), q < j → s.id ≠ l[q].id) ∧ Fresh (wo.alloc (.cells #[.int .i64 s.what, .int .i64 s.id, .int .i64 s.n] 33)) ws) (fun i _ => k - (intOf i).toNat)
        case atStart => exact ⟨0, by omega, rfl, fun q hq h => by omega, Mod.refl _ _⟩
        case round =>
          obtain ⟨j, hj, rfl, hno, hf2⟩ := hrel
          have HN := Lib.hid hno
          clear hno d0 d1 d2
          have s1 := hf2.cell SC.out (fun f => f)
          have hszs := hf2.size
          rw [← SZ.out] at hszs
          by_cases hlt2 : j < k
          · obtain ⟨g', o', e', hg', c0, c1, c2, _⟩ := HT.out.stpAt j (by omega)
            simp only [Option.some.injEq, Addr.mk.injEq, and_true] at e'
            obtain ⟨rfl, rfl⟩ := e'
            have d0 := hf2.cell (mb.cell (hf.cell c0 (fun f => f)) (fun f => f)) (fun f => f)
            have d1 := hf2.cell (mb.cell (hf.cell c1 (fun f => f)) (fun f => f)) (fun f => f)
            have d2 := hf2.cell (mb.cell (hf.cell c2 (fun f => f)) (fun f => f)) (fun f => f)
            clear c0 c1 c2
            obtain ⟨t, ht⟩ : ∃ t, t = l[j] := ⟨_, rfl⟩
            rw [← ht] at d0 d1 d2
            have HTt := Lib.hid ht
            clear ht
            have s2 : (wr.alloc (.cells #[.int .i64 t.what, .int .i64 t.id, .int .i64 t.n] 33)).cell? ⟨wo.heap.size, 1, none⟩ = some (.int .i64 s.id) := by rw [World.cell?_alloc_past _ _ _ (by omega)]; exact s1
            by_cases heq : s.id = t.id
            · have hbeq : (s.id == t.id) = true := by simpa using heq
              have HE := Lib.hid heq
              clear heq
              go_wp2_with fail
              refine (two _).mono ?_
              rintro e w3 ⟨rfl, m3⟩
              go_wp2_with fail
              go_ret
              exact ⟨rfl, (((hf.trans mb).trans hf2).alloc _).trans m3⟩
            · have hbeq : (s.id == t.id) = false := by simpa using heq
              have HE := Lib.hid heq
              clear heq
              go_wp2_with fail
              go_roundw
              case rel =>
                refine ⟨j + 1, by omega, by go_num, fun q hq h => ?_, hf2.alloc _⟩
                by_cases e : q = j
                · subst e; rw [← HTt.out]; exact HE.out
                · exact HN.out q hq (by omega)
              case measure => simp [intOf]; omega
          · obtain rfl : j = k := by omega
            go_wp2_with fail
            go_roundw
            case rel =>
              refine ⟨j + 1, by omega, by go_num, fun p q hp hq h1 h2 => ?_, (hTr.fresh mb).fresh hf2, (hf.trans mb).trans hf2⟩
              by_cases e : p = j
              · subst e; rw [← HS.out]; exact HN.out q hq h1
              · exact HA.out p q hp hq h1 (by omega)
            case measure => simp [intOf]; omega
      · obtain rfl : k = l.length := by omega
        go_wp2_with fail
        go_loopw [65] (fun i wr => ∃ k : Nat, k ≤ l.length ∧ i = .int .i64 k ∧ (∃ va vb la lb, Two wr W.heap.size W.heap.size b va vb 0 0 la lb ∧ la.Perm (valid (l.take k)) ∧ SortedAl la ∧ lb.Perm (valid (l.drop (l.length - k))) ∧ SortedAl lb) ∧ Fresh W wr) (fun i _ => l.length - (intOf i).toNat)
        case atStart => exact ⟨0, by omega, rfl, ⟨_, _, [], [], hTr, by simp [valid], List.Pairwise.nil, by simp [valid], List.Pairwise.nil⟩, hf⟩
        case round =>
          obtain ⟨k, hk, rfl, ⟨va, vb, la, lb, hT, pa, sa, pb, sb⟩, hf1⟩ := hrel
          clear hTr hf
          have PA := Lib.hid pa
          have PB := Lib.hid pb
          clear pa pb
          have hla : la.length ≤ 64 := by have := PA.out.length_eq; have := valid_len (l.take k); simp at this; omega
          have hlb : lb.length ≤ 64 := by have := PB.out.length_eq; have := valid_len (l.drop (l.length - k)); simp at this; omega
          by_cases hlt : k < l.length
          · obtain ⟨g, o, rfl, hg, c0, c1, c2, _⟩ := HT.out.stpAt k hlt
            obtain ⟨g', o', e', hg', q0, q1, q2, _⟩ := HT.out.stpAt (l.length - 1 - k) (by omega)
            simp only [Option.some.injEq, Addr.mk.injEq, and_true] at e'
            obtain ⟨rfl, rfl⟩ := e'
            obtain ⟨s, hs⟩ : ∃ s, s = l[k] := ⟨_, rfl⟩
            obtain ⟨t, ht⟩ : ∃ t, t = l[l.length - 1 - k] := ⟨_, rfl⟩
            rw [← hs] at c1 c2
            rw [← ht] at q1 q2
            have HS := Lib.hid hs
            have HTt := Lib.hid ht
            clear hs ht c0 q0
            obtain ⟨q, hq⟩ : ∃ q, q = l.length - 1 - k := ⟨_, rfl⟩
            have hql : q < l.length := by omega
            have wq1 : IntKind.i64.wrap ((l.length : Int) - 1) = (l.length : Int) - 1 := IntWalk.i64_in _ (by omega)
            have wq2 : IntKind.i64.wrap ((l.length : Int) - 1 - k) = (q : Int) := by rw [IntWalk.i64_in _ (by omega)]; omega
            have WQ1 := Lib.hid wq1
            have WQ2 := Lib.hid wq2
            clear wq1 wq2
            rw [← hq] at q1 q2
            have HQ := Lib.hid hq
            clear hq
            have C1 := Lib.hid c1
            have C2 := Lib.hid c2
            have Q1 := Lib.hid q1
            have Q2 := Lib.hid q2
            clear c1 c2 q1 q2
            obtain ⟨w2, hw2⟩ : ∃ w2, w2 = wr.drew := ⟨_, rfl⟩
            have md : Fresh wr w2 := by rw [hw2]; exact (Mod.refl _ wr).drew
            have hTd := hT.fresh md
            have hfd := hf1.trans md
            have y1 := hfd.cell C1.out (fun f => f)
            have y2 := hfd.cell C2.out (fun f => f)
            have HW := Lib.hid hw2
            clear hT hf1 md hw2
            go_wp2_with fail
            refine wp_region_still_tail 11 (by kernel_rfl) (by kernel_rfl) ?_
            simp only [List.take_succ_cons, List.take_zero, List.drop_succ_cons, List.drop_zero]
            change wpStill Try.prog _ (World.drew _) _ _ _
            rw [← HW.out]
            repeat still_step
            refine wpStill_nil ?_
            change wpList _ _ _ _ _ (World.drew _)
            rw [← HW.out]
            have hsa := set_any hTd.A s.id s.n (by have := hfd.size; omega) (by omega) (by omega) hla
            have HSA := Lib.hid hsa
            clear hsa y1 y2
            go_wp2_with fail
            refine HSA.out.mono ?_
            rintro e w3 ⟨rfl, m3, va', la', hA', hva', ha1, ha2⟩
            have hT3 := hTd.step m3 hA' hva'
            have f3 := fresh_then hfd m3 hTd.A.own
            have hE : ∀ t ∈ l.take k, t.id ≠ s.id := by
              intro t ht
              obtain ⟨j, hj, rfl⟩ := List.getElem_of_mem ht
              have hj' : j < k := by simp at hj; omega
              rw [List.getElem_take, HS.out]
              exact (HA.out k j hlt (by omega) hj' hlt).symm
            have va2 := valid_step PA.out sa (by simp; omega) hE ha1 ha2
            have pa2 : la'.Perm (valid (l.take (k + 1))) := va2.1.trans (valid_perm (by rw [HS.out]; exact take_snoc hlt))
            have PA2 := Lib.hid pa2
            have sa2 := va2.2
            clear hE va2 pa2 ha1 ha2 m3 hA' hva' hTd hfd HSA sa PA hla HW
            obtain ⟨w4, hw4⟩ : ∃ w4, w4 = w3.drew := ⟨_, rfl⟩
            have md : Fresh w3 w4 := by rw [hw4]; exact (Mod.refl _ w3).drew
            have hTd := hT3.fresh md
            have hfd := f3.trans md
            have y1 := hfd.cell Q1.out (fun f => f)
            have y2 := hfd.cell Q2.out (fun f => f)
            have HW := Lib.hid hw4
            clear hT3 f3 md hw4
            go_wp2_with fail
            have wq1 := WQ1.out
            have wq2 := WQ2.out
            have wq3 : 0 ≤ (q : Int) := by omega
            have wq4 : (q : Int) < l.length := by omega
            have wq5 : (q : Int).toNat = q := by omega
            refine wp_region_still_tail 19 (by kernel_rfl) (by kernel_rfl) ?_
            simp only [List.take_succ_cons, List.take_zero, List.drop_succ_cons, List.drop_zero]
            change wpStill Try.prog _ (World.drew _) _ _ _
            rw [← HW.out]
            repeat still_step
            refine wpStill_nil ?_
            change wpList _ _ _ _ _ (World.drew _)
            rw [← HW.out]
            clear wq1 wq2 wq3 wq4 wq5
            have hsb := set_any hTd.B t.id t.n (by have := hfd.size; omega) (by omega) (by omega) hlb
            have HSB := Lib.hid hsb
            clear hsb y1 y2
            go_wp2_with fail
            refine HSB.out.mono ?_
            rintro e w5 ⟨rfl, m5, vb', lb', hB', hvb', hb1, hb2⟩
            have hT5 := (hTd.symm.step m5 hB' hvb').symm
            have f5 := fresh_then hfd m5 hTd.B.own
            have hE : ∀ u ∈ l.drop (l.length - k), u.id ≠ t.id := by
              intro u hu
              obtain ⟨j, hj, rfl⟩ := List.getElem_of_mem hu
              have hj' : l.length - k + j < l.length := by simp at hj; omega
              rw [List.getElem_drop, HTt.out]
              exact HA.out (l.length - k + j) (l.length - 1 - k) hj' (by omega) (by omega) hj'
            have vb2 := valid_step PB.out sb (by simp; omega) hE hb1 hb2
            have pb2 : lb'.Perm (valid (l.drop (l.length - (k + 1)))) := vb2.1.trans (by rw [HTt.out, drop_cons hlt])
            have PB2 := Lib.hid pb2
            have sb2 := vb2.2
            clear hE vb2 pb2 hb1 hb2 m5 hB' hvb' hTd hfd HSB sb PB hlb HW
            go_wp2_with fail
            go_roundw
            case rel => exact ⟨k + 1, by omega, by go_num, ⟨va', vb', la', lb', hT5, PA2.out, sa2, PB2.out, sb2⟩, f5⟩
            case measure => simp [intOf]; omega
          · obtain rfl : k = l.length := by omega
            have e1 := PA.out
            have e2 := PB.out
            rw [List.take_length] at e1
            rw [Nat.sub_self, List.drop_zero] at e2
            obtain rfl : la = lb := sorted_unique (e1.trans e2.symm) sa sb
            have hbd : ∀ a ∈ la, 0 ≤ a.1 ∧ a.1 ≤ 1099511627776 := fun a ha => valid_bounds (e1.mem_iff.1 ha)
            clear e1 e2 PA PB sa sb hlt hlb hk HA HT
            have hq0 : 0 ≤ (if tickErr 0 n = 0 then 0 + n else 0) ∧ (if tickErr 0 n = 0 then 0 + n else 0) ≤ 1099511627776 := by
              unfold tickErr; repeat' split
              all_goals omega
            have hta := tick_any hT.A n (by omega) (by omega)
            have htb := fun w (h : Two w W.heap.size W.heap.size b va vb (if tickErr 0 n = 0 then 0 + n else 0) 0 la la) => tick_any (w := w) h.symm.A n (by omega) (by omega)
            have hA := hT.A.own
            generalize tickErr 0 n = q at *
            have HTA := Lib.hid hta
            have HTB := Lib.hid htb
            clear hta htb
            go_wp2_with fail
            refine HTA.out.mono ?_
            rintro e w3 ⟨rfl, m3, hc3⟩
            have hT3 := hT.step (m3.mono (fun k _ e => .inl e)) hc3 (fun k hk => .inl hk)
            have f3 := fresh_then hf1 m3 (fun k e => hA k (.inl e))
            clear hT m3 hc3 hf1 HTA hA
            go_wp2_with fail
            refine (HTB.out _ hT3).mono ?_
            rintro e w4 ⟨rfl, m4, hc4⟩
            have hT4 := (hT3.symm.step (m4.mono (fun k _ e => .inl e)) hc4 (fun k hk => .inl hk)).symm
            have f4 := fresh_then f3 m4 (fun k e => hT3.B.own k (.inl e))
            clear hT3 m4 hc4 f3 HTB
            obtain ⟨q0, q1⟩ := hq0
            generalize (if q = 0 then 0 + n else 0) = now at *
            have hna := next_any hT4.A q0 q1 hbd
            have HNA := Lib.hid hna
            have hbd' := Lib.hid hbd
            clear hna hbd
            go_wp2_with fail
            refine HNA.out.mono ?_
            rintro e w5 ⟨m5, hN5⟩
            have hT5 := hT4.fresh m5
            have f5 := f4.trans m5
            obtain ⟨x, p, he5, hx5⟩ : ∃ x p, e = .returned (.tuple #[.int .i64 x, .bool p]) ∧ ((la = [] ∧ x = 0 ∧ p = false) ∨ ∃ a r, la = a :: r ∧ x = leftOf now a.1 ∧ p = true) := by
              rcases hN5 with ⟨h1, h2⟩ | ⟨a, r, h1, h2⟩
              · exact ⟨_, _, h2, .inl ⟨h1, rfl, rfl⟩⟩
              · exact ⟨_, _, h2, .inr ⟨a, r, h1, rfl, rfl⟩⟩
            subst he5
            have HX5 := Lib.hid hx5
            clear hN5 m5 hT4 f4 HNA hx5
            have hnb := next_any hT5.B q0 q1 hbd'.out
            have HNB := Lib.hid hnb
            clear hnb
            go_wp2_with fail
            refine HNB.out.mono ?_
            rintro e w6 ⟨m6, hN6⟩
            have hT6 := hT5.fresh m6
            have f6 := f5.trans m6
            have he6 : e = .returned (.tuple #[.int .i64 x, .bool p]) := by
              rcases HX5.out with ⟨g1, g2, g3⟩ | ⟨a, r, g1, g2, g3⟩ <;> rcases hN6 with ⟨h1, h2⟩ | ⟨a', r', h1, h2⟩
              · rw [h2, g2, g3]
              · rw [g1] at h1; cases h1
              · rw [g1] at h1; cases h1
              · rw [g1] at h1
                simp at h1
                rw [h2, g2, g3, ← h1.1]
            subst he6
            clear hN6 m6 hT5 f5 HNB HX5
            have hda := due_any hT6.A hla
            have HDA := Lib.hid hda
            clear hda
            go_wp2_with fail
            refine HDA.out.mono ?_
            rintro e w7 ⟨v7, rfl, hr7, m7⟩
            have hT7 := hT6.fresh m7
            have f7 := f6.trans m7
            obtain ⟨a7, n7, c7, rfl⟩ := hr7.sl
            clear m7 hT6 f6 HDA
            have hdb := due_any hT7.B hla
            have HDB := Lib.hid hdb
            have HR := Lib.hid hr7
            clear hdb hr7
            go_wp2_with fail
            refine HDB.out.mono ?_
            rintro e w8 ⟨v8, rfl, hr8, m8⟩
            have f8 := f7.trans m8
            obtain ⟨a8, n8, c8, rfl⟩ := hr8.sl
            have hq := ints_eq (HR.out.reads.mod m8 (fun _ _ f => f)) hr8.reads
            rw [decide_eq_true rfl] at hq
            have HQ := Lib.hid hq
            clear hq m8 hr8 HR hT7 f7 HDB
            go_wp2_with fail
            refine HQ.out.mono ?_
            rintro e w9 ⟨rfl, m9⟩
            have f9 := f8.trans m9
            clear m9 f8 HQ
            go_wp2_with fail
            refine (two _).mono ?_
            rintro e w10 ⟨rfl, m10⟩
            go_wp2_with fail
            go_ret
            exact ⟨rfl, f9.trans m10⟩
end Go.Proofs.Ytfbnlniabfiifaa
