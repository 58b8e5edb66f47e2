/-
  ClockSteps: the walk: the clock and the reference answer alike behind each step.
-/
import Derived.Test.YtfbnlniabfiifaaClkSp
import Derived.StillTailTactics
import Derived.Deep.DeepCutAuto
namespace Go.Proofs.Ytfbnlniabfiifaa
open Go.RowKit Go.Lib
set_option linter.unusedVariables false
set_option linter.unusedSimpArgs false

/-- What the clock's Left and the reference's At and Left say, in one. -/
def LeftSays (now : Int) (r : List Al) (x i : Int) (t : Bool) : Prop := (t = false ∧ x = 0 ∧ i = -1) ∨ (t = true ∧ ∃ k : Nat, ∃ hk : k < r.length, i = k ∧ x = leftOf now r[k].1)
def LeftR (w : World) (now : Int) (l r : List Al) (id : Int) (e : Ending) (w' : World) : Prop := ∃ x t, e = .returned (.tuple #[.int .i64 x, .bool t]) ∧ LeftSays now r x (idx r id) t ∧ Fresh w w'
theorem left_says {w w' : World} {now : Int} {l r : List Al} (h : Inv now l r) (id : Int) {e : Ending} (hp : LeftPost w now l id e w') : LeftR w now l r id e w' := by
  obtain ⟨m, hp⟩ := hp
  rcases hp with ⟨h1, h2, rfl⟩ | ⟨a, ha, hid, rfl⟩
  · refine ⟨0, false, rfl, .inl ⟨rfl, rfl, ?_⟩, m⟩
    rcases inv_left h id with ⟨e, _⟩ | ⟨k, hk, e, hh⟩
    · exact e
    · have := (h.idx id).1 (by omega); omega
  · refine ⟨_, true, rfl, .inr ⟨rfl, ?_⟩, m⟩
    rcases inv_left h id with ⟨e, hno⟩ | ⟨k, hk, e, hh⟩
    · exact absurd hid (hno a ha)
    · exact ⟨k, hk, e, by rw [hh a ha hid]⟩
def NextSays (n at_ : Int) (t : Bool) : Prop := (t = false ∧ at_ = 0 ∧ n = -1) ∨ (t = true ∧ at_ = n ∧ 0 ≤ n)
def NextR (w : World) (n : Int) (e : Ending) (w' : World) : Prop := ∃ x t, e = .returned (.tuple #[.int .i64 x, .bool t]) ∧ NextSays n x t ∧ Fresh w w'
theorem next_says {w w' : World} {now : Int} {l r : List Al} (h : Inv now l r) {e : Ending} (hp : NextPost w now l e w') : NextR w (nextOf now r) e w' := by
  obtain ⟨m, hp⟩ := hp
  rcases h.next with ⟨h1, h2⟩ | ⟨a, q, h1, h2⟩
  · rcases hp with ⟨_, rfl⟩ | ⟨a, q, h1', _⟩
    · exact ⟨0, false, rfl, .inl ⟨rfl, rfl, h2⟩, m⟩
    · rw [h1] at h1'; cases h1'
  · rcases hp with ⟨h1', _⟩ | ⟨a', q', h1', rfl⟩
    · rw [h1] at h1'; cases h1'
    · rw [h1] at h1'
      simp only [List.cons.injEq] at h1'
      obtain ⟨rfl, rfl⟩ := h1'
      exact ⟨_, true, rfl, .inr ⟨rfl, h2.symm, by rw [h2]; exact left_nonneg _ _⟩, m⟩
/-- A slice of ints, to be read. -/
def Reads (w : World) (A : Option Addr) (l : List Int) : Prop := ∀ j (hj : j < l.length), ∃ g, A = some ⟨g, 0, none⟩ ∧ g < w.heap.size ∧ w.cell? ⟨g, j, none⟩ = some (.int .i64 l[j])
def DueR (w : World) (l : List Int) (e : Ending) (w' : World) : Prop := ∃ A c, e = .returned (.slice A l.length c) ∧ l.length ≤ c ∧ c ≤ 9223372036854775807 ∧ Reads w' A l ∧ Fresh w w'
theorem due_says {w w' : World} {now : Int} {l : List Al} {e : Ending} (hp : DuePost w now l e w') : DueR w (dueOf now l) e w' := by
  obtain ⟨v, rfl, hr, m⟩ := hp
  have hr0 := hr
  rcases hr.2 with ⟨rfl, h0⟩ | ⟨g, cap, cur, rfl, hb, hh, hc, hm, _⟩
  · exact ⟨none, 0, by rw [h0], by omega, by omega, fun j hj => by omega, m⟩
  · exact ⟨_, cap, rfl, hc, by unfold maxLen at hm; omega, fun j hj => ⟨g, rfl, lt_blk hh, hr0.cells j hj⟩, m⟩

set_option maxRecDepth 100000 in
set_option maxHeartbeats 4000000 in
theorem steps_any (W : World) {v : Value} {l : List Stp} {id : Int} (hs : SliceIn W 3 StpCells v l) (wf : (Lit.int .i64 id).wf = true) : Calls Try.prog 6 #[v, .int .i64 id] W (BoolPost W true) := by
  have hb := i64_bounds wf
  have hlen := hs.form.1
  have ht0 := hs
  obtain ⟨A, c, hv, hlc, hcm⟩ := hs.form.2
  clear hs
  subst hv
  have HT := Lib.hid ht0
  clear ht0
  have two := two_any
  by_cases hg : 150 < l.length
  · go_enter Try.func6, Try.ntmps6
    go_wp2_with fail
    refine (new_any _).mono ?_
    rintro e w1 ⟨rfl, m1, hc1⟩
    clear hc1
    go_wp2_with fail
    refine (two _).mono ?_
    rintro e w3 ⟨rfl, m3⟩
    go_wp2_with fail
    go_ret
    exact ⟨rfl, m1.trans m3⟩
  · go_enter Try.func6, Try.ntmps6
    go_wp2_with fail
    refine (new_any _).mono ?_
    rintro e w1 ⟨rfl, m1, hc1⟩
    go_wp2_with fail
    obtain ⟨w2, hw2⟩ : ∃ w2, w2 = w1.alloc (.cells #[.int .i64 0, .slice none 0 0] 43) := ⟨_, rfl⟩
    rw [← hw2]
    have m2 : Fresh w1 w2 := by rw [hw2]; exact (Mod.refl _ w1).alloc _
    have hB : Both w2 W.heap.size W.heap.size w1.heap.size (.slice none 0 0) (.slice none 0 0) 0 [] [] :=
      ⟨hc1.fresh m2, ⟨m1.size, by rw [hw2]; exact heap_alloc_new w1 _, World.ownsRow_nil _ _ _ _⟩, ⟨List.Perm.nil, List.Pairwise.nil, List.nodup_nil, by simp, by omega, by omega, by simp⟩⟩
    have f2 := m1.trans m2
    clear hc1 m2 m1 hw2
    generalize w1.heap.size = b at *
    go_loopw [37] (fun i wr => ∃ k : Nat, k ≤ l.length ∧ i = .int .i64 k ∧ (∃ va vb now la lr, Both wr W.heap.size W.heap.size b va vb now la lr) ∧ Fresh W wr) (fun i _ => l.length - (intOf i).toNat)
    case atStart => exact ⟨0, by omega, rfl, ⟨_, _, _, _, _, hB⟩, f2⟩
    case round =>
      obtain ⟨k, hk, rfl, ⟨va, vb, now, la, lr, hBo⟩, hf⟩ := hrel
      obtain ⟨wo, rfl⟩ : ∃ wo : World, wo = wr := ⟨_, rfl⟩
      clear hB f2
      by_cases hlt : k < l.length
      · obtain ⟨g, o, rfl, hg, c0, c1, c2, i0, i1, i2⟩ := HT.out.stpAt k hlt
        have d0 := hf.cell c0 (fun f => f)
        have d1 := hf.cell c1 (fun f => f)
        have d2 := hf.cell c2 (fun f => f)
        clear c0 c1 c2
        obtain ⟨s, hs⟩ : ∃ s, s = l[k] := ⟨_, rfl⟩
        rw [← hs] at d0 d1 d2 i0 i1 i2
        clear hs
        have HI := Lib.hid (And.intro i1 i2)
        clear i0 i1 i2
        have HBo := Lib.hid hBo
        clear hBo
        go_upto_region 8 with (fail)
        obtain ⟨w1, hw1⟩ : ∃ w1, w1 = wo.alloc (.cells #[.int .i64 s.what, .int .i64 s.id, .int .i64 s.n] 33) := ⟨_, rfl⟩
        rw [← hw1]
        have m1 : Fresh wo w1 := by rw [hw1]; exact (Mod.refl _ wo).alloc _
        have y0 : w1.cell? ⟨wo.heap.size, 0, none⟩ = some (.int .i64 s.what) := by rw [hw1, cell_blk (heap_alloc_new wo _)]; rfl
        have y1 : w1.cell? ⟨wo.heap.size, 1, none⟩ = some (.int .i64 s.id) := by rw [hw1, cell_blk (heap_alloc_new wo _)]; rfl
        have y2 : w1.cell? ⟨wo.heap.size, 2, none⟩ = some (.int .i64 s.n) := by rw [hw1, cell_blk (heap_alloc_new wo _)]; rfl
        have M1 := Lib.hid m1
        clear m1 hw1 d0 d1 d2
        go_cut [54] (fun s54 wx => s54 = .bool false ∧ (∃ va vb now la lr, Both wx W.heap.size W.heap.size b va vb now la lr) ∧ Fresh W wx)
        case first =>
          have hdo := does_any (HBo.out.fresh M1.out.drew) s.what s.id s.n HI.out.1 HI.out.2 (by have := hf.size; have := M1.out.size; simp; omega)
          have HD := Lib.hid hdo
          clear hdo
          go_region_with (first | (go_at_call 16; refine HD.out.mono ?_; rintro e w3 ⟨rfl, m3, va', vb', now', la', lr', hB3⟩; have r0 := hB3.R.now; have q0 := hB3.A.now; have HB3 := Lib.hid hB3; have M3 := Lib.hid m3; clear hB3 m3) | (go_at_call 17; refine (now_any W.heap.size now' _ q0).mono ?_; rintro e w4 ⟨rfl, rfl⟩))
          all_goals (go_wp2_with fail; go_meet)
          all_goals exact ⟨rfl, ⟨_, _, _, _, _, HB3.out⟩, fresh_then (hf.trans M1.out).drew M3.out (fun _ h => h)⟩
        case rest =>
          obtain ⟨rfl, ⟨va1, vb1, now1, la1, lr1, hB1⟩, hf1⟩ := hcut
          clear hf HBo HI M1 y0 y1 y2
          obtain ⟨wa, rfl⟩ : ∃ wa : World, wa = wc := ⟨_, rfl⟩
          have hI := hB1.I
          have hleft := (left_any hB1.A id hI.n0 hI.n1 hI.at_).mono (fun e w' hp => left_says hI id hp)
          have HL := Lib.hid hleft
          have hat : ∀ ws, Fresh wa ws → Calls Try.prog 18 #[.pointer (some ⟨b, 0, none⟩), .int .i64 id] ws (fun e w' => e = .returned (.int .i64 (idx lr1 id)) ∧ Fresh ws w') := fun ws m => at_any (hB1.R.fresh m) id
          have HAT := Lib.hid hat
          have HB := Lib.hid hB1
          have HI := Lib.hid hI
          have n0 := hI.n0
          have n1 := hI.n1
          have hll := hI.len
          have hrl := hI.rlen
          clear hleft hat hB1 hI
          go_upto_region 12 with (first | (go_at_call 15; refine HL.out.mono ?_; rintro e w2 ⟨x, t, rfl, hx, m2⟩; have HX := Lib.hid hx; clear hx) | (go_at_call 18; refine (HAT.out _ m2).mono ?_; rintro e w3 ⟨rfl, m3⟩))
          have hx := HX.out
          clear HX HL HAT
          generalize idx lr1 id = iv at *
          have HX := Lib.hid hx
          clear hx
          have m23 := m2.trans m3
          clear m2 m3
          go_cut [85] (fun s wx => s = .bool false ∧ Fresh w3 wx)
          case first =>
            rcases HX.out with ⟨rfl, rfl, rfl⟩ | ⟨rfl, kk, hkk, rfl, rfl⟩
            · go_wp2_with fail
              go_meet
              exact ⟨rfl, Mod.refl _ _⟩
            · have hlf := rleft_any (HB.out.R.fresh m23) kk hkk n0 n1 (HI.out.rat kk hkk).1 (HI.out.rat kk hkk).2
              have HLF := Lib.hid hlf
              have hkp : (0 : Int) ≤ kk := by omega
              clear hlf
              go_wp2_with (go_at_call 19; refine HLF.out.mono ?_; rintro e w4 ⟨rfl, m4⟩)
              go_meet
              exact ⟨rfl, m4⟩
          case rest =>
            obtain ⟨rfl, m4⟩ := hcut
            obtain ⟨wb, rfl⟩ : ∃ wb : World, wb = wc := ⟨_, rfl⟩
            have mab := m23.trans m4
            clear m23 m4 HX
            have fb := hf1.trans mab
            have hBb := HB.out.fresh mab
            clear hf1 HB mab
            have hdue := (due_any hBb.A hll).mono (fun e w' hp => due_says hp)
            have HDU := Lib.hid hdue
            have hdl := HI.out.due
            have hrk := fun (a : Al) (ha : a ∈ lr1) (hd : a.1 ≤ now1) => HI.out.rank ha hd
            obtain ⟨D, hD⟩ : ∃ D, D = dueOf now1 la1 := ⟨_, rfl⟩
            have hDl : D.length ≤ 64 := by
              have := due_le now1 la1 la1.length
              rw [List.take_length] at this
              rw [hD]; omega
            rw [← hD] at hdl HDU
            have HRK : Hid (∀ a ∈ lr1, a.1 ≤ now1 → ∃ hl : rankOf lr1 a < D.length, D[rankOf lr1 a] = a.2) := by subst hD; exact hrk
            have HDL := Lib.hid hdl
            obtain ⟨vA, vc, hvv, hvc, hvm, hvg⟩ := hBb.R.row.form
            subst hvv
            have HVG := Lib.hid hvg
            have HBb := Lib.hid hBb
            clear hdue hD hdl hrk hvg hBb
            go_wp2_with (go_at_call 12; refine HDU.out.mono ?_; rintro e w6 ⟨dA, dc, rfl, hdc1, hdc2, hrd, m6⟩; have HRD := Lib.hid hrd; have bv := (HBb.out.R.fresh m6).val; clear hrd)
            have f6 := fb.trans m6
            have hB6 := HBb.out.fresh m6
            have bn := hB6.R.now
            have bsz := lt_blk hB6.R.blk
            have BN := Lib.hid bn
            have HB6 := Lib.hid hB6
            clear fb m6 HBb HDU hB6
            go_loopw [13, 14, 93] (fun cn nx i ws => ∃ j : Nat, j ≤ lr1.length ∧ i = .int .i64 j ∧ cn = .int .i64 ((dueOf now1 (lr1.take j)).length : Nat) ∧ nx = .int .i64 (nextOf now1 (lr1.take j)) ∧ Fresh w6 ws) (fun _ _ i _ => lr1.length - (intOf i).toNat)
            case atStart => exact ⟨0, by omega, rfl, rfl, rfl, Mod.refl _ _⟩
            case round =>
              obtain ⟨j, hj, rfl, rfl, rfl, hs⟩ := hrel
              clear bv bn
              by_cases hjl : j < lr1.length
              · obtain ⟨gr, rfl, hgB, hgs⟩ := HVG.out (by omega)
                have hro := (HB6.out.R.fresh hs).row
                obtain ⟨e0, e1⟩ := hro.cells j hjl
                have hl0 := HI.out.rat j hjl
                have hrk := HRK.out lr1[j] (List.getElem_mem hjl)
                have hds := due_succ now1 lr1 j hjl
                have hns := next_succ now1 lr1 j hjl
                have hrr : ∀ ws, Fresh w6 ws → Calls Try.prog 20 #[.pointer (some ⟨b, 0, none⟩), .int .i64 j] ws (fun e w' => e = .returned (.int .i64 (rankOf lr1 lr1[j] : Nat)) ∧ Fresh ws w') := fun ws m => rank_any (HB6.out.R.fresh m) j hjl
                have hrf : ∀ ws, Fresh w6 ws → Calls Try.prog 19 #[.pointer (some ⟨b, 0, none⟩), .int .i64 j] ws (fun e w' => e = .returned (.int .i64 (leftOf now1 lr1[j].1)) ∧ Fresh ws w') := fun ws m => rleft_any (HB6.out.R.fresh m) j hjl n0 n1 hl0.1 hl0.2
                have hlp := left_nonneg now1 lr1[j].1
                generalize lr1[j] = a at *
                obtain ⟨aa, ai⟩ := a
                simp only at e0 e1 hl0 hrk hds hns hrf hlp
                generalize rankOf lr1 (aa, ai) = rk at *
                generalize leftOf now1 aa = lf at *
                generalize hN2 : nextOf now1 (lr1.take (j + 1)) = nx' at *
                generalize nextOf now1 (lr1.take j) = nx at *
                have hdj := due_le now1 lr1 j
                generalize hD2 : dueOf now1 (lr1.take (j + 1)) = D2 at *
                generalize dueOf now1 (lr1.take j) = D1 at *
                have HE := Lib.hid (And.intro hN2 hD2)
                have HDS := Lib.hid hds
                have HNS := Lib.hid hns
                have HRR := Lib.hid hrr
                have HRF := Lib.hid hrf
                have HRK1 := Lib.hid hrk
                have HRO := Lib.hid hro
                clear hN2 hD2 hds hns hrr hrf hrk hro hl0
                go_upto_region 20 with (fail)
                obtain ⟨ws, hws⟩ : ∃ ws, ws = wr.alloc (.cells #[.int .i64 ai, .int .i64 aa] 48) := ⟨_, rfl⟩
                rw [← hws]
                have ms : Fresh wr ws := by rw [hws]; exact (Mod.refl _ wr).alloc _
                have z0 : ws.cell? ⟨wr.heap.size, 0, none⟩ = some (.int .i64 ai) := by rw [hws, cell_blk (heap_alloc_new wr _)]; rfl
                have z1 : ws.cell? ⟨wr.heap.size, 1, none⟩ = some (.int .i64 aa) := by rw [hws, cell_blk (heap_alloc_new wr _)]; rfl
                have ms6 := hs.trans ms
                have zn := ms6.cell BN.out (fun f => f)
                clear ms hws hs e0 e1
                go_quiet (fail)
                go_upto_if 104 with (fail)
                go_cut [13] (fun cn wx => cn = .int .i64 (D2.length : Nat) ∧ Fresh w6 wx)
                case first =>
                  clear zn
                  by_cases hd : aa ≤ now1
                  · have hdd : decide (aa ≤ now1) = true := by simpa using hd
                    obtain ⟨hr1, hr2⟩ := HRK1.out hd
                    obtain ⟨gd, rfl, hgd, hrc⟩ := HRD.out rk hr1
                    rw [hr2] at hrc
                    have hD2 := HDS.out
                    rw [if_pos hd] at hD2
                    have hL2 : (D2.length : Int) = (D1.length : Int) + 1 := by rw [hD2, List.length_append]; simp
                    have HL2 := Lib.hid hL2
                    have rk0 : (0 : Int) ≤ rk := by omega
                    have rk1 : (rk : Int) < D.length := by omega
                    have rk2 : decide ((D.length : Int) ≤ rk) = false := by simp; omega
                    have rk3 : decide (D.length ≤ rk) = false := by simp; omega
                    have rk4 : D.length ≤ rk ↔ False := ⟨fun hh => by omega, fun hh => hh.elim⟩
                    have rk5 : rk < D.length := by omega
                    have hrc6 := ms6.cell hrc (fun f => f)
                    clear hD2 hL2 hr1 hr2 hdd hrc
                    go_upto_region 22 with (go_at_call 20; refine (HRR.out _ (ms6.drewN _)).mono ?_; rintro e wt ⟨rfl, mt⟩; have z0' := mt.cell (p := ⟨wr.heap.size, 0, none⟩) (v := .int .i64 ai) z0 (fun f => f); have hrc' := mt.cell (p := ⟨gd, rk, none⟩) (v := .int .i64 ai) hrc6 (fun f => f); clear z0 z1 hrc6)
                    go_quiet (fail)
                    go_wp2_with fail
                    go_meet
                    exact ⟨by rw [HL2.out], ((ms6.drewN _).trans mt).drewN _⟩
                  · have hdd : decide (aa ≤ now1) = false := by simpa using hd
                    have hD2 := HDS.out
                    rw [if_neg hd, List.append_nil] at hD2
                    subst hD2
                    go_wp2_with fail
                    go_meet
                    exact ⟨rfl, ms6.drewN _⟩
                case rest =>
                  obtain ⟨rfl, mc⟩ := hcut
                  obtain ⟨wy, rfl⟩ : ∃ wy : World, wy = wc := ⟨_, rfl⟩
                  clear z0 z1 zn ms6 HDS HRR HRK1
                  have hns := HNS.out
                  by_cases hn1 : nx < 0
                  · have t1 : decide (nx < 0) = true := by simpa using hn1
                    rw [if_pos (.inl hn1)] at hns
                    subst hns
                    clear hn1 HNS
                    go_wp2_with (go_at_call 19; refine (HRF.out _ mc).mono ?_; rintro e wz ⟨rfl, mz⟩)
                    go_roundw
                    case rel => exact ⟨j + 1, by omega, by go_num, by rw [HE.out.2], by rw [HE.out.1], mc.trans mz⟩
                    case measure => simp [intOf]; omega
                  · have t1 : decide (nx < 0) = false := by simpa using hn1
                    by_cases hn2 : lf < nx
                    · have t2 : decide (lf < nx) = true := by simpa using hn2
                      rw [if_pos (.inr hn2)] at hns
                      subst hns
                      clear hn1 hn2 HNS
                      go_wp2_with (first | (go_at_call 19; refine (HRF.out _ mc).mono ?_; rintro e wz ⟨rfl, mz⟩; have mc2 := mc.trans mz; clear mc) | (go_at_call 19; refine (HRF.out _ mc2).mono ?_; rintro e wz2 ⟨rfl, mz2⟩))
                      go_roundw
                      case rel => exact ⟨j + 1, by omega, by go_num, by rw [HE.out.2], by rw [HE.out.1], mc2.trans mz2⟩
                      case measure => simp [intOf]; omega
                    · have t2 : decide (lf < nx) = false := by simpa using hn2
                      rw [if_neg (by omega)] at hns
                      subst hns
                      clear hn1 hn2 HNS
                      go_wp2_with (go_at_call 19; refine (HRF.out _ mc).mono ?_; rintro e wz ⟨rfl, mz⟩)
                      go_roundw
                      case rel => exact ⟨j + 1, by omega, by go_num, by rw [HE.out.2], by rw [HE.out.1], mc.trans mz⟩
                      case measure => simp [intOf]; omega
              · obtain rfl : j = lr1.length := by omega
                have hnx := (next_any (HB6.out.A.fresh hs) n0 n1 HI.out.at_).mono (fun e w' hp => next_says HI.out hp)
                have e1 : (dueOf now1 (lr1.take lr1.length)).length = D.length := by rw [List.take_length]; exact HDL.out
                have e2 : nextOf now1 (lr1.take lr1.length) = nextOf now1 lr1 := by rw [List.take_length]
                rw [e1, e2]
                generalize nextOf now1 lr1 = nx at *
                have HNX := Lib.hid hnx
                clear hnx e1 e2
                go_upto_region 29 with (go_at_call 13; refine HNX.out.mono ?_; rintro e w9 ⟨y, t, rfl, hy, m9⟩; have HY := Lib.hid hy; clear hy)
                rcases HY.out with ⟨rfl, rfl, rfl⟩ | ⟨rfl, rfl, hy0⟩
                · clear HY
                  go_wp2_with fail
                  go_roundw
                  case rel => exact ⟨k + 1, by omega, by go_num, ⟨_, _, _, _, _, HB6.out.fresh (hs.trans m9)⟩, (f6.trans hs).trans m9⟩
                  case measure => simp [intOf]; omega
                · clear HY
                  go_wp2_with fail
                  go_roundw
                  case rel => exact ⟨k + 1, by omega, by go_num, ⟨_, _, _, _, _, HB6.out.fresh (hs.trans m9)⟩, (f6.trans hs).trans m9⟩
                  case measure => simp [intOf]; omega
      · obtain rfl : k = l.length := by omega
        go_wp2_with fail
        refine (two _).mono ?_
        rintro e w3 ⟨rfl, m3⟩
        go_wp2_with fail
        go_ret
        exact ⟨rfl, hf.trans m3⟩
end Go.Proofs.Ytfbnlniabfiifaa
