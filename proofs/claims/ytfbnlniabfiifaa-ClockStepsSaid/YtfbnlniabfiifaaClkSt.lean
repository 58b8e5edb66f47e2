/-
  ClockSteps' plain law: the clock's alarms and the reference's, in step.
-/
import Derived.Test.YtfbnlniabfiifaaClkDel
import Derived.Test.YtfbnlniabfiifaaClkRd
import Derived.Test.YtfbnlniabfiifaaClkRk
namespace Go.Proofs.Ytfbnlniabfiifaa
open Go.RowKit Go.Lib
set_option linter.unusedVariables false
set_option linter.unusedSimpArgs false

/-- The two of them say the same. -/
structure Inv (now : Int) (l r : List Al) : Prop where
  perm : l.Perm r
  sorted : SortedAl l
  ids : (l.map Prod.snd).Nodup
  len : l.length ≤ 64
  n0 : 0 ≤ now
  n1 : now ≤ 1099511627776
  at_ : ∀ a ∈ l, 0 ≤ a.1 ∧ a.1 ≤ 1099511627776
theorem Inv.rlen {now : Int} {l r : List Al} (h : Inv now l r) : r.length = l.length := h.perm.length_eq.symm
theorem Inv.idx {now : Int} {l r : List Al} (h : Inv now l r) (id : Int) : idx l id < 0 ↔ idx r id < 0 := by
  rw [idx_neg, idx_neg]
  exact ⟨fun hh a ha => hh a (h.perm.mem_iff.2 ha), fun hh a ha => hh a (h.perm.mem_iff.1 ha)⟩
theorem Inv.setErr {now : Int} {l r : List Al} (h : Inv now l r) (id after : Int) : setErr now r id after = setErr now l id after := by
  have h1 := h.idx id
  have h2 := h.rlen
  unfold Go.Proofs.Ytfbnlniabfiifaa.setErr
  rw [h2]
  by_cases c : 0 ≤ Go.Proofs.Ytfbnlniabfiifaa.idx l id
  · rw [if_pos (c := 0 ≤ Go.Proofs.Ytfbnlniabfiifaa.idx l id) c, if_pos (c := 0 ≤ Go.Proofs.Ytfbnlniabfiifaa.idx r id) (by omega)]
  · rw [if_neg (c := 0 ≤ Go.Proofs.Ytfbnlniabfiifaa.idx l id) c, if_neg (c := 0 ≤ Go.Proofs.Ytfbnlniabfiifaa.idx r id) (by omega)]
theorem Inv.set {now : Int} {l r l' : List Al} (h : Inv now l r) (id after : Int) (h0 : Go.Proofs.Ytfbnlniabfiifaa.setErr now l id after = 0) (hp : l'.Perm ((now + after, id) :: l)) (hs : SortedAl l') : Inv now l' (r ++ [(now + after, id)]) := by
  unfold Go.Proofs.Ytfbnlniabfiifaa.setErr at h0
  split at h0
  · omega
  rename_i c1
  split at h0
  · omega
  rename_i c2
  split at h0
  · omega
  rename_i c3
  split at h0
  · omega
  rename_i c4
  have hno := (idx_neg l id).1 (by omega)
  have := h.n0
  have hlen := h.len
  refine ⟨hp.trans ((h.perm.cons _).trans ?_), hs, ?_, ?_, h.n0, h.n1, ?_⟩
  · exact (List.perm_append_singleton _ _).symm
  · refine (hp.map Prod.snd).nodup_iff.2 ?_
    rw [List.map_cons, List.nodup_cons]
    refine ⟨?_, h.ids⟩
    intro hm
    obtain ⟨a, ha, e⟩ := List.mem_map.1 hm
    exact hno a ha e
  · rw [hp.length_eq, List.length_cons]; omega
  · intro a ha
    rcases List.mem_cons.1 (hp.mem_iff.1 ha) with rfl | ha
    · show 0 ≤ now + after ∧ now + after ≤ 1099511627776
      omega
    · exact h.at_ a ha
theorem Inv.tick {now : Int} {l r : List Al} (h : Inv now l r) (n : Int) : Inv (if tickErr now n = 0 then now + n else now) l r := by
  have h0 := h.n0
  have h1 := h.n1
  by_cases c : tickErr now n = 0
  · rw [if_pos c]
    unfold tickErr at c
    split at c
    · omega
    split at c
    · omega
    exact ⟨h.perm, h.sorted, h.ids, h.len, by omega, by omega, h.at_⟩
  · rw [if_neg c]; exact h
theorem id_inj {l : List Al} (h : (l.map Prod.snd).Nodup) {a b : Al} (ha : a ∈ l) (hb : b ∈ l) (e : a.2 = b.2) : a = b := by
  induction l with
  | nil => simp at ha
  | cons x l ih =>
    rw [List.map_cons, List.nodup_cons] at h
    rcases List.mem_cons.1 ha with ea | ha'
    · rcases List.mem_cons.1 hb with eb | hb'
      · rw [ea, eb]
      · subst ea
        exact absurd (List.mem_map.2 ⟨b, hb', e.symm⟩) h.1
    · rcases List.mem_cons.1 hb with eb | hb'
      · subst eb
        exact absurd (List.mem_map.2 ⟨a, ha', e⟩) h.1
      · exact ih h.2 ha' hb'
theorem take_drop_perm (l : List Al) (k : Nat) (hk : k < l.length) : l.Perm (l[k] :: (l.take k ++ l.drop (k + 1))) := by
  have e : l = l.take k ++ l[k] :: l.drop (k + 1) := by rw [← List.drop_eq_getElem_cons hk, List.take_append_drop]
  exact (List.Perm.of_eq e).trans List.perm_middle
theorem take_drop_sub (l : List Al) (k : Nat) (hk : k < l.length) : List.Sublist (l.take k ++ l.drop (k + 1)) l := by
  have e : l = l.take k ++ l[k] :: l.drop (k + 1) := by rw [← List.drop_eq_getElem_cons hk, List.take_append_drop]
  have := (List.Sublist.refl (l.take k)).append (List.sublist_cons_self l[k] (l.drop (k + 1)))
  rwa [← e] at this
theorem Inv.drop {now : Int} {l r : List Al} (h : Inv now l r) (id : Int) :
    Inv now (if Go.Proofs.Ytfbnlniabfiifaa.idx l id < 0 then l else l.take (Go.Proofs.Ytfbnlniabfiifaa.idx l id).toNat ++ l.drop ((Go.Proofs.Ytfbnlniabfiifaa.idx l id).toNat + 1)) (if Go.Proofs.Ytfbnlniabfiifaa.idx r id < 0 then r else r.take (Go.Proofs.Ytfbnlniabfiifaa.idx r id).toNat ++ r.drop ((Go.Proofs.Ytfbnlniabfiifaa.idx r id).toNat + 1)) := by
  have hi := h.idx id
  by_cases c : Go.Proofs.Ytfbnlniabfiifaa.idx l id < 0
  · rw [if_pos c, if_pos (hi.1 c)]; exact h
  · rw [if_neg c, if_neg (fun c' => c (hi.2 c'))]
    rcases idx_spec l id with ⟨e, _⟩ | ⟨k, hk, e, hid⟩
    · omega
    rcases idx_spec r id with ⟨e', _⟩ | ⟨j, hj, e', hjd⟩
    · omega
    rw [e, e']
    have hs := take_drop_sub l k hk
    have hx : l[k] = r[j] := id_inj h.ids (List.getElem_mem hk) (h.perm.mem_iff.2 (List.getElem_mem hj)) (hid.trans hjd.symm)
    have hp := (take_drop_perm l k hk).symm.trans (h.perm.trans (take_drop_perm r j hj))
    rw [hx] at hp
    exact ⟨hp.cons_inv, h.sorted.sublist hs, h.ids.sublist (hs.map _), Nat.le_trans hs.length_le h.len, h.n0, h.n1, fun a ha => h.at_ a (hs.subset ha)⟩
end Go.Proofs.Ytfbnlniabfiifaa
