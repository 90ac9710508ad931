/- A run of four validators: what stays true of its form. -/
import Derived.Test.YtckhcmdjgkoocaaRulesQ
namespace Go.Proofs.Ytckhcmdjgkoocaa
open Go.RowKit Go.Sx
set_option linter.unusedVariables false
set_option linter.unusedSimpArgs false
theorem bk_set (L : List Bk) (b k i : Nat) : bk (setVote L b k) i = if i = b ∧ b < L.length then { bk L b with votes := fun j => if j = k then true else (bk L b).votes j } else bk L i := by
  unfold setVote bk
  by_cases h : i = b
  · subst h
    by_cases hl : i < L.length
    · simp [hl]
    · simp [hl]
  · simp [h, Ne.symm h, List.getElem?_set]
theorem up_set (L : List Bk) (b k i : Nat) : (bk (setVote L b k) i).up = (bk L i).up := by
  rw [bk_set]; split
  · rename_i h; rw [h.1]
  · rfl
theorem view_set (L : List Bk) (b k i : Nat) : (bk (setVote L b k) i).view = (bk L i).view := by
  rw [bk_set]; split
  · rename_i h; rw [h.1]
  · rfl
theorem wf_set {L : List Bk} (h : Wf L) (b k : Nat) : Wf (setVote L b k) := by
  refine ⟨by rw [setVote_len]; exact h.1, by rw [up_set]; exact h.2.1, fun i hi h0 => ?_⟩
  rw [up_set]
  exact h.2.2 i (by rw [setVote_len] at hi; exact hi) h0
theorem Lk.voteS {r : Run} {cap : Nat} {rest : List Value} (hr : r.ok cap rest) {s : Safe} (hs : Lk s.d) {b : Nat} (hb : b < r.n) : Lk (voteS r s b).1.d := by
  have hg := hr.up_in (hr.up_in hb)
  have hm := hr.small
  by_cases h : 0 < (bk r.L b).up
  · rw [voteS_up h]; exact lk_vote (lk_see hs (by omega))
  · rw [voteS_no h]; exact lk_vote hs
theorem getS_lk {r : Run} {cap : Nat} {rest : List Value} (hr : r.ok cap rest) (who : Nat) : Lk (getS r who).d := by
  unfold getS; split
  · exact hr.l0
  · split
    · exact hr.l1
    · exact hr.l2
theorem setS_ok {r : Run} {cap : Nat} {rest : List Value} (hr : r.ok cap rest) (who : Nat) {s : Safe} (hs : Lk s.d) : (setS r who s).ok cap rest := by
  obtain ⟨a1, a2, a3, a4, a5, a6, a7, a8, a9⟩ := hr
  unfold setS; split
  · exact ⟨a1, a2, a3, a4, a5, hs, a7, a8, a9⟩
  · split
    · exact ⟨a1, a2, a3, a4, a5, a6, hs, a8, a9⟩
    · exact ⟨a1, a2, a3, a4, a5, a6, a7, hs, a9⟩
theorem setL_ok {r : Run} {cap : Nat} {rest : List Value} (hr : r.ok cap rest) {L : List Bk} (hw : Wf L) (hl : L.length = r.L.length) : Run.ok { r with L := L } cap rest := by
  obtain ⟨a1, a2, a3, a4, a5, a6, a7, a8, a9⟩ := hr
  exact ⟨hw, hl.trans a2, a3, a4, a5, a6, a7, a8, a9⟩
theorem setS_L (r : Run) (who : Nat) (s : Safe) : (setS r who s).L = r.L := by unfold setS; (repeat' split) <;> rfl
theorem voteR_ok {r : Run} {cap : Nat} {rest : List Value} (hr : r.ok cap rest) {who b : Nat} (hb : b < r.n) : (voteR r who b).ok cap rest := by
  unfold voteR
  split
  · exact setL_ok hr (wf_set hr.wf _ _) (setVote_len _ _ _)
  · have hs := setS_ok hr who (Lk.voteS hr (getS_lk hr who) hb)
    split
    · exact setL_ok hs (wf_set hr.wf _ _) (by rw [setVote_len, setS_L])
    · exact hs
theorem bk_push (L : List Bk) (x : Bk) (i : Nat) : bk (L ++ [x]) i = if i = L.length then x else bk L i := by
  unfold bk
  rcases Nat.lt_trichotomy i L.length with h | h | h
  · rw [if_neg (by omega)]; simp [List.getD_eq_getElem?_getD, List.getElem?_append_left h]
  · subst h; simp [List.getD_eq_getElem?_getD]
  · rw [if_neg (by omega)]
    rw [List.getD_eq_getElem?_getD, List.getD_eq_getElem?_getD, List.getElem?_eq_none (by simp; omega), List.getElem?_eq_none (by omega)]
theorem wf_push {L : List Bk} (h : Wf L) {x : Bk} (hx : x.up < L.length) : Wf (L ++ [x]) := by
  have h0 := h.1
  refine ⟨by simp, ?_, fun i hi hp => ?_⟩
  · rw [bk_push, if_neg (by omega)]; exact h.2.1
  · rw [bk_push]
    simp only [List.length_append, List.length_singleton] at hi
    split
    · omega
    · exact h.2.2 i (by omega) hp
/-- What a move leaves is a run again, with the row that the call tells of. -/
theorem playR_ok {r : Run} {cap : Nat} {rest : List Value} (hr : r.ok cap rest) {m : Mv} {who : Nat} {x : Option (Nat × List Value)} (hx : playOk r m x) :
    (playR r m who).ok (match x with | none => cap | some y => y.1) (match x with | none => rest | some y => y.2) := by
  have hb := mb_lt (m := m) hr
  cases x with
  | none =>
    have hg : grows r m = false := hx
    unfold playR
    rw [hg]
    split
    · exact hr
    · split
      · split
        · exact voteR_ok hr hb
        · exact hr
      · split
        · exact setS_ok hr who (lk_giveUp (getS_lk hr who))
        · exact hr
  | some y =>
    obtain ⟨hg, h1, h2, h3⟩ := hx
    have hk : m.kind = 0 ∧ r.n < 400 := by
      simp only [grows, Bool.and_eq_true, decide_eq_true_eq] at hg
      exact ⟨hg.1, hg.2.2⟩
    unfold playR
    rw [if_pos hk.1, if_pos hg]
    obtain ⟨a1, a2, a3, a4, a5, a6, a7, a8, a9⟩ := hr
    exact ⟨wf_push a1 (by rw [a2]; exact hb), by simp [a2], h1, h2, h3, a6, a7, a8, by show r.n + 1 ≤ 490; omega⟩
end Go.Proofs.Ytckhcmdjgkoocaa
