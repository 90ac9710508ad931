/- A run of four validators: what is always so, and that it makes them agree. -/
import Derived.Test.YtckhcmdjgkoocaaRulesR
namespace Go.Proofs.Ytckhcmdjgkoocaa
open Go.RowKit Go.Sx
set_option linter.unusedVariables false
set_option linter.unusedSimpArgs false
/-! extending -/
theorem ext_le {L : List Bk} {a b : Nat} (h : ext L a a b = true) : b ≤ a := by
  rcases Nat.lt_or_ge a b with hl | hl
  · exfalso
    cases a with
    | zero => simp [ext] at h; omega
    | succ n =>
      simp only [ext] at h
      rw [if_neg (by omega)] at h
      simp at h; omega
  · exact hl
theorem ext_self (L : List Bk) (a : Nat) : ext L a a a = true := by
  cases a with
  | zero => simp [ext]
  | succ n => simp [ext]
theorem ext_of_up {L : List Bk} (hw : Wf L) {a b : Nat} (ha : a < L.length) (h0 : 0 < a) (h : ext L (bk L a).up (bk L a).up b = true) : ext L a a b = true := by
  have h1 := hw.2.2 a ha h0
  have h2 := ext_le h
  rw [ext_step hw ha (by omega)]
  exact h
theorem ext_trans {L : List Bk} (hw : Wf L) {b c : Nat} (hc : ext L b b c = true) : ∀ (n a : Nat), a ≤ n → a < L.length → ext L a a b = true → ext L a a c = true
  | 0, a, hn, ha, h => by
    have := ext_le h
    obtain rfl : a = 0 := by omega
    obtain rfl : b = 0 := by omega
    exact hc
  | n + 1, a, hn, ha, h => by
    have hl := ext_le h
    rcases Nat.lt_or_ge b a with hb | hb
    · have h1 := hw.2.2 a ha (by omega)
      rw [ext_step hw ha hb] at h
      exact ext_of_up hw ha (by omega) (ext_trans hw hc n _ (by omega) (by omega) h)
    · obtain rfl : a = b := by omega
      exact hc
theorem ext_congr {L L' : List Bk} (hw : Wf L) (h : ∀ i, i < L.length → (bk L' i).up = (bk L i).up) (b : Nat) : ∀ (n a : Nat), a < L.length → ext L' n a b = ext L n a b
  | 0, a, _ => rfl
  | n + 1, a, ha => by
    simp only [ext]
    rw [h a ha]
    split
    · exact ext_congr hw h b n _ (by have := hw.2.2 a ha (by omega); omega)
    · rfl
/-! three of four -/
theorem three_of {b : Bk} (h : 3 ≤ cntV b 4) : ∃ m, ∀ k, k < 4 → k ≠ m → b.votes k = true := by
  simp only [cntV] at h
  by_cases h0 : b.votes 0 = true
  · by_cases h1 : b.votes 1 = true
    · by_cases h2 : b.votes 2 = true
      · refine ⟨3, fun k hk hm => ?_⟩
        have : k = 0 ∨ k = 1 ∨ k = 2 := by omega
        rcases this with rfl | rfl | rfl <;> assumption
      · have h3 : b.votes 3 = true := by
          refine Classical.byContradiction fun h3 => ?_
          rw [if_pos h0, if_pos h1, if_neg h2, if_neg h3] at h
          omega
        refine ⟨2, fun k hk hm => ?_⟩
        have : k = 0 ∨ k = 1 ∨ k = 3 := by omega
        rcases this with rfl | rfl | rfl <;> assumption
    · have h2 : b.votes 2 = true := by
        refine Classical.byContradiction fun h2 => ?_
        rw [if_pos h0, if_neg h1, if_neg h2] at h
        split at h <;> omega
      have h3 : b.votes 3 = true := by
        refine Classical.byContradiction fun h3 => ?_
        rw [if_pos h0, if_neg h1, if_pos h2, if_neg h3] at h
        omega
      refine ⟨1, fun k hk hm => ?_⟩
      have : k = 0 ∨ k = 2 ∨ k = 3 := by omega
      rcases this with rfl | rfl | rfl <;> assumption
  · have h1 : b.votes 1 = true := by
      refine Classical.byContradiction fun h1 => ?_
      rw [if_neg h0, if_neg h1] at h
      split at h <;> split at h <;> omega
    have h2 : b.votes 2 = true := by
      refine Classical.byContradiction fun h2 => ?_
      rw [if_neg h0, if_pos h1, if_neg h2] at h
      split at h <;> omega
    have h3 : b.votes 3 = true := by
      refine Classical.byContradiction fun h3 => ?_
      rw [if_neg h0, if_pos h1, if_pos h2, if_neg h3] at h
      omega
    refine ⟨0, fun k hk hm => ?_⟩
    have : k = 1 ∨ k = 2 ∨ k = 3 := by omega
    rcases this with rfl | rfl | rfl <;> assumption
theorem cntV_mono {b c : Bk} (h : ∀ k, b.votes k = true → c.votes k = true) : ∀ k, cntV b k ≤ cntV c k
  | 0 => Nat.le_refl _
  | k + 1 => by
    have := cntV_mono h k
    simp only [cntV]
    by_cases hb : b.votes k = true
    · rw [if_pos hb, if_pos (h k hb)]; omega
    · rw [if_neg hb]; omega
theorem three_votes {b : Bk} (h0 : b.votes 0 = true) (h1 : b.votes 1 = true) (h2 : b.votes 2 = true) : 3 ≤ cntV b 4 := by
  simp only [cntV]
  rw [if_pos h0, if_pos h1, if_pos h2]
  omega
theorem common (a b : Nat) : ∃ k, k < 3 ∧ k ≠ a ∧ k ≠ b := by
  by_cases h0 : 0 ≠ a ∧ 0 ≠ b
  · exact ⟨0, by omega, h0.1, h0.2⟩
  · by_cases h1 : 1 ≠ a ∧ 1 ≠ b
    · exact ⟨1, by omega, h1.1, h1.2⟩
    · exact ⟨2, by omega, by omega, by omega⟩
theorem cert_three {L : List Bk} {x : Nat} (h0 : 0 < x) (h : certB L x = true) : ∃ m, ∀ k, k < 4 → k ≠ m → (bk L x).votes k = true := by
  simp only [certB, Bool.or_eq_true, decide_eq_true_eq] at h
  rcases h with h | h
  · omega
  · exact three_of h
theorem cert_zero (L : List Bk) : certB L 0 = true := by simp [certB]
theorem cert_of {L : List Bk} {x : Nat} (h : 3 ≤ cntV (bk L x) 4) : certB L x = true := by simp [certB, h]
theorem cert_mono {L L' : List Bk} {x : Nat} (h : ∀ k, (bk L x).votes k = true → (bk L' x).votes k = true) (hc : certB L x = true) : certB L' x = true := by
  simp only [certB, Bool.or_eq_true, decide_eq_true_eq] at hc ⊢
  rcases hc with hc | hc
  · exact .inl hc
  · exact .inr (Nat.le_trans hc (cntV_mono h 4))
/-! what is always so -/
/-- Who votes for x has, behind x's back, no vote of its own that x's parent or what it was locked on does not answer for. -/
def Clean (L : List Bk) (k x : Nat) : Prop := ∀ i, i < L.length → (bk L i).votes k = true → (bk L i).view < (bk L x).view → 0 < (bk L i).up →
  (bk L (bk L (bk L i).up).up).view < (bk L (bk L x).up).view ∨ ∃ b, b < x ∧ ext L x x b = true ∧ certB L b = true ∧ (bk L (bk L (bk L i).up).up).view ≤ (bk L b).view
def Voters (L : List Bk) (x : Nat) : Prop := (∃ m, ∀ k, k < 4 → k ≠ m → (bk L x).votes k = true ∧ (k < 3 → Clean L k x)) ∨ (certB L x = false ∧ ∀ k, k < 3 → (bk L x).votes k = true → Clean L k x)
/-- What one that keeps to the rules has. -/
structure HInv (L : List Bk) (s : Safe) (k : Nat) : Prop where
  lock : ∃ b, b < L.length ∧ s.d = idD b ∧ s.l = (bk L b).view ∧ certB L b = true
  hv : ∀ i, i < L.length → (bk L i).votes k = true → (bk L i).view ≤ s.v
  one : ∀ i j, i < L.length → j < L.length → (bk L i).votes k = true → (bk L j).votes k = true → (bk L i).view = (bk L j).view → i = j
  lv : ∀ i, i < L.length → (bk L i).votes k = true → 0 < (bk L i).up → (bk L (bk L (bk L i).up).up).view ≤ s.l
structure Inv (r : Run) : Prop where
  wf : Wf r.L
  vw0 : (bk r.L 0).view = 0
  vup : ∀ i, 0 < i → i < r.L.length → (bk r.L (bk r.L i).up).view < (bk r.L i).view
  cup : ∀ i, 0 < i → i < r.L.length → certB r.L (bk r.L i).up = true
  h : ∀ k, k < 3 → HInv r.L (getS r k) k
  cl : ∀ x, 0 < x → x < r.L.length → Voters r.L x
theorem Inv.up_in {r : Run} (h : Inv r) {i : Nat} (hi : i < r.L.length) : (bk r.L i).up < r.L.length := by
  rcases Nat.eq_zero_or_pos i with rfl | h0
  · rw [h.wf.2.1]; exact hi
  · exact Nat.lt_trans (h.wf.2.2 i hi h0) hi
theorem Inv.vw_pos {r : Run} (h : Inv r) : ∀ (n i : Nat), i ≤ n → i < r.L.length → 0 ≤ (bk r.L i).view ∧ (0 < i → 0 < (bk r.L i).view)
  | 0, i, hn, hi => by
    obtain rfl : i = 0 := by omega
    rw [h.vw0]; exact ⟨Int.le_refl _, fun h => by omega⟩
  | n + 1, i, hn, hi => by
    rcases Nat.eq_zero_or_pos i with rfl | h0
    · rw [h.vw0]; exact ⟨Int.le_refl _, fun h => by omega⟩
    · have h1 := h.vup i h0 hi
      have h2 := h.wf.2.2 i hi h0
      have h3 := (h.vw_pos n (bk r.L i).up (by omega) (by omega)).1
      exact ⟨by omega, fun _ => by omega⟩
theorem Inv.vw0_le {r : Run} (h : Inv r) {i : Nat} (hi : i < r.L.length) : 0 ≤ (bk r.L i).view := (h.vw_pos i i (Nat.le_refl _) hi).1
theorem Inv.vw_lt {r : Run} (h : Inv r) {i : Nat} (h0 : 0 < i) (hi : i < r.L.length) : 0 < (bk r.L i).view := (h.vw_pos i i (Nat.le_refl _) hi).2 h0
/-- In one view at most one block is certified. -/
theorem Inv.view_one {r : Run} (h : Inv r) {i j : Nat} (hi0 : 0 < i) (hj0 : 0 < j) (hi : i < r.L.length) (hj : j < r.L.length) (ci : certB r.L i = true) (cj : certB r.L j = true) (hv : (bk r.L i).view = (bk r.L j).view) : i = j := by
  obtain ⟨a, ha⟩ := cert_three hi0 ci
  obtain ⟨b, hb⟩ := cert_three hj0 cj
  obtain ⟨k, hk, hka, hkb⟩ := common a b
  exact (h.h k hk).one i j hi hj (ha k (by omega) hka) (hb k (by omega) hkb) hv
theorem Inv.voter {r : Run} (h : Inv r) {x : Nat} (h0 : 0 < x) (hx : x < r.L.length) (hc : certB r.L x = true) : ∃ m, ∀ k, k < 4 → k ≠ m → (bk r.L x).votes k = true ∧ (k < 3 → Clean r.L k x) := by
  rcases h.cl x h0 hx with h | h
  · exact h
  · rw [h.1] at hc; exact absurd hc (by decide)
/-- Whatever is certified at or above the first of three in a row extends it. -/
theorem Inv.agree {r : Run} (h : Inv r) {i a : Nat} (hi0 : 0 < i) (hi : i < r.L.length) (hb0 : 0 < (bk r.L i).up) (e2 : (bk r.L (bk r.L i).up).up = a) (ha0 : 0 < a)
    (v1 : (bk r.L a).view + 1 = (bk r.L (bk r.L i).up).view) (v2 : (bk r.L (bk r.L i).up).view + 1 = (bk r.L i).view) (ci : certB r.L i = true) :
    ∀ (n x : Nat), x ≤ n → x < r.L.length → certB r.L x = true → (bk r.L a).view ≤ (bk r.L x).view → ext r.L x x a = true := by
  have hbl := h.up_in hi
  have hal : a < r.L.length := e2 ▸ h.up_in hbl
  have cb := h.cup i hi0 hi
  have ca : certB r.L a = true := e2 ▸ h.cup _ hb0 hbl
  have va := h.vw_lt ha0 hal
  have xb : ext r.L (bk r.L i).up (bk r.L i).up a = true := ext_of_up h.wf hbl hb0 (by rw [e2]; exact ext_self _ _)
  have xi : ext r.L i i a = true := ext_of_up h.wf hi hi0 xb
  intro n
  induction n with
  | zero =>
    intro x hn hx cx hv
    obtain rfl : x = 0 := by omega
    rw [h.vw0] at hv; omega
  | succ n ih =>
    intro x hn hx cx hv
    have hx0 : 0 < x := by
      rcases Nat.eq_zero_or_pos x with rfl | h0
      · rw [h.vw0] at hv; omega
      · exact h0
    by_cases e0 : (bk r.L x).view = (bk r.L a).view
    · rw [h.view_one hx0 ha0 hx hal cx ca e0]; exact ext_self _ _
    by_cases e1 : (bk r.L x).view = (bk r.L (bk r.L i).up).view
    · rw [h.view_one hx0 hb0 hx hbl cx cb e1]; exact xb
    by_cases e2' : (bk r.L x).view = (bk r.L i).view
    · rw [h.view_one hx0 hi0 hx hi cx ci e2']; exact xi
    obtain ⟨m1, h1⟩ := h.voter hx0 hx cx
    obtain ⟨m2, h2⟩ := cert_three hi0 ci
    obtain ⟨k, hk, hk1, hk2⟩ := common m1 m2
    have hu := h.wf.2.2 x hx hx0
    rcases ((h1 k (by omega) hk1).2 hk) i hi (h2 k (by omega) hk2) (by omega) hb0 with hc | ⟨b, hb, xb', cb', vb'⟩
    · rw [e2] at hc
      exact ext_of_up h.wf hx hx0 (ih _ (by omega) (by omega) (h.cup x hx0 hx) (by omega))
    · rw [e2] at vb'
      exact ext_trans h.wf (ih b (by omega) (by omega) cb' vb') x x (Nat.le_refl _) hx xb'
end Go.Proofs.Ytckhcmdjgkoocaa
