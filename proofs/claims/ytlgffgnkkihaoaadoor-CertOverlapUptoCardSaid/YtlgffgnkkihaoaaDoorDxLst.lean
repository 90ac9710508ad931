/- Rows of like elements: lists, told as functions from places to cells. -/
import Derived.Test.YtlgffgnkkihaoaaDoorDxWp
namespace Go.Dx
open Go.RowKit
set_option linter.unusedVariables false
set_option linter.unusedSimpArgs false
section
variable {α : Type} {f : α → List DC} {d : α} {g : List DC → α}
/-- A list's elements, as f has them. -/
def lC (f : α → List DC) (d : α) (L : List α) : Nat → List DC := fun i => f (L.getD i d)
/-- The list of what g reads. -/
def lL (g : List DC → α) (n : Nat) (c : Nat → List DC) : List α := (List.range n).map fun i => g (c i)
theorem lL_len (n : Nat) (c : Nat → List DC) : (lL g n c).length = n := by simp [lL]
theorem lL_at {n i : Nat} {c : Nat → List DC} (h : i < n) : (lL g n c).getD i d = g (c i) := by
  simp [lL, List.getD_eq_getElem?_getD, List.getElem?_map, List.getElem?_range h]
theorem lL_cut (hg : ∀ x, g (f x) = x) (L : List α) {n x : Nat} (h : x + n ≤ L.length) : lL g n (fun i => lC f d L (x + i)) = (L.drop x).take n := by
  apply List.ext_getElem? fun i => ?_
  simp only [lL, List.getElem?_map, List.getElem?_take, List.getElem?_drop]
  rcases Nat.lt_or_ge i n with hi | hi
  · rw [List.getElem?_range hi, if_pos hi]
    simp [lC, hg, List.getD_eq_getElem?_getD, List.getElem?_eq_getElem (show x + i < L.length by omega)]
  · rw [List.getElem?_eq_none (by simpa using hi), if_neg (by omega)]; rfl
theorem lL_take (hg : ∀ x, g (f x) = x) (L : List α) {n : Nat} (h : n ≤ L.length) : lL g n (lC f d L) = L.take n := by
  have := lL_cut (d := d) hg L (n := n) (x := 0) (by omega)
  simp only [Nat.zero_add, List.drop_zero] at this
  exact this
theorem lL_self (hg : ∀ x, g (f x) = x) (L : List α) : lL g L.length (lC f d L) = L := by
  rw [lL_take hg L (Nat.le_refl _), List.take_of_length_le (Nat.le_refl _)]
/-- What is read is what stood there. -/
theorem lC_self {n : Nat} {c : Nat → List DC} (hf : ∀ i, i < n → f (g (c i)) = c i) : ∀ i, i < n → c i = lC f d (lL g n c) i := fun i hi => by
  unfold lC; rw [lL_at hi, hf i hi]
theorem lC_lL (hg : ∀ x, g (f x) = x) {n : Nat} {L : List α} : ∀ i, i < n → lC f d L i = lC f d (lL g n (lC f d L)) i := fun i hi => by
  show f _ = f _
  rw [lL_at hi]
  show f _ = f (g (f _))
  rw [hg]
theorem lC_snoc (L : List α) (x : α) {c' : Nat → List DC} (h : c' 0 = f x) : ∀ i, i < L.length + 1 → catF L.length (lC f d L) c' i = lC f d (L ++ [x]) i := fun i hi => by
  unfold catF lC
  split
  · rename_i hb
    have hlt : i < L.length := Nat.le_of_ble_eq_true hb
    rw [List.getD_eq_getElem?_getD, List.getD_eq_getElem?_getD, List.getElem?_append_left hlt]
  · rename_i hb
    have : i = L.length := by
      rcases Nat.lt_or_ge i L.length with h' | h'
      · have := Nat.ble_eq_true_of_le (show i + 1 ≤ L.length from h'); unfold Nat.blt at hb; rw [this] at hb; cases hb
      · omega
    subst this
    simp [h, List.getD_eq_getElem?_getD]
theorem lC_cat (L M : List α) {c' : Nat → List DC} (h : ∀ i, i < M.length → c' i = lC f d M i) : ∀ i, i < L.length + M.length → catF L.length (lC f d L) c' i = lC f d (L ++ M) i := fun i hi => by
  unfold catF
  split
  · rename_i hb
    have hlt : i < L.length := Nat.le_of_ble_eq_true hb
    unfold lC
    rw [List.getD_eq_getElem?_getD, List.getD_eq_getElem?_getD, List.getElem?_append_left hlt]
  · rename_i hb
    have hge : L.length ≤ i := by
      rcases Nat.lt_or_ge i L.length with h' | h'
      · have := Nat.ble_eq_true_of_le (show i + 1 ≤ L.length from h'); unfold Nat.blt at hb; rw [this] at hb; cases hb
      · exact h'
    rw [h _ (by omega)]
    unfold lC
    rw [List.getD_eq_getElem?_getD, List.getD_eq_getElem?_getD, List.getElem?_append_right hge]
theorem lC_set (L : List α) {k : Nat} (hk : k < L.length) (x : α) : ∀ i, bumpF (lC f d L) k (f x) i = lC f d (L.set k x) i := fun i => by
  rw [bumpF_eq]
  unfold lC
  by_cases h : i = k
  · subst h
    simp [List.getD_eq_getElem?_getD, List.getElem?_set_self hk]
  · rw [nbeq_false h]
    simp [List.getD_eq_getElem?_getD, List.getElem?_set_ne (Ne.symm h)]
/-- Rows read from the end. -/
def rvF (n t : Nat) (B : Nat → α) : Nat → α := fun i => if i < t ∨ n - 1 - t < i then B (n - 1 - i) else B i
theorem rv_step {n t : Nat} {B : Nat → α} (h : t < n - 1 - t) {i : Nat} (hi : i < n) : (if i = n - 1 - t then rvF n t B t else if i = t then rvF n t B (n - 1 - t) else rvF n t B i) = rvF n (t + 1) B i := by
  unfold rvF
  by_cases h1 : i = n - 1 - t
  · subst h1
    rw [if_pos rfl, if_neg (by omega), if_pos (by omega)]
    congr 1; omega
  · rw [if_neg h1]
    by_cases h2 : i = t
    · subst h2
      rw [if_pos rfl, if_neg (by omega), if_pos (by omega)]
    · rw [if_neg h2]
      by_cases h3 : i < t ∨ n - 1 - t < i
      · rw [if_pos h3, if_pos (by omega)]
      · rw [if_neg h3, if_neg (by omega)]
theorem rv_end {n t : Nat} {B : Nat → α} (h : ¬ t < n - 1 - t) {i : Nat} (hi : i < n) (ht : 2 * t ≤ n) : rvF n t B i = B (n - 1 - i) := by
  unfold rvF
  by_cases h3 : i < t ∨ n - 1 - t < i
  · rw [if_pos h3]
  · rw [if_neg h3]
    congr 1; omega
/-- Elements told by a function. -/
def fC (f : α → List DC) (B : Nat → α) : Nat → List DC := fun i => f (B i)
theorem fC_set (B : Nat → α) (k : Nat) (x : α) : bumpF (fC f B) k (f x) = fC f (fun i => if i = k then x else B i) := by
  funext i
  rw [bumpF_eq]
  by_cases h : i = k
  · subst h; simp [fC]
  · rw [nbeq_false h]; simp [fC, h]
theorem lC_rev (L : List α) (hg : ∀ x, g (f x) = x) : ∀ i, i < L.length → fC f (fun i => g (lC f d L (L.length - 1 - i))) i = lC f d L.reverse i := fun i hi => by
  unfold fC lC
  simp only [hg]
  congr 1
  rw [List.getD_eq_getElem?_getD, List.getD_eq_getElem?_getD, List.getElem?_reverse hi]
end
/-! elements -/
def bE (b : Bool) : List DC := [.one (.v (.bool b))]
def bG : List DC → Bool
  | [.one (.v (.bool b))] => b
  | _ => false
theorem bG_bE (b : Bool) : bG (bE b) = b := rfl
/-- A digest. -/
def dE (x : List Int) : List DC := [.ints .u8 32 x]
def dG : List DC → List Int
  | [.ints _ _ xs] => xs
  | _ => []
theorem dG_dE (x : List Int) : dG (dE x) = x := rfl
end Go.Dx
