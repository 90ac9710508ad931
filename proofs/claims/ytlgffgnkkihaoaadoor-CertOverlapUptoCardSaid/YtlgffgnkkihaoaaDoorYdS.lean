/- Stable sorting by a number: plain lists, and rows told by functions. -/
import Derived.Test.YtlgffgnkkihaoaaDoorDxLst
namespace Go.Dx
set_option linter.unusedVariables false
set_option linter.unusedSimpArgs false
section
variable {α : Type} (key : α → Int)
def KSrt (l : List α) : Prop := l.Pairwise fun x y => key x ≤ key y
def kf (k : Int) (l : List α) : List α := l.filter fun x => decide (key x = k)
def KSame (l m : List α) : Prop := ∀ k, kf key k l = kf key k m
variable {key}
theorem kf_app (k : Int) (l m : List α) : kf key k (l ++ m) = kf key k l ++ kf key k m := List.filter_append ..
theorem kf_none {k : Int} {l : List α} (h : ∀ x ∈ l, key x ≠ k) : kf key k l = [] := List.filter_eq_nil_iff.2 fun x hx => by simpa using h x hx
theorem kf_mem {k : Int} {l : List α} {x : α} : x ∈ kf key k l ↔ x ∈ l ∧ key x = k := by simp [kf]
theorem KSame.refl (l : List α) : KSame key l l := fun _ => rfl
theorem KSame.symm {l m : List α} (h : KSame key l m) : KSame key m l := fun k => (h k).symm
theorem KSame.trans {l m n : List α} (h : KSame key l m) (h' : KSame key m n) : KSame key l n := fun k => (h k).trans (h' k)
theorem KSame.app {l m l' m' : List α} (h : KSame key l l') (h' : KSame key m m') : KSame key (l ++ m) (l' ++ m') := fun k => by rw [kf_app, kf_app, h k, h' k]
theorem KSame.mem {l m : List α} (h : KSame key l m) {x : α} (hx : x ∈ l) : x ∈ m := by
  have : x ∈ kf key (key x) l := kf_mem.2 ⟨hx, rfl⟩
  rw [h] at this
  exact (kf_mem.1 this).1
theorem ksrt_uniq : ∀ {l m : List α}, KSrt key l → KSrt key m → KSame key l m → l = m
  | [], [], _, _, _ => rfl
  | [], y :: m, _, _, h => absurd (h.symm.mem (List.mem_cons_self ..)) (List.not_mem_nil)
  | x :: l, [], _, _, h => absurd (h.mem (List.mem_cons_self ..)) (List.not_mem_nil)
  | x :: l, y :: m, hl, hm, h => by
    have hl' := List.pairwise_cons.1 hl
    have hm' := List.pairwise_cons.1 hm
    have h1 : key y ≤ key x := by
      rcases List.mem_cons.1 (h.mem (List.mem_cons_self ..)) with e | e
      · rw [e]; exact Int.le_refl _
      · exact hm'.1 _ e
    have h2 : key x ≤ key y := by
      rcases List.mem_cons.1 (h.symm.mem (List.mem_cons_self ..)) with e | e
      · rw [e]; exact Int.le_refl _
      · exact hl'.1 _ e
    have e : key x = key y := by omega
    have h3 := h (key x)
    unfold kf at h3
    rw [List.filter_cons_of_pos (by simp), List.filter_cons_of_pos (by simp [e])] at h3
    have e1 : x = y := (List.cons.inj h3).1
    have e2 := (List.cons.inj h3).2
    subst e1
    congr 1
    refine ksrt_uniq hl'.2 hm'.2 fun k => ?_
    by_cases hk : key x = k
    · subst hk; exact e2
    · have h4 := h k
      unfold kf at h4 ⊢
      rwa [List.filter_cons_of_neg (by simpa using hk), List.filter_cons_of_neg (by simpa using hk)] at h4
variable (key)
def kins (x : α) : List α → List α
  | [] => [x]
  | y :: r => if key y ≤ key x then y :: kins x r else x :: y :: r
def stb (l : List α) : List α := l.foldl (fun s x => kins key x s) []
variable {key}
theorem kins_mem {x z : α} : ∀ {l : List α}, z ∈ kins key x l → z = x ∨ z ∈ l
  | [], h => .inl (List.mem_singleton.1 h)
  | y :: r, h => by
    unfold kins at h
    split at h
    · rcases List.mem_cons.1 h with rfl | h
      · exact .inr (List.mem_cons_self ..)
      · rcases kins_mem h with h | h
        · exact .inl h
        · exact .inr (List.mem_cons_of_mem _ h)
    · exact List.mem_cons.1 h
theorem kins_srt {x : α} : ∀ {l : List α}, KSrt key l → KSrt key (kins key x l)
  | [], _ => List.pairwise_singleton ..
  | y :: r, h => by
    have h' := List.pairwise_cons.1 h
    unfold kins
    split
    · rename_i hc
      refine List.pairwise_cons.2 ⟨fun z hz => ?_, kins_srt h'.2⟩
      rcases kins_mem hz with rfl | hz
      · exact hc
      · exact h'.1 z hz
    · rename_i hc
      refine List.pairwise_cons.2 ⟨fun z hz => ?_, h⟩
      rcases List.mem_cons.1 hz with rfl | hz
      · omega
      · have := h'.1 z hz; omega
theorem kins_same {x : α} : ∀ {l : List α}, KSrt key l → KSame key (kins key x l) (l ++ [x])
  | [], _ => fun _ => rfl
  | y :: r, h => fun k => by
    have h' := List.pairwise_cons.1 h
    unfold kins
    split
    · have := kins_same h'.2 (x := x) k
      show kf key k (y :: kins key x r) = kf key k (y :: (r ++ [x]))
      unfold kf at this ⊢
      rw [List.filter_cons, List.filter_cons, this]
    · rename_i hc
      by_cases hk : key x = k
      · have e : kf key k (y :: r) = [] := kf_none fun z hz => by
          rcases List.mem_cons.1 hz with rfl | hz
          · omega
          · have := h'.1 z hz; omega
        rw [kf_app, e]
        show kf key k ([x] ++ (y :: r)) = _
        rw [kf_app, e]; simp
      · have e : kf key k [x] = [] := kf_none fun z hz => by rw [List.mem_singleton.1 hz]; exact hk
        rw [kf_app, e]
        show kf key k ([x] ++ (y :: r)) = _
        rw [kf_app, e]; simp
theorem stb_go : ∀ (l s : List α), KSrt key s → KSrt key (l.foldl (fun s x => kins key x s) s) ∧ KSame key (l.foldl (fun s x => kins key x s) s) (s ++ l)
  | [], s, h => ⟨h, fun k => by simp⟩
  | x :: l, s, h => by
    obtain ⟨h1, h2⟩ := stb_go l (kins key x s) (kins_srt h)
    refine ⟨h1, h2.trans ?_⟩
    have := (kins_same h (x := x)).app (KSame.refl (key := key) l)
    simpa using this
theorem stb_srt (l : List α) : KSrt key (stb key l) := (stb_go l [] List.Pairwise.nil).1
theorem stb_same (l : List α) : KSame key (stb key l) l := (stb_go l [] List.Pairwise.nil).2
theorem stb_uniq {l m : List α} (h : KSrt key m) (hs : KSame key m l) : m = stb key l := ksrt_uniq h (stb_srt l) (hs.trans (stb_same l).symm)
theorem stb_self {l : List α} (h : KSrt key l) : stb key l = l := (stb_uniq h (KSame.refl l)).symm
theorem stb_congr {l m : List α} (h : KSame key l m) : stb key l = stb key m := stb_uniq (stb_srt l) ((stb_same l).trans h)
theorem stb_mem {l : List α} {x : α} : x ∈ stb key l ↔ x ∈ l := ⟨(stb_same l).mem, (stb_same l).symm.mem⟩
theorem kins_len (x : α) : ∀ l : List α, (kins key x l).length = l.length + 1
  | [] => rfl
  | y :: r => by
    unfold kins
    split
    · simp [kins_len x r]
    · rfl
theorem stb_len (l : List α) : (stb key l).length = l.length := by
  have : ∀ (l s : List α), (l.foldl (fun s x => kins key x s) s).length = s.length + l.length := fun l => by
    induction l with
    | nil => intro s; rfl
    | cons x l ih => intro s; rw [List.foldl_cons, ih, kins_len, List.length_cons]; omega
  show (l.foldl _ []).length = _
  rw [this]; simp
theorem stb_nil : stb key ([] : List α) = [] := rfl
theorem stb_one (x : α) : stb key [x] = [x] := rfl
theorem stb_app (l m : List α) : stb key (stb key l ++ stb key m) = stb key (l ++ m) := stb_congr ((stb_same l).app (stb_same m))
/-- One that goes in its place: behind those that are not above it. -/
theorem stb_snoc {l : List α} {x : α} {P Q : List α} (hl : stb key l = P ++ Q) (hP : ∀ y ∈ P, key y ≤ key x) (hQ : ∀ y ∈ Q, key x < key y) : P ++ x :: Q = stb key (l ++ [x]) := by
  have hs := stb_srt (key := key) l
  rw [hl] at hs
  obtain ⟨h1, h2, h3⟩ := List.pairwise_append.1 hs
  refine stb_uniq ?_ ?_
  · refine List.pairwise_append.2 ⟨h1, List.pairwise_cons.2 ⟨fun y hy => Int.le_of_lt (hQ y hy), h2⟩, fun a ha b hb => ?_⟩
    rcases List.mem_cons.1 hb with rfl | hb
    · exact hP a ha
    · exact h3 a ha b hb
  · refine KSame.trans (m := (P ++ Q) ++ [x]) (fun k => ?_) ((hl ▸ stb_same (key := key) l).app (KSame.refl [x]))
    show kf key k (P ++ ([x] ++ Q)) = _
    simp only [kf_app, List.append_assoc]
    by_cases hk : key x = k
    · have : kf key k Q = [] := kf_none fun y hy => by have := hQ y hy; omega
      rw [this]; simp
    · have : kf key k [x] = [] := kf_none fun z hz => by rw [List.mem_singleton.1 hz]; exact hk
      rw [this]; simp
/-- One that goes in its place: ahead of those that are not below it. -/
theorem stb_cons {l : List α} {x : α} {P Q : List α} (hl : stb key l = P ++ Q) (hP : ∀ y ∈ P, key y < key x) (hQ : ∀ y ∈ Q, key x ≤ key y) : P ++ x :: Q = stb key (x :: l) := by
  have hs := stb_srt (key := key) l
  rw [hl] at hs
  obtain ⟨h1, h2, h3⟩ := List.pairwise_append.1 hs
  refine stb_uniq ?_ ?_
  · refine List.pairwise_append.2 ⟨h1, List.pairwise_cons.2 ⟨hQ, h2⟩, fun a ha b hb => ?_⟩
    rcases List.mem_cons.1 hb with rfl | hb
    · exact Int.le_of_lt (hP a ha)
    · exact h3 a ha b hb
  · refine KSame.trans (m := [x] ++ (P ++ Q)) (fun k => ?_) ((KSame.refl [x]).app (hl ▸ stb_same (key := key) l))
    show kf key k (P ++ ([x] ++ Q)) = _
    simp only [kf_app]
    by_cases hk : key x = k
    · have : kf key k P = [] := kf_none fun y hy => by have := hP y hy; omega
      rw [this]; simp
    · have : kf key k [x] = [] := kf_none fun z hz => by rw [List.mem_singleton.1 hz]; exact hk
      rw [this]; simp
/-- Two sorted rows, each cut in two, and crossed. -/
theorem stb_cross {A1 A2 B1 B2 : List α} (hA : KSrt key (A1 ++ A2)) (hB : KSrt key (B1 ++ B2)) (h1 : ∀ x ∈ A1, ∀ y ∈ B2, key x ≤ key y) (h2 : ∀ x ∈ B1, ∀ y ∈ A2, key x < key y) :
    stb key (A1 ++ B1) ++ stb key (A2 ++ B2) = stb key (A1 ++ A2 ++ (B1 ++ B2)) := by
  obtain ⟨a1, a2, a3⟩ := List.pairwise_append.1 hA
  obtain ⟨b1, b2, b3⟩ := List.pairwise_append.1 hB
  refine stb_uniq ?_ ?_
  · refine List.pairwise_append.2 ⟨stb_srt _, stb_srt _, fun x hx y hy => ?_⟩
    rcases List.mem_append.1 (stb_mem.1 hx) with hx | hx <;> rcases List.mem_append.1 (stb_mem.1 hy) with hy | hy
    · exact a3 x hx y hy
    · exact h1 x hx y hy
    · exact Int.le_of_lt (h2 x hx y hy)
    · exact b3 x hx y hy
  · refine KSame.trans ((stb_same _).app (stb_same _)) fun k => ?_
    simp only [kf_app, List.append_assoc]
    congr 1
    by_cases h : kf key k B1 = []
    · rw [h]; simp
    · have : kf key k A2 = [] := kf_none fun y hy e => by
        obtain ⟨x, hx⟩ := List.exists_mem_of_ne_nil _ h
        obtain ⟨hx1, hx2⟩ := kf_mem.1 hx
        have := h2 x hx1 y hy; omega
      rw [this]; simp
/-! rows told by functions -/
def seg (B : Nat → α) (a b : Nat) : List α := (List.range (b - a)).map fun i => B (a + i)
def pf (B : Nat → α) (a : Nat) (M : List α) : Nat → α := fun i => if a ≤ i then (M[i - a]?).getD (B i) else B i
theorem seg_len (B : Nat → α) (a b : Nat) : (seg B a b).length = b - a := by simp [seg]
theorem seg_get (B : Nat → α) {a b i : Nat} (h : a + i < b) : (seg B a b)[i]? = some (B (a + i)) := by
  simp only [seg, List.getElem?_map]
  rw [List.getElem?_range (by omega)]; rfl
theorem seg_get2 (B : Nat → α) {a b i : Nat} (h : b ≤ a + i) : (seg B a b)[i]? = none := by
  rw [List.getElem?_eq_none]; rw [seg_len]; omega
theorem seg_split (B : Nat → α) {a m b : Nat} (h : a ≤ m) (h' : m ≤ b) : seg B a b = seg B a m ++ seg B m b := by
  apply List.ext_getElem? fun i => ?_
  by_cases hi : a + i < m
  · rw [List.getElem?_append_left (by rw [seg_len]; omega), seg_get B (by omega), seg_get B hi]
  · rw [List.getElem?_append_right (by rw [seg_len]; omega), seg_len]
    by_cases hb : a + i < b
    · rw [seg_get B hb, seg_get B (by omega)]; congr 2; omega
    · rw [seg_get2 B (by omega), seg_get2 B (by omega)]
theorem seg_nil (B : Nat → α) {a b : Nat} (h : b ≤ a) : seg B a b = [] := by
  have : b - a = 0 := by omega
  simp [seg, this]
theorem seg_one (B : Nat → α) (a : Nat) : seg B a (a + 1) = [B a] := by
  have : a + 1 - a = 1 := by omega
  simp [seg, this, List.range_succ]
theorem seg_succ (B : Nat → α) {a b : Nat} (h : a ≤ b) : seg B a (b + 1) = seg B a b ++ [B b] := by rw [seg_split B h (Nat.le_succ b), seg_one]
theorem seg_cons (B : Nat → α) {a b : Nat} (h : a < b) : seg B a b = B a :: seg B (a + 1) b := by rw [seg_split B (Nat.le_succ a) h, seg_one]; rfl
theorem seg_ext {B B' : Nat → α} {a b : Nat} (h : ∀ i, a ≤ i → i < b → B i = B' i) : seg B a b = seg B' a b := by
  unfold seg
  exact List.map_congr_left fun i hi => h _ (by omega) (by have := List.mem_range.1 hi; omega)
theorem seg_mem {B : Nat → α} {a b : Nat} {x : α} : x ∈ seg B a b ↔ ∃ i, a ≤ i ∧ i < b ∧ B i = x := by
  simp only [seg, List.mem_map, List.mem_range]
  constructor
  · rintro ⟨i, hi, e⟩; exact ⟨a + i, by omega, by omega, e⟩
  · rintro ⟨i, h1, h2, e⟩; exact ⟨i - a, by omega, by rw [show a + (i - a) = i by omega]; exact e⟩
theorem pf_out (B : Nat → α) {a : Nat} {M : List α} {i : Nat} (h : i < a ∨ a + M.length ≤ i) : pf B a M i = B i := by
  unfold pf
  split
  · rw [List.getElem?_eq_none (by omega)]; rfl
  · rfl
theorem pf_in (B : Nat → α) {a : Nat} {M : List α} {i : Nat} (h : i < M.length) : pf B a M (a + i) = M[i] := by
  unfold pf
  rw [if_pos (by omega), show a + i - a = i by omega, List.getElem?_eq_getElem h]; rfl
theorem pf_get (B : Nat → α) {a : Nat} {M : List α} {i : Nat} {x : α} (h : M[i]? = some x) : pf B a M (a + i) = x := by
  unfold pf
  rw [if_pos (by omega), show a + i - a = i by omega, h]; rfl
/-- To show two rows the same: within the written part by places, elsewhere as they were. -/
theorem pf_eq {B C : Nat → α} {a : Nat} {M : List α} (h1 : ∀ i, i < a ∨ a + M.length ≤ i → C i = B i) (h2 : ∀ i x, M[i]? = some x → C (a + i) = x) : C = pf B a M := by
  funext i
  by_cases h : a ≤ i ∧ i < a + M.length
  · have hi : i - a < M.length := by omega
    have := h2 (i - a) M[i - a] (List.getElem?_eq_getElem hi)
    have h3 := pf_in B (a := a) (M := M) hi
    rw [show a + (i - a) = i by omega] at this h3
    rw [this, h3]
  · rw [h1 i (by omega), pf_out B (by omega)]
theorem pf_self (B : Nat → α) (a b : Nat) : pf B a (seg B a b) = B := by
  refine (pf_eq (fun _ _ => rfl) fun i x hx => ?_).symm
  by_cases h : a + i < b
  · rw [seg_get B h] at hx; exact Option.some.inj hx
  · rw [seg_get2 B (by omega)] at hx; cases hx
theorem seg_pf (B : Nat → α) {a b : Nat} {M : List α} (h : a + M.length = b) : seg (pf B a M) a b = M := by
  apply List.ext_getElem? fun i => ?_
  by_cases hi : i < M.length
  · rw [seg_get _ (by omega), pf_in B hi, List.getElem?_eq_getElem hi]
  · rw [seg_get2 _ (by omega), List.getElem?_eq_none (by omega)]
theorem seg_pf_out (B : Nat → α) {a c d : Nat} {M : List α} (h : d ≤ a ∨ a + M.length ≤ c) : seg (pf B a M) c d = seg B c d := seg_ext fun i h1 h2 => pf_out B (by omega)
theorem pf_pf (B : Nat → α) {a : Nat} {M M' : List α} (h : M.length = M'.length) : pf (pf B a M) a M' = pf B a M' :=
  pf_eq (fun i hi => by rw [pf_out _ (by omega), pf_out _ (by omega)]) fun i x hx => pf_get _ hx
theorem pf_app (B : Nat → α) (a : Nat) (M M' : List α) : pf (pf B a M) (a + M.length) M' = pf B a (M ++ M') :=
  pf_eq (fun i hi => by simp only [List.length_append] at hi; rw [pf_out _ (by omega), pf_out _ (by omega)]) fun i x hx => by
    by_cases h : i < M.length
    · rw [pf_out _ (by omega)]
      rw [List.getElem?_append_left h] at hx
      exact pf_get _ hx
    · rw [List.getElem?_append_right (by omega)] at hx
      have := pf_get (pf B a M) (a := a + M.length) hx
      rwa [show a + M.length + (i - M.length) = a + i by omega] at this
theorem pf_nil (B : Nat → α) (a : Nat) : pf B a [] = B := (pf_eq (fun _ _ => rfl) fun i x hx => by simp at hx).symm
/-- Two that stand side by side, changed. -/
def swF (B : Nat → α) (p q : Nat) : Nat → α := fun i => if i = q then B p else if i = p then B q else B i
theorem swF_comm (B : Nat → α) (p q : Nat) : swF B p q = swF B q p := by
  funext i; unfold swF
  by_cases h1 : i = q
  · by_cases h2 : i = p
    · rw [if_pos h1, if_pos h2, ← h1, ← h2]
    · rw [if_pos h1, if_neg h2, if_pos h1]
  · by_cases h2 : i = p
    · rw [if_neg h1, if_pos h2, if_pos h2]
    · rw [if_neg h1, if_neg h2, if_neg h2, if_neg h1]
theorem pf_swap (B : Nat → α) {a p : Nat} {P Q : List α} {x y : α} (h : p = a + P.length) : swF (pf B a (P ++ x :: y :: Q)) p (p + 1) = pf B a (P ++ y :: x :: Q) := by
  have g1 : (P ++ x :: y :: Q)[P.length]? = some x := by simp
  have g2 : (P ++ x :: y :: Q)[P.length + 1]? = some y := by simp [List.getElem?_append_right]
  refine pf_eq (fun i hi => ?_) fun i z hz => ?_
  · simp only [List.length_append, List.length_cons] at hi
    unfold swF
    rw [if_neg (by omega), if_neg (by omega), pf_out _ (by simp only [List.length_append, List.length_cons]; omega)]
  · unfold swF
    by_cases h1 : i = P.length + 1
    · subst h1
      rw [if_pos (by omega), h, pf_get B g1]
      simpa [List.getElem?_append_right] using hz
    · rw [if_neg (by omega)]
      by_cases h2 : i = P.length
      · subst h2
        rw [if_pos (by omega), h, show a + P.length + 1 = a + (P.length + 1) by omega, pf_get B g2]
        simpa using hz
      · rw [if_neg (by omega)]
        refine pf_get B ?_
        rw [← hz]
        by_cases h3 : i < P.length
        · rw [List.getElem?_append_left h3, List.getElem?_append_left h3]
        · rw [List.getElem?_append_right (by omega), List.getElem?_append_right (by omega)]
          obtain ⟨t, e⟩ : ∃ t, i - P.length = t + 2 := ⟨i - P.length - 2, by omega⟩
          rw [e]; rfl
variable (key)
def sgF (B : Nat → α) (a b : Nat) : Nat → α := pf B a (stb key (seg B a b))
variable {key}
theorem sgF_out (B : Nat → α) {a b i : Nat} (h : i < a ∨ b ≤ i) : sgF key B a b i = B i := by
  by_cases hab : a ≤ b
  · exact pf_out B (by rw [stb_len, seg_len]; omega)
  · unfold sgF; rw [seg_nil B (by omega), stb_nil, pf_nil]
theorem seg_sgF (B : Nat → α) {a b : Nat} : seg (sgF key B a b) a b = stb key (seg B a b) := by
  by_cases hab : a ≤ b
  · exact seg_pf B (by rw [stb_len, seg_len]; omega)
  · rw [seg_nil _ (by omega), seg_nil B (by omega)]; rfl
theorem sgF_triv (B : Nat → α) {a b : Nat} (h : b ≤ a + 1) : sgF key B a b = B := by
  by_cases hb : b ≤ a
  · unfold sgF; rw [seg_nil B hb, stb_nil, pf_nil]
  · obtain rfl : b = a + 1 := by omega
    unfold sgF; rw [seg_one, stb_one, ← seg_one B a, pf_self]
theorem sgF_srt (B : Nat → α) {a b : Nat} : KSrt key (seg (sgF key B a b) a b) := by rw [seg_sgF]; exact stb_srt _
theorem sgF_self (B : Nat → α) {a b : Nat} (h : KSrt key (seg B a b)) : sgF key B a b = B := by unfold sgF; rw [stb_self h, pf_self]
theorem ksrt_seg {B : Nat → α} {a b : Nat} : KSrt key (seg B a b) ↔ ∀ i j, a ≤ i → i < j → j < b → key (B i) ≤ key (B j) := by
  unfold KSrt
  rw [List.pairwise_iff_getElem]
  have g : ∀ i (h : i < (seg B a b).length), (seg B a b)[i] = B (a + i) := fun i h => by
    have := seg_get B (a := a) (b := b) (i := i) (by rw [seg_len] at h; omega)
    rw [List.getElem?_eq_getElem h] at this
    exact Option.some.inj this
  constructor
  · intro h i j h1 h2 h3
    have := h (i - a) (j - a) (by rw [seg_len]; omega) (by rw [seg_len]; omega) (by omega)
    rw [g, g, show a + (i - a) = i by omega, show a + (j - a) = j by omega] at this
    exact this
  · intro h i j hi hj hij
    rw [g, g]
    rw [seg_len] at hj
    exact h _ _ (by omega) (by omega) (by omega)
theorem seg_mono {B : Nat → α} {a b i j : Nat} (h : KSrt key (seg B a b)) (h1 : a ≤ i) (h2 : i ≤ j) (h3 : j < b) : key (B i) ≤ key (B j) := by
  rcases Nat.lt_or_ge i j with hl | hl
  · exact ksrt_seg.1 h i j h1 hl h3
  · obtain rfl : i = j := by omega
    exact Int.le_refl _
theorem ksrt_sub {B : Nat → α} {a b c d : Nat} (h : KSrt key (seg B a b)) (h1 : a ≤ c) (h2 : d ≤ b) : KSrt key (seg B c d) :=
  ksrt_seg.2 fun i j h3 h4 h5 => ksrt_seg.1 h i j (by omega) h4 (by omega)
/-! ranges changed, and turned -/
def swR (B : Nat → α) (p q n : Nat) : Nat → α := fun x => if p ≤ x ∧ x < p + n then B (x + q - p) else if q ≤ x ∧ x < q + n then B (x + p - q) else B x
theorem swR_zero (B : Nat → α) (p q : Nat) : swR B p q 0 = B := by
  funext x; unfold swR; rw [if_neg (by omega), if_neg (by omega)]
theorem swR_succ (B : Nat → α) {p q n : Nat} (h : p + (n + 1) ≤ q) : swF (swR B p q n) (p + n) (q + n) = swR B p q (n + 1) := by
  funext x; unfold swF swR
  by_cases h1 : x = q + n
  · subst h1
    rw [if_pos rfl, if_neg (by omega), if_neg (by omega), if_neg (by omega), if_pos (by omega)]; congr 1; omega
  · rw [if_neg h1]
    by_cases h2 : x = p + n
    · subst h2
      rw [if_pos rfl, if_neg (by omega), if_neg (by omega), if_pos (by omega)]; congr 1; omega
    · rw [if_neg h2]
      by_cases h3 : p ≤ x ∧ x < p + n
      · rw [if_pos h3, if_pos (by omega)]
      · rw [if_neg h3, if_neg (show ¬ (p ≤ x ∧ x < p + (n + 1)) by omega)]
        by_cases h4 : q ≤ x ∧ x < q + n
        · rw [if_pos h4, if_pos (by omega)]
        · rw [if_neg h4, if_neg (by omega)]
def rotP (B : Nat → α) (a m b : Nat) : Nat → α := fun x => if a ≤ x ∧ x < b then (if x < a + (b - m) then B (x + m - a) else B (x - (b - m))) else B x
theorem rotP_out (B : Nat → α) {a m b x : Nat} (h : x < a ∨ b ≤ x) : rotP B a m b x = B x := by unfold rotP; rw [if_neg (by omega)]
theorem rotP_left (B : Nat → α) (m b : Nat) : rotP B m m b = B := by
  funext x; unfold rotP
  by_cases h : m ≤ x ∧ x < b
  · rw [if_pos h, if_pos (by omega)]; congr 1; omega
  · rw [if_neg h]
theorem rotP_right (B : Nat → α) (a m : Nat) : rotP B a m m = B := by
  funext x; unfold rotP
  by_cases h : a ≤ x ∧ x < m
  · rw [if_pos h, if_neg (by omega)]; congr 1; omega
  · rw [if_neg h]
theorem rot_gt (B : Nat → α) {m i j : Nat} (h : j < i) (hi : i ≤ m) : rotP (swR B (m - i) m j) (m - (i - j)) m (m + j) = rotP B (m - i) m (m + j) := by
  funext x; unfold rotP swR
  by_cases h1 : m - i ≤ x ∧ x < m + j
  · rw [if_pos h1]
    by_cases h2 : x < m - i + j
    · rw [if_neg (by omega), if_pos (by omega), if_pos (by omega)]
    · rw [if_pos (by omega), if_neg (show ¬ x < m - i + (m + j - m) by omega)]
      by_cases h3 : x < m - (i - j) + (m + j - m)
      · rw [if_pos h3, if_neg (by omega), if_pos (by omega)]; congr 1; omega
      · rw [if_neg h3, if_neg (by omega), if_neg (by omega)]
  · rw [if_neg h1, if_neg (by omega), if_neg (by omega), if_neg (by omega)]
theorem rot_lt (B : Nat → α) {m i j : Nat} (h : i < j) (hi : i ≤ m) : rotP (swR B (m - i) (m + j - i) i) (m - i) m (m + (j - i)) = rotP B (m - i) m (m + j) := by
  funext x; unfold rotP swR
  by_cases h1 : m - i ≤ x ∧ x < m + j
  · rw [if_pos h1]
    by_cases h2 : x < m + (j - i)
    · rw [if_pos (by omega)]
      by_cases h3 : x < m - i + (m + (j - i) - m)
      · rw [if_pos h3, if_neg (by omega), if_neg (by omega), if_pos (by omega)]
      · rw [if_neg h3, if_pos (by omega), if_pos (by omega)]; congr 1; omega
    · rw [if_neg (by omega), if_neg (by omega), if_pos (by omega), if_neg (by omega)]; congr 1; omega
  · rw [if_neg h1, if_neg (by omega), if_neg (by omega), if_neg (by omega)]
theorem rot_eq (B : Nat → α) {m i : Nat} (hi : i ≤ m) : swR B (m - i) m i = rotP B (m - i) m (m + i) := by
  funext x; unfold rotP swR
  by_cases h1 : m - i ≤ x ∧ x < m + i
  · rw [if_pos h1]
    by_cases h2 : x < m
    · rw [if_pos (by omega), if_pos (by omega)]
    · rw [if_neg (by omega), if_pos (by omega), if_neg (by omega)]; congr 1; omega
  · rw [if_neg h1, if_neg (by omega), if_neg (by omega)]
theorem seg_shift {B C : Nat → α} {a b c : Nat} (h : ∀ i, i < b - a → C (c + i) = B (a + i)) {d : Nat} (hd : d - c = b - a) : seg C c d = seg B a b := by
  unfold seg
  rw [hd]
  exact List.map_congr_left fun i hi => h i (List.mem_range.1 hi)
theorem rot_segs (B : Nat → α) {a m b s mid e : Nat} (he : e = mid + m - s) (h0 : a ≤ s) (h1 : s ≤ m) (h2 : s ≤ mid) (h3 : m ≤ e) (h5 : mid ≤ e) :
    seg (rotP B s m e) a s = seg B a s ∧ seg (rotP B s m e) s mid = seg B m e ∧ seg (rotP B s m e) mid e = seg B s m ∧ seg (rotP B s m e) e b = seg B e b :=
  ⟨seg_ext fun i _ _ => rotP_out B (by omega), seg_shift (fun i hi => by unfold rotP; rw [if_pos (by omega), if_pos (by omega)]; congr 1; omega) (by omega),
    seg_shift (fun i hi => by unfold rotP; rw [if_pos (by omega), if_neg (by omega)]; congr 1; omega) (by omega), seg_ext fun i _ _ => rotP_out B (by omega)⟩
/-- What the symmetric merge does, all in all. -/
theorem merge_cross {B : Nat → α} {a m b s mid e : Nat} (he : e = mid + m - s) (h0 : a ≤ s) (h1 : s ≤ m) (h2 : s ≤ mid) (h3 : m ≤ e) (h4 : e ≤ b) (h5 : mid ≤ e)
    (hA : KSrt key (seg B a m)) (hB : KSrt key (seg B m b)) (p1 : ∀ i j, a ≤ i → i < s → e ≤ j → j < b → key (B i) ≤ key (B j)) (p2 : ∀ i j, m ≤ i → i < e → s ≤ j → j < m → key (B i) < key (B j)) :
    sgF key (sgF key (rotP B s m e) a mid) mid b = sgF key B a b := by
  have e1 : seg (rotP B s m e) a s = seg B a s := seg_ext fun i _ _ => rotP_out B (by omega)
  have e2 : seg (rotP B s m e) s mid = seg B m e := seg_shift (fun i hi => by unfold rotP; rw [if_pos (by omega), if_pos (by omega)]; congr 1; omega) (by omega)
  have e3 : seg (rotP B s m e) mid e = seg B s m := seg_shift (fun i hi => by unfold rotP; rw [if_pos (by omega), if_neg (by omega)]; congr 1; omega) (by omega)
  have e4 : seg (rotP B s m e) e b = seg B e b := seg_ext fun i _ _ => rotP_out B (by omega)
  have c1 : seg (rotP B s m e) a mid = seg B a s ++ seg B m e := by rw [seg_split _ h0 h2, e1, e2]
  have c2 : seg (sgF key (rotP B s m e) a mid) mid b = seg B s m ++ seg B e b := by
    rw [seg_ext (B' := rotP B s m e) fun i _ _ => sgF_out _ (by omega), seg_split _ h5 h4, e3, e4]
  have dA := seg_split B h0 h1
  have dB := seg_split B h3 h4
  have key1 := stb_cross (key := key) (A1 := seg B a s) (A2 := seg B s m) (B1 := seg B m e) (B2 := seg B e b) (by rw [← dA]; exact hA) (by rw [← dB]; exact hB)
    (fun x hx y hy => by
      obtain ⟨i, i1, i2, rfl⟩ := seg_mem.1 hx
      obtain ⟨j, j1, j2, rfl⟩ := seg_mem.1 hy
      exact p1 i j i1 i2 j1 j2)
    (fun x hx y hy => by
      obtain ⟨i, i1, i2, rfl⟩ := seg_mem.1 hx
      obtain ⟨j, j1, j2, rfl⟩ := seg_mem.1 hy
      exact p2 i j i1 i2 j1 j2)
  rw [← dA, ← dB, ← seg_split B (show a ≤ m by omega) (show m ≤ b by omega)] at key1
  show pf (sgF key (rotP B s m e) a mid) mid (stb key (seg (sgF key (rotP B s m e) a mid) mid b)) = pf B a (stb key (seg B a b))
  rw [c2]
  show pf (pf (rotP B s m e) a (stb key (seg (rotP B s m e) a mid))) mid _ = _
  rw [c1]
  have hm : mid = a + (stb key (seg B a s ++ seg B m e)).length := by rw [stb_len, List.length_append, seg_len, seg_len]; omega
  have := pf_app (rotP B s m e) a (stb key (seg B a s ++ seg B m e)) (stb key (seg B s m ++ seg B e b))
  rw [← hm] at this
  rw [this, key1]
  refine pf_eq (fun i hi => ?_) fun i x hx => pf_get _ hx
  rw [stb_len, seg_len] at hi
  rw [pf_out _ (by rw [stb_len, seg_len]; omega), rotP_out B (by omega)]
/-- One is put into a sorted row behind it. -/
theorem ins_left {B : Nat → α} {a b i : Nat} (h0 : a + 1 ≤ i) (h1 : i ≤ b) (hB : KSrt key (seg B (a + 1) b)) (p1 : ∀ t, a + 1 ≤ t → t < i → key (B t) < key (B a)) (p2 : ∀ t, i ≤ t → t < b → key (B a) ≤ key (B t)) :
    pf B a (seg B (a + 1) i ++ [B a]) = sgF key B a b := by
  have h := stb_cons (key := key) (l := seg B (a + 1) b) (x := B a) (P := seg B (a + 1) i) (Q := seg B i b) (by rw [stb_self hB, seg_split B h0 h1])
    (fun y hy => by obtain ⟨t, t1, t2, rfl⟩ := seg_mem.1 hy; exact p1 t t1 t2) (fun y hy => by obtain ⟨t, t1, t2, rfl⟩ := seg_mem.1 hy; exact p2 t t1 t2)
  rw [← seg_cons B (show a < b by omega)] at h
  unfold sgF
  rw [← h, show seg B (a + 1) i ++ B a :: seg B i b = (seg B (a + 1) i ++ [B a]) ++ seg B i b by simp, ← pf_app B a (seg B (a + 1) i ++ [B a]) (seg B i b)]
  have hl : a + (seg B (a + 1) i ++ [B a]).length = i := by rw [List.length_append, seg_len]; simp; omega
  rw [hl]
  rw [show seg B i b = seg (pf B a (seg B (a + 1) i ++ [B a])) i b from seg_ext fun j _ _ => (pf_out B (by omega)).symm, pf_self]
/-- One is put into a sorted row ahead of it. -/
theorem ins_right {B : Nat → α} {a m i : Nat} (h0 : a ≤ i) (h1 : i ≤ m) (hB : KSrt key (seg B a m)) (p1 : ∀ t, a ≤ t → t < i → key (B t) ≤ key (B m)) (p2 : ∀ t, i ≤ t → t < m → key (B m) < key (B t)) :
    pf B i (B m :: seg B i m) = sgF key B a (m + 1) := by
  have h := stb_snoc (key := key) (l := seg B a m) (x := B m) (P := seg B a i) (Q := seg B i m) (by rw [stb_self hB, seg_split B h0 h1])
    (fun y hy => by obtain ⟨t, t1, t2, rfl⟩ := seg_mem.1 hy; exact p1 t t1 t2) (fun y hy => by obtain ⟨t, t1, t2, rfl⟩ := seg_mem.1 hy; exact p2 t t1 t2)
  rw [← seg_succ B (show a ≤ m by omega)] at h
  unfold sgF
  rw [← h, ← pf_app, pf_self]
  congr 1
  rw [seg_len]; omega
/-! blocks that are sorted, each by itself -/
variable (key)
def SB (s : Nat) (C : Nat → α) (lo hi N : Nat) : Prop := ∀ t, s ∣ t → lo ≤ t → t < hi → KSrt key (seg C t (min (t + s) N))
variable {key}
theorem sgF_same (C : Nat → α) {a b N : Nat} (h : a ≤ b) (hb : b ≤ N) : KSame key (seg (sgF key C a b) 0 N) (seg C 0 N) := by
  rw [seg_split _ (Nat.zero_le a) (Nat.le_trans h hb), seg_split _ h hb, seg_split C (Nat.zero_le a) (Nat.le_trans h hb), seg_split C h hb, seg_sgF,
    seg_ext (B' := C) (a := 0) fun i _ _ => sgF_out C (by omega), seg_ext (B' := C) (a := b) fun i _ _ => sgF_out C (by omega)]
  exact (KSame.refl _).app ((stb_same _).app (KSame.refl _))
theorem dvd_next {s t a : Nat} (h : s ∣ t) (h' : s ∣ a) (hl : t < a) : t + s ≤ a := by
  have := Nat.le_of_dvd (by omega) (Nat.dvd_sub h' h)
  omega
theorem SB_step {s a e N : Nat} {C : Nat → α} (hd : s ∣ a) (h : SB key s C 0 a N) (he : min (a + s) N = e) : SB key s (sgF key C a e) 0 (a + s) N := fun t h1 h2 h3 => by
  by_cases ht : t < a
  · have := dvd_next h1 hd ht
    rw [seg_ext (B' := C) fun i _ _ => sgF_out C (by omega)]
    exact h t h1 h2 ht
  · have : t = a := by
      rcases Nat.lt_or_ge a t with hl | hl
      · have := dvd_next hd h1 hl; omega
      · omega
    subst this
    rw [he]; exact sgF_srt C
theorem SB_keep {s a b c N : Nat} {C : Nat → α} (h : SB key s C a N N) (hb : b ≤ c) (ha : a ≤ c) {d : Nat} : SB key s (sgF key C d b) c N N := fun t h1 h2 h3 => by
  rw [seg_ext (B' := C) fun i _ _ => sgF_out C (by omega)]
  exact h t h1 (by omega) h3
theorem SB_less {s a b c d N : Nat} {C : Nat → α} (h : SB key s C a b N) (h1 : a ≤ c) (h2 : d ≤ b) : SB key s C c d N := fun t h3 h4 h5 => h t h3 (by omega) (by omega)
theorem sb_done {B C : Nat → α} {N : Nat} (h : KSame key (seg C 0 N) (seg B 0 N)) (hs : KSrt key (seg C 0 N)) : ∀ i, i < N → C i = sgF key B 0 N i := fun i hi => by
  have e := stb_uniq hs h
  have h1 := seg_get C (a := 0) (b := N) (i := i) (by omega)
  rw [e] at h1
  have h2 := pf_get B (a := 0) h1
  rw [Nat.zero_add] at h1 h2
  exact h2.symm
/-- The insertion, one step on its way. -/
theorem ins_step (B : Nat → α) {a i j : Nat} (ha : a < j) (hj : j ≤ i) (S : List α) (hS : S.length = i - a) :
    swF (pf B a (S.take (j - a) ++ B i :: S.drop (j - a))) j (j - 1) = pf B a (S.take (j - 1 - a) ++ B i :: S.drop (j - 1 - a)) := by
  have hlt : j - 1 - a < S.length := by omega
  have e1 : S.take (j - a) = S.take (j - 1 - a) ++ [S[j - 1 - a]] := by
    rw [show j - a = (j - 1 - a) + 1 by omega, List.take_succ_eq_append_getElem hlt]
  have e2 : S.drop (j - 1 - a) = S[j - 1 - a] :: S.drop (j - a) := by
    rw [List.drop_eq_getElem_cons hlt, show j - 1 - a + 1 = j - a by omega]
  rw [e1, e2, swF_comm, List.append_assoc, List.singleton_append]
  have := pf_swap B (a := a) (p := j - 1) (P := S.take (j - 1 - a)) (Q := S.drop (j - a)) (x := S[j - 1 - a]) (y := B i) (by rw [List.length_take]; omega)
  rw [show j - 1 + 1 = j by omega] at this
  exact this
theorem ins_at (B : Nat → α) {a i j : Nat} (ha : a ≤ j) (hj : j ≤ i) (S : List α) (hS : S.length = i - a) : pf B a (S.take (j - a) ++ B i :: S.drop (j - a)) j = B i := by
  have := pf_get B (a := a) (M := S.take (j - a) ++ B i :: S.drop (j - a)) (i := j - a) (x := B i) (by
    rw [List.getElem?_append_right (by rw [List.length_take]; omega), List.length_take, show j - a - min (j - a) S.length = 0 by omega]; rfl)
  rwa [show a + (j - a) = j by omega] at this
theorem ins_ahead (B : Nat → α) {a i j : Nat} (ha : a < j) (hj : j ≤ i) (S : List α) (hS : S.length = i - a) : S[j - 1 - a]? = some (pf B a (S.take (j - a) ++ B i :: S.drop (j - a)) (j - 1)) := by
  have hlt : j - 1 - a < S.length := by omega
  have := pf_get B (a := a) (M := S.take (j - a) ++ B i :: S.drop (j - a)) (i := j - 1 - a) (x := S[j - 1 - a]) (by
    rw [List.getElem?_append_left (by rw [List.length_take]; omega), List.getElem?_take, if_pos (by omega), List.getElem?_eq_getElem hlt])
  rw [show a + (j - 1 - a) = j - 1 by omega] at this
  rw [this, List.getElem?_eq_getElem hlt]
theorem ins_done (B : Nat → α) {a i j : Nat} (ha : a ≤ j) (hj : j ≤ i) (hQ : ∀ y ∈ (stb key (seg B a i)).drop (j - a), key (B i) < key y)
    (hP : a < j → key (pf B a ((stb key (seg B a i)).take (j - a) ++ B i :: (stb key (seg B a i)).drop (j - a)) (j - 1)) ≤ key (B i)) :
    pf B a ((stb key (seg B a i)).take (j - a) ++ B i :: (stb key (seg B a i)).drop (j - a)) = sgF key B a (i + 1) := by
  have hl : (stb key (seg B a i)).length = i - a := by rw [stb_len, seg_len]
  unfold sgF
  rw [seg_succ B (show a ≤ i by omega)]
  congr 1
  refine stb_snoc (List.take_append_drop _ _).symm (fun y hy => ?_) hQ
  by_cases hj' : a < j
  · have h1 := ins_ahead B hj' hj _ hl
    refine Int.le_trans ?_ (hP hj')
    obtain ⟨t, ht, rfl⟩ := List.mem_iff_getElem.1 hy
    rw [List.length_take] at ht
    have hs := stb_srt (key := key) (seg B a i)
    rw [List.getElem_take]
    rcases Nat.lt_or_ge t (j - 1 - a) with h2 | h2
    · have := List.pairwise_iff_getElem.1 hs t (j - 1 - a) (by omega) (by omega) h2
      rw [List.getElem?_eq_getElem (by omega)] at h1
      rw [Option.some.inj h1] at this
      exact this
    · have e : t = j - 1 - a := by omega
      subst e
      rw [List.getElem?_eq_getElem (by omega)] at h1
      rw [Option.some.inj h1]; exact Int.le_refl _
  · rw [show j - a = 0 by omega] at hy; cases hy
theorem ins_start (B : Nat → α) {a i : Nat} (h : a ≤ i) : pf B a ((stb key (seg B a i)).take (i - a) ++ B i :: (stb key (seg B a i)).drop (i - a)) = sgF key B a i := by
  have hl : (stb key (seg B a i)).length = i - a := by rw [stb_len, seg_len]
  rw [List.take_of_length_le (by omega), List.drop_of_length_le (by omega), ← pf_app, hl, show a + (i - a) = i by omega]
  unfold sgF
  symm
  refine pf_eq (fun _ _ => rfl) fun t x hx => ?_
  cases t with
  | zero =>
    obtain rfl : B i = x := by simpa using hx
    exact pf_out B (by rw [hl]; omega)
  | succ t => simp at hx
end
end Go.Dx
