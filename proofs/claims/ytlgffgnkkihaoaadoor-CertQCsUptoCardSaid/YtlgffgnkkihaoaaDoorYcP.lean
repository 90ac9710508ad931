/- Maps as tries: no Go in sight. -/
import Derived.Test.YtlgffgnkkihaoaaDoorYaE
namespace Go.Proofs.YtlgffgnkkihaoaaDoor
set_option linter.unusedVariables false
set_option linter.unusedSimpArgs false
theorem joinB_bulkT (Ls : List (List Int)) : (joinB Ls).length = 8 + 8 * Ls.length + Ls.flatten.length := by
  have : ∀ Ls : List (List Int), (jn Ls).length = 8 * Ls.length + Ls.flatten.length := fun Ls => by
    induction Ls with
    | nil => rfl
    | cons L r ih => simp only [jn, List.length_append, be8_len, ih, List.flatten_cons, List.length_cons]; omega
  rw [joinB_len, this]; omega
theorem joinB_injT {A B : List (List Int)} (ha : (joinB A).length ≤ 140737488355328) (h : joinB A = joinB B) : A = B := by
  have h1 := split_join ha
  rw [h, split_join (h ▸ ha)] at h1
  exact (Option.some.inj h1).symm
theorem set_ok2 {L : List Int} (h : OkB L) (i : Nat) (x : Int) : OkB (L.set i (IntKind.wrap .u8 x)) := fun y hy => by
  rcases List.mem_or_eq_of_mem_set hy with h1 | h1
  · exact h y h1
  · subst h1; rw [IntKind.wrap_u8]; omega
theorem sumB_ok2 (L : List Int) : OkB (sumB shaK L) := by
  have : ∀ (h : List Int) (i : Nat), OkB (digF h i) := fun h i => by
    induction i with
    | zero =>
      intro x hx
      rw [(List.mem_replicate.1 hx).2]; decide
    | succ i ih =>
      show OkB (put4 (digF h i) _ _)
      unfold put4
      exact set_ok2 (set_ok2 (set_ok2 (set_ok2 ih _ _) _ _) _ _) _ _
  unfold sumB sumH
  exact this _ 8
attribute [local irreducible] sumB joinB
/-- A key's number. -/
def kv : List Int → Nat
  | [] => 0
  | x :: k => x.toNat * 256 ^ k.length + kv k
theorem kv_lt : ∀ {k : List Int}, OkB k → kv k < 256 ^ k.length
  | [], _ => by decide
  | x :: k, h => by
    have h1 := h x (by simp)
    have h2 := kv_lt (k := k) fun y hy => h y (by simp [hy])
    simp only [kv, List.length_cons, Nat.pow_succ]
    have h3 : x.toNat ≤ 255 := by omega
    have h4 := Nat.mul_le_mul_right (256 ^ k.length) h3
    omega
theorem kv_inj : ∀ {a b : List Int}, OkB a → OkB b → a.length = b.length → kv a = kv b → a = b
  | [], [], _, _, _, _ => rfl
  | [], _ :: _, _, _, hl, _ => by simp at hl
  | _ :: _, [], _, _, hl, _ => by simp at hl
  | x :: a, y :: b, ha, hb, hl, h => by
    have hl : a.length = b.length := by simpa using hl
    have h1 := ha x (by simp)
    have h2 := hb y (by simp)
    have ha' : OkB a := fun z hz => ha z (by simp [hz])
    have hb' : OkB b := fun z hz => hb z (by simp [hz])
    have l1 := kv_lt ha'
    have l2 := kv_lt hb'
    simp only [kv, hl] at h l1
    have e1 : x.toNat = y.toNat := by
      have a1 : (x.toNat * 256 ^ b.length + kv a) / 256 ^ b.length = x.toNat := by
        rw [Nat.add_comm, Nat.add_mul_div_right _ _ (Nat.pow_pos (by decide)), Nat.div_eq_of_lt l1]; omega
      have a2 : (y.toNat * 256 ^ b.length + kv b) / 256 ^ b.length = y.toNat := by
        rw [Nat.add_comm, Nat.add_mul_div_right _ _ (Nat.pow_pos (by decide)), Nat.div_eq_of_lt l2]; omega
      rw [← a1, ← a2, h]
    have e2 : kv a = kv b := by rw [e1] at h; omega
    rw [show x = y by omega, kv_inj ha' hb' hl e2]
theorem kv_get : ∀ {k : List Int}, OkB k → ∀ j, j < k.length → kv k / 256 ^ (k.length - 1 - j) % 256 = (k.getD j 0).toNat
  | x :: k, h, 0, _ => by
    have h1 := h x (by simp)
    have l1 := kv_lt (k := k) fun y hy => h y (by simp [hy])
    simp only [kv, List.length_cons, Nat.add_sub_cancel, Nat.sub_zero, List.getD_cons_zero]
    rw [Nat.add_comm, Nat.add_mul_div_right _ _ (Nat.pow_pos (by decide)), Nat.div_eq_of_lt l1]; omega
  | x :: k, h, j + 1, hj => by
    have hj : j < k.length := by simpa using hj
    have ih := kv_get (k := k) (fun y hy => h y (by simp [hy])) j hj
    simp only [kv, List.length_cons, Nat.add_sub_cancel, List.getD_cons_succ]
    rw [← ih]
    have e1 : k.length - (j + 1) = k.length - 1 - j := by omega
    have e2 : x.toNat * 256 ^ k.length = (x.toNat * 256 ^ j * 256) * 256 ^ (k.length - 1 - j) := by
      rw [Nat.mul_assoc, Nat.mul_assoc]
      congr 1
      rw [← Nat.pow_succ', ← Nat.pow_add]; congr 1; omega
    rw [e1, e2, Nat.add_comm, Nat.add_mul_div_right _ _ (Nat.pow_pos (by decide))]
    omega
/-- A key's bit. -/
def bt (k : List Int) (d : Nat) : Nat := kv k / 2 ^ (255 - d) % 2
theorem bt_lt (k : List Int) (d : Nat) : bt k d < 2 := Nat.mod_lt _ (by decide)
theorem mod_bit (X b : Nat) (h : b < 8) : X / 2 ^ b % 2 = X % 256 / 2 ^ b % 2 := by
  match b, h with
  | 0, _ => omega
  | 1, _ => omega
  | 2, _ => omega
  | 3, _ => omega
  | 4, _ => omega
  | 5, _ => omega
  | 6, _ => omega
  | 7, _ => omega
theorem bt_byte {k : List Int} (h : OkB k) (hl : k.length = 32) {i : Nat} (hi : i < 256) : bt k i = (k.getD (i / 8) 0).toNat / 2 ^ (7 - i % 8) % 2 := by
  have g := kv_get h (i / 8) (by omega)
  rw [hl] at g
  unfold bt
  rw [← g, ← mod_bit _ _ (by omega), Nat.div_div_eq_div_mul]
  congr 2
  rw [show (256 : Nat) = 2 ^ 8 by decide, ← Nat.pow_mul, ← Nat.pow_add]
  congr 1; omega
/-- An entry: key, value. -/
abbrev TE := List Int × List Int
def sideT (l : List TE) (d v : Nat) : List TE := l.filter fun e => bt e.1 d == v
def leafT (e : TE) : List Int := joinB [[108, 101, 97, 102], e.1, e.2]
def brT (a b : List Int) : List Int := joinB [[98, 114, 97, 110, 99, 104], a, b]
def emT : List Int := joinB [[101, 109, 112, 116, 121]]
def endT : List TE → List Int
  | [] => emT
  | e :: _ => leafT e
/-- The text of entries, f bits being left. -/
def txT : Nat → List TE → List Int
  | 0, l => endT l
  | f + 1, l => if l.length ≤ 1 then endT l else brT (sumB shaK (txT f (sideT l (255 - f) 0))) (sumB shaK (txT f (sideT l (255 - f) 1)))
def wayT : Nat → List TE → List Int → List (List Int) × List TE
  | 0, l, _ => ([], l)
  | f + 1, l, k => if l.length ≤ 1 then ([], l) else
    (sumB shaK (txT f (sideT l (255 - f) (1 - bt k (255 - f)))) :: (wayT f (sideT l (255 - f) (bt k (255 - f))) k).1, (wayT f (sideT l (255 - f) (bt k (255 - f))) k).2)
def txsT (k : List Int) : Nat → List (List Int) → List TE → List (List Int)
  | _, [], e => [endT e]
  | d, s :: r, e => (if bt k d = 0 then brT (sumB shaK ((txsT k (d + 1) r e).headD [])) s else brT s (sumB shaK ((txsT k (d + 1) r e).headD []))) :: txsT k (d + 1) r e
theorem txs_len (k : List Int) : ∀ (s : List (List Int)) (d : Nat) (e : List TE), (txsT k d s e).length = s.length + 1
  | [], _, _ => rfl
  | _ :: r, d, e => by simp only [txsT, List.length_cons, txs_len k r]
/-- Entries that rise, the bits ahead of the last f being alike. -/
def Srt (f : Nat) (l : List TE) : Prop := l.Pairwise (fun a b => kv a.1 < kv b.1) ∧ ∀ a ∈ l, ∀ b ∈ l, kv a.1 / 2 ^ f = kv b.1 / 2 ^ f
theorem Srt.len0 {l : List TE} (h : Srt 0 l) : l.length ≤ 1 := by
  match l, h with
  | [], _ => exact Nat.zero_le _
  | [_], _ => exact Nat.le_refl _
  | a :: b :: r, h =>
    have h1 := (List.pairwise_cons.1 h.1).1 b (by simp)
    have h2 := h.2 a (by simp) b (by simp)
    simp at h2; omega
theorem Srt.side {f : Nat} {l : List TE} (h : Srt (f + 1) l) (hf : f < 256) (v : Nat) : Srt f (sideT l (255 - f) v) := by
  refine ⟨h.1.sublist List.filter_sublist, fun a ha b hb => ?_⟩
  obtain ⟨a1, a2⟩ := List.mem_filter.1 ha
  obtain ⟨b1, b2⟩ := List.mem_filter.1 hb
  have e := h.2 a a1 b b1
  have a2 := beq_iff_eq.1 a2
  have b2 := beq_iff_eq.1 b2
  unfold bt at a2 b2
  rw [show 255 - (255 - f) = f by omega] at a2 b2
  rw [Nat.pow_succ, ← Nat.div_div_eq_div_mul, ← Nat.div_div_eq_div_mul] at e
  omega
theorem part_eq {p : TE → Nat} : ∀ {l : List TE}, (∀ a ∈ l, p a < 2) → l.Pairwise (fun a b => p a ≤ p b) → l = (l.filter fun e => p e == 0) ++ (l.filter fun e => p e == 1)
  | [], _, _ => rfl
  | a :: l, h, hp => by
    obtain ⟨h1, h2⟩ := List.pairwise_cons.1 hp
    have ih := part_eq (p := p) (fun x hx => h x (by simp [hx])) h2
    have ha := h a (by simp)
    by_cases e : p a = 0
    · rw [List.filter_cons_of_pos (by simp [e]), List.filter_cons_of_neg (by simp [e]), List.cons_append, ← ih]
    · have e1 : p a = 1 := by omega
      have : ∀ x ∈ l, p x = 1 := fun x hx => by have := h1 x hx; have := h x (by simp [hx]); omega
      have f0 : l.filter (fun e => p e == 0) = [] := List.filter_eq_nil_iff.2 fun x hx => by simp [this x hx]
      have f1 : l.filter (fun e => p e == 1) = l := List.filter_eq_self.2 fun x hx => by simp [this x hx]
      rw [List.filter_cons_of_neg (by simp [e]), List.filter_cons_of_pos (by simp [e1]), f0, f1]; rfl
theorem Srt.mono {f : Nat} {l : List TE} (h : Srt (f + 1) l) (hf : f < 256) : l.Pairwise fun a b => bt a.1 (255 - f) ≤ bt b.1 (255 - f) := by
  refine List.Pairwise.imp_of_mem ?_ h.1
  intro a b ha hb hab
  have e := h.2 a ha b hb
  unfold bt
  rw [show 255 - (255 - f) = f by omega]
  rw [Nat.pow_succ, ← Nat.div_div_eq_div_mul, ← Nat.div_div_eq_div_mul] at e
  have := Nat.div_le_div_right (c := 2 ^ f) (Nat.le_of_lt hab)
  omega
theorem Srt.part {f : Nat} {l : List TE} (h : Srt (f + 1) l) (hf : f < 256) : l = sideT l (255 - f) 0 ++ sideT l (255 - f) 1 :=
  part_eq (fun a _ => bt_lt _ _) (h.mono hf)
/-- Where the bits begin to be one. -/
theorem Srt.cut {f n : Nat} {l : List TE} (h : Srt (f + 1) l) (hf : f < 256) (hn : n ≤ l.length) (h0 : ∀ i, (hi : i < l.length) → i < n → bt l[i].1 (255 - f) = 0) (h1 : ∀ i, (hi : i < l.length) → n ≤ i → bt l[i].1 (255 - f) = 1) :
    l.take n = sideT l (255 - f) 0 ∧ l.drop n = sideT l (255 - f) 1 := by
  have e : l = l.take n ++ l.drop n := (List.take_append_drop n l).symm
  have t0 : ∀ x ∈ l.take n, bt x.1 (255 - f) = 0 := fun x hx => by
    obtain ⟨i, hi, rfl⟩ := List.mem_iff_getElem.1 hx
    rw [List.length_take] at hi
    rw [List.getElem_take]; exact h0 i (by omega) (by omega)
  have t1 : ∀ x ∈ l.drop n, bt x.1 (255 - f) = 1 := fun x hx => by
    obtain ⟨i, hi, rfl⟩ := List.mem_iff_getElem.1 hx
    rw [List.length_drop] at hi
    rw [List.getElem_drop]; exact h1 (n + i) (by omega) (by omega)
  unfold sideT
  constructor
  · conv => rhs; rw [e]
    rw [List.filter_append, List.filter_eq_self.2 (fun x hx => by simp [t0 x hx]), List.filter_eq_nil_iff.2 (fun x hx => by simp [t1 x hx]), List.append_nil]
  · conv => rhs; rw [e]
    rw [List.filter_append, List.filter_eq_nil_iff.2 (fun x hx => by simp [t0 x hx]), List.filter_eq_self.2 (fun x hx => by simp [t1 x hx]), List.nil_append]
theorem tx_s (f : Nat) (l : List TE) : txT (f + 1) l = if l.length ≤ 1 then endT l else brT (sumB shaK (txT f (sideT l (255 - f) 0))) (sumB shaK (txT f (sideT l (255 - f) 1))) := rfl
theorem way_s (f : Nat) (l : List TE) (k : List Int) : wayT (f + 1) l k = if l.length ≤ 1 then ([], l) else
    (sumB shaK (txT f (sideT l (255 - f) (1 - bt k (255 - f)))) :: (wayT f (sideT l (255 - f) (bt k (255 - f))) k).1, (wayT f (sideT l (255 - f) (bt k (255 - f))) k).2) := rfl
theorem side_sub (l : List TE) (d v : Nat) : ∀ e ∈ sideT l d v, e ∈ l := fun e he => (List.mem_filter.1 he).1
theorem way_txs (k : List Int) : ∀ {f : Nat} {l : List TE}, Srt f l → f ≤ 256 → (txsT k (256 - f) (wayT f l k).1 (wayT f l k).2).headD [] = txT f l
  | 0, l, h, _ => rfl
  | f + 1, l, h, hf => by
    rw [way_s, tx_s]
    by_cases hl : l.length ≤ 1
    · rw [if_pos hl, if_pos hl]; rfl
    · rw [if_neg hl, if_neg hl]
      have ih := way_txs k (h.side (by omega) (bt k (255 - f))) (by omega)
      show (if bt k (256 - (f + 1)) = 0 then _ else _) = _
      rw [show 256 - (f + 1) + 1 = 256 - f by omega, show 256 - (f + 1) = 255 - f by omega, ih]
      by_cases hb : bt k (255 - f) = 0
      · rw [if_pos hb, hb]
      · have : bt k (255 - f) = 1 := by have := bt_lt k (255 - f); omega
        rw [if_neg hb, this]
theorem way_len (k : List Int) : ∀ (f : Nat) (l : List TE), (wayT f l k).1.length ≤ f
  | 0, l => Nat.le_refl _
  | f + 1, l => by
    rw [way_s]
    split
    · exact Nat.zero_le _
    · simp only [List.length_cons]
      have := way_len k f (sideT l (255 - f) (bt k (255 - f)))
      omega
theorem way_end (k : List Int) : ∀ {f : Nat} {l : List TE}, Srt f l → f ≤ 256 → (wayT f l k).2.length ≤ 1
  | 0, l, h, _ => h.len0
  | f + 1, l, h, hf => by
    rw [way_s]
    split
    · assumption
    · exact way_end k (h.side (by omega) _) (by omega)
theorem way_side (k : List Int) : ∀ (f : Nat) (l : List TE), ∀ s ∈ (wayT f l k).1, ∃ t, s = sumB shaK t
  | 0, l, s, hs => by simp [wayT] at hs
  | f + 1, l, s, hs => by
    rw [way_s] at hs
    split at hs
    · simp at hs
    · rcases List.mem_cons.1 hs with rfl | hs
      · exact ⟨_, rfl⟩
      · exact way_side k f _ s hs
theorem way_mem (k : List Int) : ∀ (f : Nat) (l : List TE), ∀ e ∈ (wayT f l k).2, e ∈ l
  | 0, l, e, he => he
  | f + 1, l, e, he => by
    rw [way_s] at he
    split at he
    · exact he
    · exact side_sub _ _ _ _ (way_mem k f _ e he)
theorem way_fits (k : List Int) : ∀ {f : Nat} {l : List TE}, f ≤ 256 → ∀ e ∈ (wayT f l k).2, ∀ i, i < (wayT f l k).1.length → bt e.1 (256 - f + i) = bt k (256 - f + i)
  | 0, l, _, e, he, i, hi => by simp [wayT] at hi
  | f + 1, l, hf, e, he, i, hi => by
    rw [way_s] at he hi
    split at he
    · rename_i hl; rw [if_pos hl] at hi; simp at hi
    · rename_i hl
      rw [if_neg hl] at hi
      simp only [List.length_cons] at hi
      cases i with
      | zero =>
        have := (List.mem_filter.1 (way_mem k f _ e he)).2
        rw [show 256 - (f + 1) + 0 = 255 - f by omega]
        exact beq_iff_eq.1 this
      | succ i =>
        have := way_fits k (by omega) e he i (by omega)
        rw [show 256 - (f + 1) + (i + 1) = 256 - f + i by omega]; exact this
/-- A key's value. -/
def getT (l : List TE) (k : List Int) : Option (List Int) := (l.find? fun e => decide (e.1 = k)).map (·.2)
theorem find_filter {α : Type} (p q : α → Bool) : ∀ (l : List α), (∀ x ∈ l, p x = true → q x = true) → (l.filter q).find? p = l.find? p
  | [], _ => rfl
  | x :: l, h => by
    have ih := find_filter p q l fun y hy => h y (by simp [hy])
    by_cases hp : p x = true
    · rw [List.filter_cons_of_pos (h x (by simp) hp), List.find?_cons_of_pos hp, List.find?_cons_of_pos hp]
    · by_cases hq : q x = true
      · rw [List.filter_cons_of_pos hq, List.find?_cons_of_neg hp, List.find?_cons_of_neg hp, ih]
      · rw [List.filter_cons_of_neg hq, List.find?_cons_of_neg hp, ih]
theorem way_get (k : List Int) : ∀ (f : Nat) (l : List TE), getT (wayT f l k).2 k = getT l k
  | 0, l => rfl
  | f + 1, l => by
    rw [way_s]
    split
    · rfl
    · rw [show ((sumB shaK (txT f (sideT l (255 - f) (1 - bt k (255 - f)))) :: (wayT f (sideT l (255 - f) (bt k (255 - f))) k).1, (wayT f (sideT l (255 - f) (bt k (255 - f))) k).2) : List (List Int) × List TE).2 = (wayT f (sideT l (255 - f) (bt k (255 - f))) k).2 from rfl, way_get k f]
      unfold getT sideT
      rw [find_filter]
      intro x _ hx
      rw [of_decide_eq_true hx]; simp
/-- The first two unlike texts of one digest. -/
def clT : List (List Int) → List (List Int) → Option (List Int × List Int)
  | a :: A, b :: B => if a ≠ b ∧ sumB shaK a = sumB shaK b then some (a, b) else clT A B
  | _, _ => none
theorem cl_no {a b : List Int} {A B : List (List Int)} (h : clT (a :: A) (b :: B) = none) (hs : sumB shaK a = sumB shaK b) : a = b ∧ clT A B = none := by
  unfold clT at h
  by_cases hc : a ≠ b ∧ sumB shaK a = sumB shaK b
  · rw [if_pos hc] at h; cases h
  · rw [if_neg hc] at h
    exact ⟨Classical.byContradiction fun hne => hc ⟨hne, hs⟩, h⟩
theorem cl_some : ∀ {A B : List (List Int)} {x y : List Int}, clT A B = some (x, y) → x ≠ y ∧ sumB shaK x = sumB shaK y ∧ x ∈ A ∧ y ∈ B
  | a :: A, b :: B, x, y, h => by
    unfold clT at h
    split at h
    · rename_i hc
      simp only [Option.some.injEq, Prod.mk.injEq] at h
      obtain ⟨rfl, rfl⟩ := h
      exact ⟨hc.1, hc.2, by simp, by simp⟩
    · obtain ⟨h1, h2, h3, h4⟩ := cl_some h
      exact ⟨h1, h2, by simp [h3], by simp [h4]⟩
  | [], _, x, y, h => by simp [clT] at h
  | _ :: _, [], x, y, h => by simp [clT] at h
theorem cl_self : ∀ A : List (List Int), clT A A = none
  | [] => rfl
  | a :: A => by unfold clT; rw [if_neg (by simp)]; exact cl_self A
def OkE (e : TE) : Prop := e.1.length = 32 ∧ e.2.length ≤ 1099511627776
theorem brT_inj {a b c d : List Int} (ha : a.length = 32) (hb : b.length = 32) (h : brT a b = brT c d) : a = c ∧ b = d := by
  have := joinB_injT (by rw [joinB_bulkT]; simp [ha, hb]) h
  simpa using this
theorem br_leaf {a b : List Int} {e : TE} (ha : a.length = 32) (hb : b.length = 32) (h : brT a b = leafT e) : False := by
  have := joinB_injT (by rw [joinB_bulkT]; simp [ha, hb]) h
  simp at this
theorem br_em {a b : List Int} (ha : a.length = 32) (hb : b.length = 32) (h : brT a b = emT) : False := by
  have := joinB_injT (by rw [joinB_bulkT]; simp [ha, hb]) h
  simp at this
theorem br_end {a b : List Int} {e : List TE} (ha : a.length = 32) (hb : b.length = 32) (h : brT a b = endT e) : False := by
  cases e with
  | nil => exact br_em ha hb h
  | cons e r => exact br_leaf ha hb h
theorem end_inj {d e : List TE} (hd : d.length ≤ 1) (he : e.length ≤ 1) (h1 : ∀ x ∈ d, OkE x) (h2 : ∀ x ∈ e, OkE x) (h : endT d = endT e) : d = e := by
  match d, e, hd, he with
  | [], [], _, _ => rfl
  | [x], [], _, _ =>
    have hx := h1 x (by simp)
    have := joinB_injT (A := [[108, 101, 97, 102], x.1, x.2]) (by rw [joinB_bulkT]; simp [hx.1]; have := hx.2; omega) h
    simp at this
  | [], [x], _, _ =>
    have hx := h2 x (by simp)
    have := joinB_injT (A := [[108, 101, 97, 102], x.1, x.2]) (by rw [joinB_bulkT]; simp [hx.1]; have := hx.2; omega) h.symm
    simp at this
  | [x], [y], _, _ =>
    have hx := h1 x (by simp)
    have := joinB_injT (A := [[108, 101, 97, 102], x.1, x.2]) (by rw [joinB_bulkT]; simp [hx.1]; have := hx.2; omega) h
    simp only [List.cons.injEq, and_true, true_and] at this
    rw [show x = y from Prod.ext this.1 this.2]
/-- Ways whose texts have one digest at the root and do not clash end alike. -/
theorem ends_eq (k : List Int) {e g : List TE} (he : e.length ≤ 1) (hg : g.length ≤ 1) (h1 : ∀ x ∈ e, OkE x) (h2 : ∀ x ∈ g, OkE x) : ∀ (s t : List (List Int)) (d : Nat), (∀ x ∈ s, x.length = 32) → (∀ x ∈ t, x.length = 32) →
    sumB shaK ((txsT k d s e).headD []) = sumB shaK ((txsT k d t g).headD []) → clT (txsT k d s e) (txsT k d t g) = none → e = g
  | [], [], d, _, _, h, hc => end_inj he hg h1 h2 (cl_no hc h).1
  | [], y :: t, d, _, ht, h, hc => by
    have e1 := (cl_no hc h).1
    have hy := ht y (by simp)
    split at e1 <;> exact (br_end (by first | exact sumB_len _ _ | exact hy) (by first | exact sumB_len _ _ | exact hy) e1.symm).elim
  | x :: s, [], d, hs, _, h, hc => by
    have e1 := (cl_no hc h).1
    have hx := hs x (by simp)
    split at e1 <;> exact (br_end (by first | exact sumB_len _ _ | exact hx) (by first | exact sumB_len _ _ | exact hx) e1).elim
  | x :: s, y :: t, d, hs, ht, h, hc => by
    obtain ⟨e1, hc⟩ := cl_no hc h
    have hx := hs x (by simp)
    have hy := ht y (by simp)
    refine ends_eq k he hg h1 h2 s t (d + 1) (fun z hz => hs z (by simp [hz])) (fun z hz => ht z (by simp [hz])) ?_ hc
    split at e1
    · exact (brT_inj (sumB_len _ _) hx e1).1
    · exact (brT_inj hx (sumB_len _ _) e1).2
/-- What map a list is. -/
def mayT (l : List TE) : Prop := l.Pairwise fun a b => kv a.1 < kv b.1
theorem may_srt {l : List TE} (h : mayT l) (ho : ∀ e ∈ l, e.1.length = 32 ∧ OkB e.1) : Srt 256 l := by
  refine ⟨h, fun a ha b hb => ?_⟩
  have z : ∀ e ∈ l, kv e.1 / 2 ^ 256 = 0 := fun e he => by
    obtain ⟨h1, h2⟩ := ho e he
    have := kv_lt h2
    rw [h1, show (256 : Nat) ^ 32 = 2 ^ 256 by decide] at this
    exact Nat.div_eq_of_lt this
  rw [z a ha, z b hb]
/-- Parts of thirty-two. -/
def chunks (L : List Int) : List (List Int) := (List.range (L.length / 32)).map fun i => (L.drop (32 * i)).take 32
theorem flat_len : ∀ {s : List (List Int)}, (∀ x ∈ s, x.length = 32) → s.flatten.length = 32 * s.length
  | [], _ => rfl
  | x :: s, h => by
    have := flat_len (s := s) fun y hy => h y (by simp [hy])
    have := h x (by simp)
    simp only [List.flatten_cons, List.length_append, List.length_cons]; omega
theorem flat_get : ∀ {s : List (List Int)}, (∀ x ∈ s, x.length = 32) → ∀ i, (hi : i < s.length) → (s.flatten.drop (32 * i)).take 32 = s[i]
  | x :: s, h, 0, _ => by
    have := h x (by simp)
    simp only [List.flatten_cons, Nat.mul_zero, List.drop_zero, List.getElem_cons_zero]
    rw [List.take_append_of_le_length (by omega), List.take_of_length_le (by omega)]
  | x :: s, h, i + 1, hi => by
    have hx := h x (by simp)
    have ih := flat_get (s := s) (fun y hy => h y (by simp [hy])) i (by simpa using hi)
    simp only [List.flatten_cons, List.getElem_cons_succ]
    rw [List.drop_append, List.drop_eq_nil_of_le (by omega), List.nil_append, show 32 * (i + 1) - x.length = 32 * i by omega]
    exact ih
theorem chunks_flat {s : List (List Int)} (h : ∀ x ∈ s, x.length = 32) : chunks s.flatten = s := by
  unfold chunks
  rw [flat_len h, Nat.mul_div_cancel_left _ (by decide)]
  apply List.ext_getElem (by simp)
  intro i h1 h2
  simp only [List.getElem_map, List.getElem_range]
  exact flat_get h i h2
/-- What a proof says. -/
def endP : List (List Int) → Option (List TE)
  | [] => some []
  | [x, y] => if x.length = 32 then some [(x, y)] else none
  | _ => none
def readP : List (List Int) → Option (List (List Int) × List TE)
  | [a, c] => if a.length % 32 = 0 ∧ a.length ≤ 8192 then ((splitB c).bind endP).map fun e => (chunks a, e) else none
  | _ => none
def readT (b : List Int) : Option (List (List Int) × List TE) := (splitB b).bind readP
def endL : List TE → List (List Int)
  | [] => []
  | e :: _ => [e.1, e.2]
def proofT (s : List (List Int)) (e : List TE) : List Int := joinB [s.flatten, joinB (endL e)]
theorem read_proof {s : List (List Int)} {e : List TE} (hs : ∀ x ∈ s, x.length = 32) (hn : s.length ≤ 256) (he : e.length ≤ 1) (ho : ∀ x ∈ e, OkE x) : readT (proofT s e) = some (s, e) := by
  have hf := flat_len hs
  have l1 : (joinB (endL e)).length ≤ 1099511630000 := by
    rw [joinB_bulkT]
    match e, he with
    | [], _ => simp [endL]
    | [x], _ => have hx := ho x (by simp); simp [endL, hx.1]; have := hx.2; omega
  have l2 : (proofT s e).length ≤ 140737488355328 := by
    unfold proofT; rw [joinB_bulkT]; simp only [List.flatten_cons, List.flatten_nil, List.length_append, List.length_cons, List.length_nil, hf]; omega
  unfold readT proofT
  rw [split_join l2]
  rw [Option.bind_some]
  unfold readP
  dsimp only
  rw [if_pos ⟨by rw [hf]; omega, by rw [hf]; omega⟩, split_join (by omega), chunks_flat hs]
  match e, he with
  | [], _ => rfl
  | [x], _ =>
    dsimp only [endL, Option.bind_some, endP]; rw [if_pos (ho x (by simp)).1]; rfl
def fitsT (k : List Int) (s : List (List Int)) (e : List TE) : Bool := (List.range s.length).all fun i => e.all fun x => bt x.1 i == bt k i
instance mayDec (l : List TE) : Decidable (mayT l) := inferInstanceAs (Decidable (List.Pairwise _ _))
theorem may_take {l : List TE} (h : mayT l) (n : Nat) : mayT (l.take n) := h.sublist (List.take_sublist _ _)
theorem may_step {l : List TE} {i : Nat} (h : mayT (l.take (i + 1))) (hi : i + 1 < l.length) : mayT (l.take (i + 2)) ↔ kv l[i].1 < kv l[i + 1].1 := by
  have e : l.take (i + 2) = l.take (i + 1) ++ [l[i + 1]] := List.take_succ_eq_append_getElem hi
  rw [e]
  unfold mayT
  rw [List.pairwise_append]
  have hm : l[i] ∈ l.take (i + 1) := List.mem_iff_getElem.2 ⟨i, by rw [List.length_take]; omega, by rw [List.getElem_take]⟩
  constructor
  · rintro ⟨_, _, h3⟩
    exact h3 _ hm _ (by simp)
  · intro hk
    refine ⟨h, by simp, fun a ha b hb => ?_⟩
    rw [List.mem_singleton.1 hb]
    obtain ⟨j, hj, rfl⟩ := List.mem_iff_getElem.1 ha
    rw [List.length_take] at hj
    by_cases hji : j = i
    · subst hji; rw [List.getElem_take]; exact hk
    · have := List.pairwise_iff_getElem.1 h j i (by rw [List.length_take]; omega) (by rw [List.length_take]; omega) (by omega)
      rw [List.getElem_take, List.getElem_take] at this
      rw [List.getElem_take]; omega
theorem may_not {l : List TE} {i : Nat} (hi : i + 1 < l.length) (h : ¬ kv l[i].1 < kv l[i + 1].1) : ¬ mayT l := fun hm =>
  h (List.pairwise_iff_getElem.1 hm i (i + 1) (by omega) hi (by omega))
theorem may_one {l : List TE} (h : l.length ≤ 1) : mayT l := by
  match l, h with
  | [], _ => exact List.Pairwise.nil
  | [_], _ => exact List.pairwise_singleton _ _
def OkT (e : TE) : Prop := e.1.length = 32 ∧ OkB e.1 ∧ OkB e.2 ∧ e.2.length ≤ 1099511627776
theorem OkT.e {e : TE} (h : OkT e) : OkE e := ⟨h.1, h.2.2.2⟩
theorem flat_mem {α : Type} {x : List α} : ∀ {L : List (List α)}, x ∈ L → x.length ≤ L.flatten.length
  | y :: L, h => by
    simp only [List.flatten_cons, List.length_append]
    rcases List.mem_cons.1 h with rfl | h
    · omega
    · have := flat_mem h; omega
theorem split_len {b : List Int} {Ds : List (List Int)} (h : OkB b) (hs : splitB b = some Ds) : ∀ D ∈ Ds, OkB D ∧ D.length ≤ b.length := fun D hD => by
  refine ⟨splitB_ok h D (by rw [hs]; exact hD), ?_⟩
  have := flat_mem hD
  rw [← join_split h hs, joinB_bulkT]; omega
theorem chunks_ok {a : List Int} (h : OkB a) (hm : a.length % 32 = 0) : ∀ x ∈ chunks a, x.length = 32 ∧ OkB x := fun x hx => by
  obtain ⟨i, hi, rfl⟩ := List.mem_map.1 hx
  have hi := List.mem_range.1 hi
  refine ⟨by rw [List.length_take, List.length_drop]; omega, fun y hy => h y (List.mem_of_mem_drop (List.mem_of_mem_take hy))⟩
theorem chunks_len (a : List Int) : (chunks a).length = a.length / 32 := by simp [chunks]
/-- What is read is well formed. -/
theorem read_ok {b : List Int} {s : List (List Int)} {e : List TE} (hb : OkB b) (h : readT b = some (s, e)) : (∀ x ∈ s, x.length = 32 ∧ OkB x) ∧ s.length ≤ 256 ∧ e.length ≤ 1 ∧ ∀ x ∈ e, x.1.length = 32 ∧ OkB x.1 ∧ OkB x.2 ∧ x.2.length ≤ b.length := by
  unfold readT at h
  cases hs : splitB b with
  | none => rw [hs] at h; cases h
  | some Ds =>
    rw [hs, Option.bind_some] at h
    have hl := split_len hb hs
    match Ds, h with
    | [a, c], h =>
      dsimp only [readP] at h
      by_cases hc : a.length % 32 = 0 ∧ a.length ≤ 8192
      · rw [if_pos hc] at h
        obtain ⟨o1, n1⟩ := hl a (by simp)
        obtain ⟨o2, n2⟩ := hl c (by simp)
        cases hs2 : splitB c with
        | none => rw [hs2] at h; cases h
        | some Es =>
          rw [hs2, Option.bind_some] at h
          have hl2 := split_len o2 hs2
          obtain ⟨g, hg, he⟩ := Option.map_eq_some_iff.1 h
          simp only [Prod.mk.injEq] at he
          obtain ⟨rfl, rfl⟩ := he
          refine ⟨chunks_ok o1 hc.1, by rw [chunks_len]; omega, ?_⟩
          match Es, hg with
          | [], hg => simp only [endP, Option.some.injEq] at hg; subst hg; exact ⟨by decide, by simp⟩
          | [x, y], hg =>
            by_cases h32 : x.length = 32
            · have hg : (if x.length = 32 then some [(x, y)] else none) = some g := hg
              rw [if_pos h32] at hg
              simp only [Option.some.injEq] at hg; subst hg
              obtain ⟨p1, q1⟩ := hl2 x (by simp)
              obtain ⟨p2, q2⟩ := hl2 y (by simp)
              refine ⟨by simp, fun z hz => ?_⟩
              rw [List.mem_singleton.1 hz]
              exact ⟨h32, p1, p2, by show y.length ≤ _; omega⟩
            · have hg : (if x.length = 32 then some [(x, y)] else none) = some g := hg
              rw [if_neg h32] at hg; cases hg
      · rw [if_neg hc] at h; cases h
def rootT (l : List TE) : List Int := sumB shaK (txT 256 l)
def proveT (l : List TE) (k : List Int) : List Int := proofT (wayT 256 l k).1 (wayT 256 l k).2
def ansT : List TE → List Int → List Int × Bool
  | [], _ => ([], false)
  | x :: _, k => if x.1 = k then (x.2, true) else ([], false)
def optA : Option (List Int) → List Int × Bool
  | some v => (v, true)
  | none => ([], false)
theorem ans_get {e : List TE} (he : e.length ≤ 1) (k : List Int) : ansT e k = optA (getT e k) := by
  match e, he with
  | [], _ => rfl
  | [x], _ =>
    unfold ansT getT
    by_cases h : x.1 = k
    · simp [h, optA]
    · simp [h, optA]
def verT (root k b : List Int) : List Int × Bool × Int := match readT b with
  | none => ([], false, 5)
  | some (s, e) => if fitsT k s e = false then ([], false, 19) else if sumB shaK ((txsT k 0 s e).headD []) ≠ root then ([], false, 18) else ((ansT e k).1, (ansT e k).2, 0)
def clashT (l : List TE) (k b : List Int) : Option (List Int × List Int) := match readT b with
  | none => none
  | some (s, e) => if fitsT k s e = true ∧ mayT l then clT (txsT k 0 (wayT 256 l k).1 (wayT 256 l k).2) (txsT k 0 s e) else none
theorem own_read {l : List TE} (hm : mayT l) (ho : ∀ e ∈ l, OkT e) (k : List Int) :
    readT (proveT l k) = some (wayT 256 l k) ∧ fitsT k (wayT 256 l k).1 (wayT 256 l k).2 = true ∧ sumB shaK ((txsT k 0 (wayT 256 l k).1 (wayT 256 l k).2).headD []) = rootT l ∧ (wayT 256 l k).2.length ≤ 1 := by
  have hs := may_srt hm fun e he => ⟨(ho e he).1, (ho e he).2.1⟩
  have he := way_end k hs (Nat.le_refl _)
  refine ⟨?_, ?_, ?_, he⟩
  · refine read_proof (fun x hx => ?_) (way_len k 256 l) he fun x hx => (ho x (way_mem k 256 l x hx)).e
    obtain ⟨t, rfl⟩ := way_side k 256 l x hx
    exact sumB_len _ _
  · unfold fitsT
    rw [List.all_eq_true]
    intro i hi
    rw [List.all_eq_true]
    intro x hx
    have := way_fits k (Nat.le_refl 256) x hx i (List.mem_range.1 hi)
    simpa using this
  · have := way_txs k hs (Nat.le_refl _)
    rw [show 256 - 256 = 0 by decide] at this
    rw [this]; rfl
theorem ver_own {l : List TE} (hm : mayT l) (ho : ∀ e ∈ l, OkT e) (k : List Int) : verT (rootT l) k (proveT l k) = ((optA (getT l k)).1, (optA (getT l k)).2, 0) := by
  obtain ⟨h1, h2, h3, h4⟩ := own_read hm ho k
  unfold verT
  rw [h1]
  dsimp only
  rw [h2, if_neg (by decide), h3, if_neg (by simp), ans_get h4, way_get]
theorem cl_sound {l : List TE} (hm : mayT l) (ho : ∀ e ∈ l, OkT e) {k b : List Int} (hb : OkB b) (hl : b.length ≤ 1099511627776) {v : List Int} {is : Bool} (h : verT (rootT l) k b = (v, is, 0)) (hne : (v, is) ≠ optA (getT l k)) : (clashT l k b).isSome = true := by
  obtain ⟨h1, h2, h3, h4⟩ := own_read hm ho k
  unfold verT at h
  unfold clashT
  cases hr : readT b with
  | none => rw [hr] at h; simp at h
  | some p =>
    obtain ⟨s, e⟩ := p
    rw [hr] at h
    dsimp only at h ⊢
    obtain ⟨r1, r2, r3, r4⟩ := read_ok hb hr
    by_cases hf : fitsT k s e = false
    · rw [if_pos hf] at h; simp at h
    · rw [if_neg hf] at h
      by_cases hq : sumB shaK ((txsT k 0 s e).headD []) ≠ rootT l
      · rw [if_pos hq] at h; simp at h
      · rw [if_neg hq] at h
        have hq := Classical.byContradiction fun x => hq x
        simp only [Prod.mk.injEq, and_true] at h
        rw [if_pos ⟨by simpa using hf, hm⟩]
        cases hc : clT (txsT k 0 (wayT 256 l k).1 (wayT 256 l k).2) (txsT k 0 s e) with
        | some _ => rfl
        | none =>
          exfalso
          have ee := ends_eq k h4 r3 (fun x hx => (ho x (way_mem k 256 l x hx)).e) (fun x hx => ⟨(r4 x hx).1, by have := (r4 x hx).2.2.2; omega⟩) _ _ 0 (fun x hx => by
            obtain ⟨t, rfl⟩ := way_side k 256 l x hx; exact sumB_len _ _) (fun x hx => (r1 x hx).1) (h3.trans hq.symm) hc
          apply hne
          rw [← way_get k 256 l, ee, ← ans_get r3]
          exact Prod.ext h.1.symm h.2.symm
theorem cl_own {l : List TE} (hm : mayT l) (ho : ∀ e ∈ l, OkT e) (k : List Int) : clashT l k (proveT l k) = none := by
  obtain ⟨h1, h2, h3, h4⟩ := own_read hm ho k
  unfold clashT
  rw [h1]
  dsimp only
  rw [if_pos ⟨h2, hm⟩, cl_self]
theorem cl_binds {l m : List TE} (hl : mayT l) (hm : mayT m) (ol : ∀ e ∈ l, OkT e) (om : ∀ e ∈ m, OkT e) (hr : rootT l = rootT m) {k : List Int} (hne : getT l k ≠ getT m k) : (clashT l k (proveT m k)).isSome = true := by
  obtain ⟨h1, h2, h3, h4⟩ := own_read hl ol k
  obtain ⟨g1, g2, g3, g4⟩ := own_read hm om k
  unfold clashT
  rw [g1]
  dsimp only
  rw [if_pos ⟨g2, hl⟩]
  cases hc : clT (txsT k 0 (wayT 256 l k).1 (wayT 256 l k).2) (txsT k 0 (wayT 256 m k).1 (wayT 256 m k).2) with
  | some _ => rfl
  | none =>
    exfalso
    have ee := ends_eq k h4 g4 (fun x hx => (ol x (way_mem k 256 l x hx)).e) (fun x hx => (om x (way_mem k 256 m x hx)).e) _ _ 0 (fun x hx => by
      obtain ⟨t, rfl⟩ := way_side k 256 l x hx; exact sumB_len _ _) (fun x hx => by
      obtain ⟨t, rfl⟩ := way_side k 256 m x hx; exact sumB_len _ _) (h3.trans (hr.trans g3.symm)) hc
    apply hne
    rw [← way_get k 256 l, ee, way_get]
theorem cl_prop {l : List TE} {k b : List Int} {x y : List Int} (h : clashT l k b = some (x, y)) : x ≠ y ∧ sumB shaK x = sumB shaK y ∧ mayT l := by
  unfold clashT at h
  split at h
  · cases h
  · split at h
    · rename_i hc
      obtain ⟨h1, h2, _, _⟩ := cl_some h
      exact ⟨h1, h2, hc.2⟩
    · cases h
end Go.Proofs.YtlgffgnkkihaoaaDoor
