/- Parts joined and split: without Go. -/
import Derived.Test.YtlgffgnkkihaoaaDoorYaD
namespace Go.Proofs.YtlgffgnkkihaoaaDoor
open Go.Dx Go.RowKit
set_option linter.unusedVariables false
set_option linter.unusedSimpArgs false
def jn : List (List Int) → List Int
  | [] => []
  | L :: r => be8 ((L.length : Nat) : Int) ++ L ++ jn r
def joinB (Ls : List (List Int)) : List Int := be8 ((Ls.length : Nat) : Int) ++ jn Ls
theorem take_succ_getD {α : Type} (A : List α) (d : α) {i : Nat} (h : i < A.length) : A.take (i + 1) = A.take i ++ [A.getD i d] := by
  rw [List.take_succ_eq_append_getElem h, List.getD_eq_getElem?_getD, List.getElem?_eq_getElem h]; rfl
/-- The number that the first eight bytes are. -/
def be8v (L : List Int) : Int := ((((((L.getD 0 0 * 256 + L.getD 1 0) * 256 + L.getD 2 0) * 256 + L.getD 3 0) * 256 + L.getD 4 0) * 256 + L.getD 5 0) * 256 + L.getD 6 0) * 256 + L.getD 7 0
theorem be8v_lt {L : List Int} (h : OkB L) : 0 ≤ be8v L ∧ be8v L < 18446744073709551616 := by
  have a0 := getD_ok h 0
  have a1 := getD_ok h 1
  have a2 := getD_ok h 2
  have a3 := getD_ok h 3
  have a4 := getD_ok h 4
  have a5 := getD_ok h 5
  have a6 := getD_ok h 6
  have a7 := getD_ok h 7
  unfold be8v
  omega
theorem or_mid (a b k : Nat) (hb : b < 2 ^ k) : a * 2 ^ k ||| b = a * 2 ^ k + b := by
  rw [← Nat.shiftLeft_eq, ← Nat.shiftLeft_add_eq_or_of_lt hb]
theorem nat64 (n : Nat) (hn : n < 2 ^ 64) : (BitVec.ofInt 64 (n : Int)).toNat = n := by
  rw [BitVec.ofInt_natCast, BitVec.toNat_ofNat]; exact Nat.mod_eq_of_lt hn
theorem or64 (a b : Nat) (hb : b < 256) (h : a * 256 + b < 18446744073709551616) : bOr .u64 ((a * 256 : Nat) : Int) (b : Int) = ((a * 256 + b : Nat) : Int) := by
  have g1 : a * 256 < 2 ^ 64 := Nat.lt_of_le_of_lt (Nat.le_add_right _ b) h
  have g2 : b < 2 ^ 64 := Nat.lt_of_le_of_lt (Nat.le_add_left b _) h
  have e : a * 256 ||| b = a * 256 + b := or_mid a b 8 hb
  have : bOr .u64 ((a * 256 : Nat) : Int) (b : Int) = IntKind.wrap .u64 (((BitVec.ofInt 64 ((a * 256 : Nat) : Int)).toNat ||| (BitVec.ofInt 64 (b : Int)).toNat : Nat) : Int) := rfl
  rw [this, nat64 _ g1, nat64 _ g2, e, IntKind.wrap_u64]
  omega
theorem or_step64 {a b : Int} (h0 : 0 ≤ a) (h1 : a < 72057594037927936) (h2 : 0 ≤ b ∧ b < 256) : bOr .u64 (IntKind.wrap .u64 (a * 2 ^ (8 : Nat))) (IntKind.wrap .u64 b) = a * 256 + b := by
  obtain ⟨m, rfl⟩ := Int.eq_ofNat_of_zero_le h0
  obtain ⟨n, rfl⟩ := Int.eq_ofNat_of_zero_le h2.1
  have e : ((m : Int) * 2 ^ (8 : Nat)) = ((m * 256 : Nat) : Int) := by
    show (m : Int) * 256 = _
    rw [Int.natCast_mul]; rfl
  rw [e, IntKind.wrap_u64, IntKind.wrap_u64]
  have e1 : ((m * 256 : Nat) : Int) % 18446744073709551616 = ((m * 256 : Nat) : Int) := by omega
  have e2 : (n : Int) % 18446744073709551616 = (n : Int) := by omega
  rw [e1, e2, or64 m n (by omega) (by omega), Int.natCast_add, Int.natCast_mul]; rfl
theorem or_zero64 {b : Int} (h2 : 0 ≤ b ∧ b < 256) : bOr .u64 0 (IntKind.wrap .u64 b) = b := by
  have := or_step64 (a := 0) (by omega) (by omega) h2
  rw [show IntKind.wrap .u64 (0 * 2 ^ (8 : Nat)) = 0 from rfl] at this
  rw [this]; omega
abbrev st64 (a b : Int) : Int := bOr .u64 (IntKind.wrap .u64 (a * 2 ^ (8 : Nat))) (IntKind.wrap .u64 b)
theorem be8_tk {L : List Int} (h : OkB L) :
    st64 (st64 (st64 (st64 (st64 (st64 (st64 (bOr .u64 0 (IntKind.wrap .u64 ((L.take 8).getD 0 0))) ((L.take 8).getD 1 0)) ((L.take 8).getD 2 0)) ((L.take 8).getD 3 0)) ((L.take 8).getD 4 0)) ((L.take 8).getD 5 0)) ((L.take 8).getD 6 0)) ((L.take 8).getD 7 0) = be8v L := by
  have a0 := getD_ok h 0
  have a1 := getD_ok h 1
  have a2 := getD_ok h 2
  have a3 := getD_ok h 3
  have a4 := getD_ok h 4
  have a5 := getD_ok h 5
  have a6 := getD_ok h 6
  have a7 := getD_ok h 7
  rw [getD_take 0 (by omega), getD_take 0 (by omega), getD_take 0 (by omega), getD_take 0 (by omega), getD_take 0 (by omega), getD_take 0 (by omega), getD_take 0 (by omega), getD_take 0 (by omega)]
  unfold st64 be8v
  rw [or_zero64 a0, or_step64 (by omega) (by omega) a1, or_step64 (by omega) (by omega) a2, or_step64 (by omega) (by omega) a3, or_step64 (by omega) (by omega) a4, or_step64 (by omega) (by omega) a5, or_step64 (by omega) (by omega) a6, or_step64 (by omega) (by omega) a7]
def splitN : Nat → List Int → Option (List (List Int))
  | 0, r => if r.length = 0 then some [] else none
  | k + 1, r => if r.length < 8 ∨ be8v r > ((r.length - 8 : Nat) : Int) then none else (splitN k (r.drop (8 + (be8v r).toNat))).map fun t => (r.drop 8).take (be8v r).toNat :: t
/-- The parts of which bytes are joined. -/
def splitB (L : List Int) : Option (List (List Int)) :=
  if L.length < 8 then none else if be8v L > (((L.length - 8) / 8 : Nat) : Int) then none else splitN (be8v L).toNat (L.drop 8)
theorem u8_nat {x : Int} (h : 0 ≤ x ∧ x < 256) : ((UInt8.ofNat x.toNat).toNat : Int) = x := by
  have : x.toNat < 256 := by omega
  simp [UInt8.toNat_ofNat']
  omega
theorem map_u8_inj : ∀ {A B : List Int}, OkB A → OkB B → (A.map fun n => UInt8.ofNat n.toNat) = (B.map fun n => UInt8.ofNat n.toNat) → A = B
  | [], [], _, _, _ => rfl
  | x :: A, y :: B, ha, hb, h => by
    simp only [List.map_cons, List.cons.injEq] at h
    have h1 := u8_nat (ha x (by simp))
    have h2 := u8_nat (hb y (by simp))
    rw [h.1] at h1
    rw [map_u8_inj (fun z hz => ha z (by simp [hz])) (fun z hz => hb z (by simp [hz])) h.2, ← h1, h2]
  | [], _ :: _, _, _, h => by simp at h
  | _ :: _, [], _, _, h => by simp at h
theorem strOf_eq {A B : List Int} (ha : OkB A) (hb : OkB B) : (ByteArray.toList (strOfNums A) == ByteArray.toList (strOfNums B)) = decide (A = B) := by
  rw [ByteArray.toList_eq, ByteArray.toList_eq, strOfNums_data, strOfNums_data]
  by_cases h : A = B
  · subst h; simp
  · rw [decide_eq_false h]
    rw [beq_eq_false_iff_ne]
    exact fun e => h (map_u8_inj ha hb e)
theorem strOf_ne {A B : List Int} (ha : OkB A) (hb : OkB B) : (ByteArray.toList (strOfNums A) != ByteArray.toList (strOfNums B)) = !decide (A = B) := by
  rw [bne, strOf_eq ha hb]
/-- Rows of parts, one by one. -/
def sameB (A B : List (List Int)) : Bool := decide (A = B)
theorem same_len {A B : List (List Int)} {m n : Nat} (ha : A.length = m) (hb : B.length = n) (h : m ≠ n) : false = sameB A B := by
  unfold sameB
  rw [decide_eq_false (fun e => h (by rw [← ha, ← hb, e]))]
theorem same_ne {A B : List (List Int)} {i : Nat} (ha : ∀ L ∈ A, OkB L) (hb : ∀ L ∈ B, OkB L) (hi : i < A.length) (hj : i < B.length) (h : (ByteArray.toList (strOfNums (A.getD i [])) != ByteArray.toList (strOfNums (B.getD i []))) = true) : false = sameB A B := by
  have h1 : OkB (A.getD i []) := ha _ (by rw [List.getD_eq_getElem?_getD, List.getElem?_eq_getElem hi]; exact List.getElem_mem hi)
  have h2 : OkB (B.getD i []) := hb _ (by rw [List.getD_eq_getElem?_getD, List.getElem?_eq_getElem hj]; exact List.getElem_mem hj)
  rw [strOf_ne h1 h2] at h
  unfold sameB
  rw [decide_eq_false]
  intro e
  subst e
  simp at h
theorem same_more {A B : List (List Int)} {i : Nat} (ha : ∀ L ∈ A, OkB L) (hb : ∀ L ∈ B, OkB L) (hi : i < A.length) (hj : i < B.length) (ht : A.take i = B.take i) (h : (ByteArray.toList (strOfNums (A.getD i [])) != ByteArray.toList (strOfNums (B.getD i []))) = false) : A.take (i + 1) = B.take (i + 1) := by
  have h1 : OkB (A.getD i []) := ha _ (by rw [List.getD_eq_getElem?_getD, List.getElem?_eq_getElem hi]; exact List.getElem_mem hi)
  have h2 : OkB (B.getD i []) := hb _ (by rw [List.getD_eq_getElem?_getD, List.getElem?_eq_getElem hj]; exact List.getElem_mem hj)
  rw [strOf_ne h1 h2] at h
  simp at h
  have h' : A.getD i [] = B.getD i [] := by simpa [List.getD_eq_getElem?_getD] using h
  rw [take_succ_getD A [] hi, take_succ_getD B [] hj, ht, h']
theorem same_all {A B : List (List Int)} {i m n : Nat} (ha : A.length = m) (hb : B.length = n) (hm : m ≤ i) (hn : n ≤ i) (ht : A.take i = B.take i) : true = sameB A B := by
  rw [List.take_of_length_le (by omega), List.take_of_length_le (by omega)] at ht
  unfold sameB
  rw [decide_eq_true ht]
/-! eight bytes and their number -/
theorem be8v_be8 {n : Nat} (h : n < 18446744073709551616) (r : List Int) : be8v (be8 (n : Int) ++ r) = (n : Int) := by
  unfold be8v be8
  simp only [List.cons_append, List.nil_append, List.getD_cons_zero, List.getD_cons_succ, IntKind.wrap_u8]
  have e (k : Nat) : Int.fdiv (n : Int) (2 ^ k) = (n : Int) / 2 ^ k := by
    rw [Int.fdiv_eq_ediv_of_nonneg]
    exact Int.pow_nonneg (by omega)
  rw [e, e, e, e, e, e, e]
  simp only [Int.reducePow]
  omega
theorem be8_be8v {L : List Int} (h : OkB L) (hl : 8 ≤ L.length) : be8 (be8v L) = L.take 8 := by
  have a0 := getD_ok h 0
  have a1 := getD_ok h 1
  have a2 := getD_ok h 2
  have a3 := getD_ok h 3
  have a4 := getD_ok h 4
  have a5 := getD_ok h 5
  have a6 := getD_ok h 6
  have a7 := getD_ok h 7
  have ht : L.take 8 = [L.getD 0 0, L.getD 1 0, L.getD 2 0, L.getD 3 0, L.getD 4 0, L.getD 5 0, L.getD 6 0, L.getD 7 0] := by
    match L, hl with
    | x0 :: x1 :: x2 :: x3 :: x4 :: x5 :: x6 :: x7 :: r, _ => rfl
  rw [ht]
  unfold be8v be8
  simp only [IntKind.wrap_u8]
  generalize L.getD 0 0 = y0 at *
  generalize L.getD 1 0 = y1 at *
  generalize L.getD 2 0 = y2 at *
  generalize L.getD 3 0 = y3 at *
  generalize L.getD 4 0 = y4 at *
  generalize L.getD 5 0 = y5 at *
  generalize L.getD 6 0 = y6 at *
  generalize L.getD 7 0 = y7 at *
  have e (x : Int) (k : Nat) : Int.fdiv x (2 ^ k) = x / 2 ^ k := by
    rw [Int.fdiv_eq_ediv_of_nonneg]
    exact Int.pow_nonneg (by omega)
  rw [e, e, e, e, e, e, e]
  simp only [Int.reducePow]
  simp only [List.cons.injEq, and_true]
  refine ⟨?_, ?_, ?_, ?_, ?_, ?_, ?_, ?_⟩ <;> omega
theorem be8_len (n : Int) : (be8 n).length = 8 := rfl
theorem splitN_jn : ∀ {Ls : List (List Int)}, (∀ L ∈ Ls, L.length < 18446744073709551616) → splitN Ls.length (jn Ls) = some Ls
  | [], _ => rfl
  | L :: r, h => by
    have hL := h L (by simp)
    have hv : be8v (be8 ((L.length : Nat) : Int) ++ (L ++ jn r)) = ((L.length : Nat) : Int) := be8v_be8 hL _
    simp only [jn, List.length_cons, splitN, List.append_assoc]
    rw [hv]
    rw [if_neg (by simp only [List.length_append, be8_len]; omega)]
    have e1 : (be8 ((L.length : Nat) : Int) ++ (L ++ jn r)).drop (8 + ((L.length : Nat) : Int).toNat) = jn r := by
      rw [← List.drop_drop, List.drop_left' (be8_len _), List.drop_left' (by simp)]
    have e2 : ((be8 ((L.length : Nat) : Int) ++ (L ++ jn r)).drop 8).take (((L.length : Nat) : Int).toNat) = L := by
      rw [List.drop_left' (be8_len _), List.take_left' (by simp)]
    rw [e1, e2, splitN_jn (fun M hM => h M (by simp [hM]))]
    rfl
theorem jn_ge : ∀ Ls : List (List Int), 8 * Ls.length ≤ (jn Ls).length
  | [] => Nat.zero_le _
  | L :: r => by
    have := jn_ge r
    simp only [jn, List.length_append, be8_len, List.length_cons]
    omega
theorem jn_mem : ∀ {Ls : List (List Int)} {L : List Int}, L ∈ Ls → L.length ≤ (jn Ls).length
  | M :: r, L, h => by
    simp only [jn, List.length_append, be8_len]
    rcases List.mem_cons.1 h with rfl | h
    · omega
    · have := jn_mem h; omega
theorem joinB_len (Ls : List (List Int)) : (joinB Ls).length = 8 + (jn Ls).length := by simp [joinB, be8_len]
theorem split_join {Ls : List (List Int)} (hb : (joinB Ls).length ≤ 140737488355328) : splitB (joinB Ls) = some Ls := by
  have h8 := jn_ge Ls
  rw [joinB_len] at hb
  have hn : be8v (joinB Ls) = ((Ls.length : Nat) : Int) := be8v_be8 (by omega) _
  unfold splitB
  rw [hn, joinB_len, if_neg (by omega), if_neg (by omega)]
  have : (joinB Ls).drop 8 = jn Ls := List.drop_left' (be8_len _)
  rw [this]
  exact splitN_jn (fun L hL => by have := jn_mem hL; omega)
theorem jn_splitN : ∀ {k : Nat} {R : List Int} {Ds : List (List Int)}, OkB R → splitN k R = some Ds → jn Ds = R ∧ Ds.length = k
  | 0, R, Ds, h, hs => by
    simp only [splitN] at hs
    split at hs
    · rename_i h0
      obtain rfl : R = [] := List.eq_nil_of_length_eq_zero h0
      cases hs; exact ⟨rfl, rfl⟩
    · cases hs
  | k + 1, R, Ds, h, hs => by
    simp only [splitN] at hs
    split at hs
    · cases hs
    · rename_i h0
      cases hr : splitN k (R.drop (8 + (be8v R).toNat)) with
      | none => rw [hr] at hs; cases hs
      | some t =>
        rw [hr] at hs
        simp only [Option.map_some, Option.some.injEq] at hs
        subst hs
        have hv := be8v_lt h
        obtain ⟨i1, i2⟩ := jn_splitN (okB_drop h _) hr
        refine ⟨?_, by simp [i2]⟩
        simp only [jn]
        rw [i1]
        have hl : ((((R.drop 8).take (be8v R).toNat).length : Nat) : Int) = be8v R := by simp only [List.length_take, List.length_drop]; omega
        rw [hl, be8_be8v h (by omega), List.append_assoc, ← List.drop_drop, List.take_append_drop, List.take_append_drop]
theorem join_split {L : List Int} (h : OkB L) {Ds : List (List Int)} (hs : splitB L = some Ds) : joinB Ds = L := by
  unfold splitB at hs
  split at hs
  · cases hs
  · split at hs
    · cases hs
    · rename_i h8 _
      obtain ⟨j1, j2⟩ := jn_splitN (okB_drop h 8) hs
      have hv := be8v_lt h
      unfold joinB
      rw [j1, j2, show (((be8v L).toNat : Nat) : Int) = be8v L by omega, be8_be8v h (by omega), List.take_append_drop]
theorem splitN_ok : ∀ {k : Nat} {R : List Int} {Ds : List (List Int)}, OkB R → splitN k R = some Ds → ∀ D ∈ Ds, OkB D
  | 0, R, Ds, h, hs => by
    simp only [splitN] at hs
    split at hs
    · cases hs; exact fun D hD => by cases hD
    · cases hs
  | k + 1, R, Ds, h, hs => by
    simp only [splitN] at hs
    split at hs
    · cases hs
    · cases hr : splitN k (R.drop (8 + (be8v R).toNat)) with
      | none => rw [hr] at hs; cases hs
      | some t =>
        rw [hr] at hs
        simp only [Option.map_some, Option.some.injEq] at hs
        subst hs
        intro D hD
        rcases List.mem_cons.1 hD with rfl | hD
        · exact okB_take (okB_drop h 8) _
        · exact splitN_ok (okB_drop h _) hr D hD
theorem splitB_ok {L : List Int} (h : OkB L) : ∀ D ∈ (splitB L).getD [], OkB D := by
  cases hs : splitB L with
  | none => exact fun D hD => by cases hD
  | some Ds =>
    unfold splitB at hs
    split at hs
    · cases hs
    · split at hs
      · cases hs
      · exact splitN_ok (okB_drop h 8) hs
/-- Unlike rows of parts have unlike bytes. -/
theorem join_inj {A B : List (List Int)} (ha : (joinB A).length ≤ 140737488355328) (hb : (joinB B).length ≤ 140737488355328) : decide (joinB A = joinB B) = sameB A B := by
  unfold sameB
  by_cases h : A = B
  · subst h; simp
  · rw [decide_eq_false h, decide_eq_false]
    intro e
    have h1 := split_join ha
    rw [e, split_join hb] at h1
    exact h (Option.some.inj h1).symm
/-- How far the splitting has come. -/
structure SJ (L : List Int) (Ds : List (List Int)) (R : List Int) : Prop where
  l8 : 8 ≤ L.length
  le : Ds.length ≤ (be8v L).toNat
  ok : OkB R
  len : R.length + 8 * Ds.length ≤ L.length
  eq : splitB L = (splitN ((be8v L).toNat - Ds.length) R).map (Ds ++ ·)
theorem splitN_big {k : Nat} {R : List Int} (h : OkB R) (hk : R.length < 8 * k) : splitN k R = none := by
  cases hs : splitN k R with
  | none => rfl
  | some Ds =>
    obtain ⟨h1, h2⟩ := jn_splitN h hs
    have := jn_ge Ds
    rw [h1, h2] at this; omega
theorem SJ.init {L : List Int} (h : OkB L) (h8 : 8 ≤ L.length) : SJ L [] (L.drop 8) where
  l8 := h8
  le := Nat.zero_le _
  ok := okB_drop h 8
  len := by simp only [List.length_drop, List.length_nil]; omega
  eq := by
    have hid : ∀ o : Option (List (List Int)), o.map (([] : List (List Int)) ++ ·) = o := fun o => by cases o <;> simp
    rw [hid]
    unfold splitB
    rw [if_neg (by omega)]
    split
    · rename_i hb
      have hv := be8v_lt h
      exact (splitN_big (okB_drop h 8) (by simp only [List.length_drop]; show L.length - 8 < 8 * ((be8v L).toNat - 0); omega)).symm
    · rfl
theorem SJ.bad {L : List Int} {Ds : List (List Int)} {R : List Int} (h : SJ L Ds R) (hl : Ds.length < (be8v L).toNat) (hb : R.length < 8 ∨ be8v R > ((R.length - 8 : Nat) : Int)) : splitB L = none := by
  rw [h.eq, show (be8v L).toNat - Ds.length = ((be8v L).toNat - Ds.length - 1) + 1 by omega, splitN, if_pos hb]
  rfl
theorem SJ.next {L : List Int} {Ds : List (List Int)} {R : List Int} (h : SJ L Ds R) (hl : Ds.length < (be8v L).toNat) (hb : ¬ (R.length < 8 ∨ be8v R > ((R.length - 8 : Nat) : Int))) : SJ L (Ds ++ [(R.drop 8).take (be8v R).toNat]) (R.drop (8 + (be8v R).toNat)) where
  l8 := h.l8
  le := by simp; omega
  ok := okB_drop h.ok _
  len := by have := h.len; simp; omega
  eq := by
    rw [h.eq, show (be8v L).toNat - Ds.length = ((be8v L).toNat - (Ds ++ [(R.drop 8).take (be8v R).toNat]).length) + 1 by simp; omega, splitN, if_neg hb]
    rw [Option.map_map]
    congr 1
    funext x
    simp
theorem SJ.fin {L : List Int} {Ds : List (List Int)} {R : List Int} (h : SJ L Ds R) (hl : Ds.length = (be8v L).toNat) : splitB L = if R.length = 0 then some Ds else none := by
  rw [h.eq, hl, Nat.sub_self, splitN]
  split <;> simp
end Go.Proofs.YtlgffgnkkihaoaaDoor
