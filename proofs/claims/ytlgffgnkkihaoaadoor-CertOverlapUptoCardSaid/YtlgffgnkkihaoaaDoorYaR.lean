/- The reference's digest, without Go: its constants, block by block. -/
import Derived.Test.YtlgffgnkkihaoaaDoorYaB
namespace Go.Proofs.YtlgffgnkkihaoaaDoor
open Go.Dx Go.RowKit
set_option linter.unusedVariables false
set_option linter.unusedSimpArgs false
theorem okB_take {L : List Int} (h : OkB L) (n : Nat) : OkB (L.take n) := fun x hx => h x (List.mem_of_mem_take hx)
theorem okB_drop {L : List Int} (h : OkB L) (n : Nat) : OkB (L.drop n) := fun x hx => h x (List.mem_of_mem_drop hx)
theorem getD_take {L : List Int} {n i : Nat} (d : Int) (h : i < n) : (L.take n).getD i d = L.getD i d := by
  simp only [List.getD_eq_getElem?_getD, List.getElem?_take, if_pos h]
theorem getD_drop (L : List Int) (n i : Nat) (d : Int) : (L.drop n).getD i d = L.getD (n + i) d := by
  simp only [List.getD_eq_getElem?_getD, List.getElem?_drop]
abbrev U (x : Int) : Int := IntKind.wrap .u64 x
def mA (x y : Int) : Int := U (bAnd .u64 x 4294967295 * bAnd .u64 y 4294967295)
def mB (x y : Int) : Int := U (Int.fdiv x (2 ^ (32 : Nat)) * bAnd .u64 y 4294967295)
def mC (x y : Int) : Int := U (bAnd .u64 x 4294967295 * Int.fdiv y (2 ^ (32 : Nat)))
def mM (x y : Int) : Int := U (U (Int.fdiv (mA x y) (2 ^ (32 : Nat)) + bAnd .u64 (mB x y) 4294967295) + bAnd .u64 (mC x y) 4294967295)
def mulH (x y : Int) : Int := U (U (U (U (Int.fdiv x (2 ^ (32 : Nat)) * Int.fdiv y (2 ^ (32 : Nat))) + Int.fdiv (mB x y) (2 ^ (32 : Nat))) + Int.fdiv (mC x y) (2 ^ (32 : Nat))) + Int.fdiv (mM x y) (2 ^ (32 : Nat)))
def mulL (x y : Int) : Int := U (bAnd .u64 (mA x y) 4294967295 + U (mM x y * 2 ^ (32 : Nat)))
def ltz (hi lo p : Int) : Bool := decide (hi < p) || ((hi == p) && (lo == 0))
def below2 (x p : Int) : Bool := ltz (mulH x x) (mulL x x) p
def below3 (x p : Int) : Bool := ltz (U (U (mulH x x * x) + mulH (mulL x x) x)) (mulL (mulL x x) x) (U (p * 2 ^ (32 : Nat)))
def pt2 (p : Int) : Nat → Int
  | 0 => 0
  | j + 1 => if below2 (U (pt2 p j + U (1 * 2 ^ (35 - j)))) p = true then U (pt2 p j + U (1 * 2 ^ (35 - j))) else pt2 p j
def pt3 (p : Int) : Nat → Int
  | 0 => 0
  | j + 1 => if below3 (U (pt3 p j + U (1 * 2 ^ (35 - j)))) p = true then U (pt3 p j + U (1 * 2 ^ (35 - j))) else pt3 p j
def prF (k : Int) (o : List Int) : Nat → Bool
  | 0 => true
  | i + 1 => prF k o i && (Int.tmod k (o.getD i 0) != 0)
def pst : Nat → List Int
  | 0 => []
  | j + 1 => if prF ((j : Int) + 2) (pst j) (pst j).length = true then pst j ++ [((j : Int) + 2)] else pst j
/-- The sixty-four primes. -/
def P64 : List Int := [2, 3, 5, 7, 11, 13, 17, 19, 23, 29, 31, 37, 41, 43, 47, 53, 59, 61, 67, 71, 73, 79, 83, 89, 97, 101, 103, 107, 109, 113, 127, 131, 137, 139, 149, 151, 157, 163, 167, 173, 179, 181, 191, 193, 197, 199, 211, 223, 227, 229, 233, 239, 241, 251, 257, 263, 269, 271, 277, 281, 283, 293, 307, 311]
theorem pst_310 : pst 310 = P64 := by decide +kernel
theorem pst_pos : ∀ j, ∀ x ∈ pst j, 2 ≤ x
  | 0, x, h => by cases h
  | j + 1, x, h => by
    simp only [pst] at h
    split at h
    · rcases List.mem_append.1 h with h | h
      · exact pst_pos j x h
      · have := List.mem_singleton.1 h; omega
    · exact pst_pos j x h
theorem pst_len : ∀ j, (pst j).length ≤ j
  | 0 => Nat.le_refl _
  | j + 1 => by
    have := pst_len j
    simp only [pst]
    split
    · simp; omega
    · omega
def nh : Nat → List Int
  | 0 => []
  | i + 1 => if i < 8 then nh i ++ [IntKind.wrap .u32 (pt2 (P64.getD i 0) 36)] else nh i
def nk : Nat → List Int
  | 0 => []
  | i + 1 => nk i ++ [IntKind.wrap .u32 (pt3 (P64.getD i 0) 36)]
theorem nh_all : nh 64 = hs0.h := by decide +kernel
theorem nk_all : nk 64 = shaK := by decide +kernel
theorem nh_len : ∀ i, (nh i).length ≤ i
  | 0 => Nat.le_refl _
  | i + 1 => by
    have := nh_len i
    simp only [nh]; split
    · simp; omega
    · omega
theorem nk_len : ∀ i, (nk i).length = i
  | 0 => rfl
  | i + 1 => by simp [nk, nk_len i]
theorem bOr_comm (k : IntKind) (x y : Int) : bOr k x y = bOr k y x := by unfold bOr; rw [BitVec.or_comm]
theorem wr_n (K : List Int) : ∀ (L : List Int) (s : HS), s.ok → OkB L → (wr K s L).n = IntKind.wrap .u64 (s.n + ((L.length : Nat) : Int))
  | [], s, h, _ => by
    have h0 := h.n0
    have h1 := h.n1
    show s.n = _
    rw [IntKind.wrap_u64]; simp; omega
  | x :: L, s, h, hL => by
    have h1 := put1_ok (K := K) h (hL x (by simp))
    show (wr K (put1 K s x) L).n = _
    rw [wr_n K L _ h1 (fun y hy => hL y (by simp [hy]))]
    have e : (put1 K s x).n = IntKind.wrap .u64 (s.n + 1) := by unfold put1; split <;> rfl
    rw [e]
    simp only [IntKind.wrap_u64, List.length_cons]
    push_cast
    omega
/-- Block by block. -/
def hfold (K h L : List Int) : Nat → List Int
  | 0 => h
  | q + 1 => comp K (hfold K h L q) ((L.drop (64 * q)).take 64)
theorem hfold_len (K L : List Int) {h : List Int} (hh : h.length = 8) : ∀ q, (hfold K h L q).length = 8
  | 0 => hh
  | q + 1 => comp_len _ _ (hfold_len K L hh q)
theorem wr_blocks {K : List Int} {s : HS} (hs : s.ok) (hn : s.n % 64 = 0) {L : List Int} (hL : OkB L) : ∀ q, 64 * q ≤ L.length → (wr K s (L.take (64 * q))).h = hfold K s.h L q
  | 0, _ => rfl
  | q + 1, h => by
    have ih := wr_blocks hs hn hL q (by omega) (K := K)
    have e : L.take (64 * (q + 1)) = L.take (64 * q) ++ (L.drop (64 * q)).take 64 := by
      rw [show 64 * (q + 1) = 64 * q + 64 by omega, List.take_add]
    have hA := okB_take hL (64 * q)
    have hc := okB_take (okB_drop hL (64 * q)) 64
    have hw := wr_ok (K := K) hs hA
    have hcl : ((L.drop (64 * q)).take 64).length = 64 := by simp; omega
    have hnn := wr_n K (L.take (64 * q)) s hs hA
    have hln : (L.take (64 * q)).length = 64 * q := by simp; omega
    rw [hln] at hnn
    have hn0 := hs.n0
    have hm : (wr K s (L.take (64 * q))).n % 64 = 0 := by rw [hnn, IntKind.wrap_u64]; push_cast; omega
    rw [e, wr_app, wr_chunk K _ hw hc (by omega) (by rw [hm, hcl]; decide)]
    unfold chunk
    have h64 : IntKind.wrap .u64 ((wr K s (L.take (64 * q))).n + (((L.drop (64 * q)).take 64).length : Int)) % 64 = 0 := by
      rw [hcl, IntKind.wrap_u64]; push_cast; omega
    rw [if_pos h64, hm, ih, hcl]
    show comp K _ _ = comp K _ _
    congr 1
    simp [hw.rl]
/-- The padding of so many bytes. -/
theorem sumB_fold {L : List Int} (hL : OkB L) (hb : L.length < 18446744073709551616) {q : Nat} (hq : 64 * q = (L ++ pad ((L.length : Nat) : Int)).length) : sumB shaK L = digF (hfold shaK hs0.h (L ++ pad ((L.length : Nat) : Int)) q) 8 := by
  have hn : (wr shaK hs0 L).n = ((L.length : Nat) : Int) := by
    rw [wr_n shaK L hs0 hs0_ok hL]
    show IntKind.wrap .u64 (0 + _) = _
    rw [IntKind.wrap_u64]; omega
  unfold sumB sumH
  rw [hn, ← wr_app]
  have := wr_blocks (K := shaK) hs0_ok (by decide) (okB_app hL (pad_ok ((L.length : Nat) : Int))) q (by omega)
  rw [hq, List.take_of_length_le (Nat.le_refl _)] at this
  rw [this]
theorem pad_len (n : Nat) : (pad ((n : Nat) : Int)).length = padz ((n : Nat) : Int) + 9 := by simp [pad, be8]
theorem padded_len (L : List Int) : ∃ q, 64 * q = (L ++ pad ((L.length : Nat) : Int)).length := by
  refine ⟨(L.length + padz ((L.length : Nat) : Int) + 9) / 64, ?_⟩
  rw [List.length_append, pad_len]
  unfold padz
  omega
/-! the reference's own ways -/
theorem padr_go {n j : Nat} (hj : j ≤ padz ((n : Nat) : Int)) (h : Int.tmod (((n + 1 + j : Nat)) : Int) 64 ≠ 56) : j + 1 ≤ padz ((n : Nat) : Int) := by
  rw [Int.tmod_eq_emod_of_nonneg (by omega)] at h
  rcases Nat.lt_or_ge j (padz ((n : Nat) : Int)) with hl | hl
  · omega
  · exfalso
    apply h
    unfold padz at hj hl
    omega
theorem padr_end {n j : Nat} (hn : n < 2305843009213693952) (hj : j ≤ padz ((n : Nat) : Int)) (h : Int.tmod (((n + 1 + j : Nat)) : Int) 64 = 56) : 128 :: List.replicate j 0 ++ be8 (((8 * n : Nat)) : Int) = pad ((n : Nat) : Int) := by
  rw [Int.tmod_eq_emod_of_nonneg (by omega)] at h
  have : j = padz ((n : Nat) : Int) := by unfold padz at hj ⊢; omega
  subst this
  have e : IntKind.wrap .u64 (8 * ((n : Nat) : Int)) = (((8 * n : Nat)) : Int) := by rw [IntKind.wrap_u64]; push_cast; omega
  unfold pad
  rw [e]
theorem fdiv_one (n : Int) : Int.fdiv n (2 ^ (0 : Nat)) = n := by simp
theorem be8r (n : Int) : [] ++ [IntKind.wrap .u8 (Int.fdiv n (2 ^ (56 : Nat)))] ++ [IntKind.wrap .u8 (Int.fdiv n (2 ^ (48 : Nat)))] ++ [IntKind.wrap .u8 (Int.fdiv n (2 ^ (40 : Nat)))] ++ [IntKind.wrap .u8 (Int.fdiv n (2 ^ (32 : Nat)))] ++ [IntKind.wrap .u8 (Int.fdiv n (2 ^ (24 : Nat)))] ++ [IntKind.wrap .u8 (Int.fdiv n (2 ^ (16 : Nat)))] ++ [IntKind.wrap .u8 (Int.fdiv n (2 ^ (8 : Nat)))] ++ [IntKind.wrap .u8 (Int.fdiv n (2 ^ (0 : Nat)))] = be8 n := by
  rw [fdiv_one]; rfl
theorem nxtR (l : List Int) (t : Nat) : IntKind.wrap .u32 (IntKind.wrap .u32 (IntKind.wrap .u32 (sm1 (l.getD (t - 2) 0) + l.getD (t - 7) 0) + sm0 (l.getD (t - 15) 0)) + l.getD (t - 16) 0) = nxt l t := by
  unfold nxt
  simp only [IntKind.wrap_u32']
  omega
theorem or_add' {x y m : Int} (k : Nat) {p : Nat} (hp : 2 ^ k = p) (hx : x = m * (p : Int)) (hm : 0 ≤ m) (hy : 0 ≤ y) (hk : y < (p : Int)) (hb : m * (p : Int) + y < 4294967296) : bOr .u32 x y = x + y := by
  subst hx; exact or_add k hp hm hy hk hb
theorem be4_or2 {a b c d : Int} (ha : 0 ≤ a ∧ a < 256) (hb : 0 ≤ b ∧ b < 256) (hc : 0 ≤ c ∧ c < 256) (hd : 0 ≤ d ∧ d < 256) :
    bOr .u32 (bOr .u32 (bOr .u32 (IntKind.wrap .u32 (IntKind.wrap .u32 a * 2 ^ (24 : Nat))) (IntKind.wrap .u32 (IntKind.wrap .u32 b * 2 ^ (16 : Nat)))) (IntKind.wrap .u32 (IntKind.wrap .u32 c * 2 ^ (8 : Nat)))) (IntKind.wrap .u32 d) = a * 16777216 + b * 65536 + c * 256 + d := by
  have e24 : (2 : Int) ^ (24 : Nat) = 16777216 := rfl
  have e16 : (2 : Int) ^ (16 : Nat) = 65536 := rfl
  have e8 : (2 : Int) ^ (8 : Nat) = 256 := rfl
  rw [e24, e16, e8, wrap32_of (x := a) (by omega) (by omega), wrap32_of (x := b) (by omega) (by omega), wrap32_of (x := c) (by omega) (by omega), wrap32_of (x := d) (by omega) (by omega),
    wrap32_of (x := a * 16777216) (by omega) (by omega), wrap32_of (x := b * 65536) (by omega) (by omega), wrap32_of (x := c * 256) (by omega) (by omega)]
  rw [or_add' (x := a * 16777216) (y := b * 65536) (m := a) 24 rfl rfl (by omega) (by omega) (by show b * 65536 < 16777216; omega) (by show a * 16777216 + b * 65536 < _; omega)]
  rw [or_add' (x := a * 16777216 + b * 65536) (y := c * 256) (m := a * 256 + b) 16 rfl (by show _ = (a * 256 + b) * 65536; omega) (by omega) (by omega) (by show c * 256 < 65536; omega) (by show (a * 256 + b) * 65536 + c * 256 < _; omega)]
  rw [or_add' (x := a * 16777216 + b * 65536 + c * 256) (y := d) (m := a * 65536 + b * 256 + c) 8 rfl (by show _ = (a * 65536 + b * 256 + c) * 256; omega) (by omega) (by omega) (by show d < 256; omega) (by show (a * 65536 + b * 256 + c) * 256 + d < _; omega)]
theorem getD_blk {L : List Int} {o i : Nat} (h : i < 64) : ((L.drop o).take 64).getD i 0 = L.getD (o + i) 0 := by rw [getD_take _ h, getD_drop]
theorem be4_blk (L : List Int) (o t : Nat) (h : t < 16) : be4 ((L.drop o).take 64) (4 * t) = L.getD (o + 4 * t) 0 * 16777216 + L.getD (o + 4 * t + 1) 0 * 65536 + L.getD (o + 4 * t + 2) 0 * 256 + L.getD (o + 4 * t + 3) 0 := by
  unfold be4
  rw [getD_blk (by omega), getD_blk (by omega), getD_blk (by omega), getD_blk (by omega)]
  simp only [Nat.add_assoc]
end Go.Proofs.YtlgffgnkkihaoaaDoor
