/- The reference's constants: how it works them out. -/
import Derived.Test.YtjcghjgennddaaaDoorShaA
import Derived.Test.YtjcghjgennddaaaDoorSxDeep
namespace Go.Proofs.YtjcghjgennddaaaDoor
open Go.RowKit Go.Sx
set_option linter.unusedVariables false
set_option linter.unusedSimpArgs false
abbrev U (x : Int) : Int := IntKind.wrap .u64 x
def mA (x y : Int) : Int := U (bAnd .u64 x 4294967295 * bAnd .u64 y 4294967295)
def mB (x y : Int) : Int := U (Int.fdiv x (2 ^ (32 : Nat)) * bAnd .u64 y 4294967295)
def mC (x y : Int) : Int := U (bAnd .u64 x 4294967295 * Int.fdiv y (2 ^ (32 : Nat)))
def mM (x y : Int) : Int := U (U (Int.fdiv (mA x y) (2 ^ (32 : Nat)) + bAnd .u64 (mB x y) 4294967295) + bAnd .u64 (mC x y) 4294967295)
def mulH (x y : Int) : Int := U (U (U (U (Int.fdiv x (2 ^ (32 : Nat)) * Int.fdiv y (2 ^ (32 : Nat))) + Int.fdiv (mB x y) (2 ^ (32 : Nat))) + Int.fdiv (mC x y) (2 ^ (32 : Nat))) + Int.fdiv (mM x y) (2 ^ (32 : Nat)))
def mulL (x y : Int) : Int := U (bAnd .u64 (mA x y) 4294967295 + U (mM x y * 2 ^ (32 : Nat)))
def ltz (hi lo p : Int) : Bool := decide (hi < p) || ((hi == p) && (lo == 0))
def below2 (x p : Int) : Bool := ltz (mulH x x) (mulL x x) p
def below3 (x p : Int) : Bool := ltz (U (U (mulH x x * x) + mulH (mulL x x) x)) (mulL (mulL x x) x) (U (p * 2 ^ (32 : Nat)))
def pt2 (p : Int) : Nat → Int
  | 0 => 0
  | j + 1 => if below2 (U (pt2 p j + U (1 * 2 ^ (35 - j)))) p = true then U (pt2 p j + U (1 * 2 ^ (35 - j))) else pt2 p j
def pt3 (p : Int) : Nat → Int
  | 0 => 0
  | j + 1 => if below3 (U (pt3 p j + U (1 * 2 ^ (35 - j)))) p = true then U (pt3 p j + U (1 * 2 ^ (35 - j))) else pt3 p j
def prF (k : Int) (o : List Int) : Nat → Bool
  | 0 => true
  | i + 1 => prF k o i && (Int.tmod k (o.getD i 0) != 0)
def pst : Nat → List Int
  | 0 => []
  | j + 1 => if prF ((j : Int) + 2) (pst j) (pst j).length = true then pst j ++ [((j : Int) + 2)] else pst j
/-- The sixty-four primes. -/
def P64 : List Int := [2, 3, 5, 7, 11, 13, 17, 19, 23, 29, 31, 37, 41, 43, 47, 53, 59, 61, 67, 71, 73, 79, 83, 89, 97, 101, 103, 107, 109, 113, 127, 131, 137, 139, 149, 151, 157, 163, 167, 173, 179, 181, 191, 193, 197, 199, 211, 223, 227, 229, 233, 239, 241, 251, 257, 263, 269, 271, 277, 281, 283, 293, 307, 311]
theorem pst_310 : pst 310 = P64 := by decide +kernel
theorem pst_pos : ∀ j, ∀ x ∈ pst j, 2 ≤ x
  | 0, x, h => by cases h
  | j + 1, x, h => by
    simp only [pst] at h
    split at h
    · rcases List.mem_append.1 h with h | h
      · exact pst_pos j x h
      · have := List.mem_singleton.1 h; omega
    · exact pst_pos j x h
theorem pst_len : ∀ j, (pst j).length ≤ j
  | 0 => Nat.le_refl _
  | j + 1 => by
    have := pst_len j
    simp only [pst]
    split
    · simp; omega
    · omega
def nh : Nat → List Int
  | 0 => []
  | i + 1 => if i < 8 then nh i ++ [IntKind.wrap .u32 (pt2 (P64.getD i 0) 36)] else nh i
def nk : Nat → List Int
  | 0 => []
  | i + 1 => nk i ++ [IntKind.wrap .u32 (pt3 (P64.getD i 0) 36)]
theorem nh_all : nh 64 = hs0.h := by decide +kernel
theorem nk_all : nk 64 = shaK := by decide +kernel
theorem nh_len : ∀ i, (nh i).length ≤ i
  | 0 => Nat.le_refl _
  | i + 1 => by
    have := nh_len i
    simp only [nh]; split
    · simp; omega
    · omega
theorem nk_len : ∀ i, (nk i).length = i
  | 0 => rfl
  | i + 1 => by simp [nk, nk_len i]
theorem bOr_comm (k : IntKind) (x y : Int) : bOr k x y = bOr k y x := by unfold bOr; rw [BitVec.or_comm]
end Go.Proofs.YtjcghjgennddaaaDoor
