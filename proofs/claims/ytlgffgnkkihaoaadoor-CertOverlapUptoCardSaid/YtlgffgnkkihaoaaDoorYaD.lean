/- The reference: its digest. -/
import Derived.Test.YtlgffgnkkihaoaaDoorYaC
namespace Go.Proofs.YtlgffgnkkihaoaaDoor
open Go.Dx Go.RowKit
set_option linter.unusedVariables false
set_option linter.unusedSimpArgs false
set_option maxRecDepth 100000
attribute [local irreducible] wpS
abbrev Mp (L : List Int) : List Int := L ++ pad ((L.length : Nat) : Int)
abbrev bk (L : List Int) (q : Nat) : List Int := (L.drop (64 * q)).take 64
def hq (L : List Int) (q : Nat) : List Int := hfold shaK hs0.h (Mp L) q
def sc (L : List Int) (q t : Nat) : List Int := sch (bk (Mp L) q) t
def rn (L : List Int) (q t : Nat) : List Int := rnds shaK (sc L q 64) (hq L q) t
def ad (L : List Int) (q i : Nat) : List Int := addv (hq L q) (rn L q 64) i
def ml (L : List Int) : Nat := List.length (Mp L)
def dgb (H : List Int) : Nat → List Int
  | 0 => List.replicate 32 0
  | i + 1 => (dgb H i).set i (IntKind.wrap .u8 (Int.fdiv (H.getD (i / 4) 0) (2 ^ (24 - 8 * (i % 4)))))
theorem rq (x : Int) : rotq x 7 = rotr 7 x ∧ rotq x 18 = rotr 18 x ∧ rotq x 17 = rotr 17 x ∧ rotq x 19 = rotr 19 x ∧ rotq x 6 = rotr 6 x ∧ rotq x 11 = rotr 11 x ∧ rotq x 25 = rotr 25 x ∧ rotq x 2 = rotr 2 x ∧ rotq x 13 = rotr 13 x ∧ rotq x 22 = rotr 22 x := by
  have h : ∀ n : Nat, bOr .u32 (Int.fdiv x (2 ^ n)) (IntKind.wrap .u32 (x * 2 ^ (32 - n))) = rotr n x := fun n => bOr_comm ..
  exact ⟨h 7, h 18, h 17, h 19, h 6, h 11, h 25, h 2, h 13, h 22⟩
theorem hq_len (L : List Int) (q : Nat) : (hq L q).length = 8 := hfold_len _ _ rfl q
theorem rn_len (L : List Int) (q t : Nat) : (rn L q t).length = 8 := rnds_len _ _ (hq_len L q) t
theorem ad_len (L : List Int) (q t : Nat) : (ad L q t).length = 8 := addv_len _ (hq_len L q) t
theorem dgb_dig (H : List Int) : ∀ k, dgb H (4 * k) = digF H k
  | 0 => rfl
  | k + 1 => by
    rw [show 4 * (k + 1) = 4 * k + 1 + 1 + 1 + 1 by omega]
    simp only [dgb, digF, put4, dgb_dig H k]
    rw [show (4 * k) / 4 = k by omega, show (4 * k) % 4 = 0 by omega, show (4 * k + 1) / 4 = k by omega, show (4 * k + 1) % 4 = 1 by omega, show (4 * k + 1 + 1) / 4 = k by omega, show (4 * k + 1 + 1) % 4 = 2 by omega, show (4 * k + 1 + 1 + 1) / 4 = k by omega, show (4 * k + 1 + 1 + 1) % 4 = 3 by omega]
noncomputable def an15 (L : List Int) : Nat → List Nat → List Ann := fun bk_ gs_ => match bk_, gs_ with
    | 0, _ => [{ τ := Nat, t0 := (default : Nat), J := fun t => t ≤ padz (L.length : Int), m := fun t => padz (L.length : Int) - t, l := fun t => [(0, .s (.a (.d (.si .u8 L)))), (2, .s (.a (.lp 2 0))), (3, .s (.a (.rw 3))), (4, .s (.a (.rw 4))), (5, .s (.a (.rw 5)))], H := fun t => [(2, .cells [.ints .u8 32 (List.replicate 32 0)] 27), (3, .row (.ints .u32 hs0.h) 170), (4, .row (.ints .u32 shaK) 170), (5, .row (.ints .u8 (L ++ 128 :: List.replicate t 0)) 5)] }]
    | 2, _ => [{ τ := Nat, t0 := (default : Nat), J := fun q => 64 * q ≤ ml L, m := fun q => ml L - 64 * q, l := fun q => [(2, .s (.a (.lp 2 0))), (3, .s (.a (.rw 3))), (4, .s (.a (.rw 4))), (5, .s (.a (.d (.si .u8 (Mp L))))), (6, eI .i64 ((64 * q : Nat) : Int))], H := fun q => [(2, .cells [.ints .u8 32 (List.replicate 32 0)] 27), (3, .row (.ints .u32 (hq L q)) 170), (4, .row (.ints .u32 shaK) 170)] }]
    | 4, m :: _ => [{ τ := Nat × Nat, t0 := (default : Nat × Nat), J := fun t => 64 * t.1 + 64 ≤ ml L ∧ t.2 ≤ 64 ∧ ml L - 64 * t.1 = m, m := fun t => 64 - t.2, l := fun t => [(2, .s (.a (.lp 2 0))), (3, .s (.a (.rw 3))), (4, .s (.a (.rw 4))), (5, .s (.a (.d (.si .u8 (Mp L))))), (6, eI .i64 ((64 * t.1 : Nat) : Int)), (7, .s (.a (.rw 7))), (8, eI .i64 t.2)], H := fun t => [(2, .cells [.ints .u8 32 (List.replicate 32 0)] 27), (3, .row (.ints .u32 (hq L t.1)) 170), (4, .row (.ints .u32 shaK) 170), (7, .row (.ints .u32 (sc L t.1 t.2)) 170)] }]
    | 6, m :: _ => [{ τ := Nat × Nat, t0 := (default : Nat × Nat), J := fun t => 64 * t.1 + 64 ≤ ml L ∧ t.2 ≤ 64 ∧ ml L - 64 * t.1 = m, m := fun t => 64 - t.2, l := fun t => [(2, .s (.a (.lp 2 0))), (3, .s (.a (.rw 3))), (4, .s (.a (.rw 4))), (5, .s (.a (.d (.si .u8 (Mp L))))), (6, eI .i64 ((64 * t.1 : Nat) : Int)), (7, .s (.a (.rw 7))), (12, .s (.a (.rw 12))), (13, eI .i64 t.2)], H := fun t => [(2, .cells [.ints .u8 32 (List.replicate 32 0)] 27), (3, .row (.ints .u32 (hq L t.1)) 170), (4, .row (.ints .u32 shaK) 170), (7, .row (.ints .u32 (sc L t.1 64)) 170), (12, .row (.ints .u32 (rn L t.1 t.2)) 170)] }]
    | 8, m :: _ => [{ τ := Nat × Nat, t0 := (default : Nat × Nat), J := fun t => 64 * t.1 + 64 ≤ ml L ∧ t.2 ≤ 8 ∧ ml L - 64 * t.1 = m, m := fun t => 8 - t.2, l := fun t => [(2, .s (.a (.lp 2 0))), (3, .s (.a (.rw 3))), (4, .s (.a (.rw 4))), (5, .s (.a (.d (.si .u8 (Mp L))))), (6, eI .i64 ((64 * t.1 : Nat) : Int)), (12, .s (.a (.rw 12))), (19, eI .i64 t.2)], H := fun t => [(2, .cells [.ints .u8 32 (List.replicate 32 0)] 27), (3, .row (.ints .u32 (ad L t.1 t.2)) 170), (4, .row (.ints .u32 shaK) 170), (12, .row (.ints .u32 (rn L t.1 64)) 170)] }]
    | 10, _ => [{ τ := Nat × Nat, t0 := (default : Nat × Nat), J := fun t => 64 * t.1 = ml L ∧ t.2 ≤ 32, m := fun t => 32 - t.2, l := fun t => [(2, .s (.a (.lp 2 0))), (3, .s (.a (.rw 3))), (20, .s (.a (.lp 20 0))), (21, eI .i64 t.2)], H := fun t => [(2, .cells [.ints .u8 32 (List.replicate 32 0)] 27), (3, .row (.ints .u32 (hq L t.1)) 170), (20, .cells [.ints .u8 32 (dgb (hq L t.1) t.2)] 27)] }]
    | _, _ => []
theorem ok15 (L : List Int) (hp : allP [OkB L, L.length + 100 ≤ lim]) : CallsOk Tryd.prog Gs 79 [.a (.d (.si .u8 L))] [] (.s (.agg [.ints .u8 32 (sumB shaK L)])) [] :=
  ok_of (ann := an15 L) ctok_41 mixed Tryd.func79 (by kernel_rfl) (of_nf (p := let l18 := (IntKind.bits IntKind.u32); let l17 := (↑(List.length L) : Int); let l31 := (IntKind.wrap IntKind.u64 ((8 : Int) * IntKind.wrap IntKind.u64 l17)); Cont.len (Cont.ints IntKind.u8 []) + Cont.len (Cont.ints IntKind.u8 L) ≤ lim ∧ Cont.len (Cont.ints IntKind.u8 ([] ++ L)) + Cont.len (Cont.ints IntKind.u8 [(128 : Int)]) ≤ lim ∧ (∃ (t : Nat), L = L ∧ List.replicate (32 : Nat) (0 : Int) = List.replicate (32 : Nat) (0 : Int) ∧ HS.h hs0 = HS.h hs0 ∧ shaK = shaK ∧ [] ++ L ++ [(128 : Int)] = L ++ (128 : Int) :: List.replicate t (0 : Int) ∧ t ≤ padz l17 ∧ True) ∧ ∀ (t : Nat), let l16 := (Cont.ints IntKind.u8 (L ++ (128 : Int) :: List.replicate t (0 : Int))); t ≤ padz l17 → (64 : Int) ≠ (0 : Int) ∧ brP (Int.tmod (↑(Cont.len l16) : Int) (64 : Int) != (56 : Int)) (Cont.len l16 + Cont.len (Cont.ints IntKind.u8 [(0 : Int)]) ≤ lim ∧ ∃ (t_1 : Nat), L = L ∧ List.replicate (32 : Nat) (0 : Int) = List.replicate (32 : Nat) (0 : Int) ∧ HS.h hs0 = HS.h hs0 ∧ shaK = shaK ∧ L ++ (128 : Int) :: List.replicate t (0 : Int) ++ [(0 : Int)] = L ++ (128 : Int) :: List.replicate t_1 (0 : Int) ∧ t_1 ≤ padz l17 ∧ padz l17 - t_1 < padz l17 - t ∧ True) (Cont.len l16 + Cont.len (Cont.ints IntKind.u8 (be8 l31)) ≤ lim ∧ (∃ (t_1 : Nat), L ++ (128 : Int) :: List.replicate t (0 : Int) ++ be8 l31 = Mp L ∧ (0 : Int) = (↑((64 : Nat) * t_1) : Int) ∧ List.replicate (32 : Nat) (0 : Int) = List.replicate (32 : Nat) (0 : Int) ∧ HS.h hs0 = hq L t_1 ∧ shaK = shaK ∧ (64 : Nat) * t_1 ≤ ml L ∧ True) ∧ ∀ (t : Nat), (64 : Nat) * t ≤ ml L → brP (decide ((↑((64 : Nat) * t) : Int) < (↑(List.length (Mp L)) : Int))) (((0 : Int) ≤ (64 : Int) ∧ (64 : Int) ≤ (64 : Int) ∧ (64 : Int) ≤ (↑lim : Int)) ∧ (∃ (t_1 : Nat × Nat), Mp L = Mp L ∧ (↑((64 : Nat) * t) : Int) = (↑((64 : Nat) * Prod.fst t_1) : Int) ∧ (0 : Int) = (↑(Prod.snd t_1) : Int) ∧ List.replicate (32 : Nat) (0 : Int) = List.replicate (32 : Nat) (0 : Int) ∧ hq L t = hq L (Prod.fst t_1) ∧ shaK = shaK ∧ List.replicate (Int.toNat (64 : Int)) (0 : Int) = sc L (Prod.fst t_1) (Prod.snd t_1) ∧ ((64 : Nat) * Prod.fst t_1 + (64 : Nat) ≤ ml L ∧ Prod.snd t_1 ≤ (64 : Nat) ∧ ml L - (64 : Nat) * Prod.fst t_1 = ml L - (64 : Nat) * t) ∧ True) ∧ ∀ (t_1 : Nat × Nat), let l30 := ((↑(Prod.snd t_1) : Int) - (7 : Int)); let l29 := ((↑(Prod.snd t_1) : Int) - (2 : Int)); let l28 := ((↑(Prod.snd t_1) : Int) - (16 : Int)); let l27 := ((↑(Prod.snd t_1) : Int) - (15 : Int)); let l19 := (↑((64 : Nat) * Prod.fst t_1) : Int); let l6 := (sc L (Prod.fst t_1) (Prod.snd t_1)); let l12 := (List.getD l6 (Int.toNat (IntKind.wrap IntKind.i64 l29)) (0 : Int)); let l11 := (List.getD l6 (Int.toNat (IntKind.wrap IntKind.i64 l27)) (0 : Int)); let l5 := (l19 + IntKind.wrap IntKind.i64 ((4 : Int) * (↑(Prod.snd t_1) : Int))); let l24 := (IntKind.wrap IntKind.i64 l5 + (4 : Int)); let l4 := (↑(Cont.len (Cont.ints IntKind.u32 l6)) : Int); let l34 := ((0 : Int) ≤ (↑(Prod.snd t_1) : Int) ∧ (↑(Prod.snd t_1) : Int) < l4); let l8 := ((0 : Int) ≤ IntKind.wrap IntKind.i64 l29 ∧ IntKind.wrap IntKind.i64 l29 < l4); let l7 := ((0 : Int) ≤ IntKind.wrap IntKind.i64 l27 ∧ IntKind.wrap IntKind.i64 l27 < l4); let l0 := (cutL (Mp L) (some (IntKind.i64, IntKind.wrap IntKind.i64 l5)) (some (IntKind.i64, IntKind.wrap IntKind.i64 l24))); let l32 := (↑(List.length l0) : Int); (64 : Nat) * Prod.fst t_1 + (64 : Nat) ≤ ml L ∧ Prod.snd t_1 ≤ (64 : Nat) ∧ ml L - (64 : Nat) * Prod.fst t_1 = ml L - (64 : Nat) * t → brP (decide ((↑(Prod.snd t_1) : Int) < (64 : Int))) (brP (decide ((↑(Prod.snd t_1) : Int) < (16 : Int))) (((0 : Int) ≤ IntKind.wrap IntKind.i64 l5 ∧ IntKind.wrap IntKind.i64 l5 ≤ IntKind.wrap IntKind.i64 l24 ∧ IntKind.wrap IntKind.i64 l24 ≤ (↑(List.length (Mp L)) : Int)) ∧ ((0 : Int) ≤ (0 : Int) ∧ (0 : Int) < l32) ∧ (0 : Int) ≤ (24 : Int) ∧ ((0 : Int) ≤ (1 : Int) ∧ (1 : Int) < l32) ∧ (0 : Int) ≤ (16 : Int) ∧ ((0 : Int) ≤ (2 : Int) ∧ (2 : Int) < l32) ∧ (0 : Int) ≤ (8 : Int) ∧ ((0 : Int) ≤ (3 : Int) ∧ (3 : Int) < l32) ∧ l34 ∧ ∃ (t_2 : Nat × Nat), Mp L = Mp L ∧ l19 = (↑((64 : Nat) * Prod.fst t_2) : Int) ∧ IntKind.wrap IntKind.i64 ((↑(Prod.snd t_1) : Int) + (1 : Int)) = (↑(Prod.snd t_2) : Int) ∧ List.replicate (32 : Nat) (0 : Int) = List.replicate (32 : Nat) (0 : Int) ∧ hq L (Prod.fst t_1) = hq L (Prod.fst t_2) ∧ shaK = shaK ∧ List.set l6 (Int.toNat (↑(Prod.snd t_1) : Int)) (bOr IntKind.u32 (bOr IntKind.u32 (bOr IntKind.u32 (IntKind.wrap IntKind.u32 (IntKind.wrap IntKind.u32 (List.getD l0 (Int.toNat (0 : Int)) (0 : Int)) * (2 : Int) ^ min (Int.toNat (24 : Int)) l18)) (IntKind.wrap IntKind.u32 (IntKind.wrap IntKind.u32 (List.getD l0 (Int.toNat (1 : Int)) (0 : Int)) * (2 : Int) ^ min (Int.toNat (16 : Int)) l18))) (IntKind.wrap IntKind.u32 (IntKind.wrap IntKind.u32 (List.getD l0 (Int.toNat (2 : Int)) (0 : Int)) * (2 : Int) ^ min (Int.toNat (8 : Int)) l18))) (IntKind.wrap IntKind.u32 (List.getD l0 (Int.toNat (3 : Int)) (0 : Int)))) = sc L (Prod.fst t_2) (Prod.snd t_2) ∧ ((64 : Nat) * Prod.fst t_2 + (64 : Nat) ≤ ml L ∧ Prod.snd t_2 ≤ (64 : Nat) ∧ ml L - (64 : Nat) * Prod.fst t_2 = ml L - (64 : Nat) * t) ∧ (64 : Nat) - Prod.snd t_2 < (64 : Nat) - Prod.snd t_1 ∧ True) (l7 ∧ (0 : Int) ≤ (7 : Int) ∧ (7 : Int) ≤ (32 : Int) ∧ l7 ∧ (0 : Int) ≤ (18 : Int) ∧ (18 : Int) ≤ (32 : Int) ∧ l7 ∧ (0 : Int) ≤ (3 : Int) ∧ l8 ∧ (0 : Int) ≤ (17 : Int) ∧ (17 : Int) ≤ (32 : Int) ∧ l8 ∧ (0 : Int) ≤ (19 : Int) ∧ (19 : Int) ≤ (32 : Int) ∧ l8 ∧ (0 : Int) ≤ (10 : Int) ∧ ((0 : Int) ≤ IntKind.wrap IntKind.i64 l30 ∧ IntKind.wrap IntKind.i64 l30 < l4) ∧ ((0 : Int) ≤ IntKind.wrap IntKind.i64 l28 ∧ IntKind.wrap IntKind.i64 l28 < l4) ∧ l34 ∧ ∃ (t_2 : Nat × Nat), Mp L = Mp L ∧ l19 = (↑((64 : Nat) * Prod.fst t_2) : Int) ∧ IntKind.wrap IntKind.i64 ((↑(Prod.snd t_1) : Int) + (1 : Int)) = (↑(Prod.snd t_2) : Int) ∧ List.replicate (32 : Nat) (0 : Int) = List.replicate (32 : Nat) (0 : Int) ∧ hq L (Prod.fst t_1) = hq L (Prod.fst t_2) ∧ shaK = shaK ∧ List.set l6 (Int.toNat (↑(Prod.snd t_1) : Int)) (IntKind.wrap IntKind.u32 (IntKind.wrap IntKind.u32 (IntKind.wrap IntKind.u32 (bXor IntKind.u32 (bXor IntKind.u32 (rotq l12 (17 : Int)) (rotq l12 (19 : Int))) (Int.fdiv l12 ((2 : Int) ^ min (Int.toNat (10 : Int)) l18)) + List.getD l6 (Int.toNat (IntKind.wrap IntKind.i64 l30)) (0 : Int)) + bXor IntKind.u32 (bXor IntKind.u32 (rotq l11 (7 : Int)) (rotq l11 (18 : Int))) (Int.fdiv l11 ((2 : Int) ^ min (Int.toNat (3 : Int)) l18))) + List.getD l6 (Int.toNat (IntKind.wrap IntKind.i64 l28)) (0 : Int))) = sc L (Prod.fst t_2) (Prod.snd t_2) ∧ ((64 : Nat) * Prod.fst t_2 + (64 : Nat) ≤ ml L ∧ Prod.snd t_2 ≤ (64 : Nat) ∧ ml L - (64 : Nat) * Prod.fst t_2 = ml L - (64 : Nat) * t) ∧ (64 : Nat) - Prod.snd t_2 < (64 : Nat) - Prod.snd t_1 ∧ True)) (Cont.len (Cont.ints IntKind.u32 []) + Cont.len (Cont.ints IntKind.u32 (hq L (Prod.fst t_1))) ≤ lim ∧ (∃ (t_2 : Nat × Nat), Mp L = Mp L ∧ l19 = (↑((64 : Nat) * Prod.fst t_2) : Int) ∧ (0 : Int) = (↑(Prod.snd t_2) : Int) ∧ List.replicate (32 : Nat) (0 : Int) = List.replicate (32 : Nat) (0 : Int) ∧ hq L (Prod.fst t_1) = hq L (Prod.fst t_2) ∧ shaK = shaK ∧ sc L (Prod.fst t_1) (Prod.snd t_1) = sc L (Prod.fst t_2) (64 : Nat) ∧ [] ++ hq L (Prod.fst t_1) = rn L (Prod.fst t_2) (Prod.snd t_2) ∧ ((64 : Nat) * Prod.fst t_2 + (64 : Nat) ≤ ml L ∧ Prod.snd t_2 ≤ (64 : Nat) ∧ ml L - (64 : Nat) * Prod.fst t_2 = ml L - (64 : Nat) * t) ∧ True) ∧ ∀ (t_2 : Nat × Nat), let l1 := (rn L (Prod.fst t_2) (Prod.snd t_2)); let l22 := (List.getD l1 (Int.toNat (2 : Int)) (0 : Int)); let l21 := (List.getD l1 (Int.toNat (1 : Int)) (0 : Int)); let l10 := (List.getD l1 (Int.toNat (0 : Int)) (0 : Int)); let l9 := (List.getD l1 (Int.toNat (4 : Int)) (0 : Int)); let l3 := (IntKind.wrap IntKind.u32 (IntKind.wrap IntKind.u32 (IntKind.wrap IntKind.u32 (List.getD l1 (Int.toNat (7 : Int)) (0 : Int) + bXor IntKind.u32 (bXor IntKind.u32 (rotq l9 (6 : Int)) (rotq l9 (11 : Int))) (rotq l9 (25 : Int))) + bXor IntKind.u32 (bAnd IntKind.u32 l9 (List.getD l1 (Int.toNat (5 : Int)) (0 : Int))) (bAnd IntKind.u32 (bXor IntKind.u32 (if IntKind.signed IntKind.u32 = true then (-1 : Int) else IntKind.max IntKind.u32) l9) (List.getD l1 (Int.toNat (6 : Int)) (0 : Int)))) + List.getD shaK (Int.toNat (↑(Prod.snd t_2) : Int)) (0 : Int)) + List.getD (sc L (Prod.fst t_2) (64 : Nat)) (Int.toNat (↑(Prod.snd t_2) : Int)) (0 : Int)); let l2 := (↑(Cont.len (Cont.ints IntKind.u32 l1)) : Int); let l26 := ((0 : Int) ≤ (2 : Int) ∧ (2 : Int) < l2); let l25 := ((0 : Int) ≤ (1 : Int) ∧ (1 : Int) < l2); let l14 := ((0 : Int) ≤ (0 : Int) ∧ (0 : Int) < l2); let l13 := ((0 : Int) ≤ (4 : Int) ∧ (4 : Int) < l2); (64 : Nat) * Prod.fst t_2 + (64 : Nat) ≤ ml L ∧ Prod.snd t_2 ≤ (64 : Nat) ∧ ml L - (64 : Nat) * Prod.fst t_2 = ml L - (64 : Nat) * t → brP (decide ((↑(Prod.snd t_2) : Int) < (64 : Int))) (l13 ∧ (0 : Int) ≤ (6 : Int) ∧ (6 : Int) ≤ (32 : Int) ∧ l13 ∧ (0 : Int) ≤ (11 : Int) ∧ (11 : Int) ≤ (32 : Int) ∧ l13 ∧ (0 : Int) ≤ (25 : Int) ∧ (25 : Int) ≤ (32 : Int) ∧ l13 ∧ ((0 : Int) ≤ (5 : Int) ∧ (5 : Int) < l2) ∧ l13 ∧ ((0 : Int) ≤ (6 : Int) ∧ (6 : Int) < l2) ∧ ((0 : Int) ≤ (7 : Int) ∧ (7 : Int) < l2) ∧ ((0 : Int) ≤ (↑(Prod.snd t_2) : Int) ∧ (↑(Prod.snd t_2) : Int) < (↑(Cont.len (Cont.ints IntKind.u32 shaK)) : Int)) ∧ ((0 : Int) ≤ (↑(Prod.snd t_2) : Int) ∧ (↑(Prod.snd t_2) : Int) < (↑(Cont.len (Cont.ints IntKind.u32 (sc L (Prod.fst t_2) (64 : Nat)))) : Int)) ∧ l14 ∧ (0 : Int) ≤ (2 : Int) ∧ (2 : Int) ≤ (32 : Int) ∧ l14 ∧ (0 : Int) ≤ (13 : Int) ∧ (13 : Int) ≤ (32 : Int) ∧ l14 ∧ (0 : Int) ≤ (22 : Int) ∧ (22 : Int) ≤ (32 : Int) ∧ l14 ∧ l25 ∧ l14 ∧ l26 ∧ l25 ∧ l26 ∧ l14 ∧ l25 ∧ l26 ∧ ((0 : Int) ≤ (3 : Int) ∧ (3 : Int) < l2) ∧ l13 ∧ ((0 : Int) ≤ (5 : Int) ∧ (5 : Int) < l2) ∧ ((0 : Int) ≤ (6 : Int) ∧ (6 : Int) < l2) ∧ ∃ (t_3 : Nat × Nat), Mp L = Mp L ∧ (↑((64 : Nat) * Prod.fst t_2) : Int) = (↑((64 : Nat) * Prod.fst t_3) : Int) ∧ IntKind.wrap IntKind.i64 ((↑(Prod.snd t_2) : Int) + (1 : Int)) = (↑(Prod.snd t_3) : Int) ∧ List.replicate (32 : Nat) (0 : Int) = List.replicate (32 : Nat) (0 : Int) ∧ hq L (Prod.fst t_2) = hq L (Prod.fst t_3) ∧ shaK = shaK ∧ sc L (Prod.fst t_2) (64 : Nat) = sc L (Prod.fst t_3) (64 : Nat) ∧ List.set (List.set (List.set (List.set (List.set (List.set (List.set (List.set (List.replicate ((7 : Nat) + (1 : Nat)) (0 : Int)) ((0 : Nat) * (1 : Nat)) (IntKind.wrap IntKind.u32 (IntKind.wrap IntKind.u32 l3 + IntKind.wrap IntKind.u32 (bXor IntKind.u32 (bXor IntKind.u32 (rotq l10 (2 : Int)) (rotq l10 (13 : Int))) (rotq l10 (22 : Int)) + bXor IntKind.u32 (bXor IntKind.u32 (bAnd IntKind.u32 l10 l21) (bAnd IntKind.u32 l10 l22)) (bAnd IntKind.u32 l21 l22))))) ((1 : Nat) * (1 : Nat)) l10) ((2 : Nat) * (1 : Nat)) l21) ((3 : Nat) * (1 : Nat)) l22) ((4 : Nat) * (1 : Nat)) (IntKind.wrap IntKind.u32 (List.getD l1 (Int.toNat (3 : Int)) (0 : Int) + IntKind.wrap IntKind.u32 l3))) ((5 : Nat) * (1 : Nat)) l9) ((6 : Nat) * (1 : Nat)) (List.getD l1 (Int.toNat (5 : Int)) (0 : Int))) ((7 : Nat) * (1 : Nat)) (List.getD l1 (Int.toNat (6 : Int)) (0 : Int)) = rn L (Prod.fst t_3) (Prod.snd t_3) ∧ ((64 : Nat) * Prod.fst t_3 + (64 : Nat) ≤ ml L ∧ Prod.snd t_3 ≤ (64 : Nat) ∧ ml L - (64 : Nat) * Prod.fst t_3 = ml L - (64 : Nat) * t) ∧ (64 : Nat) - Prod.snd t_3 < (64 : Nat) - Prod.snd t_2 ∧ True) ((∃ (t_3 : Nat × Nat), Mp L = Mp L ∧ (↑((64 : Nat) * Prod.fst t_2) : Int) = (↑((64 : Nat) * Prod.fst t_3) : Int) ∧ (0 : Int) = (↑(Prod.snd t_3) : Int) ∧ List.replicate (32 : Nat) (0 : Int) = List.replicate (32 : Nat) (0 : Int) ∧ hq L (Prod.fst t_2) = ad L (Prod.fst t_3) (Prod.snd t_3) ∧ shaK = shaK ∧ rn L (Prod.fst t_2) (Prod.snd t_2) = rn L (Prod.fst t_3) (64 : Nat) ∧ ((64 : Nat) * Prod.fst t_3 + (64 : Nat) ≤ ml L ∧ Prod.snd t_3 ≤ (8 : Nat) ∧ ml L - (64 : Nat) * Prod.fst t_3 = ml L - (64 : Nat) * t) ∧ True) ∧ ∀ (t_3 : Nat × Nat), let l35 := (Int.toNat (↑(Prod.snd t_3) : Int)); let l33 := (ad L (Prod.fst t_3) (Prod.snd t_3)); let l15 := ((0 : Int) ≤ (↑(Prod.snd t_3) : Int) ∧ (↑(Prod.snd t_3) : Int) < (↑(Cont.len (Cont.ints IntKind.u32 l33)) : Int)); (64 : Nat) * Prod.fst t_3 + (64 : Nat) ≤ ml L ∧ Prod.snd t_3 ≤ (8 : Nat) ∧ ml L - (64 : Nat) * Prod.fst t_3 = ml L - (64 : Nat) * t → brP (decide ((↑(Prod.snd t_3) : Int) < (8 : Int))) (l15 ∧ ((0 : Int) ≤ (↑(Prod.snd t_3) : Int) ∧ (↑(Prod.snd t_3) : Int) < (↑(Cont.len (Cont.ints IntKind.u32 (rn L (Prod.fst t_3) (64 : Nat)))) : Int)) ∧ l15 ∧ ∃ (t_4 : Nat × Nat), Mp L = Mp L ∧ (↑((64 : Nat) * Prod.fst t_3) : Int) = (↑((64 : Nat) * Prod.fst t_4) : Int) ∧ IntKind.wrap IntKind.i64 ((↑(Prod.snd t_3) : Int) + (1 : Int)) = (↑(Prod.snd t_4) : Int) ∧ List.replicate (32 : Nat) (0 : Int) = List.replicate (32 : Nat) (0 : Int) ∧ List.set l33 l35 (IntKind.wrap IntKind.u32 (List.getD l33 l35 (0 : Int) + List.getD (rn L (Prod.fst t_3) (64 : Nat)) l35 (0 : Int))) = ad L (Prod.fst t_4) (Prod.snd t_4) ∧ shaK = shaK ∧ rn L (Prod.fst t_3) (64 : Nat) = rn L (Prod.fst t_4) (64 : Nat) ∧ ((64 : Nat) * Prod.fst t_4 + (64 : Nat) ≤ ml L ∧ Prod.snd t_4 ≤ (8 : Nat) ∧ ml L - (64 : Nat) * Prod.fst t_4 = ml L - (64 : Nat) * t) ∧ (8 : Nat) - Prod.snd t_4 < (8 : Nat) - Prod.snd t_3 ∧ True) (∃ (t_4 : Nat), Mp L = Mp L ∧ IntKind.wrap IntKind.i64 ((↑((64 : Nat) * Prod.fst t_3) : Int) + (64 : Int)) = (↑((64 : Nat) * t_4) : Int) ∧ List.replicate (32 : Nat) (0 : Int) = List.replicate (32 : Nat) (0 : Int) ∧ ad L (Prod.fst t_3) (Prod.snd t_3) = hq L t_4 ∧ shaK = shaK ∧ (64 : Nat) * t_4 ≤ ml L ∧ ml L - (64 : Nat) * t_4 < ml L - (64 : Nat) * t ∧ True)))) ((∃ (t_1 : Nat × Nat), (0 : Int) = (↑(Prod.snd t_1) : Int) ∧ List.replicate (32 : Nat) (0 : Int) = List.replicate (32 : Nat) (0 : Int) ∧ hq L t = hq L (Prod.fst t_1) ∧ List.replicate (32 : Nat) (0 : Int) = dgb (hq L (Prod.fst t_1)) (Prod.snd t_1) ∧ ((64 : Nat) * Prod.fst t_1 = ml L ∧ Prod.snd t_1 ≤ (32 : Nat)) ∧ True) ∧ ∀ (t : Nat × Nat), let l23 := (Int.tdiv (↑(Prod.snd t) : Int) (4 : Int)); let l20 := ((24 : Int) - IntKind.wrap IntKind.i64 ((8 : Int) * Int.tmod (↑(Prod.snd t) : Int) (4 : Int))); (64 : Nat) * Prod.fst t = ml L ∧ Prod.snd t ≤ (32 : Nat) → brP (decide ((↑(Prod.snd t) : Int) < (32 : Int))) ((4 : Int) ≠ (0 : Int) ∧ ((0 : Int) ≤ IntKind.wrap IntKind.i64 l23 ∧ IntKind.wrap IntKind.i64 l23 < (↑(Cont.len (Cont.ints IntKind.u32 (hq L (Prod.fst t)))) : Int)) ∧ (4 : Int) ≠ (0 : Int) ∧ (0 : Int) ≤ IntKind.wrap IntKind.i64 l20 ∧ ((0 : Int) ≤ (↑(Prod.snd t) : Int) ∧ (↑(Prod.snd t) : Int) < (↑(32 : Nat) : Int)) ∧ ∃ (t_1 : Nat × Nat), IntKind.wrap IntKind.i64 ((↑(Prod.snd t) : Int) + (1 : Int)) = (↑(Prod.snd t_1) : Int) ∧ List.replicate (32 : Nat) (0 : Int) = List.replicate (32 : Nat) (0 : Int) ∧ hq L (Prod.fst t) = hq L (Prod.fst t_1) ∧ List.set (dgb (hq L (Prod.fst t)) (Prod.snd t)) (Int.toNat (↑(Prod.snd t) : Int)) (IntKind.wrap IntKind.u8 (Int.fdiv (List.getD (hq L (Prod.fst t)) (Int.toNat (IntKind.wrap IntKind.i64 l23)) (0 : Int)) ((2 : Int) ^ min (Int.toNat (IntKind.wrap IntKind.i64 l20)) l18))) = dgb (hq L (Prod.fst t_1)) (Prod.snd t_1) ∧ ((64 : Nat) * Prod.fst t_1 = ml L ∧ Prod.snd t_1 ≤ (32 : Nat)) ∧ (32 : Nat) - Prod.snd t_1 < (32 : Nat) - Prod.snd t ∧ True) (dgb (hq L (Prod.fst t)) (Prod.snd t) = sumB shaK L ∧ True)))) (by kernel_rfl) (by
    conv => zeta
    obtain ⟨hL, hb, _⟩ := hp
    have hlim : lim = 68719476736 := rfl
    have hpz : padz (L.length : Int) < 64 := by unfold padz; omega
    have hml : ml L = L.length + padz (L.length : Int) + 9 := by
      show (L ++ pad _).length = _
      rw [List.length_append, pad_len]; omega
    obtain ⟨Q, hQ⟩ := padded_len L
    have hQ : 64 * Q = ml L := hQ
    have eM : List.length (Mp L) = ml L := rfl
    have e64 : ∀ x : Nat, x < 64 → IntKind.wrap .i64 ((x : Int) + 1) = ((x + 1 : Nat) : Int) := fun x hx => by rw [wi _ (by omega) (by omega)]; rfl
    refine ⟨(show 0 + L.length ≤ lim by omega), (show L.length + 1 ≤ lim by omega), ⟨0, rfl, rfl, rfl, rfl, rfl, by omega, trivial⟩, fun t ht => ⟨by decide, ?_⟩⟩
    have el : Cont.len (Cont.ints IntKind.u8 (L ++ 128 :: List.replicate t 0)) = L.length + t + 1 := by
      show (L ++ 128 :: List.replicate t 0).length = _
      simp; omega
    rw [el]
    have ew : Int.tmod ((L.length + t + 1 : Nat) : Int) 64 = ((L.length : Int) + t + 1) % 64 := by
      rw [Int.tmod_eq_emod_of_nonneg (by omega)]; omega
    rw [ew]
    refine brI (fun hc => ?_) (fun hc => ?_)
    · have hc : ((L.length : Int) + t + 1) % 64 ≠ 56 := by simpa using hc
      have : t < padz (L.length : Int) := by unfold padz at ht ⊢; omega
      refine ⟨(show (L.length + t + 1) + 1 ≤ lim by omega), t + 1, rfl, rfl, rfl, rfl, ?_, by omega, by omega, trivial⟩
      rw [List.append_assoc, List.cons_append, ← List.replicate_succ']
    · have hc : ((L.length : Int) + t + 1) % 64 = 56 := by simpa using hc
      obtain rfl : t = padz (L.length : Int) := by unfold padz at ht ⊢; omega
      have eMp : L ++ 128 :: List.replicate (padz (L.length : Int)) 0 ++ be8 (IntKind.wrap .u64 (8 * IntKind.wrap .u64 (L.length : Int))) = Mp L := by
        rw [wu (L.length : Int) (by omega) (by omega)]
        show _ = L ++ (128 :: List.replicate _ 0 ++ be8 _)
        rw [List.append_assoc]
      refine ⟨(show (L.length + padz (L.length : Int) + 1) + 8 ≤ lim by omega), ⟨0, eMp, rfl, rfl, rfl, rfl, by omega, trivial⟩, fun q hqq => brI (fun hc => ?_) (fun hc => ?_)⟩
      · have hc : 64 * q < ml L := by have := of_decide_eq_true hc; omega
        have hq1 : 64 * q + 64 ≤ ml L := by omega
        refine ⟨by omega, ⟨(q, 0), rfl, rfl, rfl, rfl, rfl, rfl, rfl, ⟨hq1, by dsimp only; omega, rfl⟩, trivial⟩, fun u hu => ?_⟩
        obtain ⟨q', t⟩ := u
        obtain ⟨h1, h2, h3⟩ := hu
        dsimp only at h1 h2 h3 ⊢
        obtain rfl : q' = q := by omega
        have escl : Cont.len (Cont.ints IntKind.u32 (sc L q' t)) = 64 := sch_len _ _
        refine brI (fun hd => ?_) (fun hd => ?_)
        · have hd : t < 64 := by have := of_decide_eq_true hd; omega
          refine brI (fun hx => ?_) (fun hx => ?_)
          · have hx : t < 16 := by have := of_decide_eq_true hx; omega
            have e1 : IntKind.wrap .i64 (((64 * q' : Nat) : Int) + IntKind.wrap .i64 (4 * (t : Int))) = ((64 * q' + 4 * t : Nat) : Int) := by rw [wi (4 * (t : Int)) (by omega) (by omega), wi _ (by omega) (by omega)]; omega
            have e2 : IntKind.wrap .i64 (((64 * q' + 4 * t : Nat) : Int) + 4) = ((64 * q' + 4 * t + 4 : Nat) : Int) := by rw [wi _ (by omega) (by omega)]; omega
            rw [e1, e2]
            have ec : cutL (Mp L) (some (IntKind.i64, ((64 * q' + 4 * t : Nat) : Int))) (some (IntKind.i64, ((64 * q' + 4 * t + 4 : Nat) : Int))) = ((Mp L).take (64 * q' + 4 * t + 4)).drop (64 * q' + 4 * t) := rfl
            rw [ec]
            have el4 : (((Mp L).take (64 * q' + 4 * t + 4)).drop (64 * q' + 4 * t)).length = 4 := by rw [List.length_drop, List.length_take, eM]; omega
            have hg : ∀ i, i < 4 → (((Mp L).take (64 * q' + 4 * t + 4)).drop (64 * q' + 4 * t)).getD i 0 = (Mp L).getD (64 * q' + 4 * t + i) 0 := fun i hi => by rw [getD_drop, getD_take _ (by omega)]
            have hM : OkB (((Mp L).take (64 * q' + 4 * t + 4)).drop (64 * q' + 4 * t)) := okB_drop (okB_take (okB_app hL (pad_ok _)) _) _
            have hv := be4_or2 (getD_ok hM 0) (getD_ok hM 1) (getD_ok hM 2) (getD_ok hM 3)
            have hr : (((Mp L).take (64 * q' + 4 * t + 4)).drop (64 * q' + 4 * t)).getD 0 0 * 16777216 + (((Mp L).take (64 * q' + 4 * t + 4)).drop (64 * q' + 4 * t)).getD 1 0 * 65536 + (((Mp L).take (64 * q' + 4 * t + 4)).drop (64 * q' + 4 * t)).getD 2 0 * 256 + (((Mp L).take (64 * q' + 4 * t + 4)).drop (64 * q' + 4 * t)).getD 3 0 = be4 (bk (Mp L) q') (4 * t) := by
              rw [be4_blk _ _ _ hx, hg 0 (by omega), hg 1 (by omega), hg 2 (by omega), hg 3 (by omega)]
              rfl
            refine ⟨by omega, by omega, by omega, by omega, by omega, by omega, by omega, by omega, by omega, (q', t + 1), rfl, rfl, e64 t hd, rfl, rfl, rfl, ?_, ⟨h1, hd, h3⟩, by dsimp only; omega, trivial⟩
            show _ = (sch (bk (Mp L) q') t).set t (if t < 16 then be4 (bk (Mp L) q') (4 * t) else _)
            rw [if_pos hx]
            exact congrArg (List.set (sc L q' t) t) (hv.trans hr)
          · have hx : ¬ t < 16 := by have := of_decide_eq_false hx; omega
            have e : ∀ k : Nat, k ≤ 16 → IntKind.wrap .i64 ((t : Int) - (k : Int)) = ((t - k : Nat) : Int) := fun k hk => by rw [wi _ (by omega) (by omega)]; omega
            have e15 : IntKind.wrap .i64 ((t : Int) - 15) = ((t - 15 : Nat) : Int) := e 15 (by omega)
            have e2 : IntKind.wrap .i64 ((t : Int) - 2) = ((t - 2 : Nat) : Int) := e 2 (by omega)
            have e16 : IntKind.wrap .i64 ((t : Int) - 16) = ((t - 16 : Nat) : Int) := e 16 (by omega)
            have e7 : IntKind.wrap .i64 ((t : Int) - 7) = ((t - 7 : Nat) : Int) := e 7 (by omega)
            rw [e15, e2, e16, e7]
            repeat refine And.intro (by omega) ?_
            refine ⟨(q', t + 1), rfl, rfl, e64 t hd, rfl, rfl, rfl, ?_, ⟨h1, hd, h3⟩, by dsimp only; omega, trivial⟩
            simp only [rq, Int.toNat_natCast]
            show _ = (sch (bk (Mp L) q') t).set t (if t < 16 then be4 (bk (Mp L) q') (4 * t) else _)
            rw [if_neg hx, ← nxtR]
            rfl
        · have hd : ¬ (t : Int) < 64 := of_decide_eq_false hd
          obtain rfl : t = 64 := by omega
          have ehq := hq_len L q'
          refine ⟨(show 0 + (hq L q').length ≤ lim by omega), ⟨(q', 0), rfl, rfl, rfl, rfl, rfl, rfl, rfl, rfl, ⟨h1, by dsimp only; omega, h3⟩, trivial⟩, fun u hu => ?_⟩
          obtain ⟨q, t⟩ := u
          obtain ⟨h1, h2, h3⟩ := hu
          dsimp only at h1 h2 h3 ⊢
          obtain rfl : q = q' := by omega
          have e8 : Cont.len (Cont.ints IntKind.u32 (rn L q t)) = 8 := rn_len L q t
          have eK : Cont.len (Cont.ints IntKind.u32 shaK) = 64 := rfl
          have es : Cont.len (Cont.ints IntKind.u32 (sc L q 64)) = 64 := sch_len _ _
          refine brI (fun hd => ?_) (fun hd => ?_)
          · have hd : t < 64 := by have := of_decide_eq_true hd; omega
            repeat refine And.intro (by omega) ?_
            refine ⟨(q, t + 1), rfl, rfl, e64 t hd, rfl, rfl, rfl, rfl, ?_, ⟨h1, hd, h3⟩, by dsimp only; omega, trivial⟩
            simp only [rq]
            rfl
          · have hd : ¬ (t : Int) < 64 := of_decide_eq_false hd
            obtain rfl : t = 64 := by omega
            refine ⟨⟨(q, 0), rfl, rfl, rfl, rfl, rfl, rfl, rfl, ⟨h1, by dsimp only; omega, h3⟩, trivial⟩, fun u hu => ?_⟩
            obtain ⟨q', t⟩ := u
            obtain ⟨h1, h2, h3⟩ := hu
            dsimp only at h1 h2 h3 ⊢
            obtain rfl : q' = q := by omega
            have ea : Cont.len (Cont.ints IntKind.u32 (ad L q' t)) = 8 := ad_len L q' t
            refine brI (fun hd => ?_) (fun hd => ?_)
            · have hd : t < 8 := by have := of_decide_eq_true hd; omega
              refine ⟨by omega, by omega, by omega, (q', t + 1), rfl, rfl, e64 t (by omega), rfl, ?_, rfl, rfl, ⟨h1, hd, h3⟩, by dsimp only; omega, trivial⟩
              rw [Int.toNat_natCast]
              rfl
            · have hd : ¬ (t : Int) < 8 := of_decide_eq_false hd
              obtain rfl : t = 8 := by omega
              exact ⟨q' + 1, rfl, by rw [wi _ (by omega) (by omega)]; omega, rfl, rfl, rfl, by omega, by omega, trivial⟩
      · have hc : ¬ 64 * q < ml L := by have := of_decide_eq_false hc; omega
        refine ⟨⟨(q, 0), rfl, rfl, rfl, rfl, ⟨by dsimp only; omega, by dsimp only; omega⟩, trivial⟩, fun u hu => ?_⟩
        obtain ⟨q, t⟩ := u
        obtain ⟨h1, h2⟩ := hu
        dsimp only at h1 h2 ⊢
        have ea : Cont.len (Cont.ints IntKind.u32 (hq L q)) = 8 := hq_len L q
        refine brI (fun hd => ?_) (fun hd => ?_)
        · have hd : t < 32 := by have := of_decide_eq_true hd; omega
          have e1 : Int.tdiv (t : Int) 4 = ((t / 4 : Nat) : Int) := rfl
          have e2 : Int.tmod (t : Int) 4 = ((t % 4 : Nat) : Int) := rfl
          have e3 : IntKind.wrap .i64 ((t / 4 : Nat) : Int) = ((t / 4 : Nat) : Int) := wi _ (by omega) (by omega)
          have e4 : IntKind.wrap .i64 (24 - IntKind.wrap .i64 (8 * ((t % 4 : Nat) : Int))) = ((24 - 8 * (t % 4) : Nat) : Int) := by rw [wi (8 * ((t % 4 : Nat) : Int)) (by omega) (by omega), wi _ (by omega) (by omega)]; omega
          rw [e1, e2, e3, e4]
          refine ⟨by decide, by omega, by decide, by omega, by omega, (q, t + 1), e64 t (by omega), rfl, rfl, ?_, ⟨h1, hd⟩, by dsimp only; omega, trivial⟩
          rw [Int.toNat_natCast, Int.toNat_natCast, Int.toNat_natCast, Nat.min_eq_left (show 24 - 8 * (t % 4) ≤ IntKind.bits IntKind.u32 from Nat.le_trans (Nat.sub_le _ _) (by decide))]
          rfl
        · have hd : ¬ (t : Int) < 32 := of_decide_eq_false hd
          obtain rfl : t = 32 := by omega
          have h8 : dgb (hq L q) 32 = digF (hq L q) 8 := dgb_dig (hq L q) 8
          exact ⟨h8.trans (sumB_fold hL (by omega) (q := q) h1).symm, trivial⟩))
noncomputable def g15 : Con := fun args H => match args, H with
  | [.a (.d (.si .u8 L))], [] => some ⟨[OkB L, L.length + 100 ≤ lim], .s (.agg [.ints .u8 32 (sumB shaK L)]), []⟩
  | _, _ => none
theorem v15 : Valid Tryd.prog Gs 79 g15 := by
  intro args H r h hp
  unfold g15 at h
  split at h
  · simp only [Option.some.injEq] at h; subst h; exact ok15 _ hp
  · cases h
noncomputable def ct_15 : List (Nat × Ct) := (79, ⟨[], false, g15, none⟩) :: ct_41
theorem ctok_15 : CtsOk Tryd.prog Gs ct_15 := CtsOk.cons v15 (by kernel_rfl) ctok_41
end Go.Proofs.YtlgffgnkkihaoaaDoor
