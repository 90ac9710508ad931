/- The reference: how it works out its constants. -/
import Derived.Test.YtlgffgnkkihaoaaDoorYaR
namespace Go.Proofs.YtlgffgnkkihaoaaDoor
open Go.Dx Go.RowKit
set_option linter.unusedVariables false
set_option linter.unusedSimpArgs false
set_option maxRecDepth 100000
attribute [local irreducible] wpS
theorem pst_309 : (pst 309).length = 63 := by decide +kernel
theorem pst_mono : ∀ j i, (pst j).length ≤ (pst (j + i)).length
  | j, 0 => Nat.le_refl _
  | j, i + 1 => by
    have := pst_mono j i
    rw [← Nat.add_assoc, pst]
    split
    · simp; omega
    · exact this
theorem pst_lt {j : Nat} (h : j < 310) : (pst j).length < 64 := by
  have := pst_mono j (309 - j)
  rw [show j + (309 - j) = 309 by omega, pst_309] at this
  omega
theorem pst_yes {j : Nat} (h : prF ((j : Int) + 2) (pst j) (pst j).length = true) : pst (j + 1) = pst j ++ [((j : Int) + 2)] := by rw [pst, if_pos h]
theorem pst_no {j : Nat} (h : prF ((j : Int) + 2) (pst j) (pst j).length = false) : pst (j + 1) = pst j := by rw [pst, if_neg (by simp [h])]
def rotq (x n : Int) : Int := bOr .u32 (Int.fdiv x (2 ^ (min n.toNat 32))) (IntKind.wrap .u32 (x * 2 ^ (min (Int.toNat (IntKind.wrap .i64 (32 - n))) 32)))
noncomputable def an58 (x y : Int) : Nat → List Nat → List Ann := fun _ _ => []
theorem ok58 (x y : Int) : CallsOk Tryd.prog Gs 111 [.a (.d (.v (.int .u64 x))), .a (.d (.v (.int .u64 y)))] [] (.t [.a (.d (.v (.int .u64 (mulH x y)))), .a (.d (.v (.int .u64 (mulL x y))))]) [] :=
  ok_of (ann := an58 x y) ctok_14 mixed Tryd.func111 (by kernel_rfl) (of_nf (p := let l2 := (IntKind.wrap IntKind.u64 (bAnd IntKind.u64 x (4294967295 : Int) * bAnd IntKind.u64 y (4294967295 : Int))); let l0 := ((2 : Int) ^ min (Int.toNat (32 : Int)) (IntKind.bits IntKind.u64)); let l4 := (IntKind.wrap IntKind.u64 (bAnd IntKind.u64 x (4294967295 : Int) * Int.fdiv y l0)); let l3 := (IntKind.wrap IntKind.u64 (Int.fdiv x l0 * bAnd IntKind.u64 y (4294967295 : Int))); let l1 := (IntKind.wrap IntKind.u64 (Int.fdiv l2 l0 + bAnd IntKind.u64 l3 (4294967295 : Int)) + bAnd IntKind.u64 l4 (4294967295 : Int)); (0 : Int) ≤ (32 : Int) ∧ (0 : Int) ≤ (32 : Int) ∧ (0 : Int) ≤ (32 : Int) ∧ (0 : Int) ≤ (32 : Int) ∧ (0 : Int) ≤ (32 : Int) ∧ (0 : Int) ≤ (32 : Int) ∧ (0 : Int) ≤ (32 : Int) ∧ (0 : Int) ≤ (32 : Int) ∧ (0 : Int) ≤ (32 : Int) ∧ IntKind.wrap IntKind.u64 (IntKind.wrap IntKind.u64 (IntKind.wrap IntKind.u64 (IntKind.wrap IntKind.u64 (Int.fdiv x l0 * Int.fdiv y l0) + Int.fdiv l3 l0) + Int.fdiv l4 l0) + Int.fdiv (IntKind.wrap IntKind.u64 l1) l0) = mulH x y ∧ IntKind.wrap IntKind.u64 (bAnd IntKind.u64 l2 (4294967295 : Int) + IntKind.wrap IntKind.u64 (IntKind.wrap IntKind.u64 l1 * (2 : Int) ^ min (Int.toNat (32 : Int)) (IntKind.bits IntKind.u64))) = mulL x y ∧ True) (by kernel_rfl) (by
    conv => zeta
    exact ⟨by omega, by omega, by omega, by omega, by omega, by omega, by omega, by omega, by omega, by kernel_rfl, by kernel_rfl, trivial⟩))
noncomputable def g58 : Con := fun args H => match args, H with
  | [.a (.d (.v (.int .u64 x))), .a (.d (.v (.int .u64 y)))], [] => some ⟨[], .t [.a (.d (.v (.int .u64 (mulH x y)))), .a (.d (.v (.int .u64 (mulL x y))))], []⟩
  | _, _ => none
theorem v58 : Valid Tryd.prog Gs 111 g58 := by
  intro args H r h hp
  unfold g58 at h
  split at h
  · simp only [Option.some.injEq] at h; subst h; exact ok58 _ _
  · cases h
noncomputable def ct_58 : List (Nat × Ct) := (111, ⟨[], false, g58, none⟩) :: ct_14
theorem ctok_58 : CtsOk Tryd.prog Gs ct_58 := CtsOk.cons v58 (by kernel_rfl) ctok_14
noncomputable def an56n (x p : Int) : Nat → List Nat → List Ann := fun _ _ => []
theorem ok56n (x p : Int) : CallsOk Tryd.prog Gs 109 [.a (.d (.v (.int .u64 x))), .a (.d (.v (.int .u64 p))), .a (.d (.v (.int .i64 2)))] [] (eB (below2 x p)) [] :=
  ok_of (ann := an56n x p) ctok_58 mixed Tryd.func109 (by kernel_rfl) (of_nf (p := brP (decide (mulH x x < p)) (true = below2 x p ∧ True) (brP (mulH x x == p) ((mulL x x == (0 : Int)) = below2 x p ∧ True) (false = below2 x p ∧ True))) (by kernel_rfl) (by
    refine brI (fun h => ⟨?_, trivial⟩) (fun h => brI (fun h2 => ⟨?_, trivial⟩) (fun h2 => ⟨?_, trivial⟩))
    · simp only [below2, ltz, h, Bool.true_or]
    · simp only [below2, ltz, h, h2, Bool.false_or, Bool.true_and]
    · simp only [below2, ltz, h, h2, Bool.false_or, Bool.false_and]))
noncomputable def an56r (x p : Int) : Nat → List Nat → List Ann := fun _ _ => []
theorem ok56r (x p : Int) : CallsOk Tryd.prog Gs 109 [.a (.d (.v (.int .u64 x))), .a (.d (.v (.int .u64 p))), .a (.d (.v (.int .i64 3)))] [] (eB (below3 x p)) [] :=
  ok_of (ann := an56r x p) ctok_58 mixed Tryd.func109 (by kernel_rfl) (of_nf (p := (0 : Int) ≤ (32 : Int) ∧ brP (decide (IntKind.wrap IntKind.u64 (IntKind.wrap IntKind.u64 (mulH x x * x) + mulH (mulL x x) x) < IntKind.wrap IntKind.u64 (p * (2 : Int) ^ min (Int.toNat (32 : Int)) (IntKind.bits IntKind.u64)))) (true = below3 x p ∧ True) (brP (IntKind.wrap IntKind.u64 (IntKind.wrap IntKind.u64 (mulH x x * x) + mulH (mulL x x) x) == IntKind.wrap IntKind.u64 (p * (2 : Int) ^ min (Int.toNat (32 : Int)) (IntKind.bits IntKind.u64))) ((mulL (mulL x x) x == (0 : Int)) = below3 x p ∧ True) (false = below3 x p ∧ True))) (by kernel_rfl) (by
    have e : IntKind.wrap .u64 (p * 2 ^ min (Int.toNat 32) (IntKind.bits .u64)) = U (p * 2 ^ (32 : Nat)) := by kernel_rfl
    rw [e]
    refine ⟨by omega, brI (fun h => ⟨?_, trivial⟩) (fun h => brI (fun h2 => ⟨?_, trivial⟩) (fun h2 => ⟨?_, trivial⟩))⟩
    · simp only [below3, ltz, U, h, Bool.true_or]
    · simp only [below3, ltz, U, h, h2, Bool.false_or, Bool.true_and]
    · simp only [below3, ltz, U, h, h2, Bool.false_or, Bool.false_and]))
noncomputable def g56 : Con := fun args H => match args, H with
  | [.a (.d (.v (.int .u64 x))), .a (.d (.v (.int .u64 p))), .a (.d (.v (.int .i64 2)))], [] => some ⟨[], eB (below2 x p), []⟩
  | [.a (.d (.v (.int .u64 x))), .a (.d (.v (.int .u64 p))), .a (.d (.v (.int .i64 3)))], [] => some ⟨[], eB (below3 x p), []⟩
  | _, _ => none
theorem v56 : Valid Tryd.prog Gs 109 g56 := by
  intro args H r h hp
  unfold g56 at h
  split at h
  · simp only [Option.some.injEq] at h; subst h; exact ok56n _ _
  · simp only [Option.some.injEq] at h; subst h; exact ok56r _ _
  · cases h
noncomputable def ct_56 : List (Nat × Ct) := (109, ⟨[], false, g56, none⟩) :: ct_58
theorem ctok_56 : CtsOk Tryd.prog Gs ct_56 := CtsOk.cons v56 (by kernel_rfl) ctok_58
noncomputable def an52n (p : Int) : Nat → List Nat → List Ann := fun bk_ gs_ => match bk_, gs_ with
    | 0, _ => [{ τ := Nat, t0 := (default : Nat), J := fun j => j ≤ 36, m := fun j => 36 - j, l := fun j => [(0, eI .u64 p), (1, eI .i64 2), (5, eI .u64 (pt2 p j)), (6, eI .i64 (35 - (j : Int)))], H := fun _ => [] }]
    | _, _ => []
theorem ok52n (p : Int) : CallsOk Tryd.prog Gs 104 [.a (.d (.v (.int .u64 p))), .a (.d (.v (.int .i64 2)))] [] (eI .u32 (IntKind.wrap .u32 (pt2 p 36))) [] :=
  ok_of (ann := an52n p) ctok_56 mixed Tryd.func104 (by kernel_rfl) (of_nf (p := (∃ (t : Nat), p = p ∧ (2 : Int) = (2 : Int) ∧ (0 : Int) = pt2 p t ∧ (35 : Int) = (35 : Int) - (↑t : Int) ∧ t ≤ (36 : Nat) ∧ True) ∧ ∀ (t : Nat), t ≤ (36 : Nat) → brP (decide ((35 : Int) - (↑t : Int) ≥ (0 : Int))) ((0 : Int) ≤ (35 : Int) - (↑t : Int) ∧ brP (below2 (IntKind.wrap IntKind.u64 (pt2 p t + IntKind.wrap IntKind.u64 ((1 : Int) * (2 : Int) ^ min (Int.toNat ((35 : Int) - (↑t : Int))) (IntKind.bits IntKind.u64)))) p) ((0 : Int) ≤ (35 : Int) - (↑t : Int) ∧ ∃ (t_1 : Nat), p = p ∧ (2 : Int) = (2 : Int) ∧ IntKind.wrap IntKind.u64 (pt2 p t + IntKind.wrap IntKind.u64 ((1 : Int) * (2 : Int) ^ min (Int.toNat ((35 : Int) - (↑t : Int))) (IntKind.bits IntKind.u64))) = pt2 p t_1 ∧ IntKind.wrap IntKind.i64 ((35 : Int) - (↑t : Int) - (1 : Int)) = (35 : Int) - (↑t_1 : Int) ∧ t_1 ≤ (36 : Nat) ∧ (36 : Nat) - t_1 < (36 : Nat) - t ∧ True) (∃ (t_1 : Nat), p = p ∧ (2 : Int) = (2 : Int) ∧ pt2 p t = pt2 p t_1 ∧ IntKind.wrap IntKind.i64 ((35 : Int) - (↑t : Int) - (1 : Int)) = (35 : Int) - (↑t_1 : Int) ∧ t_1 ≤ (36 : Nat) ∧ (36 : Nat) - t_1 < (36 : Nat) - t ∧ True)) (IntKind.wrap IntKind.u32 (pt2 p t) = IntKind.wrap IntKind.u32 (pt2 p (36 : Nat)) ∧ True)) (by kernel_rfl) (by
    refine ⟨⟨0, rfl, rfl, rfl, by omega, by omega, trivial⟩, fun t ht => brI (fun hc => ?_) (fun hc => ?_)⟩
    · have hc : t < 36 := by have := of_decide_eq_true hc; omega
      have e : min (Int.toNat (35 - (t : Int))) (IntKind.bits .u64) = 35 - t := by
        have : IntKind.bits .u64 = 64 := rfl
        rw [this]; omega
      rw [e]
      have ew : IntKind.wrap .i64 (35 - (t : Int) - 1) = 35 - ((t + 1 : Nat) : Int) := by rw [wi _ (by omega) (by omega)]; omega
      refine ⟨by omega, brI (fun hb => ⟨by omega, t + 1, rfl, rfl, ?_, ew, by omega, by omega, trivial⟩) (fun hb => ⟨t + 1, rfl, rfl, ?_, ew, by omega, by omega, trivial⟩)⟩
      · rw [pt2, if_pos hb]
      · rw [pt2, if_neg (by rw [hb]; decide)]
    · have hc : ¬ (35 - (t : Int) ≥ 0) := of_decide_eq_false hc
      obtain rfl : t = 36 := by omega
      exact ⟨rfl, trivial⟩))
noncomputable def an52r (p : Int) : Nat → List Nat → List Ann := fun bk_ gs_ => match bk_, gs_ with
    | 0, _ => [{ τ := Nat, t0 := (default : Nat), J := fun j => j ≤ 36, m := fun j => 36 - j, l := fun j => [(0, eI .u64 p), (1, eI .i64 3), (5, eI .u64 (pt3 p j)), (6, eI .i64 (35 - (j : Int)))], H := fun _ => [] }]
    | _, _ => []
theorem ok52r (p : Int) : CallsOk Tryd.prog Gs 104 [.a (.d (.v (.int .u64 p))), .a (.d (.v (.int .i64 3)))] [] (eI .u32 (IntKind.wrap .u32 (pt3 p 36))) [] :=
  ok_of (ann := an52r p) ctok_56 mixed Tryd.func104 (by kernel_rfl) (of_nf (p := (∃ (t : Nat), p = p ∧ (3 : Int) = (3 : Int) ∧ (0 : Int) = pt3 p t ∧ (35 : Int) = (35 : Int) - (↑t : Int) ∧ t ≤ (36 : Nat) ∧ True) ∧ ∀ (t : Nat), t ≤ (36 : Nat) → brP (decide ((35 : Int) - (↑t : Int) ≥ (0 : Int))) ((0 : Int) ≤ (35 : Int) - (↑t : Int) ∧ brP (below3 (IntKind.wrap IntKind.u64 (pt3 p t + IntKind.wrap IntKind.u64 ((1 : Int) * (2 : Int) ^ min (Int.toNat ((35 : Int) - (↑t : Int))) (IntKind.bits IntKind.u64)))) p) ((0 : Int) ≤ (35 : Int) - (↑t : Int) ∧ ∃ (t_1 : Nat), p = p ∧ (3 : Int) = (3 : Int) ∧ IntKind.wrap IntKind.u64 (pt3 p t + IntKind.wrap IntKind.u64 ((1 : Int) * (2 : Int) ^ min (Int.toNat ((35 : Int) - (↑t : Int))) (IntKind.bits IntKind.u64))) = pt3 p t_1 ∧ IntKind.wrap IntKind.i64 ((35 : Int) - (↑t : Int) - (1 : Int)) = (35 : Int) - (↑t_1 : Int) ∧ t_1 ≤ (36 : Nat) ∧ (36 : Nat) - t_1 < (36 : Nat) - t ∧ True) (∃ (t_1 : Nat), p = p ∧ (3 : Int) = (3 : Int) ∧ pt3 p t = pt3 p t_1 ∧ IntKind.wrap IntKind.i64 ((35 : Int) - (↑t : Int) - (1 : Int)) = (35 : Int) - (↑t_1 : Int) ∧ t_1 ≤ (36 : Nat) ∧ (36 : Nat) - t_1 < (36 : Nat) - t ∧ True)) (IntKind.wrap IntKind.u32 (pt3 p t) = IntKind.wrap IntKind.u32 (pt3 p (36 : Nat)) ∧ True)) (by kernel_rfl) (by
    refine ⟨⟨0, rfl, rfl, rfl, by omega, by omega, trivial⟩, fun t ht => brI (fun hc => ?_) (fun hc => ?_)⟩
    · have hc : t < 36 := by have := of_decide_eq_true hc; omega
      have e : min (Int.toNat (35 - (t : Int))) (IntKind.bits .u64) = 35 - t := by
        have : IntKind.bits .u64 = 64 := rfl
        rw [this]; omega
      rw [e]
      have ew : IntKind.wrap .i64 (35 - (t : Int) - 1) = 35 - ((t + 1 : Nat) : Int) := by rw [wi _ (by omega) (by omega)]; omega
      refine ⟨by omega, brI (fun hb => ⟨by omega, t + 1, rfl, rfl, ?_, ew, by omega, by omega, trivial⟩) (fun hb => ⟨t + 1, rfl, rfl, ?_, ew, by omega, by omega, trivial⟩)⟩
      · rw [pt3, if_pos hb]
      · rw [pt3, if_neg (by rw [hb]; decide)]
    · have hc : ¬ (35 - (t : Int) ≥ 0) := of_decide_eq_false hc
      obtain rfl : t = 36 := by omega
      exact ⟨rfl, trivial⟩))
noncomputable def g52 : Con := fun args H => match args, H with
  | [.a (.d (.v (.int .u64 p))), .a (.d (.v (.int .i64 2)))], [] => some ⟨[], eI .u32 (IntKind.wrap .u32 (pt2 p 36)), []⟩
  | [.a (.d (.v (.int .u64 p))), .a (.d (.v (.int .i64 3)))], [] => some ⟨[], eI .u32 (IntKind.wrap .u32 (pt3 p 36)), []⟩
  | _, _ => none
theorem v52 : Valid Tryd.prog Gs 104 g52 := by
  intro args H r h hp
  unfold g52 at h
  split at h
  · simp only [Option.some.injEq] at h; subst h; exact ok52n _
  · simp only [Option.some.injEq] at h; subst h; exact ok52r _
  · cases h
noncomputable def ct_52 : List (Nat × Ct) := (104, ⟨[], false, g52, none⟩) :: ct_56
theorem ctok_52 : CtsOk Tryd.prog Gs ct_52 := CtsOk.cons v52 (by kernel_rfl) ctok_56
noncomputable def an51  : Nat → List Nat → List Ann := fun bk_ gs_ => match bk_, gs_ with
    | 0, _ => [{ τ := Nat, t0 := (default : Nat), J := fun j => j ≤ 310, m := fun j => 310 - j, l := fun j => [(0, eI .i64 64), (3, .s (.a (.rw 3))), (4, eI .u64 ((j : Int) + 2))], H := fun j => [(3, .row (.ints .u64 (pst j)) 86)] }]
    | 2, m :: _ => [{ τ := Nat × Nat, t0 := (default : Nat × Nat), J := fun t => t.1 < 310 ∧ t.2 ≤ (pst t.1).length ∧ 310 - t.1 = m, m := fun t => (pst t.1).length - t.2, l := fun t => [(0, eI .i64 64), (3, .s (.a (.rw 3))), (4, eI .u64 ((t.1 : Int) + 2)), (5, eB (prF ((t.1 : Int) + 2) (pst t.1) t.2)), (6, eI .i64 t.2)], H := fun t => [(3, .row (.ints .u64 (pst t.1)) 86)] }]
    | _, _ => []
theorem ok51  : CallsOk Tryd.prog Gs 103 [.a (.d (.v (.int .i64 64)))] [] (.s (.a (.rw 0))) [(0, .row (.ints .u64 P64) 86)] :=
  ok_of (ann := an51 ) ctok_52 mixed Tryd.func103 (by kernel_rfl) (of_nf (p := (∃ (t : Nat), (64 : Int) = (64 : Int) ∧ (2 : Int) = (↑t : Int) + (2 : Int) ∧ [] = pst t ∧ t ≤ (310 : Nat) ∧ True) ∧ ∀ (t : Nat), t ≤ (310 : Nat) → brP (decide ((↑(Cont.len (Cont.ints IntKind.u64 (pst t))) : Int) < (64 : Int))) ((∃ (t_1 : Nat × Nat), (64 : Int) = (64 : Int) ∧ (↑t : Int) + (2 : Int) = (↑(Prod.fst t_1) : Int) + (2 : Int) ∧ true = prF ((↑(Prod.fst t_1) : Int) + (2 : Int)) (pst (Prod.fst t_1)) (Prod.snd t_1) ∧ (0 : Int) = (↑(Prod.snd t_1) : Int) ∧ pst t = pst (Prod.fst t_1) ∧ (Prod.fst t_1 < (310 : Nat) ∧ Prod.snd t_1 ≤ List.length (pst (Prod.fst t_1)) ∧ (310 : Nat) - Prod.fst t_1 = (310 : Nat) - t) ∧ True) ∧ ∀ (t_1 : Nat × Nat), let l2 := ((↑(Prod.fst t_1) : Int) + (2 : Int) + (1 : Int)); let l1 := (prF ((↑(Prod.fst t_1) : Int) + (2 : Int)) (pst (Prod.fst t_1)) (Prod.snd t_1)); let l0 := (Cont.ints IntKind.u64 (pst (Prod.fst t_1))); Prod.fst t_1 < (310 : Nat) ∧ Prod.snd t_1 ≤ List.length (pst (Prod.fst t_1)) ∧ (310 : Nat) - Prod.fst t_1 = (310 : Nat) - t → brP (decide ((↑(Prod.snd t_1) : Int) < (↑(Cont.len l0) : Int))) (brP l1 (((0 : Int) ≤ (↑(Prod.snd t_1) : Int) ∧ (↑(Prod.snd t_1) : Int) < (↑(Cont.len l0) : Int)) ∧ List.getD (pst (Prod.fst t_1)) (Int.toNat (↑(Prod.snd t_1) : Int)) (0 : Int) ≠ (0 : Int) ∧ ∃ (t_2 : Nat × Nat), (64 : Int) = (64 : Int) ∧ (↑(Prod.fst t_1) : Int) + (2 : Int) = (↑(Prod.fst t_2) : Int) + (2 : Int) ∧ (Int.tmod ((↑(Prod.fst t_1) : Int) + (2 : Int)) (List.getD (pst (Prod.fst t_1)) (Int.toNat (↑(Prod.snd t_1) : Int)) (0 : Int)) != (0 : Int)) = prF ((↑(Prod.fst t_2) : Int) + (2 : Int)) (pst (Prod.fst t_2)) (Prod.snd t_2) ∧ IntKind.wrap IntKind.i64 ((↑(Prod.snd t_1) : Int) + (1 : Int)) = (↑(Prod.snd t_2) : Int) ∧ pst (Prod.fst t_1) = pst (Prod.fst t_2) ∧ (Prod.fst t_2 < (310 : Nat) ∧ Prod.snd t_2 ≤ List.length (pst (Prod.fst t_2)) ∧ (310 : Nat) - Prod.fst t_2 = (310 : Nat) - t) ∧ List.length (pst (Prod.fst t_2)) - Prod.snd t_2 < List.length (pst (Prod.fst t_1)) - Prod.snd t_1 ∧ True) (∃ (t_2 : Nat × Nat), (64 : Int) = (64 : Int) ∧ (↑(Prod.fst t_1) : Int) + (2 : Int) = (↑(Prod.fst t_2) : Int) + (2 : Int) ∧ false = prF ((↑(Prod.fst t_2) : Int) + (2 : Int)) (pst (Prod.fst t_2)) (Prod.snd t_2) ∧ IntKind.wrap IntKind.i64 ((↑(Prod.snd t_1) : Int) + (1 : Int)) = (↑(Prod.snd t_2) : Int) ∧ pst (Prod.fst t_1) = pst (Prod.fst t_2) ∧ (Prod.fst t_2 < (310 : Nat) ∧ Prod.snd t_2 ≤ List.length (pst (Prod.fst t_2)) ∧ (310 : Nat) - Prod.fst t_2 = (310 : Nat) - t) ∧ List.length (pst (Prod.fst t_2)) - Prod.snd t_2 < List.length (pst (Prod.fst t_1)) - Prod.snd t_1 ∧ True)) (brP l1 (Cont.len l0 + Cont.len (Cont.ints IntKind.u64 [(↑(Prod.fst t_1) : Int) + (2 : Int)]) ≤ lim ∧ ∃ (t_2 : Nat), (64 : Int) = (64 : Int) ∧ IntKind.wrap IntKind.u64 l2 = (↑t_2 : Int) + (2 : Int) ∧ pst (Prod.fst t_1) ++ [(↑(Prod.fst t_1) : Int) + (2 : Int)] = pst t_2 ∧ t_2 ≤ (310 : Nat) ∧ (310 : Nat) - t_2 < (310 : Nat) - t ∧ True) (∃ (t_2 : Nat), (64 : Int) = (64 : Int) ∧ IntKind.wrap IntKind.u64 l2 = (↑t_2 : Int) + (2 : Int) ∧ pst (Prod.fst t_1) = pst t_2 ∧ t_2 ≤ (310 : Nat) ∧ (310 : Nat) - t_2 < (310 : Nat) - t ∧ True))) (pst t = P64 ∧ True)) (by kernel_rfl) (by
    conv => zeta
    have l1 : (64 : Nat) ≤ lim := by unfold lim; omega
    refine ⟨⟨0, rfl, rfl, rfl, by omega, trivial⟩, fun t ht => brI (fun hc => ?_) (fun hc => ?_)⟩
    · have hl : (pst t).length < 64 := by
        have := of_decide_eq_true hc
        have e : (((pst t).length : Nat) : Int) < 64 := this
        omega
      have ht' : t < 310 := by
        rcases Nat.lt_or_ge t 310 with h | h
        · exact h
        · obtain rfl : t = 310 := by omega
          rw [pst_310] at hl; exact absurd hl (by decide)
      refine ⟨⟨(t, 0), rfl, rfl, rfl, rfl, rfl, ⟨ht', Nat.zero_le _, rfl⟩, trivial⟩, fun u hu => ?_⟩
      obtain ⟨j, i⟩ := u
      obtain ⟨hj, hi, hm⟩ := hu
      dsimp only at hj hi hm ⊢
      obtain rfl : j = t := by omega
      refine brI (fun hd => ?_) (fun hd => ?_)
      · have hd : i < (pst j).length := by
          have := of_decide_eq_true hd
          have e : (i : Int) < (((pst j).length : Nat) : Int) := this
          omega
        have hne : (pst j).getD (Int.toNat (i : Int)) 0 ≠ 0 := by
          rw [Int.toNat_natCast, List.getD_eq_getElem?_getD, List.getElem?_eq_getElem hd]
          have := pst_pos j _ (List.getElem_mem hd)
          simp only [Option.getD_some]
          omega
        have e1 : IntKind.wrap .i64 ((i : Int) + 1) = ((i + 1 : Nat) : Int) := by rw [wi _ (by omega) (by omega)]; rfl
        refine brI (fun hp => ⟨⟨by omega, show (i : Int) < (((pst j).length : Nat) : Int) by omega⟩, hne, (j, i + 1), rfl, rfl, ?_, e1, rfl, ⟨hj, hd, hm⟩, by dsimp only; omega, trivial⟩) (fun hp => ⟨(j, i + 1), rfl, rfl, ?_, e1, rfl, ⟨hj, hd, hm⟩, by dsimp only; omega, trivial⟩)
        · show _ = (prF _ _ i && _)
          rw [hp, Bool.true_and]
          rfl
        · show _ = (prF _ _ i && _)
          rw [hp]; rfl
      · have hd : i = (pst j).length := by
          have := of_decide_eq_false hd
          have e : ¬ (i : Int) < (((pst j).length : Nat) : Int) := this
          omega
        subst hd
        have ew : IntKind.wrap .u64 ((j : Int) + 2 + 1) = ((j + 1 : Nat) : Int) + 2 := by rw [wu _ (by omega) (by omega)]; omega
        refine brI (fun hp => ⟨(show (pst j).length + 1 ≤ lim by omega), j + 1, rfl, ew, (pst_yes hp).symm, by omega, by omega, trivial⟩) (fun hp => ⟨j + 1, rfl, ew, (pst_no hp).symm, by omega, by omega, trivial⟩)
    · have hl : ¬ (pst t).length < 64 := by
        have := of_decide_eq_false hc
        have e : ¬ (((pst t).length : Nat) : Int) < 64 := this
        omega
      have : t = 310 := by
        rcases Nat.lt_or_ge t 310 with h | h
        · exact absurd (pst_lt h) hl
        · omega
      subst this
      exact ⟨pst_310, trivial⟩))
noncomputable def g51 : Con := fun args H => match args, H with
  | [.a (.d (.v (.int .i64 64)))], [] => some ⟨[], .s (.a (.rw 0)), [(0, .row (.ints .u64 P64) 86)]⟩
  | _, _ => none
theorem v51 : Valid Tryd.prog Gs 103 g51 := by
  intro args H r h hp
  unfold g51 at h
  split at h
  · simp only [Option.some.injEq] at h; subst h; exact ok51 
  · cases h
noncomputable def ct_51 : List (Nat × Ct) := (103, ⟨[], false, g51, none⟩) :: ct_52
theorem ctok_51 : CtsOk Tryd.prog Gs ct_51 := CtsOk.cons v51 (by kernel_rfl) ctok_52
noncomputable def an40  : Nat → List Nat → List Ann := fun bk_ gs_ => match bk_, gs_ with
    | 0, _ => [{ τ := Nat, t0 := (default : Nat), J := fun i => i ≤ 64, m := fun i => 64 - i, l := fun i => [(2, .s (.a (.rw 2))), (3, .s (.a (.rw 3))), (4, .s (.a (.rw 4))), (5, eI .i64 i)], H := fun i => [(2, .row (.ints .u64 P64) 86), (3, .row (.ints .u32 (nh i)) 170), (4, .row (.ints .u32 (nk i)) 170)] }]
    | _, _ => []
theorem ok40  : CallsOk Tryd.prog Gs 93 [] [] (.t [.a (.rw 0), .a (.rw 1)]) [(0, .row (.ints .u32 hs0.h) 170), (1, .row (.ints .u32 shaK) 170)] :=
  ok_of (ann := an40 ) ctok_51 mixed Tryd.func93 (by kernel_rfl) (of_nf (p := (∃ (t : Nat), (0 : Int) = (↑t : Int) ∧ P64 = P64 ∧ [] = nh t ∧ [] = nk t ∧ t ≤ (64 : Nat) ∧ True) ∧ ∀ (t : Nat), let l1 := ((0 : Int) ≤ (↑t : Int) ∧ (↑t : Int) < (↑(Cont.len (Cont.ints IntKind.u64 P64)) : Int)); let l0 := (List.getD P64 (Int.toNat (↑t : Int)) (0 : Int)); let l2 := (Cont.ints IntKind.u32 [IntKind.wrap IntKind.u32 (pt3 l0 (36 : Nat))]); t ≤ (64 : Nat) → brP (decide ((↑t : Int) < (64 : Int))) (brP (decide ((↑t : Int) < (8 : Int))) (l1 ∧ Cont.len (Cont.ints IntKind.u32 (nh t)) + Cont.len (Cont.ints IntKind.u32 [IntKind.wrap IntKind.u32 (pt2 l0 (36 : Nat))]) ≤ lim ∧ l1 ∧ Cont.len (Cont.ints IntKind.u32 (nk t)) + Cont.len l2 ≤ lim ∧ ∃ (t_1 : Nat), IntKind.wrap IntKind.i64 ((↑t : Int) + (1 : Int)) = (↑t_1 : Int) ∧ P64 = P64 ∧ nh t ++ [IntKind.wrap IntKind.u32 (pt2 l0 (36 : Nat))] = nh t_1 ∧ nk t ++ [IntKind.wrap IntKind.u32 (pt3 l0 (36 : Nat))] = nk t_1 ∧ t_1 ≤ (64 : Nat) ∧ (64 : Nat) - t_1 < (64 : Nat) - t ∧ True) (l1 ∧ Cont.len (Cont.ints IntKind.u32 (nk t)) + Cont.len l2 ≤ lim ∧ ∃ (t_1 : Nat), IntKind.wrap IntKind.i64 ((↑t : Int) + (1 : Int)) = (↑t_1 : Int) ∧ P64 = P64 ∧ nh t = nh t_1 ∧ nk t ++ [IntKind.wrap IntKind.u32 (pt3 l0 (36 : Nat))] = nk t_1 ∧ t_1 ≤ (64 : Nat) ∧ (64 : Nat) - t_1 < (64 : Nat) - t ∧ True)) (nh t = HS.h hs0 ∧ nk t = shaK ∧ True)) (by kernel_rfl) (by
    conv => zeta
    have l1 : (65 : Nat) ≤ lim := by unfold lim; omega
    have e64 : Cont.len (Cont.ints IntKind.u64 P64) = 64 := rfl
    refine ⟨⟨0, rfl, rfl, rfl, rfl, by omega, trivial⟩, fun t ht => brI (fun hc => ?_) (fun hc => ?_)⟩
    · have hc : t < 64 := by have := of_decide_eq_true hc; omega
      have e1 : IntKind.wrap .i64 ((t : Int) + 1) = ((t + 1 : Nat) : Int) := by rw [wi _ (by omega) (by omega)]; rfl
      have hnh := nh_len t
      have hnk := nk_len t
      have b1 : (0 : Int) ≤ (t : Int) ∧ (t : Int) < ((Cont.len (Cont.ints IntKind.u64 P64) : Nat) : Int) := by rw [e64]; omega
      refine brI (fun hd => ⟨b1, (show (nh t).length + 1 ≤ lim by omega), b1, (show (nk t).length + 1 ≤ lim by omega), t + 1, e1, rfl, ?_, rfl, by omega, by omega, trivial⟩) (fun hd => ⟨b1, (show (nk t).length + 1 ≤ lim by omega), t + 1, e1, rfl, ?_, rfl, by omega, by omega, trivial⟩)
      · have hd : t < 8 := by have := of_decide_eq_true hd; omega
        rw [nh, if_pos hd]; rfl
      · have hd : ¬ t < 8 := by have := of_decide_eq_false hd; omega
        rw [nh, if_neg hd]
    · have hc : ¬ (t : Int) < 64 := of_decide_eq_false hc
      obtain rfl : t = 64 := by omega
      exact ⟨nh_all, nk_all, trivial⟩))
noncomputable def g40 : Con := fun args H => match args, H with
  | [], [] => some ⟨[], .t [.a (.rw 0), .a (.rw 1)], [(0, .row (.ints .u32 hs0.h) 170), (1, .row (.ints .u32 shaK) 170)]⟩
  | _, _ => none
theorem v40 : Valid Tryd.prog Gs 93 g40 := by
  intro args H r h hp
  unfold g40 at h
  split at h
  · simp only [Option.some.injEq] at h; subst h; exact ok40 
  · cases h
noncomputable def ct_40 : List (Nat × Ct) := (93, ⟨[], false, g40, none⟩) :: ct_51
theorem ctok_40 : CtsOk Tryd.prog Gs ct_40 := CtsOk.cons v40 (by kernel_rfl) ctok_51
noncomputable def an42 (x n : Int) : Nat → List Nat → List Ann := fun _ _ => []
theorem ok42 (x n : Int) (hp : allP [0 ≤ n, n ≤ 32]) : CallsOk Tryd.prog Gs 94 [.a (.d (.v (.int .u32 x))), .a (.d (.v (.int .i64 n)))] [] (eI .u32 (rotq x n)) [] :=
  ok_of (ann := an42 x n) ctok_40 mixed Tryd.func94 (by kernel_rfl) (of_nf (p := (0 : Int) ≤ n ∧ (0 : Int) ≤ IntKind.wrap IntKind.i64 ((32 : Int) - n) ∧ bOr IntKind.u32 (Int.fdiv x ((2 : Int) ^ min (Int.toNat n) (IntKind.bits IntKind.u32))) (IntKind.wrap IntKind.u32 (x * (2 : Int) ^ min (Int.toNat (IntKind.wrap IntKind.i64 ((32 : Int) - n))) (IntKind.bits IntKind.u32))) = rotq x n ∧ True) (by kernel_rfl) (by
    obtain ⟨h0, h1, _⟩ := hp
    exact ⟨h0, by rw [wi _ (by omega) (by omega)]; omega, rfl, trivial⟩))
noncomputable def g42 : Con := fun args H => match args, H with
  | [.a (.d (.v (.int .u32 x))), .a (.d (.v (.int .i64 n)))], [] => some ⟨[0 ≤ n, n ≤ 32], eI .u32 (rotq x n), []⟩
  | _, _ => none
theorem v42 : Valid Tryd.prog Gs 94 g42 := by
  intro args H r h hp
  unfold g42 at h
  split at h
  · simp only [Option.some.injEq] at h; subst h; exact ok42 _ _ hp
  · cases h
noncomputable def ct_42 : List (Nat × Ct) := (94, ⟨[], false, g42, none⟩) :: ct_40
theorem ctok_42 : CtsOk Tryd.prog Gs ct_42 := CtsOk.cons v42 (by kernel_rfl) ctok_40
noncomputable def an41 (n : Int) : Nat → List Nat → List Ann := fun bk_ gs_ => match bk_, gs_ with
    | 0, _ => [{ τ := Nat, t0 := (default : Nat), J := fun j => j ≤ 8, m := fun j => 8 - j, l := fun j => [(0, eI .u64 n), (5, .s (.a (.rw 5))), (6, eI .i64 (7 - (j : Int)))], H := fun j => [(5, .row (.ints .u8 ((be8 n).take j)) 5)] }]
    | _, _ => []
theorem ok41 (n : Int) : CallsOk Tryd.prog Gs 61 [.a (.d (.v (.int .u64 n))), .a (.d (.v (.int .i64 8)))] [] (.s (.a (.rw 0))) [(0, .row (.ints .u8 (be8 n)) 5)] :=
  ok_of (ann := an41 n) ctok_42 mixed Tryd.func61 (by kernel_rfl) (of_nf (p := (∃ (t : Nat), n = n ∧ IntKind.wrap IntKind.i64 ((8 : Int) - (1 : Int)) = (7 : Int) - (↑t : Int) ∧ [] = List.take t (be8 n) ∧ t ≤ (8 : Nat) ∧ True) ∧ ∀ (t : Nat), t ≤ (8 : Nat) → brP (decide ((7 : Int) - (↑t : Int) ≥ (0 : Int))) ((0 : Int) ≤ IntKind.wrap IntKind.i64 ((8 : Int) * ((7 : Int) - (↑t : Int))) ∧ Cont.len (Cont.ints IntKind.u8 (List.take t (be8 n))) + Cont.len (Cont.ints IntKind.u8 [IntKind.wrap IntKind.u8 (Int.fdiv n ((2 : Int) ^ min (Int.toNat (IntKind.wrap IntKind.i64 ((8 : Int) * ((7 : Int) - (↑t : Int))))) (IntKind.bits IntKind.u64)))]) ≤ lim ∧ ∃ (t_1 : Nat), n = n ∧ IntKind.wrap IntKind.i64 ((7 : Int) - (↑t : Int) - (1 : Int)) = (7 : Int) - (↑t_1 : Int) ∧ List.take t (be8 n) ++ [IntKind.wrap IntKind.u8 (Int.fdiv n ((2 : Int) ^ min (Int.toNat (IntKind.wrap IntKind.i64 ((8 : Int) * ((7 : Int) - (↑t : Int))))) (IntKind.bits IntKind.u64)))] = List.take t_1 (be8 n) ∧ t_1 ≤ (8 : Nat) ∧ (8 : Nat) - t_1 < (8 : Nat) - t ∧ True) (List.take t (be8 n) = be8 n ∧ True)) (by kernel_rfl) (by
    have l1 : (65 : Nat) ≤ lim := by unfold lim; omega
    refine ⟨⟨0, rfl, by rw [wi _ (by omega) (by omega)]; rfl, rfl, by omega, trivial⟩, fun t ht => brI (fun hc => ?_) (fun hc => ?_)⟩
    · have hc : t < 8 := by have := of_decide_eq_true hc; omega
      have ew : IntKind.wrap .i64 (7 - (t : Int) - 1) = 7 - ((t + 1 : Nat) : Int) := by rw [wi _ (by omega) (by omega)]; omega
      have hl : ((be8 n).take t).length ≤ 8 := by simp [be8]; omega
      refine ⟨by rw [wi _ (by omega) (by omega)]; omega, (show ((be8 n).take t).length + 1 ≤ lim by omega), t + 1, rfl, ew, ?_, by omega, by omega, trivial⟩
      have e : min (Int.toNat (IntKind.wrap .i64 (8 * (7 - (t : Int))))) (IntKind.bits .u64) = 8 * (7 - t) := by
        have : IntKind.bits .u64 = 64 := rfl
        rw [this, wi _ (by omega) (by omega)]; omega
      rw [e]
      have : t = 0 ∨ t = 1 ∨ t = 2 ∨ t = 3 ∨ t = 4 ∨ t = 5 ∨ t = 6 ∨ t = 7 := by omega
      rcases this with rfl | rfl | rfl | rfl | rfl | rfl | rfl | rfl <;> first | rfl | (show _ ++ [IntKind.wrap .u8 (Int.fdiv n (2 ^ (0 : Nat)))] = _; rw [fdiv_one]; rfl)
    · have hc : ¬ (7 - (t : Int) ≥ 0) := of_decide_eq_false hc
      obtain rfl : t = 8 := by omega
      exact ⟨rfl, trivial⟩))
noncomputable def g41 : Con := fun args H => match args, H with
  | [.a (.d (.v (.int .u64 n))), .a (.d (.v (.int .i64 8)))], [] => some ⟨[], .s (.a (.rw 0)), [(0, .row (.ints .u8 (be8 n)) 5)]⟩
  | _, _ => none
theorem v41 : Valid Tryd.prog Gs 61 g41 := by
  intro args H r h hp
  unfold g41 at h
  split at h
  · simp only [Option.some.injEq] at h; subst h; exact ok41 _
  · cases h
noncomputable def ct_41 : List (Nat × Ct) := (61, ⟨[], false, g41, none⟩) :: ct_42
theorem ctok_41 : CtsOk Tryd.prog Gs ct_41 := CtsOk.cons v41 (by kernel_rfl) ctok_42
end Go.Proofs.YtlgffgnkkihaoaaDoor
