/- The digest: how its small parts reckon. -/
import Derived.Test.YtlgffgnkkihaoaaDoorYaS
namespace Go.Proofs.YtlgffgnkkihaoaaDoor
open Go.Dx Go.RowKit
set_option linter.unusedVariables false
set_option linter.unusedSimpArgs false
set_option maxRecDepth 100000
attribute [local irreducible] wpS
noncomputable def ct_a0 : List (Nat × Ct) := []
theorem ctok_a0 : CtsOk Tryd.prog Gs ct_a0 := CtsOk.nil
def rotl (x k : Int) : Int := bOr .u32 (IntKind.wrap .u32 (x * 2 ^ (min (Int.toNat (bAnd .u64 (IntKind.wrap .u64 k) 31)) 32))) (Int.fdiv x (2 ^ (min (Int.toNat (IntKind.wrap .u64 (32 - bAnd .u64 (IntKind.wrap .u64 k) 31))) 32)))
theorem wi (x : Int) (h0 : -9223372036854775808 ≤ x) (h1 : x < 9223372036854775808) : IntKind.wrap .i64 x = x := by
  simp only [IntKind.wrap, IntKind.bits, IntKind.signed]
  simp
  omega
theorem wu (x : Int) (h0 : 0 ≤ x) (h1 : x < 18446744073709551616) : IntKind.wrap .u64 x = x := by rw [IntKind.wrap_u64]; omega
theorem rot7 (x : Int) : rotl x (IntKind.wrap .i64 (-7)) = rotr 7 x := by kernel_rfl
theorem rot18 (x : Int) : rotl x (IntKind.wrap .i64 (-18)) = rotr 18 x := by kernel_rfl
theorem rot17 (x : Int) : rotl x (IntKind.wrap .i64 (-17)) = rotr 17 x := by kernel_rfl
theorem rot19 (x : Int) : rotl x (IntKind.wrap .i64 (-19)) = rotr 19 x := by kernel_rfl
theorem rot6 (x : Int) : rotl x (IntKind.wrap .i64 (-6)) = rotr 6 x := by kernel_rfl
theorem rot11 (x : Int) : rotl x (IntKind.wrap .i64 (-11)) = rotr 11 x := by kernel_rfl
theorem rot25 (x : Int) : rotl x (IntKind.wrap .i64 (-25)) = rotr 25 x := by kernel_rfl
theorem rot2 (x : Int) : rotl x (IntKind.wrap .i64 (-2)) = rotr 2 x := by kernel_rfl
theorem rot13 (x : Int) : rotl x (IntKind.wrap .i64 (-13)) = rotr 13 x := by kernel_rfl
theorem rot22 (x : Int) : rotl x (IntKind.wrap .i64 (-22)) = rotr 22 x := by kernel_rfl
theorem be4_cut {R : List Int} (h : R.length = 64) {t : Nat} (ht : t < 16) : be4 ((R.drop (4 * t)).take (64 - 4 * t)) 0 = be4 R (4 * t) := by
  unfold be4
  have e : ∀ j, j < 4 → ((R.drop (4 * t)).take (64 - 4 * t)).getD j 0 = R.getD (4 * t + j) 0 := fun j hj => by
    simp only [List.getD_eq_getElem?_getD]
    rw [List.getElem?_take, if_pos (by omega), List.getElem?_drop]
  simp only [Nat.zero_add]
  rw [e 0 (by omega), e 1 (by omega), e 2 (by omega), e 3 (by omega)]
  rfl
def acc4 (L : List Int) : Nat → Int
  | 0 => 0
  | i + 1 => bOr .u32 (IntKind.wrap .u32 (acc4 L i * 2 ^ (8 : Nat))) (IntKind.wrap .u32 (L.getD i 0))
abbrev hC (s : HS) : List Chunk := [.ints .u32 8 s.h, .ints .u8 64 s.rest, .one (.d (.v (.int .u64 s.n)))]
noncomputable def an57 (x k : Int) : Nat → List Nat → List Ann := fun _ _ => []
theorem ok57 (x k : Int) : CallsOk Tryd.prog Gs 110 [.a (.d (.v (.int .u32 x))), .a (.d (.v (.int .i64 k)))] [] (eI .u32 (rotl x k)) [] :=
  ok_of (ann := an57 x k) ctok_a0 mixed Tryd.func110 (by kernel_rfl) (of_nf (p := (0 : Int) ≤ bAnd IntKind.u64 (IntKind.wrap IntKind.u64 k) (31 : Int) ∧ (0 : Int) ≤ IntKind.wrap IntKind.u64 ((32 : Int) - bAnd IntKind.u64 (IntKind.wrap IntKind.u64 k) (31 : Int)) ∧ bOr IntKind.u32 (IntKind.wrap IntKind.u32 (x * (2 : Int) ^ min (Int.toNat (bAnd IntKind.u64 (IntKind.wrap IntKind.u64 k) (31 : Int))) (IntKind.bits IntKind.u32))) (Int.fdiv x ((2 : Int) ^ min (Int.toNat (IntKind.wrap IntKind.u64 ((32 : Int) - bAnd IntKind.u64 (IntKind.wrap IntKind.u64 k) (31 : Int)))) (IntKind.bits IntKind.u32))) = rotl x k ∧ True) (by kernel_rfl) (by
    exact ⟨(u64_lt _).1, (u64_lt _).1, rfl, trivial⟩))
noncomputable def g57 : Con := fun args H => match args, H with
  | [.a (.d (.v (.int .u32 x))), .a (.d (.v (.int .i64 k)))], [] => some ⟨[], eI .u32 (rotl x k), []⟩
  | _, _ => none
theorem v57 : Valid Tryd.prog Gs 110 g57 := by
  intro args H r h hp
  unfold g57 at h
  split at h
  · simp only [Option.some.injEq] at h; subst h; exact ok57 _ _
  · cases h
noncomputable def ct_57 : List (Nat × Ct) := (110, ⟨[], false, g57, none⟩) :: ct_a0
theorem ctok_57 : CtsOk Tryd.prog Gs ct_57 := CtsOk.cons v57 (by kernel_rfl) ctok_a0
noncomputable def an54 (x k : Int) : Nat → List Nat → List Ann := fun _ _ => []
theorem ok54 (x k : Int) : CallsOk Tryd.prog Gs 106 [.a (.d (.v (.int .u32 x))), .a (.d (.v (.int .i64 k)))] [] (eI .u32 (rotl x (IntKind.wrap .i64 (-k)))) [] :=
  ok_of (ann := an54 x k) ctok_57 mixed Tryd.func106 (by kernel_rfl) (of_nf (p := rotl x (IntKind.wrap IntKind.i64 ((0 : Int) - k)) = rotl x (IntKind.wrap IntKind.i64 (-k)) ∧ True) (by kernel_rfl) (by
    exact ⟨by rw [Int.zero_sub], trivial⟩))
noncomputable def g54 : Con := fun args H => match args, H with
  | [.a (.d (.v (.int .u32 x))), .a (.d (.v (.int .i64 k)))], [] => some ⟨[], eI .u32 (rotl x (IntKind.wrap .i64 (-k))), []⟩
  | _, _ => none
theorem v54 : Valid Tryd.prog Gs 106 g54 := by
  intro args H r h hp
  unfold g54 at h
  split at h
  · simp only [Option.some.injEq] at h; subst h; exact ok54 _ _
  · cases h
noncomputable def ct_54 : List (Nat × Ct) := (106, ⟨[], false, g54, none⟩) :: ct_57
theorem ctok_54 : CtsOk Tryd.prog Gs ct_54 := CtsOk.cons v54 (by kernel_rfl) ctok_57
noncomputable def an53 (L : List Int) : Nat → List Nat → List Ann := fun bk_ gs_ => match bk_, gs_ with
    | 0, _ => [{ τ := Nat, t0 := (default : Nat), J := fun i => i ≤ 4, m := fun i => 4 - i, l := fun i => [(7, .s (.a (.d (.si .u8 (L.take 4))))), (8, eI .i64 4), (9, eI .i64 i), (3, eI .u32 (acc4 L i))], H := fun _ => [] }]
    | _, _ => []
theorem ok53 (L : List Int) (hp : allP [4 ≤ L.length, OkB L]) : CallsOk Tryd.prog Gs 105 [.a (.d (.si .u8 L))] [] (eI .u32 (be4 L 0)) [] :=
  ok_of (ann := an53 L) ctok_54 mixed Tryd.func105 (by kernel_rfl) (of_nf (p := ((0 : Int) ≤ (4 : Int) ∧ (4 : Int) ≤ (↑(List.length L) : Int)) ∧ (∃ (t : Nat), cutL L none (some (IntKind.i64, (4 : Int))) = List.take (4 : Nat) L ∧ (↑(List.length (cutL L none (some (IntKind.i64, (4 : Int))))) : Int) = (4 : Int) ∧ (0 : Int) = (↑t : Int) ∧ (0 : Int) = acc4 L t ∧ t ≤ (4 : Nat) ∧ True) ∧ ∀ (t : Nat), t ≤ (4 : Nat) → brP (decide ((↑t : Int) < (4 : Int))) (((0 : Int) ≤ (↑t : Int) ∧ (↑t : Int) < (↑(List.length (List.take (4 : Nat) L)) : Int)) ∧ (0 : Int) ≤ (8 : Int) ∧ ∃ (t_1 : Nat), List.take (4 : Nat) L = List.take (4 : Nat) L ∧ (4 : Int) = (4 : Int) ∧ IntKind.wrap IntKind.i64 ((↑t : Int) + (1 : Int)) = (↑t_1 : Int) ∧ bOr IntKind.u32 (IntKind.wrap IntKind.u32 (acc4 L t * (2 : Int) ^ min (Int.toNat (8 : Int)) (IntKind.bits IntKind.u32))) (IntKind.wrap IntKind.u32 (List.getD (List.take (4 : Nat) L) (Int.toNat (↑t : Int)) (0 : Int))) = acc4 L t_1 ∧ t_1 ≤ (4 : Nat) ∧ (4 : Nat) - t_1 < (4 : Nat) - t ∧ True) (acc4 L t = be4 L (0 : Nat) ∧ True)) (by kernel_rfl) (by
    obtain ⟨h4, hb, _⟩ := hp
    have hl : (L.take 4).length = 4 := by simp; omega
    refine ⟨by omega, ⟨0, rfl, by show ((L.take 4).length : Int) = 4; rw [hl]; rfl, rfl, rfl, by omega, trivial⟩, fun t ht => brI (fun hc => ?_) (fun hc => ?_)⟩
    · have hc : t < 4 := by have := of_decide_eq_true hc; omega
      refine ⟨by rw [hl]; omega, by omega, t + 1, rfl, rfl, by rw [wi _ (by omega) (by omega)]; rfl, ?_, by omega, by omega, trivial⟩
      simp only [acc4, Int.toNat_natCast, List.getD_eq_getElem?_getD, List.getElem?_take, if_pos hc]
      rfl
    · have hc : ¬ (t : Int) < 4 := of_decide_eq_false hc
      obtain rfl : t = 4 := by omega
      exact ⟨be4_or hb, trivial⟩))
noncomputable def g53 : Con := fun args H => match args, H with
  | [.a (.d (.si .u8 L))], [] => some ⟨[4 ≤ L.length, OkB L], eI .u32 (be4 L 0), []⟩
  | _, _ => none
theorem v53 : Valid Tryd.prog Gs 105 g53 := by
  intro args H r h hp
  unfold g53 at h
  split at h
  · simp only [Option.some.injEq] at h; subst h; exact ok53 _ hp
  · cases h
noncomputable def ct_53 : List (Nat × Ct) := (105, ⟨[], false, g53, none⟩) :: ct_54
theorem ctok_53 : CtsOk Tryd.prog Gs ct_53 := CtsOk.cons v53 (by kernel_rfl) ctok_54
noncomputable def an46 (h rest : List Int) (n : Int) : Nat → List Nat → List Ann := fun bk_ gs_ => match bk_, gs_ with
    | 0, _ => [{ τ := Nat, t0 := (default : Nat), J := fun t => t ≤ 64, m := fun t => 64 - t, l := fun t => [(0, .s (.a (.lp 100000 0))), (2, .s (.a (.lp 2 0))), (17, eI .i64 t)], H := fun t => [(100000, .cells (hC ⟨h, rest, n⟩) 180), (2, .cells [.ints .u32 64 (sch rest t)] 188)] }]
    | 2, _ => [{ τ := Nat, t0 := (default : Nat), J := fun t => t ≤ 64, m := fun t => 64 - t, l := fun t => [(0, .s (.a (.lp 100000 0))), (2, .s (.a (.lp 2 0))), (6, .s (.a (.lp 6 0))), (73, eI .i64 t)], H := fun t => [(100000, .cells (hC ⟨h, rest, n⟩) 180), (2, .cells [.ints .u32 64 (sch rest 64)] 188), (6, .cells [.ints .u32 8 (rnds shaK (sch rest 64) h t)] 177)] }]
    | 4, _ => [{ τ := Nat, t0 := (default : Nat), J := fun t => t ≤ 8, m := fun t => 8 - t, l := fun t => [(0, .s (.a (.lp 100000 0))), (6, .s (.a (.lp 6 0))), (151, eI .i64 t)], H := fun t => [(100000, .cells [.ints .u32 8 (addv h (rnds shaK (sch rest 64) h 64) t), .ints .u8 64 rest, .one (.d (.v (.int .u64 n)))] 180), (6, .cells [.ints .u32 8 (rnds shaK (sch rest 64) h 64)] 177)] }]
    | _, _ => []
theorem ok46 (h rest : List Int) (n : Int) (hp : allP [h.length = 8, rest.length = 64, OkB rest]) : CallsOk Tryd.prog Gs 98 [.a (.lp 100000 0)] [(100000, .cells (hC ⟨h, rest, n⟩) 180)] (.t []) [(100000, .cells [.ints .u32 8 (comp shaK h rest), .ints .u8 64 rest, .one (.d (.v (.int .u64 n)))] 180)] :=
  ok_of (ann := an46 h rest n) ctok_53 mixed Tryd.func98 (by kernel_rfl) (of_nf (p := let l5 := (rnds shaK (sch rest (64 : Nat)) h (64 : Nat)); (∃ (t : Nat), (0 : Int) = (↑t : Int) ∧ h = h ∧ rest = rest ∧ n = n ∧ List.replicate (64 : Nat) (0 : Int) = sch rest t ∧ t ≤ (64 : Nat) ∧ True) ∧ ∀ (t : Nat), let l16 := ((↑t : Int) - (16 : Int)); let l15 := ((↑t : Int) - (15 : Int)); let l12 := ((0 : Int) ≤ (↑t : Int) ∧ (↑t : Int) < (↑(64 : Nat) : Int)); let l11 := ((4 : Int) * (↑t : Int)); let l14 := (some (IntKind.i64, IntKind.wrap IntKind.i64 l11)); let l7 := (List.getD (sch rest t) (Int.toNat (IntKind.wrap IntKind.i64 ((↑t : Int) - (2 : Int)))) (0 : Int)); let l6 := (List.getD (sch rest t) (Int.toNat (IntKind.wrap IntKind.i64 l15)) (0 : Int)); let l2 := (List.take (lenN (64 : Nat) l14 none) (List.drop (startN (0 : Nat) l14) rest)); t ≤ (64 : Nat) → brP (decide ((↑t : Int) < (64 : Int))) (brP (decide ((↑t : Int) < (16 : Int))) (((0 : Int) ≤ IntKind.wrap IntKind.i64 l11 ∧ IntKind.wrap IntKind.i64 l11 ≤ (↑(64 : Nat) : Int)) ∧ (0 : Nat) + Int.toNat (IntKind.wrap IntKind.i64 l11) < (64 : Nat) ∧ (4 : Nat) ≤ List.length l2 ∧ OkB l2 ∧ l12 ∧ ∃ (t_1 : Nat), IntKind.wrap IntKind.i64 ((↑t : Int) + (1 : Int)) = (↑t_1 : Int) ∧ h = h ∧ rest = rest ∧ n = n ∧ List.set (sch rest t) (Int.toNat (↑t : Int)) (be4 l2 (0 : Nat)) = sch rest t_1 ∧ t_1 ≤ (64 : Nat) ∧ (64 : Nat) - t_1 < (64 : Nat) - t ∧ True) (((0 : Int) ≤ IntKind.wrap IntKind.i64 l15 ∧ IntKind.wrap IntKind.i64 l15 < (↑(64 : Nat) : Int)) ∧ ((0 : Int) ≤ IntKind.wrap IntKind.i64 ((↑t : Int) - (2 : Int)) ∧ IntKind.wrap IntKind.i64 ((↑t : Int) - (2 : Int)) < (↑(64 : Nat) : Int)) ∧ ((0 : Int) ≤ IntKind.wrap IntKind.i64 l16 ∧ IntKind.wrap IntKind.i64 l16 < (↑(64 : Nat) : Int)) ∧ (0 : Int) ≤ (3 : Int) ∧ ((0 : Int) ≤ IntKind.wrap IntKind.i64 ((↑t : Int) - (7 : Int)) ∧ IntKind.wrap IntKind.i64 ((↑t : Int) - (7 : Int)) < (↑(64 : Nat) : Int)) ∧ (0 : Int) ≤ (10 : Int) ∧ l12 ∧ ∃ (t_1 : Nat), IntKind.wrap IntKind.i64 ((↑t : Int) + (1 : Int)) = (↑t_1 : Int) ∧ h = h ∧ rest = rest ∧ n = n ∧ List.set (sch rest t) (Int.toNat (↑t : Int)) (IntKind.wrap IntKind.u32 (IntKind.wrap IntKind.u32 (IntKind.wrap IntKind.u32 (List.getD (sch rest t) (Int.toNat (IntKind.wrap IntKind.i64 l16)) (0 : Int) + bXor IntKind.u32 (bXor IntKind.u32 (rotl l6 (IntKind.wrap IntKind.i64 (-7 : Int))) (rotl l6 (IntKind.wrap IntKind.i64 (-18 : Int)))) (Int.fdiv l6 ((2 : Int) ^ min (Int.toNat (3 : Int)) (IntKind.bits IntKind.u32)))) + List.getD (sch rest t) (Int.toNat (IntKind.wrap IntKind.i64 ((↑t : Int) - (7 : Int)))) (0 : Int)) + bXor IntKind.u32 (bXor IntKind.u32 (rotl l7 (IntKind.wrap IntKind.i64 (-17 : Int))) (rotl l7 (IntKind.wrap IntKind.i64 (-19 : Int)))) (Int.fdiv l7 ((2 : Int) ^ min (Int.toNat (10 : Int)) (IntKind.bits IntKind.u32))))) = sch rest t_1 ∧ t_1 ≤ (64 : Nat) ∧ (64 : Nat) - t_1 < (64 : Nat) - t ∧ True)) ((∃ (t_1 : Nat), (0 : Int) = (↑t_1 : Int) ∧ h = h ∧ rest = rest ∧ n = n ∧ sch rest t = sch rest (64 : Nat) ∧ h = rnds shaK (sch rest (64 : Nat)) h t_1 ∧ t_1 ≤ (64 : Nat) ∧ True) ∧ ∀ (t : Nat), let l13 := ((0 : Int) ≤ (↑t : Int) ∧ (↑t : Int) < (↑(64 : Nat) : Int)); let l1 := (rnds shaK (sch rest (64 : Nat)) h t); let l10 := (List.getD l1 (Int.toNat (2 : Int)) (0 : Int)); let l9 := (List.getD l1 (Int.toNat (1 : Int)) (0 : Int)); let l4 := (List.getD l1 (Int.toNat (0 : Int)) (0 : Int)); let l3 := (List.getD l1 (Int.toNat (4 : Int)) (0 : Int)); let l0 := (IntKind.wrap IntKind.u32 (IntKind.wrap IntKind.u32 (IntKind.wrap IntKind.u32 (List.getD l1 (Int.toNat (7 : Int)) (0 : Int) + bXor IntKind.u32 (bXor IntKind.u32 (rotl l3 (IntKind.wrap IntKind.i64 (-6 : Int))) (rotl l3 (IntKind.wrap IntKind.i64 (-11 : Int)))) (rotl l3 (IntKind.wrap IntKind.i64 (-25 : Int)))) + bXor IntKind.u32 (bAnd IntKind.u32 l3 (List.getD l1 (Int.toNat (5 : Int)) (0 : Int))) (bAnd IntKind.u32 (bXor IntKind.u32 (if IntKind.signed IntKind.u32 = true then (-1 : Int) else IntKind.max IntKind.u32) l3) (List.getD l1 (Int.toNat (6 : Int)) (0 : Int)))) + List.getD shaK (Int.toNat (↑t : Int)) (0 : Int)) + List.getD (sch rest (64 : Nat)) (Int.toNat (↑t : Int)) (0 : Int)); t ≤ (64 : Nat) → brP (decide ((↑t : Int) < (64 : Int))) (((0 : Int) ≤ (0 : Int) ∧ (0 : Int) < (↑(8 : Nat) : Int)) ∧ ((0 : Int) ≤ (1 : Int) ∧ (1 : Int) < (↑(8 : Nat) : Int)) ∧ ((0 : Int) ≤ (2 : Int) ∧ (2 : Int) < (↑(8 : Nat) : Int)) ∧ ((0 : Int) ≤ (4 : Int) ∧ (4 : Int) < (↑(8 : Nat) : Int)) ∧ ((0 : Int) ≤ (5 : Int) ∧ (5 : Int) < (↑(8 : Nat) : Int)) ∧ ((0 : Int) ≤ (6 : Int) ∧ (6 : Int) < (↑(8 : Nat) : Int)) ∧ ((0 : Int) ≤ (7 : Int) ∧ (7 : Int) < (↑(8 : Nat) : Int)) ∧ l13 ∧ l13 ∧ ((0 : Int) ≤ (3 : Int) ∧ (3 : Int) < (↑(8 : Nat) : Int)) ∧ ∃ (t_1 : Nat), IntKind.wrap IntKind.i64 ((↑t : Int) + (1 : Int)) = (↑t_1 : Int) ∧ h = h ∧ rest = rest ∧ n = n ∧ sch rest (64 : Nat) = sch rest (64 : Nat) ∧ List.set (List.set (List.set (List.set (List.set (List.set (List.set (List.set (List.replicate (8 : Nat) (0 : Int)) ((0 : Nat) * (1 : Nat)) (IntKind.wrap IntKind.u32 (IntKind.wrap IntKind.u32 l0 + IntKind.wrap IntKind.u32 (bXor IntKind.u32 (bXor IntKind.u32 (rotl l4 (IntKind.wrap IntKind.i64 (-2 : Int))) (rotl l4 (IntKind.wrap IntKind.i64 (-13 : Int)))) (rotl l4 (IntKind.wrap IntKind.i64 (-22 : Int))) + bXor IntKind.u32 (bXor IntKind.u32 (bAnd IntKind.u32 l4 l9) (bAnd IntKind.u32 l4 l10)) (bAnd IntKind.u32 l9 l10))))) ((1 : Nat) * (1 : Nat)) l4) ((2 : Nat) * (1 : Nat)) l9) ((3 : Nat) * (1 : Nat)) l10) ((4 : Nat) * (1 : Nat)) (IntKind.wrap IntKind.u32 (List.getD l1 (Int.toNat (3 : Int)) (0 : Int) + IntKind.wrap IntKind.u32 l0))) ((5 : Nat) * (1 : Nat)) l3) ((6 : Nat) * (1 : Nat)) (List.getD l1 (Int.toNat (5 : Int)) (0 : Int))) ((7 : Nat) * (1 : Nat)) (List.getD l1 (Int.toNat (6 : Int)) (0 : Int)) = rnds shaK (sch rest (64 : Nat)) h t_1 ∧ t_1 ≤ (64 : Nat) ∧ (64 : Nat) - t_1 < (64 : Nat) - t ∧ True) ((∃ (t_1 : Nat), (0 : Int) = (↑t_1 : Int) ∧ h = addv h l5 t_1 ∧ rest = rest ∧ n = n ∧ rnds shaK (sch rest (64 : Nat)) h t = rnds shaK (sch rest (64 : Nat)) h (64 : Nat) ∧ t_1 ≤ (8 : Nat) ∧ True) ∧ ∀ (t : Nat), let l8 := ((0 : Int) ≤ (↑t : Int) ∧ (↑t : Int) < (↑(8 : Nat) : Int)); t ≤ (8 : Nat) → brP (decide ((↑t : Int) < (8 : Int))) (l8 ∧ l8 ∧ l8 ∧ ∃ (t_1 : Nat), IntKind.wrap IntKind.i64 ((↑t : Int) + (1 : Int)) = (↑t_1 : Int) ∧ List.set (addv h l5 t) (Int.toNat (↑t : Int)) (IntKind.wrap IntKind.u32 (List.getD (addv h l5 t) (Int.toNat (↑t : Int)) (0 : Int) + List.getD l5 (Int.toNat (↑t : Int)) (0 : Int))) = addv h l5 t_1 ∧ rest = rest ∧ n = n ∧ rnds shaK (sch rest (64 : Nat)) h (64 : Nat) = rnds shaK (sch rest (64 : Nat)) h (64 : Nat) ∧ t_1 ≤ (8 : Nat) ∧ (8 : Nat) - t_1 < (8 : Nat) - t ∧ True) (addv h l5 t = comp shaK h rest ∧ rest = rest ∧ n = n ∧ True)))) (by kernel_rfl) (by
    conv => zeta
    obtain ⟨h8, h64, hb, _⟩ := hp
    refine ⟨⟨0, rfl, rfl, rfl, rfl, rfl, by omega, trivial⟩, fun t ht => brI (fun hc => ?_) (fun hc => ?_)⟩
    · have hc : t < 64 := by have := of_decide_eq_true hc; omega
      refine brI (fun hd => ?_) (fun hd => ?_)
      · have hd : t < 16 := by have := of_decide_eq_true hd; omega
        have e1 : IntKind.wrap .i64 (4 * (t : Int)) = ((4 * t : Nat) : Int) := by rw [wi _ (by omega) (by omega)]; omega
        rw [e1]
        have e2 : List.take (lenN 64 (some (IntKind.i64, ((4 * t : Nat) : Int))) none) (List.drop (startN 0 (some (IntKind.i64, ((4 * t : Nat) : Int)))) rest) = (rest.drop (4 * t)).take (64 - 4 * t) := by
          simp only [lenN, startN, Int.toNat_natCast, Nat.zero_add]
        rw [e2]
        refine ⟨by omega, by omega, by simp; omega, fun x hx => hb x (List.mem_of_mem_drop (List.mem_of_mem_take hx)), by omega, t + 1, by rw [wi _ (by omega) (by omega)]; rfl, rfl, rfl, rfl, ?_, by omega, by omega, trivial⟩
        rw [be4_cut h64 hd, Int.toNat_natCast, sch, if_pos hd]
      · have hd : ¬ t < 16 := by have := of_decide_eq_false hd; omega
        have e : ∀ k : Nat, k ≤ 16 → IntKind.wrap .i64 ((t : Int) - (k : Int)) = ((t - k : Nat) : Int) := fun k hk => by rw [wi _ (by omega) (by omega)]; omega
        have e15 : IntKind.wrap .i64 ((t : Int) - 15) = ((t - 15 : Nat) : Int) := e 15 (by omega)
        have e2 : IntKind.wrap .i64 ((t : Int) - 2) = ((t - 2 : Nat) : Int) := e 2 (by omega)
        have e16 : IntKind.wrap .i64 ((t : Int) - 16) = ((t - 16 : Nat) : Int) := e 16 (by omega)
        have e7 : IntKind.wrap .i64 ((t : Int) - 7) = ((t - 7 : Nat) : Int) := e 7 (by omega)
        rw [e15, e2, e16, e7]
        refine ⟨by omega, by omega, by omega, by omega, by omega, by omega, by omega, t + 1, by rw [wi _ (by omega) (by omega)]; rfl, rfl, rfl, rfl, ?_, by omega, by omega, trivial⟩
        simp only [rot7, rot18, rot17, rot19, Int.toNat_natCast]
        rw [sch, if_neg hd]
        rfl
    · have hc : ¬ (t : Int) < 64 := of_decide_eq_false hc
      obtain rfl : t = 64 := by omega
      refine ⟨⟨0, rfl, rfl, rfl, rfl, rfl, rfl, by omega, trivial⟩, fun t ht => brI (fun hc => ?_) (fun hc => ?_)⟩
      · have hc : t < 64 := by have := of_decide_eq_true hc; omega
        refine ⟨by omega, by omega, by omega, by omega, by omega, by omega, by omega, by omega, by omega, by omega, t + 1, by rw [wi _ (by omega) (by omega)]; rfl, rfl, rfl, rfl, rfl, ?_, by omega, by omega, trivial⟩
        simp only [rot6, rot11, rot25, rot2, rot13, rot22]
        rfl
      · have hc : ¬ (t : Int) < 64 := of_decide_eq_false hc
        obtain rfl : t = 64 := by omega
        refine ⟨⟨0, rfl, rfl, rfl, rfl, rfl, by omega, trivial⟩, fun t ht => brI (fun hc => ?_) (fun hc => ?_)⟩
        · have hc : t < 8 := by have := of_decide_eq_true hc; omega
          refine ⟨by omega, by omega, by omega, t + 1, by rw [wi _ (by omega) (by omega)]; rfl, ?_, rfl, rfl, rfl, by omega, by omega, trivial⟩
          rw [Int.toNat_natCast]
          rfl
        · have hc : ¬ (t : Int) < 8 := of_decide_eq_false hc
          obtain rfl : t = 8 := by omega
          exact ⟨rfl, rfl, rfl, trivial⟩))
noncomputable def g46 : Con := fun args H => match args, H with
  | [.a (.lp 100000 0)], [(100000, .cells [.ints .u32 8 h, .ints .u8 64 rest, .one (.d (.v (.int .u64 n)))] 180)] => some ⟨[h.length = 8, rest.length = 64, OkB rest], .t [], [(100000, .cells [.ints .u32 8 (comp shaK h rest), .ints .u8 64 rest, .one (.d (.v (.int .u64 n)))] 180)]⟩
  | _, _ => none
theorem v46 : Valid Tryd.prog Gs 98 g46 := by
  intro args H r h hp
  unfold g46 at h
  split at h
  · simp only [Option.some.injEq] at h; subst h; exact ok46 _ _ _ hp
  · cases h
noncomputable def ct_46 : List (Nat × Ct) := (98, ⟨[true], false, g46, none⟩) :: ct_53
theorem ctok_46 : CtsOk Tryd.prog Gs ct_46 := CtsOk.cons v46 (by kernel_rfl) ctok_53
end Go.Proofs.YtlgffgnkkihaoaaDoor
