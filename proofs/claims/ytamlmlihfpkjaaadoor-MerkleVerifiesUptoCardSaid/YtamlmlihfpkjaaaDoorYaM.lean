/- The Merkle texts, by both. -/
import Derived.Test.YtamlmlihfpkjaaaDoorYaE
namespace Go.Proofs.YtamlmlihfpkjaaaDoor
open Go.Dx Go.RowKit
set_option linter.unusedVariables false
set_option linter.unusedSimpArgs false
set_option maxRecDepth 100000
theorem joinB_bulk (Ls : List (List Int)) : (joinB Ls).length = 8 + 8 * Ls.length + Ls.flatten.length := by
  have : ∀ Ls : List (List Int), (jn Ls).length = 8 * Ls.length + Ls.flatten.length := fun Ls => by
    induction Ls with
    | nil => rfl
    | cons L r ih => simp only [jn, List.length_append, be8_len, ih, List.flatten_cons, List.length_cons]; omega
  rw [joinB_len, this]; omega
theorem all32 {a : List Int} (h : a.length = 32) : List.take (lenN 32 none none) (List.drop (startN 0 none) a) = a := by
  show (a.drop 0).take 32 = a
  rw [List.drop_zero, List.take_of_length_le (by omega)]
def leafB (L : List Int) : List Int := joinB [[108, 101, 97, 102], L]
def nodeB (a b : List Int) : List Int := joinB [[110, 111, 100, 101], a, b]
def listB (n : Int) (d : List Int) : List Int := joinB [[108, 105, 115, 116], be8 n, d]
def noneB : List Int := joinB [[110, 111, 110, 101]]
noncomputable def anmerkleleaf (L : List Int) : Nat → List Nat → Option Ann := fun _ _ => none
theorem okmerkleleaf (L : List Int) (hp : allP [L.length + 200 ≤ lim]) : CallsOk Tryd.prog Gs 43 [.a (.d (.si .u8 L))] [] (.s (.a (.rw 0))) [(0, .row (.ints .u8 (leafB L)) 5)] :=
  ok_of (ann := anmerkleleaf L) ctok_19 mixed Tryd.func43 (by kernel_rfl) (of_nf (p := (0 : Nat) < List.length (List.set (List.set (List.set (List.set (List.replicate ((3 : Nat) + (1 : Nat)) (0 : Int)) ((0 : Nat) * (1 : Nat)) (108 : Int)) ((1 : Nat) * (1 : Nat)) (101 : Int)) ((2 : Nat) * (1 : Nat)) (97 : Int)) ((3 : Nat) * (1 : Nat)) (102 : Int)) ∧ List.length (joinB [List.set (List.set (List.set (List.set (List.replicate ((3 : Nat) + (1 : Nat)) (0 : Int)) ((0 : Nat) * (1 : Nat)) (108 : Int)) ((1 : Nat) * (1 : Nat)) (101 : Int)) ((2 : Nat) * (1 : Nat)) (97 : Int)) ((3 : Nat) * (1 : Nat)) (102 : Int), L]) + (100 : Nat) ≤ lim ∧ joinB [List.set (List.set (List.set (List.set (List.replicate ((3 : Nat) + (1 : Nat)) (0 : Int)) ((0 : Nat) * (1 : Nat)) (108 : Int)) ((1 : Nat) * (1 : Nat)) (101 : Int)) ((2 : Nat) * (1 : Nat)) (97 : Int)) ((3 : Nat) * (1 : Nat)) (102 : Int), L] = leafB L ∧ True) (by kernel_rfl) (by
    obtain ⟨h, _⟩ := hp
    have hlim : lim = 68719476736 := rfl
    refine ⟨by decide, ?_, rfl, trivial⟩
    show (joinB [[108, 101, 97, 102], L]).length + 100 ≤ lim
    rw [joinB_bulk]
    simp
    omega))
noncomputable def gmerkleleaf : Con := fun args H => match args, H with
  | [.a (.d (.si .u8 L))], [] => some ⟨[L.length + 200 ≤ lim], .s (.a (.rw 0)), [(0, .row (.ints .u8 (leafB L)) 5)]⟩
  | _, _ => none
theorem vmerkleleaf : Valid Tryd.prog Gs 43 gmerkleleaf := by
  intro args H r h hp
  unfold gmerkleleaf at h
  split at h
  · simp only [Option.some.injEq] at h; subst h; exact okmerkleleaf _ hp
  · cases h
noncomputable def ct_merkleleaf : List (Nat × Ct) := (43, ⟨[], false, gmerkleleaf⟩) :: ct_19
theorem ctok_merkleleaf : CtsOk Tryd.prog Gs ct_merkleleaf := CtsOk.cons vmerkleleaf (by kernel_rfl) ctok_19
noncomputable def anmerklenode (a b : List Int) : Nat → List Nat → Option Ann := fun _ _ => none
theorem okmerklenode (a b : List Int) (hp : allP [a.length = 32, b.length = 32]) : CallsOk Tryd.prog Gs 44 [.agg [.ints .u8 32 a], .agg [.ints .u8 32 b]] [] (.s (.a (.rw 0))) [(0, .row (.ints .u8 (nodeB a b)) 5)] :=
  ok_of (ann := anmerklenode a b) ctok_merkleleaf mixed Tryd.func44 (by kernel_rfl) (of_nf (p := (0 : Nat) < List.length (List.set (List.set (List.set (List.set (List.replicate ((3 : Nat) + (1 : Nat)) (0 : Int)) ((0 : Nat) * (1 : Nat)) (110 : Int)) ((1 : Nat) * (1 : Nat)) (111 : Int)) ((2 : Nat) * (1 : Nat)) (100 : Int)) ((3 : Nat) * (1 : Nat)) (101 : Int)) ∧ List.length (joinB [List.set (List.set (List.set (List.set (List.replicate ((3 : Nat) + (1 : Nat)) (0 : Int)) ((0 : Nat) * (1 : Nat)) (110 : Int)) ((1 : Nat) * (1 : Nat)) (111 : Int)) ((2 : Nat) * (1 : Nat)) (100 : Int)) ((3 : Nat) * (1 : Nat)) (101 : Int), List.take (lenN (32 : Nat) none none) (List.drop (startN (0 : Nat) none) a), List.take (lenN (32 : Nat) none none) (List.drop (startN (0 : Nat) none) b)]) + (100 : Nat) ≤ lim ∧ joinB [List.set (List.set (List.set (List.set (List.replicate ((3 : Nat) + (1 : Nat)) (0 : Int)) ((0 : Nat) * (1 : Nat)) (110 : Int)) ((1 : Nat) * (1 : Nat)) (111 : Int)) ((2 : Nat) * (1 : Nat)) (100 : Int)) ((3 : Nat) * (1 : Nat)) (101 : Int), List.take (lenN (32 : Nat) none none) (List.drop (startN (0 : Nat) none) a), List.take (lenN (32 : Nat) none none) (List.drop (startN (0 : Nat) none) b)] = nodeB a b ∧ True) (by kernel_rfl) (by
    obtain ⟨ha, hb, _⟩ := hp
    have hlim : lim = 68719476736 := rfl
    rw [all32 ha, all32 hb]
    refine ⟨by decide, ?_, rfl, trivial⟩
    show (joinB [[110, 111, 100, 101], a, b]).length + 100 ≤ lim
    rw [joinB_bulk]
    simp
    omega))
noncomputable def gmerklenode : Con := fun args H => match args, H with
  | [.agg [.ints .u8 32 a], .agg [.ints .u8 32 b]], [] => some ⟨[a.length = 32, b.length = 32], .s (.a (.rw 0)), [(0, .row (.ints .u8 (nodeB a b)) 5)]⟩
  | _, _ => none
theorem vmerklenode : Valid Tryd.prog Gs 44 gmerklenode := by
  intro args H r h hp
  unfold gmerklenode at h
  split at h
  · simp only [Option.some.injEq] at h; subst h; exact okmerklenode _ _ hp
  · cases h
noncomputable def ct_merklenode : List (Nat × Ct) := (44, ⟨[], false, gmerklenode⟩) :: ct_merkleleaf
theorem ctok_merklenode : CtsOk Tryd.prog Gs ct_merklenode := CtsOk.cons vmerklenode (by kernel_rfl) ctok_merkleleaf
noncomputable def anmerklelist (n : Int) (d : List Int) : Nat → List Nat → Option Ann := fun _ _ => none
theorem okmerklelist (n : Int) (d : List Int) (hp : allP [0 ≤ n, n < 9223372036854775808, d.length = 32]) : CallsOk Tryd.prog Gs 26 [.a (.d (.v (.int .i64 n))), .agg [.ints .u8 32 d]] [] (.s (.a (.rw 0))) [(0, .row (.ints .u8 (listB n d)) 5)] :=
  ok_of (ann := anmerklelist n d) ctok_merklenode mixed Tryd.func26 (by kernel_rfl) (of_nf (p := (0 : Nat) < List.length (List.set (List.set (List.set (List.set (List.replicate ((3 : Nat) + (1 : Nat)) (0 : Int)) ((0 : Nat) * (1 : Nat)) (108 : Int)) ((1 : Nat) * (1 : Nat)) (105 : Int)) ((2 : Nat) * (1 : Nat)) (115 : Int)) ((3 : Nat) * (1 : Nat)) (116 : Int)) ∧ List.length (joinB [List.set (List.set (List.set (List.set (List.replicate ((3 : Nat) + (1 : Nat)) (0 : Int)) ((0 : Nat) * (1 : Nat)) (108 : Int)) ((1 : Nat) * (1 : Nat)) (105 : Int)) ((2 : Nat) * (1 : Nat)) (115 : Int)) ((3 : Nat) * (1 : Nat)) (116 : Int), be8 (IntKind.wrap IntKind.u64 n), List.take (lenN (32 : Nat) none none) (List.drop (startN (0 : Nat) none) d)]) + (100 : Nat) ≤ lim ∧ joinB [List.set (List.set (List.set (List.set (List.replicate ((3 : Nat) + (1 : Nat)) (0 : Int)) ((0 : Nat) * (1 : Nat)) (108 : Int)) ((1 : Nat) * (1 : Nat)) (105 : Int)) ((2 : Nat) * (1 : Nat)) (115 : Int)) ((3 : Nat) * (1 : Nat)) (116 : Int), be8 (IntKind.wrap IntKind.u64 n), List.take (lenN (32 : Nat) none none) (List.drop (startN (0 : Nat) none) d)] = listB n d ∧ True) (by kernel_rfl) (by
    obtain ⟨h0, h1, hd, _⟩ := hp
    have hlim : lim = 68719476736 := rfl
    rw [all32 hd, wu n h0 (by omega)]
    refine ⟨by decide, ?_, rfl, trivial⟩
    show (joinB [[108, 105, 115, 116], be8 n, d]).length + 100 ≤ lim
    rw [joinB_bulk]
    simp [be8_len]
    omega))
noncomputable def gmerklelist : Con := fun args H => match args, H with
  | [.a (.d (.v (.int .i64 n))), .agg [.ints .u8 32 d]], [] => some ⟨[0 ≤ n, n < 9223372036854775808, d.length = 32], .s (.a (.rw 0)), [(0, .row (.ints .u8 (listB n d)) 5)]⟩
  | _, _ => none
theorem vmerklelist : Valid Tryd.prog Gs 26 gmerklelist := by
  intro args H r h hp
  unfold gmerklelist at h
  split at h
  · simp only [Option.some.injEq] at h; subst h; exact okmerklelist _ _ hp
  · cases h
noncomputable def ct_merklelist : List (Nat × Ct) := (26, ⟨[], false, gmerklelist⟩) :: ct_merklenode
theorem ctok_merklelist : CtsOk Tryd.prog Gs ct_merklelist := CtsOk.cons vmerklelist (by kernel_rfl) ctok_merklenode
noncomputable def anR03Leaf (L : List Int) : Nat → List Nat → Option Ann := fun _ _ => none
theorem okR03Leaf (L : List Int) (hp : allP [L.length + 200 ≤ lim]) : CallsOk Tryd.prog Gs 36 [.a (.d (.si .u8 L))] [] (.s (.a (.rw 0))) [(0, .row (.ints .u8 (leafB L)) 5)] :=
  ok_of (ann := anR03Leaf L) ctok_merklelist mixed Tryd.func36 (by kernel_rfl) (of_nf (p := (0 : Nat) < List.length (List.set (List.set (List.set (List.set (List.replicate ((3 : Nat) + (1 : Nat)) (0 : Int)) ((0 : Nat) * (1 : Nat)) (108 : Int)) ((1 : Nat) * (1 : Nat)) (101 : Int)) ((2 : Nat) * (1 : Nat)) (97 : Int)) ((3 : Nat) * (1 : Nat)) (102 : Int)) ∧ List.length (joinB [List.set (List.set (List.set (List.set (List.replicate ((3 : Nat) + (1 : Nat)) (0 : Int)) ((0 : Nat) * (1 : Nat)) (108 : Int)) ((1 : Nat) * (1 : Nat)) (101 : Int)) ((2 : Nat) * (1 : Nat)) (97 : Int)) ((3 : Nat) * (1 : Nat)) (102 : Int), L]) + (100 : Nat) ≤ lim ∧ joinB [List.set (List.set (List.set (List.set (List.replicate ((3 : Nat) + (1 : Nat)) (0 : Int)) ((0 : Nat) * (1 : Nat)) (108 : Int)) ((1 : Nat) * (1 : Nat)) (101 : Int)) ((2 : Nat) * (1 : Nat)) (97 : Int)) ((3 : Nat) * (1 : Nat)) (102 : Int), L] = leafB L ∧ True) (by kernel_rfl) (by
    obtain ⟨h, _⟩ := hp
    have hlim : lim = 68719476736 := rfl
    refine ⟨by decide, ?_, rfl, trivial⟩
    show (joinB [[108, 101, 97, 102], L]).length + 100 ≤ lim
    rw [joinB_bulk]
    simp
    omega))
noncomputable def gR03Leaf : Con := fun args H => match args, H with
  | [.a (.d (.si .u8 L))], [] => some ⟨[L.length + 200 ≤ lim], .s (.a (.rw 0)), [(0, .row (.ints .u8 (leafB L)) 5)]⟩
  | _, _ => none
theorem vR03Leaf : Valid Tryd.prog Gs 36 gR03Leaf := by
  intro args H r h hp
  unfold gR03Leaf at h
  split at h
  · simp only [Option.some.injEq] at h; subst h; exact okR03Leaf _ hp
  · cases h
noncomputable def ct_R03Leaf : List (Nat × Ct) := (36, ⟨[], false, gR03Leaf⟩) :: ct_merklelist
theorem ctok_R03Leaf : CtsOk Tryd.prog Gs ct_R03Leaf := CtsOk.cons vR03Leaf (by kernel_rfl) ctok_merklelist
noncomputable def anR03Node (a b : List Int) : Nat → List Nat → Option Ann := fun _ _ => none
theorem okR03Node (a b : List Int) (hp : allP [a.length = 32, b.length = 32]) : CallsOk Tryd.prog Gs 37 [.agg [.ints .u8 32 a], .agg [.ints .u8 32 b]] [] (.s (.a (.rw 0))) [(0, .row (.ints .u8 (nodeB a b)) 5)] :=
  ok_of (ann := anR03Node a b) ctok_R03Leaf mixed Tryd.func37 (by kernel_rfl) (of_nf (p := (0 : Nat) < List.length (List.set (List.set (List.set (List.set (List.replicate ((3 : Nat) + (1 : Nat)) (0 : Int)) ((0 : Nat) * (1 : Nat)) (110 : Int)) ((1 : Nat) * (1 : Nat)) (111 : Int)) ((2 : Nat) * (1 : Nat)) (100 : Int)) ((3 : Nat) * (1 : Nat)) (101 : Int)) ∧ List.length (joinB [List.set (List.set (List.set (List.set (List.replicate ((3 : Nat) + (1 : Nat)) (0 : Int)) ((0 : Nat) * (1 : Nat)) (110 : Int)) ((1 : Nat) * (1 : Nat)) (111 : Int)) ((2 : Nat) * (1 : Nat)) (100 : Int)) ((3 : Nat) * (1 : Nat)) (101 : Int), List.take (lenN (32 : Nat) none none) (List.drop (startN (0 : Nat) none) a), List.take (lenN (32 : Nat) none none) (List.drop (startN (0 : Nat) none) b)]) + (100 : Nat) ≤ lim ∧ joinB [List.set (List.set (List.set (List.set (List.replicate ((3 : Nat) + (1 : Nat)) (0 : Int)) ((0 : Nat) * (1 : Nat)) (110 : Int)) ((1 : Nat) * (1 : Nat)) (111 : Int)) ((2 : Nat) * (1 : Nat)) (100 : Int)) ((3 : Nat) * (1 : Nat)) (101 : Int), List.take (lenN (32 : Nat) none none) (List.drop (startN (0 : Nat) none) a), List.take (lenN (32 : Nat) none none) (List.drop (startN (0 : Nat) none) b)] = nodeB a b ∧ True) (by kernel_rfl) (by
    obtain ⟨ha, hb, _⟩ := hp
    have hlim : lim = 68719476736 := rfl
    rw [all32 ha, all32 hb]
    refine ⟨by decide, ?_, rfl, trivial⟩
    show (joinB [[110, 111, 100, 101], a, b]).length + 100 ≤ lim
    rw [joinB_bulk]
    simp
    omega))
noncomputable def gR03Node : Con := fun args H => match args, H with
  | [.agg [.ints .u8 32 a], .agg [.ints .u8 32 b]], [] => some ⟨[a.length = 32, b.length = 32], .s (.a (.rw 0)), [(0, .row (.ints .u8 (nodeB a b)) 5)]⟩
  | _, _ => none
theorem vR03Node : Valid Tryd.prog Gs 37 gR03Node := by
  intro args H r h hp
  unfold gR03Node at h
  split at h
  · simp only [Option.some.injEq] at h; subst h; exact okR03Node _ _ hp
  · cases h
noncomputable def ct_R03Node : List (Nat × Ct) := (37, ⟨[], false, gR03Node⟩) :: ct_R03Leaf
theorem ctok_R03Node : CtsOk Tryd.prog Gs ct_R03Node := CtsOk.cons vR03Node (by kernel_rfl) ctok_R03Leaf
noncomputable def anR02Num (n : Int) : Nat → List Nat → Option Ann := fun bk_ gs_ => match bk_, gs_ with
    | 0, _ => some { τ := Nat, J := fun j => j ≤ 8, m := fun j => 8 - j, l := fun j => [(0, eI .u64 n), (3, .s (.a (.rw 3))), (4, eI .i64 j)], H := fun j => [(3, .row (.ints .u8 ((be8 n).take j)) 5)] }
    | _, _ => none
theorem okR02Num (n : Int) : CallsOk Tryd.prog Gs 35 [.a (.d (.v (.int .u64 n)))] [] (.s (.a (.rw 0))) [(0, .row (.ints .u8 (be8 n)) 5)] :=
  ok_of (ann := anR02Num n) ctok_R03Node mixed Tryd.func35 (by kernel_rfl) (of_nf (p := (∃ (t : Nat), n = n ∧ (0 : Int) = (↑t : Int) ∧ [] = List.take t (be8 n) ∧ t ≤ (8 : Nat) ∧ True) ∧ ∀ (t : Nat), t ≤ (8 : Nat) → brP (decide ((↑t : Int) < (8 : Int))) ((0 : Int) ≤ IntKind.wrap IntKind.i64 ((56 : Int) - IntKind.wrap IntKind.i64 ((8 : Int) * (↑t : Int))) ∧ Cont.len (Cont.ints IntKind.u8 (List.take t (be8 n))) + Cont.len (Cont.ints IntKind.u8 [IntKind.wrap IntKind.u8 (Int.fdiv n ((2 : Int) ^ min (Int.toNat (IntKind.wrap IntKind.i64 ((56 : Int) - IntKind.wrap IntKind.i64 ((8 : Int) * (↑t : Int))))) (IntKind.bits IntKind.u64)))]) ≤ lim ∧ ∃ (t' : Nat), n = n ∧ IntKind.wrap IntKind.i64 ((↑t : Int) + (1 : Int)) = (↑t' : Int) ∧ List.take t (be8 n) ++ [IntKind.wrap IntKind.u8 (Int.fdiv n ((2 : Int) ^ min (Int.toNat (IntKind.wrap IntKind.i64 ((56 : Int) - IntKind.wrap IntKind.i64 ((8 : Int) * (↑t : Int))))) (IntKind.bits IntKind.u64)))] = List.take t' (be8 n) ∧ t' ≤ (8 : Nat) ∧ (8 : Nat) - t' < (8 : Nat) - t ∧ True) (List.take t (be8 n) = be8 n ∧ True)) (by kernel_rfl) (by
    have l1 : (65 : Nat) ≤ lim := by unfold lim; omega
    refine ⟨⟨0, rfl, rfl, rfl, by omega, trivial⟩, fun t ht => brI (fun hc => ?_) (fun hc => ?_)⟩
    · have hc : t < 8 := by have := of_decide_eq_true hc; omega
      have hl : ((be8 n).take t).length ≤ 8 := by simp [be8]; omega
      have e0 : IntKind.wrap .i64 (56 - IntKind.wrap .i64 (8 * (t : Int))) = ((56 - 8 * t : Nat) : Int) := by rw [wi (8 * (t : Int)) (by omega) (by omega), wi _ (by omega) (by omega)]; omega
      rw [e0]
      refine ⟨by omega, (show ((be8 n).take t).length + 1 ≤ lim by omega), t + 1, rfl, by rw [wi _ (by omega) (by omega)]; rfl, ?_, by omega, by omega, trivial⟩
      have e : min (Int.toNat ((56 - 8 * t : Nat) : Int)) (IntKind.bits .u64) = 56 - 8 * t := by
        have : IntKind.bits .u64 = 64 := rfl
        rw [this]; omega
      rw [e]
      have : t = 0 ∨ t = 1 ∨ t = 2 ∨ t = 3 ∨ t = 4 ∨ t = 5 ∨ t = 6 ∨ t = 7 := by omega
      rcases this with rfl | rfl | rfl | rfl | rfl | rfl | rfl | rfl <;> first | rfl | (show _ ++ [IntKind.wrap .u8 (Int.fdiv n (2 ^ (0 : Nat)))] = _; rw [fdiv_one]; rfl)
    · have hc : ¬ (t : Int) < 8 := of_decide_eq_false hc
      obtain rfl : t = 8 := by omega
      exact ⟨rfl, trivial⟩))
noncomputable def gR02Num : Con := fun args H => match args, H with
  | [.a (.d (.v (.int .u64 n)))], [] => some ⟨[], .s (.a (.rw 0)), [(0, .row (.ints .u8 (be8 n)) 5)]⟩
  | _, _ => none
theorem vR02Num : Valid Tryd.prog Gs 35 gR02Num := by
  intro args H r h hp
  unfold gR02Num at h
  split at h
  · simp only [Option.some.injEq] at h; subst h; exact okR02Num _
  · cases h
noncomputable def ct_R02Num : List (Nat × Ct) := (35, ⟨[], false, gR02Num⟩) :: ct_R03Node
theorem ctok_R02Num : CtsOk Tryd.prog Gs ct_R02Num := CtsOk.cons vR02Num (by kernel_rfl) ctok_R03Node
noncomputable def anR03List (n : Int) (d : List Int) : Nat → List Nat → Option Ann := fun _ _ => none
theorem okR03List (n : Int) (d : List Int) (hp : allP [0 ≤ n, n < 9223372036854775808, d.length = 32]) : CallsOk Tryd.prog Gs 19 [.a (.d (.v (.int .i64 n))), .agg [.ints .u8 32 d]] [] (.s (.a (.rw 0))) [(0, .row (.ints .u8 (listB n d)) 5)] :=
  ok_of (ann := anR03List n d) ctok_R02Num mixed Tryd.func19 (by kernel_rfl) (of_nf (p := (0 : Nat) < List.length (List.set (List.set (List.set (List.set (List.replicate ((3 : Nat) + (1 : Nat)) (0 : Int)) ((0 : Nat) * (1 : Nat)) (108 : Int)) ((1 : Nat) * (1 : Nat)) (105 : Int)) ((2 : Nat) * (1 : Nat)) (115 : Int)) ((3 : Nat) * (1 : Nat)) (116 : Int)) ∧ List.length (joinB [List.set (List.set (List.set (List.set (List.replicate ((3 : Nat) + (1 : Nat)) (0 : Int)) ((0 : Nat) * (1 : Nat)) (108 : Int)) ((1 : Nat) * (1 : Nat)) (105 : Int)) ((2 : Nat) * (1 : Nat)) (115 : Int)) ((3 : Nat) * (1 : Nat)) (116 : Int), be8 (IntKind.wrap IntKind.u64 n), List.take (lenN (32 : Nat) none none) (List.drop (startN (0 : Nat) none) d)]) + (100 : Nat) ≤ lim ∧ joinB [List.set (List.set (List.set (List.set (List.replicate ((3 : Nat) + (1 : Nat)) (0 : Int)) ((0 : Nat) * (1 : Nat)) (108 : Int)) ((1 : Nat) * (1 : Nat)) (105 : Int)) ((2 : Nat) * (1 : Nat)) (115 : Int)) ((3 : Nat) * (1 : Nat)) (116 : Int), be8 (IntKind.wrap IntKind.u64 n), List.take (lenN (32 : Nat) none none) (List.drop (startN (0 : Nat) none) d)] = listB n d ∧ True) (by kernel_rfl) (by
    obtain ⟨h0, h1, hd, _⟩ := hp
    have hlim : lim = 68719476736 := rfl
    rw [all32 hd, wu n h0 (by omega)]
    refine ⟨by decide, ?_, rfl, trivial⟩
    show (joinB [[108, 105, 115, 116], be8 n, d]).length + 100 ≤ lim
    rw [joinB_bulk]
    simp [be8_len]
    omega))
noncomputable def gR03List : Con := fun args H => match args, H with
  | [.a (.d (.v (.int .i64 n))), .agg [.ints .u8 32 d]], [] => some ⟨[0 ≤ n, n < 9223372036854775808, d.length = 32], .s (.a (.rw 0)), [(0, .row (.ints .u8 (listB n d)) 5)]⟩
  | _, _ => none
theorem vR03List : Valid Tryd.prog Gs 19 gR03List := by
  intro args H r h hp
  unfold gR03List at h
  split at h
  · simp only [Option.some.injEq] at h; subst h; exact okR03List _ _ hp
  · cases h
noncomputable def ct_R03List : List (Nat × Ct) := (19, ⟨[], false, gR03List⟩) :: ct_R02Num
theorem ctok_R03List : CtsOk Tryd.prog Gs ct_R03List := CtsOk.cons vR03List (by kernel_rfl) ctok_R02Num
def bl (x : Nat) : Nat := if x = 0 then 0 else Nat.log2 x + 1
def lenTab : ByteArray := ⟨#[0, 1, 2, 2, 3, 3, 3, 3, 4, 4, 4, 4, 4, 4, 4, 4, 5, 5, 5, 5, 5, 5, 5, 5, 5, 5, 5, 5, 5, 5, 5, 5, 6, 6, 6, 6, 6, 6, 6, 6, 6, 6, 6, 6, 6, 6, 6, 6, 6, 6, 6, 6, 6, 6, 6, 6, 6, 6, 6, 6, 6, 6, 6, 6, 7, 7, 7, 7, 7, 7, 7, 7, 7, 7, 7, 7, 7, 7, 7, 7, 7, 7, 7, 7, 7, 7, 7, 7, 7, 7, 7, 7, 7, 7, 7, 7, 7, 7, 7, 7, 7, 7, 7, 7, 7, 7, 7, 7, 7, 7, 7, 7, 7, 7, 7, 7, 7, 7, 7, 7, 7, 7, 7, 7, 7, 7, 7, 7, 8, 8, 8, 8, 8, 8, 8, 8, 8, 8, 8, 8, 8, 8, 8, 8, 8, 8, 8, 8, 8, 8, 8, 8, 8, 8, 8, 8, 8, 8, 8, 8, 8, 8, 8, 8, 8, 8, 8, 8, 8, 8, 8, 8, 8, 8, 8, 8, 8, 8, 8, 8, 8, 8, 8, 8, 8, 8, 8, 8, 8, 8, 8, 8, 8, 8, 8, 8, 8, 8, 8, 8, 8, 8, 8, 8, 8, 8, 8, 8, 8, 8, 8, 8, 8, 8, 8, 8, 8, 8, 8, 8, 8, 8, 8, 8, 8, 8, 8, 8, 8, 8, 8, 8, 8, 8, 8, 8, 8, 8, 8, 8, 8, 8, 8, 8, 8, 8, 8, 8, 8, 8, 8, 8, 8, 8, 8, 8]⟩
theorem tab8 : ∀ i : Fin 256, (strL lenTab).getD i.1 0 = (bl i.1 : Int) := by decide +kernel
def halfN (n : Nat) : Nat := 2 ^ (Nat.log2 (n - 1))
theorem bl_shift {x k : Nat} (h : 2 ^ k ≤ x) : bl x = k + bl (x / 2 ^ k) := by
  have hp : 0 < 2 ^ k := Nat.pow_pos (by decide)
  have hx : x ≠ 0 := by omega
  have hy : x / 2 ^ k ≠ 0 := by
    have := Nat.div_pos h hp
    omega
  unfold bl
  rw [if_neg hx, if_neg hy]
  obtain ⟨h1, h2⟩ := (Nat.log2_eq_iff hy (k := Nat.log2 (x / 2 ^ k))).1 rfl
  have : Nat.log2 x = Nat.log2 (x / 2 ^ k) + k := by
    refine (Nat.log2_eq_iff hx).2 ⟨?_, ?_⟩
    · rw [Nat.pow_add]
      exact (Nat.le_div_iff_mul_le hp).1 h1
    · rw [show Nat.log2 (x / 2 ^ k) + k + 1 = (Nat.log2 (x / 2 ^ k) + 1) + k by omega, Nat.pow_add]
      exact (Nat.div_lt_iff_lt_mul hp).1 h2
  omega
theorem bl_le {x : Nat} (h : x < 18446744073709551616) : bl x ≤ 64 := by
  unfold bl
  split
  · omega
  · rename_i hx
    have := (Nat.log2_lt hx).2 (show x < 2 ^ 64 from h)
    omega
theorem len_leaf {x y k : Nat} (a : Int) (hx : bl x = k + bl y) (hy : y < 256) (hk : k ≤ 64) (ha : a = k) : ((0 : Int) ≤ IntKind.wrap .u8 (y : Int) ∧ IntKind.wrap .u8 (y : Int) < ((ByteArray.size lenTab : Nat) : Int)) ∧ IntKind.wrap .i64 (a + IntKind.wrap .i64 ((strL lenTab).getD (Int.toNat (IntKind.wrap .u8 (y : Int))) 0)) = (bl x : Int) ∧ True := by
  have e1 : IntKind.wrap .u8 (y : Int) = (y : Int) := by rw [IntKind.wrap_u8]; omega
  have e2 := tab8 ⟨y, hy⟩
  have e3 : ByteArray.size lenTab = 256 := rfl
  have e4 := bl_le (x := y) (by omega)
  simp only at e2
  rw [e1, Int.toNat_natCast, e2, e3, wi (bl y : Int) (by omega) (by omega), ha, wi _ (by omega) (by omega)]
  exact ⟨by omega, by omega, trivial⟩
theorem halfN_spec {n : Nat} (h : 2 ≤ n) : halfN n < n ∧ n ≤ 2 * halfN n := by
  unfold halfN
  obtain ⟨h1, h2⟩ := (Nat.log2_eq_iff (show n - 1 ≠ 0 by omega) (k := Nat.log2 (n - 1))).1 rfl
  rw [Nat.pow_succ] at h2
  omega
noncomputable def anbitsLen64 (x : Int) : Nat → List Nat → Option Ann := fun _ _ => none
theorem okbitsLen64 (x : Int) (hp : allP [0 ≤ x, x < 18446744073709551616]) : CallsOk Tryd.prog Gs 50 [.a (.d (.v (.int .u64 x)))] [] (eI .i64 (bl x.toNat)) [] :=
  ok_of (ann := anbitsLen64 x) ctok_R03List mixed Tryd.func50 (by kernel_rfl) (of_nf (p := brP (decide (x ≥ (4294967296 : Int))) ((0 : Int) ≤ (32 : Int) ∧ brP (decide (Int.fdiv x ((2 : Int) ^ min (Int.toNat (32 : Int)) (IntKind.bits IntKind.u64)) ≥ (65536 : Int))) ((0 : Int) ≤ (16 : Int) ∧ brP (decide (Int.fdiv (Int.fdiv x ((2 : Int) ^ min (Int.toNat (32 : Int)) (IntKind.bits IntKind.u64))) ((2 : Int) ^ min (Int.toNat (16 : Int)) (IntKind.bits IntKind.u64)) ≥ (256 : Int))) ((0 : Int) ≤ (8 : Int) ∧ ((0 : Int) ≤ IntKind.wrap IntKind.u8 (Int.fdiv (Int.fdiv (Int.fdiv x ((2 : Int) ^ min (Int.toNat (32 : Int)) (IntKind.bits IntKind.u64))) ((2 : Int) ^ min (Int.toNat (16 : Int)) (IntKind.bits IntKind.u64))) ((2 : Int) ^ min (Int.toNat (8 : Int)) (IntKind.bits IntKind.u64))) ∧ IntKind.wrap IntKind.u8 (Int.fdiv (Int.fdiv (Int.fdiv x ((2 : Int) ^ min (Int.toNat (32 : Int)) (IntKind.bits IntKind.u64))) ((2 : Int) ^ min (Int.toNat (16 : Int)) (IntKind.bits IntKind.u64))) ((2 : Int) ^ min (Int.toNat (8 : Int)) (IntKind.bits IntKind.u64))) < (↑(ByteArray.size lenTab) : Int)) ∧ IntKind.wrap IntKind.i64 (IntKind.wrap IntKind.i64 (IntKind.wrap IntKind.i64 ((32 : Int) + (16 : Int)) + (8 : Int)) + IntKind.wrap IntKind.i64 (List.getD (strL lenTab) (Int.toNat (IntKind.wrap IntKind.u8 (Int.fdiv (Int.fdiv (Int.fdiv x ((2 : Int) ^ min (Int.toNat (32 : Int)) (IntKind.bits IntKind.u64))) ((2 : Int) ^ min (Int.toNat (16 : Int)) (IntKind.bits IntKind.u64))) ((2 : Int) ^ min (Int.toNat (8 : Int)) (IntKind.bits IntKind.u64))))) (0 : Int))) = (↑(bl (Int.toNat x)) : Int) ∧ True) (((0 : Int) ≤ IntKind.wrap IntKind.u8 (Int.fdiv (Int.fdiv x ((2 : Int) ^ min (Int.toNat (32 : Int)) (IntKind.bits IntKind.u64))) ((2 : Int) ^ min (Int.toNat (16 : Int)) (IntKind.bits IntKind.u64))) ∧ IntKind.wrap IntKind.u8 (Int.fdiv (Int.fdiv x ((2 : Int) ^ min (Int.toNat (32 : Int)) (IntKind.bits IntKind.u64))) ((2 : Int) ^ min (Int.toNat (16 : Int)) (IntKind.bits IntKind.u64))) < (↑(ByteArray.size lenTab) : Int)) ∧ IntKind.wrap IntKind.i64 (IntKind.wrap IntKind.i64 ((32 : Int) + (16 : Int)) + IntKind.wrap IntKind.i64 (List.getD (strL lenTab) (Int.toNat (IntKind.wrap IntKind.u8 (Int.fdiv (Int.fdiv x ((2 : Int) ^ min (Int.toNat (32 : Int)) (IntKind.bits IntKind.u64))) ((2 : Int) ^ min (Int.toNat (16 : Int)) (IntKind.bits IntKind.u64))))) (0 : Int))) = (↑(bl (Int.toNat x)) : Int) ∧ True)) (brP (decide (Int.fdiv x ((2 : Int) ^ min (Int.toNat (32 : Int)) (IntKind.bits IntKind.u64)) ≥ (256 : Int))) ((0 : Int) ≤ (8 : Int) ∧ ((0 : Int) ≤ IntKind.wrap IntKind.u8 (Int.fdiv (Int.fdiv x ((2 : Int) ^ min (Int.toNat (32 : Int)) (IntKind.bits IntKind.u64))) ((2 : Int) ^ min (Int.toNat (8 : Int)) (IntKind.bits IntKind.u64))) ∧ IntKind.wrap IntKind.u8 (Int.fdiv (Int.fdiv x ((2 : Int) ^ min (Int.toNat (32 : Int)) (IntKind.bits IntKind.u64))) ((2 : Int) ^ min (Int.toNat (8 : Int)) (IntKind.bits IntKind.u64))) < (↑(ByteArray.size lenTab) : Int)) ∧ IntKind.wrap IntKind.i64 (IntKind.wrap IntKind.i64 ((32 : Int) + (8 : Int)) + IntKind.wrap IntKind.i64 (List.getD (strL lenTab) (Int.toNat (IntKind.wrap IntKind.u8 (Int.fdiv (Int.fdiv x ((2 : Int) ^ min (Int.toNat (32 : Int)) (IntKind.bits IntKind.u64))) ((2 : Int) ^ min (Int.toNat (8 : Int)) (IntKind.bits IntKind.u64))))) (0 : Int))) = (↑(bl (Int.toNat x)) : Int) ∧ True) (((0 : Int) ≤ IntKind.wrap IntKind.u8 (Int.fdiv x ((2 : Int) ^ min (Int.toNat (32 : Int)) (IntKind.bits IntKind.u64))) ∧ IntKind.wrap IntKind.u8 (Int.fdiv x ((2 : Int) ^ min (Int.toNat (32 : Int)) (IntKind.bits IntKind.u64))) < (↑(ByteArray.size lenTab) : Int)) ∧ IntKind.wrap IntKind.i64 ((32 : Int) + IntKind.wrap IntKind.i64 (List.getD (strL lenTab) (Int.toNat (IntKind.wrap IntKind.u8 (Int.fdiv x ((2 : Int) ^ min (Int.toNat (32 : Int)) (IntKind.bits IntKind.u64))))) (0 : Int))) = (↑(bl (Int.toNat x)) : Int) ∧ True))) (brP (decide (x ≥ (65536 : Int))) ((0 : Int) ≤ (16 : Int) ∧ brP (decide (Int.fdiv x ((2 : Int) ^ min (Int.toNat (16 : Int)) (IntKind.bits IntKind.u64)) ≥ (256 : Int))) ((0 : Int) ≤ (8 : Int) ∧ ((0 : Int) ≤ IntKind.wrap IntKind.u8 (Int.fdiv (Int.fdiv x ((2 : Int) ^ min (Int.toNat (16 : Int)) (IntKind.bits IntKind.u64))) ((2 : Int) ^ min (Int.toNat (8 : Int)) (IntKind.bits IntKind.u64))) ∧ IntKind.wrap IntKind.u8 (Int.fdiv (Int.fdiv x ((2 : Int) ^ min (Int.toNat (16 : Int)) (IntKind.bits IntKind.u64))) ((2 : Int) ^ min (Int.toNat (8 : Int)) (IntKind.bits IntKind.u64))) < (↑(ByteArray.size lenTab) : Int)) ∧ IntKind.wrap IntKind.i64 (IntKind.wrap IntKind.i64 (IntKind.wrap IntKind.i64 ((0 : Int) + (16 : Int)) + (8 : Int)) + IntKind.wrap IntKind.i64 (List.getD (strL lenTab) (Int.toNat (IntKind.wrap IntKind.u8 (Int.fdiv (Int.fdiv x ((2 : Int) ^ min (Int.toNat (16 : Int)) (IntKind.bits IntKind.u64))) ((2 : Int) ^ min (Int.toNat (8 : Int)) (IntKind.bits IntKind.u64))))) (0 : Int))) = (↑(bl (Int.toNat x)) : Int) ∧ True) (((0 : Int) ≤ IntKind.wrap IntKind.u8 (Int.fdiv x ((2 : Int) ^ min (Int.toNat (16 : Int)) (IntKind.bits IntKind.u64))) ∧ IntKind.wrap IntKind.u8 (Int.fdiv x ((2 : Int) ^ min (Int.toNat (16 : Int)) (IntKind.bits IntKind.u64))) < (↑(ByteArray.size lenTab) : Int)) ∧ IntKind.wrap IntKind.i64 (IntKind.wrap IntKind.i64 ((0 : Int) + (16 : Int)) + IntKind.wrap IntKind.i64 (List.getD (strL lenTab) (Int.toNat (IntKind.wrap IntKind.u8 (Int.fdiv x ((2 : Int) ^ min (Int.toNat (16 : Int)) (IntKind.bits IntKind.u64))))) (0 : Int))) = (↑(bl (Int.toNat x)) : Int) ∧ True)) (brP (decide (x ≥ (256 : Int))) ((0 : Int) ≤ (8 : Int) ∧ ((0 : Int) ≤ IntKind.wrap IntKind.u8 (Int.fdiv x ((2 : Int) ^ min (Int.toNat (8 : Int)) (IntKind.bits IntKind.u64))) ∧ IntKind.wrap IntKind.u8 (Int.fdiv x ((2 : Int) ^ min (Int.toNat (8 : Int)) (IntKind.bits IntKind.u64))) < (↑(ByteArray.size lenTab) : Int)) ∧ IntKind.wrap IntKind.i64 (IntKind.wrap IntKind.i64 ((0 : Int) + (8 : Int)) + IntKind.wrap IntKind.i64 (List.getD (strL lenTab) (Int.toNat (IntKind.wrap IntKind.u8 (Int.fdiv x ((2 : Int) ^ min (Int.toNat (8 : Int)) (IntKind.bits IntKind.u64))))) (0 : Int))) = (↑(bl (Int.toNat x)) : Int) ∧ True) (((0 : Int) ≤ IntKind.wrap IntKind.u8 x ∧ IntKind.wrap IntKind.u8 x < (↑(ByteArray.size lenTab) : Int)) ∧ IntKind.wrap IntKind.i64 ((0 : Int) + IntKind.wrap IntKind.i64 (List.getD (strL lenTab) (Int.toNat (IntKind.wrap IntKind.u8 x)) (0 : Int))) = (↑(bl (Int.toNat x)) : Int) ∧ True)))) (by kernel_rfl) (by
    obtain ⟨h0, h1, _⟩ := hp
    obtain ⟨n, rfl⟩ := Int.eq_ofNat_of_zero_le h0
    have hn : n < 18446744073709551616 := by omega
    have f32 : ∀ m : Nat, Int.fdiv (m : Int) (2 ^ min (Int.toNat 32) (IntKind.bits .u64)) = ((m / 4294967296 : Nat) : Int) := fun m => by
      rw [Int.fdiv_eq_ediv_of_nonneg _ (by decide)]; show (m : Int) / 4294967296 = _; omega
    have f16 : ∀ m : Nat, Int.fdiv (m : Int) (2 ^ min (Int.toNat 16) (IntKind.bits .u64)) = ((m / 65536 : Nat) : Int) := fun m => by
      rw [Int.fdiv_eq_ediv_of_nonneg _ (by decide)]; show (m : Int) / 65536 = _; omega
    have f8 : ∀ m : Nat, Int.fdiv (m : Int) (2 ^ min (Int.toNat 8) (IntKind.bits .u64)) = ((m / 256 : Nat) : Int) := fun m => by
      rw [Int.fdiv_eq_ediv_of_nonneg _ (by decide)]; show (m : Int) / 256 = _; omega
    rw [f32 n, f16 (n / 4294967296), f16 n, f8 (n / 4294967296 / 65536), f8 (n / 4294967296), f8 (n / 65536), f8 n, Int.toNat_natCast]
    have b32 : 4294967296 ≤ n → bl n = 32 + bl (n / 4294967296) := fun h => bl_shift (k := 32) h
    have b16 : ∀ m : Nat, 65536 ≤ m → bl m = 16 + bl (m / 65536) := fun m h => bl_shift (k := 16) h
    have b8 : ∀ m : Nat, 256 ≤ m → bl m = 8 + bl (m / 256) := fun m h => bl_shift (k := 8) h
    refine brI (fun hc => ⟨by omega, ?_⟩) (fun hc => ?_)
    · have hc := b32 (by have := of_decide_eq_true hc; omega)
      refine brI (fun hd => ⟨by omega, ?_⟩) (fun hd => ?_)
      · have hd := b16 (n / 4294967296) (by have := of_decide_eq_true hd; omega)
        refine brI (fun he => ⟨by omega, ?_⟩) (fun he => ?_)
        · have he := b8 (n / 4294967296 / 65536) (by have := of_decide_eq_true he; omega)
          exact len_leaf (k := 56) _ (by omega) (by omega) (by decide) rfl
        · exact len_leaf (k := 48) _ (by omega) (by have := of_decide_eq_false he; omega) (by decide) rfl
      · have hd' : ¬ (((n / 4294967296 : Nat) : Int) ≥ 65536) := of_decide_eq_false hd
        refine brI (fun he => ⟨by omega, ?_⟩) (fun he => ?_)
        · have he := b8 (n / 4294967296) (by have := of_decide_eq_true he; omega)
          exact len_leaf (k := 40) _ (by omega) (by omega) (by decide) rfl
        · exact len_leaf (k := 32) _ (by omega) (by have := of_decide_eq_false he; omega) (by decide) rfl
    · have hc' : ¬ ((n : Int) ≥ 4294967296) := of_decide_eq_false hc
      refine brI (fun hd => ⟨by omega, ?_⟩) (fun hd => ?_)
      · have hd := b16 n (by have := of_decide_eq_true hd; omega)
        refine brI (fun he => ⟨by omega, ?_⟩) (fun he => ?_)
        · have he := b8 (n / 65536) (by have := of_decide_eq_true he; omega)
          exact len_leaf (k := 24) _ (by omega) (by omega) (by decide) rfl
        · exact len_leaf (k := 16) _ (by omega) (by have := of_decide_eq_false he; omega) (by decide) rfl
      · have hd' : ¬ ((n : Int) ≥ 65536) := of_decide_eq_false hd
        refine brI (fun he => ⟨by omega, ?_⟩) (fun he => ?_)
        · have he := b8 n (by have := of_decide_eq_true he; omega)
          exact len_leaf (k := 8) _ (by omega) (by omega) (by decide) rfl
        · exact len_leaf (k := 0) _ (by omega) (by have := of_decide_eq_false he; omega) (by decide) rfl))
noncomputable def gbitsLen64 : Con := fun args H => match args, H with
  | [.a (.d (.v (.int .u64 x)))], [] => some ⟨[0 ≤ x, x < 18446744073709551616], eI .i64 (bl x.toNat), []⟩
  | _, _ => none
theorem vbitsLen64 : Valid Tryd.prog Gs 50 gbitsLen64 := by
  intro args H r h hp
  unfold gbitsLen64 at h
  split at h
  · simp only [Option.some.injEq] at h; subst h; exact okbitsLen64 _ hp
  · cases h
noncomputable def ct_bitsLen64 : List (Nat × Ct) := (50, ⟨[], false, gbitsLen64⟩) :: ct_R03List
theorem ctok_bitsLen64 : CtsOk Tryd.prog Gs ct_bitsLen64 := CtsOk.cons vbitsLen64 (by kernel_rfl) ctok_R03List
noncomputable def anbitsLen (x : Int) : Nat → List Nat → Option Ann := fun _ _ => none
theorem okbitsLen (x : Int) (hp : allP [0 ≤ x, x < 18446744073709551616]) : CallsOk Tryd.prog Gs 39 [.a (.d (.v (.int .u64 x)))] [] (eI .i64 (bl x.toNat)) [] :=
  ok_of (ann := anbitsLen x) ctok_bitsLen64 mixed Tryd.func39 (by kernel_rfl) (of_nf (p := (0 : Int) ≤ x ∧ x < (18446744073709551616 : Int) ∧ (↑(bl (Int.toNat x)) : Int) = (↑(bl (Int.toNat x)) : Int) ∧ True) (by kernel_rfl) (by
    exact ⟨hp.1, hp.2.1, rfl, trivial⟩))
noncomputable def gbitsLen : Con := fun args H => match args, H with
  | [.a (.d (.v (.int .u64 x)))], [] => some ⟨[0 ≤ x, x < 18446744073709551616], eI .i64 (bl x.toNat), []⟩
  | _, _ => none
theorem vbitsLen : Valid Tryd.prog Gs 39 gbitsLen := by
  intro args H r h hp
  unfold gbitsLen at h
  split at h
  · simp only [Option.some.injEq] at h; subst h; exact okbitsLen _ hp
  · cases h
noncomputable def ct_bitsLen : List (Nat × Ct) := (39, ⟨[], false, gbitsLen⟩) :: ct_bitsLen64
theorem ctok_bitsLen : CtsOk Tryd.prog Gs ct_bitsLen := CtsOk.cons vbitsLen (by kernel_rfl) ctok_bitsLen64
noncomputable def anmerklehalf (n : Int) : Nat → List Nat → Option Ann := fun _ _ => none
theorem okmerklehalf (n : Int) (hp : allP [2 ≤ n, n < 9223372036854775808]) : CallsOk Tryd.prog Gs 23 [.a (.d (.v (.int .i64 n)))] [] (eI .i64 (halfN n.toNat)) [] :=
  ok_of (ann := anmerklehalf n) ctok_bitsLen mixed Tryd.func23 (by kernel_rfl) (of_nf (p := (0 : Int) ≤ IntKind.wrap IntKind.u64 (IntKind.wrap IntKind.i64 (n - (1 : Int))) ∧ IntKind.wrap IntKind.u64 (IntKind.wrap IntKind.i64 (n - (1 : Int))) < (18446744073709551616 : Int) ∧ (0 : Int) ≤ IntKind.wrap IntKind.i64 ((↑(bl (Int.toNat (IntKind.wrap IntKind.u64 (IntKind.wrap IntKind.i64 (n - (1 : Int)))))) : Int) - (1 : Int)) ∧ IntKind.wrap IntKind.i64 ((1 : Int) * (2 : Int) ^ min (Int.toNat (IntKind.wrap IntKind.i64 ((↑(bl (Int.toNat (IntKind.wrap IntKind.u64 (IntKind.wrap IntKind.i64 (n - (1 : Int)))))) : Int) - (1 : Int)))) (IntKind.bits IntKind.i64)) = (↑(halfN (Int.toNat n)) : Int) ∧ True) (by kernel_rfl) (by
    obtain ⟨h2, h3, _⟩ := hp
    obtain ⟨k, rfl⟩ := Int.eq_ofNat_of_zero_le (show 0 ≤ n by omega)
    have e1 : IntKind.wrap .u64 (IntKind.wrap .i64 ((k : Int) - 1)) = ((k - 1 : Nat) : Int) := by rw [wi _ (by omega) (by omega), wu _ (by omega) (by omega)]; omega
    rw [e1, Int.toNat_natCast, Int.toNat_natCast]
    have hb : bl (k - 1) = Nat.log2 (k - 1) + 1 := by unfold bl; rw [if_neg (by omega)]
    have hlog := (Nat.log2_lt (show k - 1 ≠ 0 by omega)).2 (show k - 1 < 2 ^ 63 from (by omega : k - 1 < 9223372036854775808))
    have e2 : IntKind.wrap .i64 ((bl (k - 1) : Int) - 1) = ((Nat.log2 (k - 1) : Nat) : Int) := by rw [hb, wi _ (by omega) (by omega)]; omega
    rw [e2]
    have e3 : min (Int.toNat ((Nat.log2 (k - 1) : Nat) : Int)) (IntKind.bits .i64) = Nat.log2 (k - 1) := by
      have : IntKind.bits .i64 = 64 := rfl
      rw [this]; omega
    rw [e3]
    have hs := halfN_spec (n := k) (by omega)
    refine ⟨by omega, by omega, by omega, ?_, trivial⟩
    have e4 : (1 : Int) * 2 ^ Nat.log2 (k - 1) = ((halfN k : Nat) : Int) := by unfold halfN; rw [Int.one_mul]; push_cast; rfl
    rw [e4, wi _ (by omega) (by omega)]))
noncomputable def gmerklehalf : Con := fun args H => match args, H with
  | [.a (.d (.v (.int .i64 n)))], [] => some ⟨[2 ≤ n, n < 9223372036854775808], eI .i64 (halfN n.toNat), []⟩
  | _, _ => none
theorem vmerklehalf : Valid Tryd.prog Gs 23 gmerklehalf := by
  intro args H r h hp
  unfold gmerklehalf at h
  split at h
  · simp only [Option.some.injEq] at h; subst h; exact okmerklehalf _ hp
  · cases h
noncomputable def ct_merklehalf : List (Nat × Ct) := (23, ⟨[], false, gmerklehalf⟩) :: ct_bitsLen
theorem ctok_merklehalf : CtsOk Tryd.prog Gs ct_merklehalf := CtsOk.cons vmerklehalf (by kernel_rfl) ctok_bitsLen
noncomputable def anR03Half (n : Int) : Nat → List Nat → Option Ann := fun bk_ gs_ => match bk_, gs_ with
    | 0, _ => some { τ := Nat, J := fun j => 2 ^ j ≤ halfN n.toNat, m := fun j => halfN n.toNat - 2 ^ j, l := fun j => [(0, eI .i64 n), (3, eI .i64 ((2 ^ j : Nat) : Int))], H := fun _ => [] }
    | _, _ => none
theorem okR03Half (n : Int) (hp : allP [2 ≤ n, n < 9223372036854775808]) : CallsOk Tryd.prog Gs 27 [.a (.d (.v (.int .i64 n)))] [] (eI .i64 (halfN n.toNat)) [] :=
  ok_of (ann := anR03Half n) ctok_merklehalf mixed Tryd.func27 (by kernel_rfl) (of_nf (p := (∃ (t : Nat), n = n ∧ (1 : Int) = (↑((2 : Nat) ^ t) : Int) ∧ (2 : Nat) ^ t ≤ halfN (Int.toNat n) ∧ True) ∧ ∀ (t : Nat), (2 : Nat) ^ t ≤ halfN (Int.toNat n) → brP (decide ((↑((2 : Nat) ^ t) : Int) < IntKind.wrap IntKind.i64 (n - (↑((2 : Nat) ^ t) : Int)))) (∃ (t' : Nat), n = n ∧ IntKind.wrap IntKind.i64 ((2 : Int) * (↑((2 : Nat) ^ t) : Int)) = (↑((2 : Nat) ^ t') : Int) ∧ (2 : Nat) ^ t' ≤ halfN (Int.toNat n) ∧ halfN (Int.toNat n) - (2 : Nat) ^ t' < halfN (Int.toNat n) - (2 : Nat) ^ t ∧ True) ((↑((2 : Nat) ^ t) : Int) = (↑(halfN (Int.toNat n)) : Int) ∧ True)) (by kernel_rfl) (by
    obtain ⟨h2, h3, _⟩ := hp
    obtain ⟨k, rfl⟩ := Int.eq_ofNat_of_zero_le (show 0 ≤ n by omega)
    rw [Int.toNat_natCast]
    have hs := halfN_spec (n := k) (by omega)
    refine ⟨⟨0, rfl, rfl, by show 1 ≤ halfN k; omega, trivial⟩, fun t ht => ?_⟩
    have hz : (0 : Int) ≤ ((2 ^ t : Nat) : Int) := Int.natCast_nonneg _
    have e1 : IntKind.wrap .i64 ((k : Int) - ((2 ^ t : Nat) : Int)) = (k : Int) - ((2 ^ t : Nat) : Int) := wi _ (by omega) (by omega)
    rw [e1]
    refine brI (fun hc => ?_) (fun hc => ?_)
    · have hc : 2 ^ t < k - 2 ^ t := by have := of_decide_eq_true hc; omega
      have e2 : 2 ^ (t + 1) = 2 * 2 ^ t := by rw [Nat.pow_succ, Nat.mul_comm]
      have hlt : t < Nat.log2 (k - 1) := by
        rcases Nat.lt_or_ge t (Nat.log2 (k - 1)) with h | h
        · exact h
        · exfalso
          have h5 : halfN k ≤ 2 ^ t := Nat.pow_le_pow_right (by decide) h
          omega
      have h6 : 2 ^ (t + 1) ≤ halfN k := Nat.pow_le_pow_right (by decide) hlt
      refine ⟨t + 1, rfl, ?_, h6, ?_, trivial⟩
      · rw [wi _ (by omega) (by omega), e2]; omega
      · have hp : 0 < 2 ^ t := Nat.pow_pos (by decide)
        omega
    · have hc : ¬ 2 ^ t < k - 2 ^ t := by have := of_decide_eq_false hc; omega
      have : 2 ^ t = halfN k := by
        rcases Nat.lt_or_ge t (Nat.log2 (k - 1)) with h | h
        · have h6 : 2 ^ (t + 1) ≤ halfN k := Nat.pow_le_pow_right (by decide) h
          have e2 : 2 ^ (t + 1) = 2 * 2 ^ t := by rw [Nat.pow_succ, Nat.mul_comm]
          omega
        · have h5 : halfN k ≤ 2 ^ t := Nat.pow_le_pow_right (by decide) h
          omega
      exact ⟨by rw [this], trivial⟩))
noncomputable def gR03Half : Con := fun args H => match args, H with
  | [.a (.d (.v (.int .i64 n)))], [] => some ⟨[2 ≤ n, n < 9223372036854775808], eI .i64 (halfN n.toNat), []⟩
  | _, _ => none
theorem vR03Half : Valid Tryd.prog Gs 27 gR03Half := by
  intro args H r h hp
  unfold gR03Half at h
  split at h
  · simp only [Option.some.injEq] at h; subst h; exact okR03Half _ hp
  · cases h
noncomputable def ct_R03Half : List (Nat × Ct) := (27, ⟨[], false, gR03Half⟩) :: ct_merklehalf
theorem ctok_R03Half : CtsOk Tryd.prog Gs ct_R03Half := CtsOk.cons vR03Half (by kernel_rfl) ctok_merklehalf
end Go.Proofs.YtamlmlihfpkjaaaDoor
