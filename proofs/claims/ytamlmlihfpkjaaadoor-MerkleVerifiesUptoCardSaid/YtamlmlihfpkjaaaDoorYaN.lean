/- Merkle trees, by both texts. -/
import Derived.Test.YtamlmlihfpkjaaaDoorYaM
namespace Go.Proofs.YtamlmlihfpkjaaaDoor
open Go.Dx Go.RowKit
set_option linter.unusedVariables false
set_option linter.unusedSimpArgs false
set_option maxRecDepth 100000
def mtx : Nat → List (List Int) → List Int
  | 0, _ => noneB
  | n + 1, l => match l with
    | [] => noneB
    | [x] => leafB x
    | x :: y :: r => nodeB (sumB shaK (mtx n ((x :: y :: r).take (halfN (x :: y :: r).length)))) (sumB shaK (mtx n ((x :: y :: r).drop (halfN (x :: y :: r).length))))
theorem mtx_fuel : ∀ (n m : Nat) (l : List (List Int)), l.length ≤ n → l.length ≤ m → mtx n l = mtx m l
  | 0, 0, l, _, _ => rfl
  | 0, m + 1, l, h, _ => by obtain rfl : l = [] := List.eq_nil_of_length_eq_zero (by omega); rfl
  | n + 1, 0, l, _, h => by obtain rfl : l = [] := List.eq_nil_of_length_eq_zero (by omega); rfl
  | n + 1, m + 1, [], _, _ => rfl
  | n + 1, m + 1, [x], _, _ => rfl
  | n + 1, m + 1, x :: y :: r, h, h' => by
    have hs := halfN_spec (n := (x :: y :: r).length) (by simp)
    simp only [mtx]
    have h1 : ((x :: y :: r).take (halfN (x :: y :: r).length)).length < (x :: y :: r).length := by rw [List.length_take]; omega
    have h2 : ((x :: y :: r).drop (halfN (x :: y :: r).length)).length < (x :: y :: r).length := by rw [List.length_drop]; simp only [List.length_cons] at hs ⊢; omega
    rw [mtx_fuel n m _ (by omega) (by omega), mtx_fuel n m ((x :: y :: r).drop _) (by omega) (by omega)]
/-- A list's text. -/
def mt (l : List (List Int)) : List Int := mtx l.length l
theorem mt_two {l : List (List Int)} (h : 2 ≤ l.length) : mt l = nodeB (sumB shaK (mt (l.take (halfN l.length)))) (sumB shaK (mt (l.drop (halfN l.length)))) := by
  match l, h with
  | x :: y :: r, h =>
    have hs := halfN_spec h
    have h1 : ((x :: y :: r).take (halfN (x :: y :: r).length)).length < (x :: y :: r).length := by rw [List.length_take]; omega
    have h2 : ((x :: y :: r).drop (halfN (x :: y :: r).length)).length < (x :: y :: r).length := by rw [List.length_drop]; simp only [List.length_cons] at hs ⊢; omega
    show nodeB (sumB shaK (mtx (r.length + 1) _)) (sumB shaK (mtx (r.length + 1) _)) = _
    simp only [List.length_cons] at h1 h2
    unfold mt
    rw [mtx_fuel (r.length + 1) _ _ (by simp only [List.length_cons]; omega) (Nat.le_refl _), mtx_fuel (r.length + 1) _ ((x :: y :: r).drop _) (by simp only [List.length_cons]; omega) (Nat.le_refl _)]
theorem set_ok {L : List Int} (h : OkB L) (i : Nat) (x : Int) : OkB (L.set i (IntKind.wrap .u8 x)) := fun y hy => by
  rcases List.mem_or_eq_of_mem_set hy with h1 | h1
  · exact h y h1
  · subst h1; exact u8_lt x
theorem sumB_ok (L : List Int) : OkB (sumB shaK L) := by
  have : ∀ (h : List Int) (i : Nat), OkB (digF h i) := fun h i => by
    induction i with
    | zero => exact rep_ok 32
    | succ i ih =>
      show OkB (put4 (digF h i) _ _)
      unfold put4
      exact set_ok (set_ok (set_ok (set_ok ih _ _) _ _) _ _) _ _
  unfold sumB sumH
  exact this _ 8
theorem two_ok {a b : List Int} (ha : OkB a) (hb : OkB b) : ∀ L ∈ [a, b], OkB L := fun L hL => by
  simp only [List.mem_cons, List.not_mem_nil, or_false] at hL
  rcases hL with rfl | rfl
  · exact ha
  · exact hb
theorem tri_ok {a b c : List Int} (ha : OkB a) (hb : OkB b) (hc : OkB c) : ∀ L ∈ [a, b, c], OkB L := fun L hL => by
  simp only [List.mem_cons, List.not_mem_nil, or_false] at hL
  rcases hL with rfl | rfl | rfl
  · exact ha
  · exact hb
  · exact hc
theorem lit_ok {L : List Int} (h : (L.all fun x => decide (0 ≤ x ∧ x < 256)) = true) : OkB L := fun x hx => of_decide_eq_true (List.all_eq_true.1 h x hx)
theorem leafB_ok {L : List Int} (h : OkB L) : OkB (leafB L) := joinB_okB (two_ok (lit_ok (by decide)) h)
theorem nodeB_ok {a b : List Int} (ha : OkB a) (hb : OkB b) : OkB (nodeB a b) := joinB_okB (tri_ok (lit_ok (by decide)) ha hb)
theorem listB_ok {n : Int} {d : List Int} (hd : OkB d) : OkB (listB n d) := joinB_okB (tri_ok (lit_ok (by decide)) (be8_ok n) hd)
theorem noneB_ok : OkB noneB := joinB_okB fun L hL => by
  simp only [List.mem_cons, List.not_mem_nil, or_false] at hL
  subst hL; exact lit_ok (by decide)
theorem mtx_ok : ∀ (n : Nat) (l : List (List Int)), (∀ L ∈ l, OkB L) → OkB (mtx n l)
  | 0, _, _ => noneB_ok
  | n + 1, [], _ => noneB_ok
  | n + 1, [x], h => leafB_ok (h x (by simp))
  | n + 1, x :: y :: r, _ => nodeB_ok (sumB_ok _) (sumB_ok _)
theorem mt_ok {l : List (List Int)} (h : ∀ L ∈ l, OkB L) : OkB (mt l) := mtx_ok _ l h
theorem leafB_len (L : List Int) : (leafB L).length = 28 + L.length := by
  unfold leafB; rw [joinB_bulk]; simp only [List.flatten_cons, List.flatten_nil, List.length_append, List.length_cons, List.length_nil, List.append_nil]; omega
theorem nodeB_len {a b : List Int} (ha : a.length = 32) (hb : b.length = 32) : (nodeB a b).length = 100 := by
  unfold nodeB; rw [joinB_bulk]; simp only [List.flatten_cons, List.flatten_nil, List.length_append, List.length_cons, List.length_nil, List.append_nil, ha, hb]
theorem listB_len {n : Int} {d : List Int} (hd : d.length = 32) : (listB n d).length = 76 := by
  unfold listB; rw [joinB_bulk]; simp only [List.flatten_cons, List.flatten_nil, List.length_append, List.length_cons, List.length_nil, List.append_nil, hd, be8_len]
theorem flat_take (l : List (List Int)) (k : Nat) : (l.take k).flatten.length ≤ l.flatten.length := by
  have : (l.take k).flatten ++ (l.drop k).flatten = l.flatten := by rw [← List.flatten_append, List.take_append_drop]
  have := congrArg List.length this
  rw [List.length_append] at this; omega
theorem flat_drop (l : List (List Int)) (k : Nat) : (l.drop k).flatten.length ≤ l.flatten.length := by
  have : (l.take k).flatten ++ (l.drop k).flatten = l.flatten := by rw [← List.flatten_append, List.take_append_drop]
  have := congrArg List.length this
  rw [List.length_append] at this; omega
theorem flat_mem {l : List (List Int)} {L : List Int} (h : L ∈ l) : L.length ≤ l.flatten.length := by
  induction l with
  | nil => cases h
  | cons x r ih =>
    rw [List.flatten_cons, List.length_append]
    rcases List.mem_cons.1 h with rfl | h
    · omega
    · have := ih h; omega
noncomputable def anmerkletext (Ls : List (List Int)) : Nat → List Nat → Option Ann := fun _ _ => none
noncomputable def grmerkletext (n_ : Nat) : Con := fun args H => match args, H with
  | [.a (.d (.sb Ls))], [] => some ⟨(Ls.length < n_) :: [∀ L ∈ Ls, OkB L, Ls.flatten.length + 300 ≤ lim, Ls.length < 1099511627776], .s (.a (.rw 0)), [(0, .row (.ints .u8 (mt Ls)) 5)]⟩
  | _, _ => none
noncomputable def ctr_merkletext (n_ : Nat) : List (Nat × Ct) := (25, ⟨[], false, grmerkletext n_⟩) :: ct_R03Half
theorem okrmerkletext (Ls : List (List Int)) (n_ : Nat) (hv_ : Valid Tryd.prog Gs 25 (grmerkletext n_)) (hm_ : Ls.length < n_ + 1) (hp : allP [∀ L ∈ Ls, OkB L, Ls.flatten.length + 300 ≤ lim, Ls.length < 1099511627776]) : CallsOk Tryd.prog Gs 25 [.a (.d (.sb Ls))] [] (.s (.a (.rw 0))) [(0, .row (.ints .u8 (mt Ls)) 5)] :=
  ok_of (ann := anmerkletext Ls) (CtsOk.cons (c := ⟨[], false, grmerkletext n_⟩) hv_ (by kernel_rfl) ctok_R03Half) mixed Tryd.func25 (by kernel_rfl) (of_nf (p := brP ((↑(List.length Ls) : Int) == (0 : Int)) ((0 : Nat) < List.length (List.set (List.set (List.set (List.set (List.replicate ((3 : Nat) + (1 : Nat)) (0 : Int)) ((0 : Nat) * (1 : Nat)) (110 : Int)) ((1 : Nat) * (1 : Nat)) (111 : Int)) ((2 : Nat) * (1 : Nat)) (110 : Int)) ((3 : Nat) * (1 : Nat)) (101 : Int)) ∧ List.length (joinB [List.set (List.set (List.set (List.set (List.replicate ((3 : Nat) + (1 : Nat)) (0 : Int)) ((0 : Nat) * (1 : Nat)) (110 : Int)) ((1 : Nat) * (1 : Nat)) (111 : Int)) ((2 : Nat) * (1 : Nat)) (110 : Int)) ((3 : Nat) * (1 : Nat)) (101 : Int)]) + (100 : Nat) ≤ lim ∧ joinB [List.set (List.set (List.set (List.set (List.replicate ((3 : Nat) + (1 : Nat)) (0 : Int)) ((0 : Nat) * (1 : Nat)) (110 : Int)) ((1 : Nat) * (1 : Nat)) (111 : Int)) ((2 : Nat) * (1 : Nat)) (110 : Int)) ((3 : Nat) * (1 : Nat)) (101 : Int)] = mt Ls ∧ True) (brP ((↑(List.length Ls) : Int) == (1 : Int)) (((0 : Int) ≤ (0 : Int) ∧ (0 : Int) < (↑(List.length Ls) : Int)) ∧ List.length (List.getD Ls (Int.toNat (0 : Int)) []) + (200 : Nat) ≤ lim ∧ leafB (List.getD Ls (Int.toNat (0 : Int)) []) = mt Ls ∧ True) ((2 : Int) ≤ (↑(List.length Ls) : Int) ∧ (↑(List.length Ls) : Int) < (9223372036854775808 : Int) ∧ ((0 : Int) ≤ (↑(halfN (Int.toNat (↑(List.length Ls) : Int))) : Int) ∧ (↑(halfN (Int.toNat (↑(List.length Ls) : Int))) : Int) ≤ (↑(List.length Ls) : Int)) ∧ List.length (cutL Ls none (some (IntKind.i64, (↑(halfN (Int.toNat (↑(List.length Ls) : Int))) : Int)))) < n_ ∧ (∀ (L : List Int), L ∈ cutL Ls none (some (IntKind.i64, (↑(halfN (Int.toNat (↑(List.length Ls) : Int))) : Int))) → OkB L) ∧ List.length (List.flatten (cutL Ls none (some (IntKind.i64, (↑(halfN (Int.toNat (↑(List.length Ls) : Int))) : Int))))) + (300 : Nat) ≤ lim ∧ List.length (cutL Ls none (some (IntKind.i64, (↑(halfN (Int.toNat (↑(List.length Ls) : Int))) : Int)))) < (1099511627776 : Nat) ∧ OkB (mt (cutL Ls none (some (IntKind.i64, (↑(halfN (Int.toNat (↑(List.length Ls) : Int))) : Int))))) ∧ ((0 : Int) ≤ (↑(halfN (Int.toNat (↑(List.length Ls) : Int))) : Int) ∧ (↑(halfN (Int.toNat (↑(List.length Ls) : Int))) : Int) ≤ (↑(List.length Ls) : Int)) ∧ List.length (cutL Ls (some (IntKind.i64, (↑(halfN (Int.toNat (↑(List.length Ls) : Int))) : Int))) none) < n_ ∧ (∀ (L : List Int), L ∈ cutL Ls (some (IntKind.i64, (↑(halfN (Int.toNat (↑(List.length Ls) : Int))) : Int))) none → OkB L) ∧ List.length (List.flatten (cutL Ls (some (IntKind.i64, (↑(halfN (Int.toNat (↑(List.length Ls) : Int))) : Int))) none)) + (300 : Nat) ≤ lim ∧ List.length (cutL Ls (some (IntKind.i64, (↑(halfN (Int.toNat (↑(List.length Ls) : Int))) : Int))) none) < (1099511627776 : Nat) ∧ OkB (mt (cutL Ls (some (IntKind.i64, (↑(halfN (Int.toNat (↑(List.length Ls) : Int))) : Int))) none)) ∧ List.length (sumB shaK (mt (cutL Ls none (some (IntKind.i64, (↑(halfN (Int.toNat (↑(List.length Ls) : Int))) : Int)))))) = (32 : Nat) ∧ List.length (sumB shaK (mt (cutL Ls (some (IntKind.i64, (↑(halfN (Int.toNat (↑(List.length Ls) : Int))) : Int))) none))) = (32 : Nat) ∧ nodeB (sumB shaK (mt (cutL Ls none (some (IntKind.i64, (↑(halfN (Int.toNat (↑(List.length Ls) : Int))) : Int)))))) (sumB shaK (mt (cutL Ls (some (IntKind.i64, (↑(halfN (Int.toNat (↑(List.length Ls) : Int))) : Int))) none))) = mt Ls ∧ True))) (by kernel_rfl) (by
    obtain ⟨ho, hl, hn, _⟩ := hp
    have hlim : lim = 68719476736 := rfl
    have nl : (joinB [[110, 111, 110, 101]]).length = 20 := rfl
    rw [Int.toNat_natCast]
    have c1 : cutL Ls none (some (IntKind.i64, ((halfN Ls.length : Nat) : Int))) = Ls.take (halfN Ls.length) := rfl
    have c2 : cutL Ls (some (IntKind.i64, ((halfN Ls.length : Nat) : Int))) none = Ls.drop (halfN Ls.length) := rfl
    rw [c1, c2]
    have f1 := flat_take Ls (halfN Ls.length)
    have f2 := flat_drop Ls (halfN Ls.length)
    have o1 : ∀ L ∈ Ls.take (halfN Ls.length), OkB L := fun L hL => ho L (List.mem_of_mem_take hL)
    have o2 : ∀ L ∈ Ls.drop (halfN Ls.length), OkB L := fun L hL => ho L (List.mem_of_mem_drop hL)
    refine brI (fun hc => ?_) (fun hc => brI (fun hd => ?_) (fun hd => ?_))
    · have hc : Ls.length = 0 := by have := beq_iff_eq.1 hc; omega
      obtain rfl : Ls = [] := List.eq_nil_of_length_eq_zero hc
      exact ⟨by decide, (show (joinB [[110, 111, 110, 101]]).length + 100 ≤ lim by omega), rfl, trivial⟩
    · have hd : Ls.length = 1 := by have := beq_iff_eq.1 hd; omega
      match Ls, hd with
      | [x], _ =>
        have := flat_mem (l := [x]) (L := x) (by simp)
        exact ⟨by simp, (show x.length + 200 ≤ lim by omega), rfl, trivial⟩
    · have hc := beq_eq_false_iff_ne.1 hc
      have hd := beq_eq_false_iff_ne.1 hd
      have h2 : 2 ≤ Ls.length := by omega
      have hs := halfN_spec h2
      have l1 : (Ls.take (halfN Ls.length)).length = halfN Ls.length := by rw [List.length_take]; omega
      have l2 : (Ls.drop (halfN Ls.length)).length = Ls.length - halfN Ls.length := List.length_drop
      exact ⟨by omega, by omega, by omega, by omega, o1, by omega, by omega, mt_ok o1, by omega, by omega, o2, by omega, by omega, mt_ok o2, sumB_len _ _, sumB_len _ _, (mt_two h2).symm, trivial⟩))
theorem vrmerkletext : ∀ n_, Valid Tryd.prog Gs 25 (grmerkletext n_)
  | 0 => by
    intro args H r h hp
    unfold grmerkletext at h
    split at h
    · simp only [Option.some.injEq] at h; subst h; exact absurd hp.1 (Nat.not_lt_zero _)
    · cases h
  | n_ + 1 => by
    intro args H r h hp
    unfold grmerkletext at h
    split at h
    · simp only [Option.some.injEq] at h; subst h; exact okrmerkletext _ n_ (vrmerkletext n_) hp.1 hp.2
    · cases h
theorem okmerkletext (Ls : List (List Int)) (hp : allP [∀ L ∈ Ls, OkB L, Ls.flatten.length + 300 ≤ lim, Ls.length < 1099511627776]) : CallsOk Tryd.prog Gs 25 [.a (.d (.sb Ls))] [] (.s (.a (.rw 0))) [(0, .row (.ints .u8 (mt Ls)) 5)] := okrmerkletext Ls (Ls.length) (vrmerkletext _) (Nat.lt_succ_self _) hp
noncomputable def gmerkletext : Con := fun args H => match args, H with
  | [.a (.d (.sb Ls))], [] => some ⟨[∀ L ∈ Ls, OkB L, Ls.flatten.length + 300 ≤ lim, Ls.length < 1099511627776], .s (.a (.rw 0)), [(0, .row (.ints .u8 (mt Ls)) 5)]⟩
  | _, _ => none
theorem vmerkletext : Valid Tryd.prog Gs 25 gmerkletext := by
  intro args H r h hp
  unfold gmerkletext at h
  split at h
  · simp only [Option.some.injEq] at h; subst h; exact okmerkletext _ hp
  · cases h
noncomputable def ct_merkletext : List (Nat × Ct) := (25, ⟨[], false, gmerkletext⟩) :: ct_R03Half
theorem ctok_merkletext : CtsOk Tryd.prog Gs ct_merkletext := CtsOk.cons vmerkletext (by kernel_rfl) ctok_R03Half
noncomputable def anmerkleRoot (Ls : List (List Int)) : Nat → List Nat → Option Ann := fun _ _ => none
theorem okmerkleRoot (Ls : List (List Int)) (hp : allP [∀ L ∈ Ls, OkB L, Ls.flatten.length + 300 ≤ lim, Ls.length < 1099511627776]) : CallsOk Tryd.prog Gs 11 [.a (.d (.sb Ls))] [] (.s (.agg [.ints .u8 32 (sumB shaK (listB Ls.length (sumB shaK (mt Ls))))])) [] :=
  ok_of (ann := anmerkleRoot Ls) ctok_merkletext mixed Tryd.func11 (by kernel_rfl) (of_nf (p := (∀ (L : List Int), L ∈ Ls → OkB L) ∧ List.length (List.flatten Ls) + (300 : Nat) ≤ lim ∧ List.length Ls < (1099511627776 : Nat) ∧ OkB (mt Ls) ∧ (0 : Int) ≤ (↑(List.length Ls) : Int) ∧ (↑(List.length Ls) : Int) < (9223372036854775808 : Int) ∧ List.length (sumB shaK (mt Ls)) = (32 : Nat) ∧ OkB (listB (↑(List.length Ls) : Int) (sumB shaK (mt Ls))) ∧ sumB shaK (listB (↑(List.length Ls) : Int) (sumB shaK (mt Ls))) = sumB shaK (listB (↑(List.length Ls) : Int) (sumB shaK (mt Ls))) ∧ True) (by kernel_rfl) (by
    obtain ⟨ho, hl, hn, _⟩ := hp
    exact ⟨ho, hl, hn, mt_ok ho, by omega, by omega, sumB_len _ _, listB_ok (sumB_ok _), rfl, trivial⟩))
noncomputable def gmerkleRoot : Con := fun args H => match args, H with
  | [.a (.d (.sb Ls))], [] => some ⟨[∀ L ∈ Ls, OkB L, Ls.flatten.length + 300 ≤ lim, Ls.length < 1099511627776], .s (.agg [.ints .u8 32 (sumB shaK (listB Ls.length (sumB shaK (mt Ls))))]), []⟩
  | _, _ => none
theorem vmerkleRoot : Valid Tryd.prog Gs 11 gmerkleRoot := by
  intro args H r h hp
  unfold gmerkleRoot at h
  split at h
  · simp only [Option.some.injEq] at h; subst h; exact okmerkleRoot _ hp
  · cases h
noncomputable def ct_merkleRoot : List (Nat × Ct) := (11, ⟨[], false, gmerkleRoot⟩) :: ct_merkletext
theorem ctok_merkleRoot : CtsOk Tryd.prog Gs ct_merkleRoot := CtsOk.cons vmerkleRoot (by kernel_rfl) ctok_merkletext
noncomputable def anR03Top (Ls : List (List Int)) : Nat → List Nat → Option Ann := fun _ _ => none
noncomputable def grR03Top (n_ : Nat) : Con := fun args H => match args, H with
  | [.a (.d (.sb Ls))], [] => some ⟨(Ls.length < n_) :: [∀ L ∈ Ls, OkB L, Ls.flatten.length + 300 ≤ lim, Ls.length < 1099511627776], .s (.agg [.ints .u8 32 (sumB shaK (mt Ls))]), []⟩
  | _, _ => none
noncomputable def ctr_R03Top (n_ : Nat) : List (Nat × Ct) := (20, ⟨[], false, grR03Top n_⟩) :: ct_merkleRoot
theorem okrR03Top (Ls : List (List Int)) (n_ : Nat) (hv_ : Valid Tryd.prog Gs 20 (grR03Top n_)) (hm_ : Ls.length < n_ + 1) (hp : allP [∀ L ∈ Ls, OkB L, Ls.flatten.length + 300 ≤ lim, Ls.length < 1099511627776]) : CallsOk Tryd.prog Gs 20 [.a (.d (.sb Ls))] [] (.s (.agg [.ints .u8 32 (sumB shaK (mt Ls))])) [] :=
  ok_of (ann := anR03Top Ls) (CtsOk.cons (c := ⟨[], false, grR03Top n_⟩) hv_ (by kernel_rfl) ctok_merkleRoot) mixed Tryd.func20 (by kernel_rfl) (of_nf (p := brP ((↑(List.length Ls) : Int) == (0 : Int)) ((0 : Nat) < List.length (List.set (List.set (List.set (List.set (List.replicate ((3 : Nat) + (1 : Nat)) (0 : Int)) ((0 : Nat) * (1 : Nat)) (110 : Int)) ((1 : Nat) * (1 : Nat)) (111 : Int)) ((2 : Nat) * (1 : Nat)) (110 : Int)) ((3 : Nat) * (1 : Nat)) (101 : Int)) ∧ List.length (joinB [List.set (List.set (List.set (List.set (List.replicate ((3 : Nat) + (1 : Nat)) (0 : Int)) ((0 : Nat) * (1 : Nat)) (110 : Int)) ((1 : Nat) * (1 : Nat)) (111 : Int)) ((2 : Nat) * (1 : Nat)) (110 : Int)) ((3 : Nat) * (1 : Nat)) (101 : Int)]) + (100 : Nat) ≤ lim ∧ OkB (joinB [List.set (List.set (List.set (List.set (List.replicate ((3 : Nat) + (1 : Nat)) (0 : Int)) ((0 : Nat) * (1 : Nat)) (110 : Int)) ((1 : Nat) * (1 : Nat)) (111 : Int)) ((2 : Nat) * (1 : Nat)) (110 : Int)) ((3 : Nat) * (1 : Nat)) (101 : Int)]) ∧ List.length (joinB [List.set (List.set (List.set (List.set (List.replicate ((3 : Nat) + (1 : Nat)) (0 : Int)) ((0 : Nat) * (1 : Nat)) (110 : Int)) ((1 : Nat) * (1 : Nat)) (111 : Int)) ((2 : Nat) * (1 : Nat)) (110 : Int)) ((3 : Nat) * (1 : Nat)) (101 : Int)]) + (100 : Nat) ≤ lim ∧ sumB shaK (joinB [List.set (List.set (List.set (List.set (List.replicate ((3 : Nat) + (1 : Nat)) (0 : Int)) ((0 : Nat) * (1 : Nat)) (110 : Int)) ((1 : Nat) * (1 : Nat)) (111 : Int)) ((2 : Nat) * (1 : Nat)) (110 : Int)) ((3 : Nat) * (1 : Nat)) (101 : Int)]) = sumB shaK (mt Ls) ∧ True) (brP ((↑(List.length Ls) : Int) == (1 : Int)) (((0 : Int) ≤ (0 : Int) ∧ (0 : Int) < (↑(List.length Ls) : Int)) ∧ List.length (List.getD Ls (Int.toNat (0 : Int)) []) + (200 : Nat) ≤ lim ∧ OkB (leafB (List.getD Ls (Int.toNat (0 : Int)) [])) ∧ List.length (leafB (List.getD Ls (Int.toNat (0 : Int)) [])) + (100 : Nat) ≤ lim ∧ sumB shaK (leafB (List.getD Ls (Int.toNat (0 : Int)) [])) = sumB shaK (mt Ls) ∧ True) ((2 : Int) ≤ (↑(List.length Ls) : Int) ∧ (↑(List.length Ls) : Int) < (9223372036854775808 : Int) ∧ ((0 : Int) ≤ (↑(halfN (Int.toNat (↑(List.length Ls) : Int))) : Int) ∧ (↑(halfN (Int.toNat (↑(List.length Ls) : Int))) : Int) ≤ (↑(List.length Ls) : Int)) ∧ List.length (cutL Ls none (some (IntKind.i64, (↑(halfN (Int.toNat (↑(List.length Ls) : Int))) : Int)))) < n_ ∧ (∀ (L : List Int), L ∈ cutL Ls none (some (IntKind.i64, (↑(halfN (Int.toNat (↑(List.length Ls) : Int))) : Int))) → OkB L) ∧ List.length (List.flatten (cutL Ls none (some (IntKind.i64, (↑(halfN (Int.toNat (↑(List.length Ls) : Int))) : Int))))) + (300 : Nat) ≤ lim ∧ List.length (cutL Ls none (some (IntKind.i64, (↑(halfN (Int.toNat (↑(List.length Ls) : Int))) : Int)))) < (1099511627776 : Nat) ∧ ((0 : Int) ≤ (↑(halfN (Int.toNat (↑(List.length Ls) : Int))) : Int) ∧ (↑(halfN (Int.toNat (↑(List.length Ls) : Int))) : Int) ≤ (↑(List.length Ls) : Int)) ∧ List.length (cutL Ls (some (IntKind.i64, (↑(halfN (Int.toNat (↑(List.length Ls) : Int))) : Int))) none) < n_ ∧ (∀ (L : List Int), L ∈ cutL Ls (some (IntKind.i64, (↑(halfN (Int.toNat (↑(List.length Ls) : Int))) : Int))) none → OkB L) ∧ List.length (List.flatten (cutL Ls (some (IntKind.i64, (↑(halfN (Int.toNat (↑(List.length Ls) : Int))) : Int))) none)) + (300 : Nat) ≤ lim ∧ List.length (cutL Ls (some (IntKind.i64, (↑(halfN (Int.toNat (↑(List.length Ls) : Int))) : Int))) none) < (1099511627776 : Nat) ∧ List.length (sumB shaK (mt (cutL Ls none (some (IntKind.i64, (↑(halfN (Int.toNat (↑(List.length Ls) : Int))) : Int)))))) = (32 : Nat) ∧ List.length (sumB shaK (mt (cutL Ls (some (IntKind.i64, (↑(halfN (Int.toNat (↑(List.length Ls) : Int))) : Int))) none))) = (32 : Nat) ∧ OkB (nodeB (sumB shaK (mt (cutL Ls none (some (IntKind.i64, (↑(halfN (Int.toNat (↑(List.length Ls) : Int))) : Int)))))) (sumB shaK (mt (cutL Ls (some (IntKind.i64, (↑(halfN (Int.toNat (↑(List.length Ls) : Int))) : Int))) none)))) ∧ List.length (nodeB (sumB shaK (mt (cutL Ls none (some (IntKind.i64, (↑(halfN (Int.toNat (↑(List.length Ls) : Int))) : Int)))))) (sumB shaK (mt (cutL Ls (some (IntKind.i64, (↑(halfN (Int.toNat (↑(List.length Ls) : Int))) : Int))) none)))) + (100 : Nat) ≤ lim ∧ sumB shaK (nodeB (sumB shaK (mt (cutL Ls none (some (IntKind.i64, (↑(halfN (Int.toNat (↑(List.length Ls) : Int))) : Int)))))) (sumB shaK (mt (cutL Ls (some (IntKind.i64, (↑(halfN (Int.toNat (↑(List.length Ls) : Int))) : Int))) none)))) = sumB shaK (mt Ls) ∧ True))) (by kernel_rfl) (by
    obtain ⟨ho, hl, hn, _⟩ := hp
    have hlim : lim = 68719476736 := rfl
    have nl : (joinB [[110, 111, 110, 101]]).length = 20 := rfl
    rw [Int.toNat_natCast]
    have c1 : cutL Ls none (some (IntKind.i64, ((halfN Ls.length : Nat) : Int))) = Ls.take (halfN Ls.length) := rfl
    have c2 : cutL Ls (some (IntKind.i64, ((halfN Ls.length : Nat) : Int))) none = Ls.drop (halfN Ls.length) := rfl
    rw [c1, c2]
    have f1 := flat_take Ls (halfN Ls.length)
    have f2 := flat_drop Ls (halfN Ls.length)
    have o1 : ∀ L ∈ Ls.take (halfN Ls.length), OkB L := fun L hL => ho L (List.mem_of_mem_take hL)
    have o2 : ∀ L ∈ Ls.drop (halfN Ls.length), OkB L := fun L hL => ho L (List.mem_of_mem_drop hL)
    refine brI (fun hc => ?_) (fun hc => brI (fun hd => ?_) (fun hd => ?_))
    · have hc : Ls.length = 0 := by have := beq_iff_eq.1 hc; omega
      obtain rfl : Ls = [] := List.eq_nil_of_length_eq_zero hc
      exact ⟨by decide, (show (joinB [[110, 111, 110, 101]]).length + 100 ≤ lim by omega), noneB_ok, (show (joinB [[110, 111, 110, 101]]).length + 100 ≤ lim by omega), rfl, trivial⟩
    · have hd : Ls.length = 1 := by have := beq_iff_eq.1 hd; omega
      match Ls, hd with
      | [x], _ =>
        have := flat_mem (l := [x]) (L := x) (by simp)
        have e := leafB_len x
        exact ⟨by simp, (show x.length + 200 ≤ lim by omega), leafB_ok (ho x (by simp)), (show (leafB x).length + 100 ≤ lim by omega), rfl, trivial⟩
    · have hc := beq_eq_false_iff_ne.1 hc
      have hd := beq_eq_false_iff_ne.1 hd
      have h2 : 2 ≤ Ls.length := by omega
      have hs := halfN_spec h2
      have l1 : (Ls.take (halfN Ls.length)).length = halfN Ls.length := by rw [List.length_take]; omega
      have l2 : (Ls.drop (halfN Ls.length)).length = Ls.length - halfN Ls.length := List.length_drop
      have e := nodeB_len (sumB_len shaK (mt (Ls.take (halfN Ls.length)))) (sumB_len shaK (mt (Ls.drop (halfN Ls.length))))
      exact ⟨by omega, by omega, by omega, by omega, o1, by omega, by omega, by omega, by omega, o2, by omega, by omega, sumB_len _ _, sumB_len _ _, nodeB_ok (sumB_ok _) (sumB_ok _), by omega, by rw [mt_two h2], trivial⟩))
theorem vrR03Top : ∀ n_, Valid Tryd.prog Gs 20 (grR03Top n_)
  | 0 => by
    intro args H r h hp
    unfold grR03Top at h
    split at h
    · simp only [Option.some.injEq] at h; subst h; exact absurd hp.1 (Nat.not_lt_zero _)
    · cases h
  | n_ + 1 => by
    intro args H r h hp
    unfold grR03Top at h
    split at h
    · simp only [Option.some.injEq] at h; subst h; exact okrR03Top _ n_ (vrR03Top n_) hp.1 hp.2
    · cases h
theorem okR03Top (Ls : List (List Int)) (hp : allP [∀ L ∈ Ls, OkB L, Ls.flatten.length + 300 ≤ lim, Ls.length < 1099511627776]) : CallsOk Tryd.prog Gs 20 [.a (.d (.sb Ls))] [] (.s (.agg [.ints .u8 32 (sumB shaK (mt Ls))])) [] := okrR03Top Ls (Ls.length) (vrR03Top _) (Nat.lt_succ_self _) hp
noncomputable def gR03Top : Con := fun args H => match args, H with
  | [.a (.d (.sb Ls))], [] => some ⟨[∀ L ∈ Ls, OkB L, Ls.flatten.length + 300 ≤ lim, Ls.length < 1099511627776], .s (.agg [.ints .u8 32 (sumB shaK (mt Ls))]), []⟩
  | _, _ => none
theorem vR03Top : Valid Tryd.prog Gs 20 gR03Top := by
  intro args H r h hp
  unfold gR03Top at h
  split at h
  · simp only [Option.some.injEq] at h; subst h; exact okR03Top _ hp
  · cases h
noncomputable def ct_R03Top : List (Nat × Ct) := (20, ⟨[], false, gR03Top⟩) :: ct_merkleRoot
theorem ctok_R03Top : CtsOk Tryd.prog Gs ct_R03Top := CtsOk.cons vR03Top (by kernel_rfl) ctok_merkleRoot
noncomputable def anR03Root (Ls : List (List Int)) : Nat → List Nat → Option Ann := fun _ _ => none
theorem okR03Root (Ls : List (List Int)) (hp : allP [∀ L ∈ Ls, OkB L, Ls.flatten.length + 300 ≤ lim, Ls.length < 1099511627776]) : CallsOk Tryd.prog Gs 12 [.a (.d (.sb Ls))] [] (.s (.agg [.ints .u8 32 (sumB shaK (listB Ls.length (sumB shaK (mt Ls))))])) [] :=
  ok_of (ann := anR03Root Ls) ctok_R03Top mixed Tryd.func12 (by kernel_rfl) (of_nf (p := (∀ (L : List Int), L ∈ Ls → OkB L) ∧ List.length (List.flatten Ls) + (300 : Nat) ≤ lim ∧ List.length Ls < (1099511627776 : Nat) ∧ (0 : Int) ≤ (↑(List.length Ls) : Int) ∧ (↑(List.length Ls) : Int) < (9223372036854775808 : Int) ∧ List.length (sumB shaK (mt Ls)) = (32 : Nat) ∧ OkB (listB (↑(List.length Ls) : Int) (sumB shaK (mt Ls))) ∧ List.length (listB (↑(List.length Ls) : Int) (sumB shaK (mt Ls))) + (100 : Nat) ≤ lim ∧ sumB shaK (listB (↑(List.length Ls) : Int) (sumB shaK (mt Ls))) = sumB shaK (listB (↑(List.length Ls) : Int) (sumB shaK (mt Ls))) ∧ True) (by kernel_rfl) (by
    obtain ⟨ho, hl, hn, _⟩ := hp
    have hlim : lim = 68719476736 := rfl
    have e := listB_len (n := (Ls.length : Int)) (sumB_len shaK (mt Ls))
    exact ⟨ho, hl, hn, by omega, by omega, sumB_len _ _, listB_ok (sumB_ok _), by omega, rfl, trivial⟩))
noncomputable def gR03Root : Con := fun args H => match args, H with
  | [.a (.d (.sb Ls))], [] => some ⟨[∀ L ∈ Ls, OkB L, Ls.flatten.length + 300 ≤ lim, Ls.length < 1099511627776], .s (.agg [.ints .u8 32 (sumB shaK (listB Ls.length (sumB shaK (mt Ls))))]), []⟩
  | _, _ => none
theorem vR03Root : Valid Tryd.prog Gs 12 gR03Root := by
  intro args H r h hp
  unfold gR03Root at h
  split at h
  · simp only [Option.some.injEq] at h; subst h; exact okR03Root _ hp
  · cases h
noncomputable def ct_R03Root : List (Nat × Ct) := (12, ⟨[], false, gR03Root⟩) :: ct_R03Top
theorem ctok_R03Root : CtsOk Tryd.prog Gs ct_R03Root := CtsOk.cons vR03Root (by kernel_rfl) ctok_R03Top
end Go.Proofs.YtamlmlihfpkjaaaDoor
