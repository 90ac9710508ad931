/- Merkle paths: which side comes first. -/
import Derived.Test.YtamlmlihfpkjaaaDoorYaN
import Derived.Test.YtamlmlihfpkjaaaDoorDxLst
namespace Go.Proofs.YtamlmlihfpkjaaaDoor
open Go.Dx Go.RowKit
set_option linter.unusedVariables false
set_option linter.unusedSimpArgs false
set_option maxRecDepth 100000
noncomputable def anbytesEqual (A B : List Int) : Nat → List Nat → Option Ann := fun _ _ => none
theorem okbytesEqual (A B : List Int) (hp : allP [OkB A, OkB B]) : CallsOk Tryd.prog Gs 30 [.a (.d (.si .u8 A)), .a (.d (.si .u8 B))] [] (eB (decide (A = B))) [] :=
  ok_of (ann := anbytesEqual A B) ctok_R03Root mixed Tryd.func30 (by kernel_rfl) (of_nf (p := (ByteArray.toList (strOfNums A) == ByteArray.toList (strOfNums B)) = decide (A = B) ∧ True) (by kernel_rfl) (by
    obtain ⟨hA, hB, _⟩ := hp
    exact ⟨strOf_eq hA hB, trivial⟩))
noncomputable def gbytesEqual : Con := fun args H => match args, H with
  | [.a (.d (.si .u8 A)), .a (.d (.si .u8 B))], [] => some ⟨[OkB A, OkB B], eB (decide (A = B)), []⟩
  | _, _ => none
theorem vbytesEqual : Valid Tryd.prog Gs 30 gbytesEqual := by
  intro args H r h hp
  unfold gbytesEqual at h
  split at h
  · simp only [Option.some.injEq] at h; subst h; exact okbytesEqual _ _ hp
  · cases h
noncomputable def ct_bytesEqual : List (Nat × Ct) := (30, ⟨[], false, gbytesEqual⟩) :: ct_R03Root
theorem ctok_bytesEqual : CtsOk Tryd.prog Gs ct_bytesEqual := CtsOk.cons vbytesEqual (by kernel_rfl) ctok_R03Root
noncomputable def anslicesReverseboolbool (n : Nat) (B : Nat → Bool) : Nat → List Nat → Option Ann := fun bk_ gs_ => match bk_, gs_ with
    | 0, _ => some { τ := Nat, J := fun t => 2 * t ≤ n, m := fun t => n - 2 * t, l := fun t => [(0, .s (.a (.rw 100000))), (2, eI .i64 t), (3, eI .i64 ((n : Int) - 1 - t))], H := fun t => [(100000, .row (.st 1 n (fC bE (rvF n t B))) 4)] }
    | _, _ => none
theorem okslicesReverseboolbool (n : Nat) (B : Nat → Bool) (hp : allP [n ≤ 1099511627776]) : CallsOk Tryd.prog Gs 53 [.a (.rw 100000)] [(100000, .row (.st 1 n (fC bE (B))) 4)] (.t []) [(100000, .row (.st 1 n (fC bE (fun i => B (n - 1 - i)))) 4)] :=
  ok_of (ann := anslicesReverseboolbool n B) ctok_bytesEqual mixed Tryd.func53 (by kernel_rfl) (of_nf (p := (∃ (t : Nat), (0 : Int) = (↑t : Int) ∧ IntKind.wrap IntKind.i64 ((↑(Cont.len (Cont.st (1 : Nat) n (fC bE B))) : Int) - (1 : Int)) = (↑n : Int) - (1 : Int) - (↑t : Int) ∧ n = n ∧ (∀ (i : Nat), i < n → fC bE B i = fC bE (rvF n t B) i) ∧ (2 : Nat) * t ≤ n ∧ True) ∧ ∀ (t : Nat), (2 : Nat) * t ≤ n → brP (decide ((↑t : Int) < (↑n : Int) - (1 : Int) - (↑t : Int))) (((0 : Int) ≤ (↑n : Int) - (1 : Int) - (↑t : Int) ∧ (↑n : Int) - (1 : Int) - (↑t : Int) < (↑(Cont.len (Cont.st (1 : Nat) n (fC bE (rvF n t B)))) : Int)) ∧ ((0 : Int) ≤ (↑t : Int) ∧ (↑t : Int) < (↑(Cont.len (Cont.st (1 : Nat) n (fC bE (rvF n t B)))) : Int)) ∧ ((0 : Int) ≤ (↑t : Int) ∧ (↑t : Int) < (↑(Cont.len (Cont.st (1 : Nat) n (fC bE (rvF n t B)))) : Int)) ∧ ((0 : Int) ≤ (↑n : Int) - (1 : Int) - (↑t : Int) ∧ (↑n : Int) - (1 : Int) - (↑t : Int) < (↑(Cont.len (Cont.st (1 : Nat) n (bumpF (fC bE (rvF n t B)) (Int.toNat (↑t : Int)) [DC.one (D.v (Value.bool (rvF n t B (Int.toNat ((↑n : Int) - (1 : Int) - (↑t : Int))))))]))) : Int)) ∧ ∃ (t' : Nat), IntKind.wrap IntKind.i64 ((↑t : Int) + (1 : Int)) = (↑t' : Int) ∧ IntKind.wrap IntKind.i64 ((↑n : Int) - (1 : Int) - (↑t : Int) - (1 : Int)) = (↑n : Int) - (1 : Int) - (↑t' : Int) ∧ n = n ∧ (∀ (i : Nat), i < n → bumpF (bumpF (fC bE (rvF n t B)) (Int.toNat (↑t : Int)) [DC.one (D.v (Value.bool (rvF n t B (Int.toNat ((↑n : Int) - (1 : Int) - (↑t : Int))))))]) (Int.toNat ((↑n : Int) - (1 : Int) - (↑t : Int))) [DC.one (D.v (Value.bool (rvF n t B (Int.toNat (↑t : Int)))))] i = fC bE (rvF n t' B) i) ∧ (2 : Nat) * t' ≤ n ∧ n - (2 : Nat) * t' < n - (2 : Nat) * t ∧ True) (n = n ∧ (∀ (i : Nat), i < n → fC bE (rvF n t B) i = fC bE (fun (i : Nat) => B (n - (1 : Nat) - i)) i) ∧ True)) (by kernel_rfl) (by
    obtain ⟨hn, _⟩ := hp
    have l1 : ∀ c, Cont.len (.st 1 n c) = n := fun c => rfl
    refine ⟨⟨0, rfl, by rw [l1, wi _ (by omega) (by omega)]; omega, rfl, fun i hi => ?_, by omega, trivial⟩, fun t ht => brI (fun hc => ?_) (fun hc => ?_)⟩
    · simp only [fC, rvF, Nat.not_lt_zero, false_or]
      rw [if_neg (by omega)]
    · have hc : t < n - 1 - t := by have := of_decide_eq_true hc; omega
      have e1 : Int.toNat ((n : Int) - 1 - (t : Int)) = n - 1 - t := by omega
      have e2 : Int.toNat (t : Int) = t := Int.toNat_natCast t
      rw [l1, l1, e1, e2]
      refine ⟨by omega, by omega, by omega, by omega, t + 1, ?_, ?_, rfl, fun i hi => ?_, by omega, by omega, trivial⟩
      · rw [wi _ (by omega) (by omega)]; rfl
      · rw [wi _ (by omega) (by omega)]; push_cast; omega
      · have e3 := fC_set (f := bE) (rvF n t B) t (rvF n t B (n - 1 - t))
        have e4 := fC_set (f := bE) (fun i => if i = t then rvF n t B (n - 1 - t) else rvF n t B i) (n - 1 - t) (rvF n t B t)
        refine (congrFun ((congrArg (fun c => bumpF c _ _) e3).trans e4) i).trans ?_
        simp only [fC]; rw [rv_step hc hi]
    · have hc : ¬ t < n - 1 - t := by have := of_decide_eq_false hc; omega
      exact ⟨rfl, fun i hi => by simp only [fC]; rw [rv_end hc hi ht], trivial⟩))
noncomputable def gslicesReverseboolbool : Con := fun args H => match args, H with
  | [.a (.rw 100000)], [(100000, .row (.st 1 n c) 4)] => (fun (n : Nat) (B : Nat → Bool) => conC args H [.a (.rw 100000)] [(100000, .row (.st 1 n (fC bE (B))) 4)] ⟨[n ≤ 1099511627776], .t [], [(100000, .row (.st 1 n (fC bE (fun i => B (n - 1 - i)))) 4)]⟩) (n) (fun i => bG (c i))
  | _, _ => none
theorem vslicesReverseboolbool : Valid Tryd.prog Gs 53 gslicesReverseboolbool := by
  intro args H r h hp
  unfold gslicesReverseboolbool at h
  split at h
  · rename_i n c
    exact conC_ok h hp fun hp => okslicesReverseboolbool (n) (fun i => bG (c i)) hp
  · cases h
noncomputable def ct_slicesReverseboolbool : List (Nat × Ct) := (53, ⟨[true], false, gslicesReverseboolbool⟩) :: ct_bytesEqual
theorem ctok_slicesReverseboolbool : CtsOk Tryd.prog Gs ct_slicesReverseboolbool := CtsOk.cons vslicesReverseboolbool (by kernel_rfl) ctok_bytesEqual
/-- Which side comes first, from the root on. -/
def sdx : Nat → Nat → Nat → List Bool
  | 0, _, _ => []
  | f + 1, n, i => if n ≤ 1 then [] else if i < halfN n then true :: sdx f (halfN n) i else false :: sdx f (n - halfN n) (i - halfN n)
def sd (n i : Nat) : List Bool := sdx n n i
theorem sdx_fuel : ∀ (f g n i : Nat), n ≤ f → n ≤ g → sdx f n i = sdx g n i
  | 0, 0, n, i, _, _ => rfl
  | 0, g + 1, n, i, h, _ => by simp only [sdx]; rw [if_pos (by omega)]
  | f + 1, 0, n, i, _, h => by simp only [sdx]; rw [if_pos (by omega)]
  | f + 1, g + 1, n, i, h, h' => by
    simp only [sdx]
    by_cases hn : n ≤ 1
    · rw [if_pos hn, if_pos hn]
    · have hs := halfN_spec (n := n) (by omega)
      rw [if_neg hn, if_neg hn, sdx_fuel f g (halfN n) i (by omega) (by omega), sdx_fuel f g (n - halfN n) _ (by omega) (by omega)]
theorem sd_one {n : Nat} (h : n ≤ 1) (i : Nat) : sd n i = [] := by
  unfold sd
  cases n with
  | zero => rfl
  | succ n => simp only [sdx]; rw [if_pos h]
theorem sd_two {n : Nat} (h : 2 ≤ n) (i : Nat) : sd n i = if i < halfN n then true :: sd (halfN n) i else false :: sd (n - halfN n) (i - halfN n) := by
  have hs := halfN_spec h
  unfold sd
  match n, h with
  | n + 1, h =>
    simp only [sdx]
    rw [if_neg (by omega), sdx_fuel n (halfN (n + 1)) _ _ (by omega) (Nat.le_refl _), sdx_fuel n (n + 1 - halfN (n + 1)) _ _ (by omega) (Nat.le_refl _)]
theorem sd_len : ∀ (k n i : Nat), n ≤ 2 ^ k → (sd n i).length ≤ k
  | 0, n, i, h => by rw [sd_one (by simpa using h)]; exact Nat.le_refl _
  | k + 1, n, i, h => by
    by_cases hn : n ≤ 1
    · rw [sd_one hn]; exact Nat.zero_le _
    · have hs := halfN_spec (n := n) (by omega)
      rw [sd_two (by omega)]
      rw [Nat.pow_succ] at h
      have hh : halfN n ≤ 2 ^ k := by
        unfold halfN
        have h1 : Nat.log2 (n - 1) < k + 1 := (Nat.log2_lt (by omega)).2 (by rw [Nat.pow_succ]; omega)
        exact Nat.pow_le_pow_right (by decide) (by omega)
      split
      · have := sd_len k (halfN n) i hh
        simp only [List.length_cons]; omega
      · have := sd_len k (n - halfN n) (i - halfN n) (by omega)
        simp only [List.length_cons]; omega

noncomputable def anmerklesides (n i : Int) : Nat → List Nat → Option Ann := fun bk_ gs_ => match bk_, gs_ with
    | 0, _ => some { τ := List Bool × Nat × Nat, J := fun g => g.1 ++ sd g.2.1 g.2.2 = sd n.toNat i.toNat ∧ g.2.2 < g.2.1 ∧ g.2.1 ≤ n.toNat, m := fun g => g.2.1, l := fun g => [(0, eI .i64 (g.2.1 : Int)), (1, eI .i64 (g.2.2 : Int)), (5, .s (.a (.rw 5)))], H := fun g => [(5, .row (.st 1 g.1.length (lC bE false g.1)) 4)] }
    | _, _ => none
theorem okmerklesides (n i : Int) (hp : allP [0 ≤ i, i < n, n < 9223372036854775808]) : CallsOk Tryd.prog Gs 46 [.a (.d (.v (.int .i64 n))), .a (.d (.v (.int .i64 i)))] [] (.s (.a (.rw 0))) [(0, .row (.st 1 (sd n.toNat i.toNat).length (lC bE false (sd n.toNat i.toNat).reverse)) 4)] :=
  ok_of (ann := anmerklesides n i) ctok_slicesReverseboolbool mixed Tryd.func46 (by kernel_rfl) (of_nf (p := (∃ (t : List Bool × Nat × Nat), n = (↑(Prod.fst (Prod.snd t)) : Int) ∧ i = (↑(Prod.snd (Prod.snd t)) : Int) ∧ (0 : Nat) = List.length (Prod.fst t) ∧ (∀ (i : Nat), i < List.length (Prod.fst t) → lC bE false (Prod.fst t) i = lC bE false (Prod.fst t) i) ∧ (Prod.fst t ++ sd (Prod.fst (Prod.snd t)) (Prod.snd (Prod.snd t)) = sd (Int.toNat n) (Int.toNat i) ∧ Prod.snd (Prod.snd t) < Prod.fst (Prod.snd t) ∧ Prod.fst (Prod.snd t) ≤ Int.toNat n) ∧ True) ∧ ∀ (t : List Bool × Nat × Nat), Prod.fst t ++ sd (Prod.fst (Prod.snd t)) (Prod.snd (Prod.snd t)) = sd (Int.toNat n) (Int.toNat i) ∧ Prod.snd (Prod.snd t) < Prod.fst (Prod.snd t) ∧ Prod.fst (Prod.snd t) ≤ Int.toNat n → brP (decide ((↑(Prod.fst (Prod.snd t)) : Int) > (1 : Int))) ((2 : Int) ≤ (↑(Prod.fst (Prod.snd t)) : Int) ∧ (↑(Prod.fst (Prod.snd t)) : Int) < (9223372036854775808 : Int) ∧ Cont.len (Cont.st (1 : Nat) (List.length (Prod.fst t)) (lC bE false (Prod.fst t))) + Cont.len (Cont.st (1 : Nat) (1 : Nat) fun (i : Nat) => List.getD [[DC.one (D.v (Value.bool (decide ((↑(Prod.snd (Prod.snd t)) : Int) < (↑(halfN (Int.toNat (↑(Prod.fst (Prod.snd t)) : Int))) : Int)))))]] i []) ≤ lim ∧ brP (decide ((↑(Prod.snd (Prod.snd t)) : Int) < (↑(halfN (Int.toNat (↑(Prod.fst (Prod.snd t)) : Int))) : Int))) (∃ (t' : List Bool × Nat × Nat), (↑(halfN (Int.toNat (↑(Prod.fst (Prod.snd t)) : Int))) : Int) = (↑(Prod.fst (Prod.snd t')) : Int) ∧ (↑(Prod.snd (Prod.snd t)) : Int) = (↑(Prod.snd (Prod.snd t')) : Int) ∧ List.length (Prod.fst t) + (1 : Nat) = List.length (Prod.fst t') ∧ (∀ (i : Nat), i < List.length (Prod.fst t') → catF (List.length (Prod.fst t)) (lC bE false (Prod.fst t)) (fun (i : Nat) => List.getD [[DC.one (D.v (Value.bool (decide ((↑(Prod.snd (Prod.snd t)) : Int) < (↑(halfN (Int.toNat (↑(Prod.fst (Prod.snd t)) : Int))) : Int)))))]] i []) i = lC bE false (Prod.fst t') i) ∧ (Prod.fst t' ++ sd (Prod.fst (Prod.snd t')) (Prod.snd (Prod.snd t')) = sd (Int.toNat n) (Int.toNat i) ∧ Prod.snd (Prod.snd t') < Prod.fst (Prod.snd t') ∧ Prod.fst (Prod.snd t') ≤ Int.toNat n) ∧ Prod.fst (Prod.snd t') < Prod.fst (Prod.snd t) ∧ True) (∃ (t' : List Bool × Nat × Nat), IntKind.wrap IntKind.i64 ((↑(Prod.fst (Prod.snd t)) : Int) - (↑(halfN (Int.toNat (↑(Prod.fst (Prod.snd t)) : Int))) : Int)) = (↑(Prod.fst (Prod.snd t')) : Int) ∧ IntKind.wrap IntKind.i64 ((↑(Prod.snd (Prod.snd t)) : Int) - (↑(halfN (Int.toNat (↑(Prod.fst (Prod.snd t)) : Int))) : Int)) = (↑(Prod.snd (Prod.snd t')) : Int) ∧ List.length (Prod.fst t) + (1 : Nat) = List.length (Prod.fst t') ∧ (∀ (i : Nat), i < List.length (Prod.fst t') → catF (List.length (Prod.fst t)) (lC bE false (Prod.fst t)) (fun (i : Nat) => List.getD [[DC.one (D.v (Value.bool (decide ((↑(Prod.snd (Prod.snd t)) : Int) < (↑(halfN (Int.toNat (↑(Prod.fst (Prod.snd t)) : Int))) : Int)))))]] i []) i = lC bE false (Prod.fst t') i) ∧ (Prod.fst t' ++ sd (Prod.fst (Prod.snd t')) (Prod.snd (Prod.snd t')) = sd (Int.toNat n) (Int.toNat i) ∧ Prod.snd (Prod.snd t') < Prod.fst (Prod.snd t') ∧ Prod.fst (Prod.snd t') ≤ Int.toNat n) ∧ Prod.fst (Prod.snd t') < Prod.fst (Prod.snd t) ∧ True)) (List.length (Prod.fst t) = List.length (Prod.fst t) ∧ (∀ (i : Nat), i < List.length (Prod.fst t) → lC bE false (Prod.fst t) i = fC bE (fun (i : Nat) => bG (lC bE false (Prod.fst t) i)) i) ∧ List.length (Prod.fst t) ≤ (1099511627776 : Nat) ∧ List.length (Prod.fst t) = List.length (sd (Int.toNat n) (Int.toNat i)) ∧ (∀ (i_1 : Nat), i_1 < List.length (sd (Int.toNat n) (Int.toNat i)) → fC bE (fun (i : Nat) => bG (lC bE false (Prod.fst t) (List.length (Prod.fst t) - (1 : Nat) - i))) i_1 = lC bE false (List.reverse (sd (Int.toNat n) (Int.toNat i))) i_1) ∧ True)) (by kernel_rfl) (by
    obtain ⟨h0, h1, h2, _⟩ := hp
    refine ⟨⟨([], n.toNat, i.toNat), by show n = ((n.toNat : Nat) : Int); omega, by show i = ((i.toNat : Nat) : Int); omega, rfl, (fun j hj => rfl), ⟨rfl, (show i.toNat < n.toNat by omega), Nat.le_refl _⟩, trivial⟩, ?_⟩
    rintro ⟨d, m, j⟩ ⟨hd, hj, hm⟩
    dsimp only at hd hj hm ⊢
    have hl : d.length ≤ 63 := by
      have e := congrArg List.length hd
      rw [List.length_append] at e
      have := sd_len 63 n.toNat i.toNat (show n.toNat ≤ 9223372036854775808 by omega)
      omega
    have hlim : lim = 68719476736 := rfl
    rw [Int.toNat_natCast]
    refine brI (fun hc => ?_) (fun hc => ?_)
    · have hc : 2 ≤ m := by have := of_decide_eq_true hc; omega
      have hs := halfN_spec hc
      have e := sd_two hc j
      refine ⟨by omega, by omega, (show d.length + 1 ≤ lim by omega), brI (fun hk => ?_) (fun hk => ?_)⟩
      · have hk' : j < halfN m := by have := of_decide_eq_true hk; omega
        rw [if_pos hk'] at e
        refine ⟨(d ++ [true], halfN m, j), rfl, rfl, by simp, fun i hi => ?_, ⟨?_, hk', by simp only; omega⟩, by simp only; omega, trivial⟩
        · exact lC_snoc d true (by rw [hk]; rfl) i (by simpa using hi)
        · simp only [List.append_assoc, List.cons_append, List.nil_append]; rw [← e]; exact hd
      · have hk' : ¬ j < halfN m := by have := of_decide_eq_false hk; omega
        rw [if_neg hk'] at e
        refine ⟨(d ++ [false], m - halfN m, j - halfN m), ?_, ?_, by simp, fun i hi => ?_, ⟨?_, by simp only; omega, by simp only; omega⟩, by simp only; omega, trivial⟩
        · simp only; rw [wi _ (by omega) (by omega)]; omega
        · simp only; rw [wi _ (by omega) (by omega)]; omega
        · exact lC_snoc d false (by rw [hk]; rfl) i (by simpa using hi)
        · simp only [List.append_assoc, List.cons_append, List.nil_append]; rw [← e]; exact hd
    · have hc : m ≤ 1 := by have := of_decide_eq_false hc; omega
      rw [sd_one hc, List.append_nil] at hd
      subst hd
      exact ⟨rfl, (fun i hi => rfl), by omega, rfl, fun k hk => lC_rev _ bG_bE k hk, trivial⟩))
noncomputable def gmerklesides : Con := fun args H => match args, H with
  | [.a (.d (.v (.int .i64 n))), .a (.d (.v (.int .i64 i)))], [] => some ⟨[0 ≤ i, i < n, n < 9223372036854775808], .s (.a (.rw 0)), [(0, .row (.st 1 (sd n.toNat i.toNat).length (lC bE false (sd n.toNat i.toNat).reverse)) 4)]⟩
  | _, _ => none
theorem vmerklesides : Valid Tryd.prog Gs 46 gmerklesides := by
  intro args H r h hp
  unfold gmerklesides at h
  split at h
  · simp only [Option.some.injEq] at h; subst h; exact okmerklesides _ _ hp
  · cases h
noncomputable def ct_merklesides : List (Nat × Ct) := (46, ⟨[], false, gmerklesides⟩) :: ct_slicesReverseboolbool
theorem ctok_merklesides : CtsOk Tryd.prog Gs ct_merklesides := CtsOk.cons vmerklesides (by kernel_rfl) ctok_slicesReverseboolbool
/-- A path, from the element outwards. -/
def pvx : Nat → List (List Int) → Nat → List (List Int)
  | 0, _, _ => []
  | f + 1, l, i => if l.length ≤ 1 then [] else if i < halfN l.length then pvx f (l.take (halfN l.length)) i ++ [sumB shaK (mt (l.drop (halfN l.length)))] else pvx f (l.drop (halfN l.length)) (i - halfN l.length) ++ [sumB shaK (mt (l.take (halfN l.length)))]
def pv (l : List (List Int)) (i : Nat) : List (List Int) := pvx l.length l i
theorem half_len {l : List (List Int)} (h : 2 ≤ l.length) : (l.take (halfN l.length)).length = halfN l.length ∧ (l.drop (halfN l.length)).length = l.length - halfN l.length := by
  have hs := halfN_spec h
  exact ⟨by rw [List.length_take]; omega, List.length_drop⟩
theorem pvx_fuel : ∀ (f g : Nat) (l : List (List Int)) (i : Nat), l.length ≤ f → l.length ≤ g → pvx f l i = pvx g l i
  | 0, 0, l, i, _, _ => rfl
  | 0, g + 1, l, i, h, _ => by simp only [pvx]; rw [if_pos (by omega)]
  | f + 1, 0, l, i, _, h => by simp only [pvx]; rw [if_pos (by omega)]
  | f + 1, g + 1, l, i, h, h' => by
    simp only [pvx]
    by_cases hn : l.length ≤ 1
    · rw [if_pos hn, if_pos hn]
    · have hs := halfN_spec (n := l.length) (by omega)
      obtain ⟨h1, h2⟩ := half_len (l := l) (by omega)
      rw [if_neg hn, if_neg hn, pvx_fuel f g (l.take _) i (by omega) (by omega), pvx_fuel f g (l.drop _) _ (by omega) (by omega)]
theorem pv_one {l : List (List Int)} (h : l.length ≤ 1) (i : Nat) : pv l i = [] := by
  unfold pv
  match hl : l.length with
  | 0 => rfl
  | n + 1 => simp only [pvx]; rw [if_pos h]
theorem pv_two {l : List (List Int)} (h : 2 ≤ l.length) (i : Nat) : pv l i = if i < halfN l.length then pv (l.take (halfN l.length)) i ++ [sumB shaK (mt (l.drop (halfN l.length)))] else pv (l.drop (halfN l.length)) (i - halfN l.length) ++ [sumB shaK (mt (l.take (halfN l.length)))] := by
  have hs := halfN_spec h
  obtain ⟨h1, h2⟩ := half_len h
  have e : pvx l.length l i = pvx ((l.length - 1) + 1) l i := by rw [show l.length - 1 + 1 = l.length by omega]
  unfold pv
  rw [e]
  simp only [pvx]
  rw [if_neg (by omega), pvx_fuel (l.length - 1) _ (l.take _) i (by omega) (Nat.le_refl _), pvx_fuel (l.length - 1) _ (l.drop _) _ (by omega) (Nat.le_refl _)]
theorem pv_len : ∀ (k : Nat) (l : List (List Int)) (i : Nat), l.length ≤ k → (pv l i).length = (sd l.length i).length
  | 0, l, i, h => by rw [pv_one (by omega), sd_one (by omega)]; rfl
  | k + 1, l, i, h => by
    by_cases hn : l.length ≤ 1
    · rw [pv_one hn, sd_one hn]; rfl
    · have hs := halfN_spec (n := l.length) (by omega)
      obtain ⟨h1, h2⟩ := half_len (l := l) (by omega)
      rw [pv_two (by omega), sd_two (by omega)]
      split
      · rw [List.length_append, pv_len k _ i (by omega), h1]; simp
      · rw [List.length_append, pv_len k _ _ (by omega), h2]; simp
theorem pv_le {l : List (List Int)} {i : Nat} (h : l.length < 1099511627776) : (pv l i).length ≤ 40 := by
  rw [pv_len l.length l i (Nat.le_refl _)]
  exact sd_len 40 _ _ (by omega)

noncomputable def anmerkleProve1 (Ls : List (List Int)) (i : Int) : Nat → List Nat → Option Ann := fun _ _ => none
noncomputable def grmerkleProve1 (n_ : Nat) : Con := fun args H => match args, H with
  | [.a (.d (.sb Ls)), .a (.d (.v (.int .i64 i))), .a (.lp 100001 0), .a (.lp 100000 0)], [(100000, .cells [.one (.d (.v (.slice none 0 0)))] 24), (100001, .cells [.one (.fn (.func 22) [(100001, 0), (100000, 0)])] 43)] => some ⟨(Ls.length < n_) :: [∀ L ∈ Ls, OkB L, Ls.flatten.length + 300 ≤ lim, Ls.length < 1099511627776, 0 ≤ i, i < Ls.length], .t [], [(0, .row (.st 32 (pv Ls i.toNat).length (lC dE [] (pv Ls i.toNat))) 28), (100000, .cells [.one (.rw 0)] 24), (100001, .cells [.one (.fn (.func 22) [(100001, 0), (100000, 0)])] 43)]⟩
  | _, _ => none
noncomputable def ctr_merkleProve1 (n_ : Nat) : List (Nat × Ct) := (22, ⟨[false, false, true, true], false, grmerkleProve1 n_⟩) :: ct_merklesides
theorem okrmerkleProve1 (Ls : List (List Int)) (i : Int) (n_ : Nat) (hv_ : Valid Tryd.prog Gs 22 (grmerkleProve1 n_)) (hm_ : Ls.length < n_ + 1) (hp : allP [∀ L ∈ Ls, OkB L, Ls.flatten.length + 300 ≤ lim, Ls.length < 1099511627776, 0 ≤ i, i < Ls.length]) : CallsOk Tryd.prog Gs 22 [.a (.d (.sb Ls)), .a (.d (.v (.int .i64 i))), .a (.lp 100001 0), .a (.lp 100000 0)] [(100000, .cells [.one (.d (.v (.slice none 0 0)))] 24), (100001, .cells [.one (.fn (.func 22) [(100001, 0), (100000, 0)])] 43)] (.t []) [(0, .row (.st 32 (pv Ls i.toNat).length (lC dE [] (pv Ls i.toNat))) 28), (100000, .cells [.one (.rw 0)] 24), (100001, .cells [.one (.fn (.func 22) [(100001, 0), (100000, 0)])] 43)] :=
  ok_of (ann := anmerkleProve1 Ls i) (CtsOk.cons (c := ⟨[false, false, true, true], false, grmerkleProve1 n_⟩) hv_ (by kernel_rfl) ctok_merklesides) mixed Tryd.func22 (by kernel_rfl) (of_nf (p := brP ((↑(List.length Ls) : Int) == (1 : Int)) ((0 : Nat) = List.length (pv Ls (Int.toNat i)) ∧ (∀ (i_1 : Nat), i_1 < List.length (pv Ls (Int.toNat i)) → lC dE [] (pv Ls (Int.toNat i)) i_1 = lC dE [] (pv Ls (Int.toNat i)) i_1) ∧ True) ((2 : Int) ≤ (↑(List.length Ls) : Int) ∧ (↑(List.length Ls) : Int) < (9223372036854775808 : Int) ∧ brP (decide (i < (↑(halfN (Int.toNat (↑(List.length Ls) : Int))) : Int))) (((0 : Int) ≤ (↑(halfN (Int.toNat (↑(List.length Ls) : Int))) : Int) ∧ (↑(halfN (Int.toNat (↑(List.length Ls) : Int))) : Int) ≤ (↑(List.length Ls) : Int)) ∧ List.length (cutL Ls none (some (IntKind.i64, (↑(halfN (Int.toNat (↑(List.length Ls) : Int))) : Int)))) < n_ ∧ (∀ (L : List Int), L ∈ cutL Ls none (some (IntKind.i64, (↑(halfN (Int.toNat (↑(List.length Ls) : Int))) : Int))) → OkB L) ∧ List.length (List.flatten (cutL Ls none (some (IntKind.i64, (↑(halfN (Int.toNat (↑(List.length Ls) : Int))) : Int))))) + (300 : Nat) ≤ lim ∧ List.length (cutL Ls none (some (IntKind.i64, (↑(halfN (Int.toNat (↑(List.length Ls) : Int))) : Int)))) < (1099511627776 : Nat) ∧ (0 : Int) ≤ i ∧ i < (↑(List.length (cutL Ls none (some (IntKind.i64, (↑(halfN (Int.toNat (↑(List.length Ls) : Int))) : Int))))) : Int) ∧ ((0 : Int) ≤ (↑(halfN (Int.toNat (↑(List.length Ls) : Int))) : Int) ∧ (↑(halfN (Int.toNat (↑(List.length Ls) : Int))) : Int) ≤ (↑(List.length Ls) : Int)) ∧ (∀ (L : List Int), L ∈ cutL Ls (some (IntKind.i64, (↑(halfN (Int.toNat (↑(List.length Ls) : Int))) : Int))) none → OkB L) ∧ List.length (List.flatten (cutL Ls (some (IntKind.i64, (↑(halfN (Int.toNat (↑(List.length Ls) : Int))) : Int))) none)) + (300 : Nat) ≤ lim ∧ List.length (cutL Ls (some (IntKind.i64, (↑(halfN (Int.toNat (↑(List.length Ls) : Int))) : Int))) none) < (1099511627776 : Nat) ∧ OkB (mt (cutL Ls (some (IntKind.i64, (↑(halfN (Int.toNat (↑(List.length Ls) : Int))) : Int))) none)) ∧ Cont.len (Cont.st (32 : Nat) (List.length (pv (cutL Ls none (some (IntKind.i64, (↑(halfN (Int.toNat (↑(List.length Ls) : Int))) : Int)))) (Int.toNat i))) (lC dE [] (pv (cutL Ls none (some (IntKind.i64, (↑(halfN (Int.toNat (↑(List.length Ls) : Int))) : Int)))) (Int.toNat i)))) + Cont.len (Cont.st (32 : Nat) (1 : Nat) fun (i : Nat) => List.getD [[DC.ints IntKind.u8 (32 : Nat) (sumB shaK (mt (cutL Ls (some (IntKind.i64, (↑(halfN (Int.toNat (↑(List.length Ls) : Int))) : Int))) none)))]] i []) ≤ lim ∧ List.length (pv (cutL Ls none (some (IntKind.i64, (↑(halfN (Int.toNat (↑(List.length Ls) : Int))) : Int)))) (Int.toNat i)) + (1 : Nat) = List.length (pv Ls (Int.toNat i)) ∧ (∀ (i_1 : Nat), i_1 < List.length (pv Ls (Int.toNat i)) → catF (List.length (pv (cutL Ls none (some (IntKind.i64, (↑(halfN (Int.toNat (↑(List.length Ls) : Int))) : Int)))) (Int.toNat i))) (lC dE [] (pv (cutL Ls none (some (IntKind.i64, (↑(halfN (Int.toNat (↑(List.length Ls) : Int))) : Int)))) (Int.toNat i))) (fun (i : Nat) => List.getD [[DC.ints IntKind.u8 (32 : Nat) (sumB shaK (mt (cutL Ls (some (IntKind.i64, (↑(halfN (Int.toNat (↑(List.length Ls) : Int))) : Int))) none)))]] i []) i_1 = lC dE [] (pv Ls (Int.toNat i)) i_1) ∧ True) (((0 : Int) ≤ (↑(halfN (Int.toNat (↑(List.length Ls) : Int))) : Int) ∧ (↑(halfN (Int.toNat (↑(List.length Ls) : Int))) : Int) ≤ (↑(List.length Ls) : Int)) ∧ List.length (cutL Ls (some (IntKind.i64, (↑(halfN (Int.toNat (↑(List.length Ls) : Int))) : Int))) none) < n_ ∧ (∀ (L : List Int), L ∈ cutL Ls (some (IntKind.i64, (↑(halfN (Int.toNat (↑(List.length Ls) : Int))) : Int))) none → OkB L) ∧ List.length (List.flatten (cutL Ls (some (IntKind.i64, (↑(halfN (Int.toNat (↑(List.length Ls) : Int))) : Int))) none)) + (300 : Nat) ≤ lim ∧ List.length (cutL Ls (some (IntKind.i64, (↑(halfN (Int.toNat (↑(List.length Ls) : Int))) : Int))) none) < (1099511627776 : Nat) ∧ (0 : Int) ≤ IntKind.wrap IntKind.i64 (i - (↑(halfN (Int.toNat (↑(List.length Ls) : Int))) : Int)) ∧ IntKind.wrap IntKind.i64 (i - (↑(halfN (Int.toNat (↑(List.length Ls) : Int))) : Int)) < (↑(List.length (cutL Ls (some (IntKind.i64, (↑(halfN (Int.toNat (↑(List.length Ls) : Int))) : Int))) none)) : Int) ∧ ((0 : Int) ≤ (↑(halfN (Int.toNat (↑(List.length Ls) : Int))) : Int) ∧ (↑(halfN (Int.toNat (↑(List.length Ls) : Int))) : Int) ≤ (↑(List.length Ls) : Int)) ∧ (∀ (L : List Int), L ∈ cutL Ls none (some (IntKind.i64, (↑(halfN (Int.toNat (↑(List.length Ls) : Int))) : Int))) → OkB L) ∧ List.length (List.flatten (cutL Ls none (some (IntKind.i64, (↑(halfN (Int.toNat (↑(List.length Ls) : Int))) : Int))))) + (300 : Nat) ≤ lim ∧ List.length (cutL Ls none (some (IntKind.i64, (↑(halfN (Int.toNat (↑(List.length Ls) : Int))) : Int)))) < (1099511627776 : Nat) ∧ OkB (mt (cutL Ls none (some (IntKind.i64, (↑(halfN (Int.toNat (↑(List.length Ls) : Int))) : Int))))) ∧ Cont.len (Cont.st (32 : Nat) (List.length (pv (cutL Ls (some (IntKind.i64, (↑(halfN (Int.toNat (↑(List.length Ls) : Int))) : Int))) none) (Int.toNat (IntKind.wrap IntKind.i64 (i - (↑(halfN (Int.toNat (↑(List.length Ls) : Int))) : Int)))))) (lC dE [] (pv (cutL Ls (some (IntKind.i64, (↑(halfN (Int.toNat (↑(List.length Ls) : Int))) : Int))) none) (Int.toNat (IntKind.wrap IntKind.i64 (i - (↑(halfN (Int.toNat (↑(List.length Ls) : Int))) : Int))))))) + Cont.len (Cont.st (32 : Nat) (1 : Nat) fun (i : Nat) => List.getD [[DC.ints IntKind.u8 (32 : Nat) (sumB shaK (mt (cutL Ls none (some (IntKind.i64, (↑(halfN (Int.toNat (↑(List.length Ls) : Int))) : Int))))))]] i []) ≤ lim ∧ List.length (pv (cutL Ls (some (IntKind.i64, (↑(halfN (Int.toNat (↑(List.length Ls) : Int))) : Int))) none) (Int.toNat (IntKind.wrap IntKind.i64 (i - (↑(halfN (Int.toNat (↑(List.length Ls) : Int))) : Int))))) + (1 : Nat) = List.length (pv Ls (Int.toNat i)) ∧ (∀ (i_1 : Nat), i_1 < List.length (pv Ls (Int.toNat i)) → catF (List.length (pv (cutL Ls (some (IntKind.i64, (↑(halfN (Int.toNat (↑(List.length Ls) : Int))) : Int))) none) (Int.toNat (IntKind.wrap IntKind.i64 (i - (↑(halfN (Int.toNat (↑(List.length Ls) : Int))) : Int)))))) (lC dE [] (pv (cutL Ls (some (IntKind.i64, (↑(halfN (Int.toNat (↑(List.length Ls) : Int))) : Int))) none) (Int.toNat (IntKind.wrap IntKind.i64 (i - (↑(halfN (Int.toNat (↑(List.length Ls) : Int))) : Int)))))) (fun (i : Nat) => List.getD [[DC.ints IntKind.u8 (32 : Nat) (sumB shaK (mt (cutL Ls none (some (IntKind.i64, (↑(halfN (Int.toNat (↑(List.length Ls) : Int))) : Int))))))]] i []) i_1 = lC dE [] (pv Ls (Int.toNat i)) i_1) ∧ True))) (by kernel_rfl) (by
    obtain ⟨ho, hl, hn, h0, h1, _⟩ := hp
    have hlim : lim = 68719476736 := rfl
    obtain ⟨j, rfl⟩ := Int.eq_ofNat_of_zero_le h0
    rw [Int.toNat_natCast, Int.toNat_natCast]
    have c1 : cutL Ls none (some (IntKind.i64, ((halfN Ls.length : Nat) : Int))) = Ls.take (halfN Ls.length) := rfl
    have c2 : cutL Ls (some (IntKind.i64, ((halfN Ls.length : Nat) : Int))) none = Ls.drop (halfN Ls.length) := rfl
    rw [c1, c2]
    have f1 := flat_take Ls (halfN Ls.length)
    have f2 := flat_drop Ls (halfN Ls.length)
    have o1 : ∀ L ∈ Ls.take (halfN Ls.length), OkB L := fun L hL => ho L (List.mem_of_mem_take hL)
    have o2 : ∀ L ∈ Ls.drop (halfN Ls.length), OkB L := fun L hL => ho L (List.mem_of_mem_drop hL)
    have p1 := pv_le (l := Ls.take (halfN Ls.length)) (i := j)
    have p2 := pv_le (l := Ls.drop (halfN Ls.length)) (i := j - halfN Ls.length)
    refine brI (fun hc => ?_) (fun hc => ?_)
    · have hc : Ls.length = 1 := by have := beq_iff_eq.1 hc; omega
      rw [pv_one (by omega)]
      exact ⟨rfl, fun i hi => rfl, trivial⟩
    · have hc := beq_eq_false_iff_ne.1 hc
      have h2 : 2 ≤ Ls.length := by omega
      have hs := halfN_spec h2
      obtain ⟨l1, l2⟩ := half_len h2
      have e := pv_two h2 j
      refine ⟨by omega, by omega, brI (fun hk => ?_) (fun hk => ?_)⟩
      · have hk : j < halfN Ls.length := by have := of_decide_eq_true hk; omega
        rw [if_pos hk] at e
        have le := congrArg List.length e
        rw [List.length_append] at le
        exact ⟨by omega, by omega, o1, by omega, by omega, by omega, by omega, by omega, o2, by omega, by omega, mt_ok o2, (show (pv (Ls.take (halfN Ls.length)) j).length + 1 ≤ lim by omega), by rw [le]; rfl, fun k hk' => by
          rw [le] at hk'
          rw [e]
          refine lC_snoc _ _ ?_ k ?_
          · rfl
          · simpa using hk', trivial⟩
      · have hk : ¬ j < halfN Ls.length := by have := of_decide_eq_false hk; omega
        rw [if_neg hk] at e
        have le := congrArg List.length e
        rw [List.length_append] at le
        have ej : Int.toNat (IntKind.wrap .i64 ((j : Int) - ((halfN Ls.length : Nat) : Int))) = j - halfN Ls.length := by rw [wi _ (by omega) (by omega)]; omega
        have ew : IntKind.wrap .i64 ((j : Int) - ((halfN Ls.length : Nat) : Int)) = ((j - halfN Ls.length : Nat) : Int) := by rw [wi _ (by omega) (by omega)]; omega
        rw [ej, ew]
        exact ⟨by omega, by omega, o2, by omega, by omega, by omega, by omega, by omega, o1, by omega, by omega, mt_ok o1, (show (pv (Ls.drop (halfN Ls.length)) (j - halfN Ls.length)).length + 1 ≤ lim by omega), by rw [le]; rfl, fun k hk' => by
          rw [le] at hk'
          rw [e]
          refine lC_snoc _ _ ?_ k ?_
          · rfl
          · simpa using hk', trivial⟩))
theorem vrmerkleProve1 : ∀ n_, Valid Tryd.prog Gs 22 (grmerkleProve1 n_)
  | 0 => by
    intro args H r h hp
    unfold grmerkleProve1 at h
    split at h
    · simp only [Option.some.injEq] at h; subst h; exact absurd hp.1 (Nat.not_lt_zero _)
    · cases h
  | n_ + 1 => by
    intro args H r h hp
    unfold grmerkleProve1 at h
    split at h
    · simp only [Option.some.injEq] at h; subst h; exact okrmerkleProve1 _ _ n_ (vrmerkleProve1 n_) hp.1 hp.2
    · cases h
theorem okmerkleProve1 (Ls : List (List Int)) (i : Int) (hp : allP [∀ L ∈ Ls, OkB L, Ls.flatten.length + 300 ≤ lim, Ls.length < 1099511627776, 0 ≤ i, i < Ls.length]) : CallsOk Tryd.prog Gs 22 [.a (.d (.sb Ls)), .a (.d (.v (.int .i64 i))), .a (.lp 100001 0), .a (.lp 100000 0)] [(100000, .cells [.one (.d (.v (.slice none 0 0)))] 24), (100001, .cells [.one (.fn (.func 22) [(100001, 0), (100000, 0)])] 43)] (.t []) [(0, .row (.st 32 (pv Ls i.toNat).length (lC dE [] (pv Ls i.toNat))) 28), (100000, .cells [.one (.rw 0)] 24), (100001, .cells [.one (.fn (.func 22) [(100001, 0), (100000, 0)])] 43)] := okrmerkleProve1 Ls i (Ls.length) (vrmerkleProve1 _) (Nat.lt_succ_self _) hp
noncomputable def gmerkleProve1 : Con := fun args H => match args, H with
  | [.a (.d (.sb Ls)), .a (.d (.v (.int .i64 i))), .a (.lp 100001 0), .a (.lp 100000 0)], [(100000, .cells [.one (.d (.v (.slice none 0 0)))] 24), (100001, .cells [.one (.fn (.func 22) [(100001, 0), (100000, 0)])] 43)] => some ⟨[∀ L ∈ Ls, OkB L, Ls.flatten.length + 300 ≤ lim, Ls.length < 1099511627776, 0 ≤ i, i < Ls.length], .t [], [(0, .row (.st 32 (pv Ls i.toNat).length (lC dE [] (pv Ls i.toNat))) 28), (100000, .cells [.one (.rw 0)] 24), (100001, .cells [.one (.fn (.func 22) [(100001, 0), (100000, 0)])] 43)]⟩
  | _, _ => none
theorem vmerkleProve1 : Valid Tryd.prog Gs 22 gmerkleProve1 := by
  intro args H r h hp
  unfold gmerkleProve1 at h
  split at h
  · simp only [Option.some.injEq] at h; subst h; exact okmerkleProve1 _ _ hp
  · cases h
noncomputable def ct_merkleProve1 : List (Nat × Ct) := (22, ⟨[false, false, true, true], false, gmerkleProve1⟩) :: ct_merklesides
theorem ctok_merkleProve1 : CtsOk Tryd.prog Gs ct_merkleProve1 := CtsOk.cons vmerkleProve1 (by kernel_rfl) ctok_merklesides
def pvo (Ls : List (List Int)) (i : Int) : List (List Int) := if 0 ≤ i ∧ i < Ls.length then pv Ls i.toNat else []
noncomputable def anmerkleProve (Ls : List (List Int)) (i : Int) : Nat → List Nat → Option Ann := fun _ _ => none
theorem okmerkleProve (Ls : List (List Int)) (i : Int) (hp : allP [∀ L ∈ Ls, OkB L, Ls.flatten.length + 300 ≤ lim, Ls.length < 1099511627776]) : CallsOk Tryd.prog Gs 10 [.a (.d (.sb Ls)), .a (.d (.v (.int .i64 i)))] [] (.t [.a (.rw 0), .a (.d (.v (.bool (decide (0 ≤ i ∧ i < Ls.length)))))]) [(0, .row (.st 32 (pvo Ls i).length (lC dE [] (pvo Ls i))) 28)] :=
  ok_of (ann := anmerkleProve Ls i) ctok_merkleProve1 mixed Tryd.func10 (by kernel_rfl) (of_nf (p := brP (decide (i < (0 : Int))) (false = decide ((0 : Int) ≤ i ∧ i < (↑(List.length Ls) : Int)) ∧ (0 : Nat) = List.length (pvo Ls i) ∧ (∀ (i_1 : Nat), i_1 < List.length (pvo Ls i) → lC dE [] (pvo Ls i) i_1 = lC dE [] (pvo Ls i) i_1) ∧ True) (brP (decide (i ≥ (↑(List.length Ls) : Int))) (false = decide ((0 : Int) ≤ i ∧ i < (↑(List.length Ls) : Int)) ∧ (0 : Nat) = List.length (pvo Ls i) ∧ (∀ (i_1 : Nat), i_1 < List.length (pvo Ls i) → lC dE [] (pvo Ls i) i_1 = lC dE [] (pvo Ls i) i_1) ∧ True) ((∀ (L : List Int), L ∈ Ls → OkB L) ∧ List.length (List.flatten Ls) + (300 : Nat) ≤ lim ∧ List.length Ls < (1099511627776 : Nat) ∧ (0 : Int) ≤ i ∧ i < (↑(List.length Ls) : Int) ∧ true = decide ((0 : Int) ≤ i ∧ i < (↑(List.length Ls) : Int)) ∧ List.length (pv Ls (Int.toNat i)) = List.length (pvo Ls i) ∧ (∀ (i_1 : Nat), i_1 < List.length (pvo Ls i) → lC dE [] (pv Ls (Int.toNat i)) i_1 = lC dE [] (pvo Ls i) i_1) ∧ True))) (by kernel_rfl) (by
    obtain ⟨ho, hl, hn, _⟩ := hp
    refine brI (fun hc => ?_) (fun hc => brI (fun hd => ?_) (fun hd => ?_))
    · have hc := of_decide_eq_true hc
      have hno : ¬ (0 ≤ i ∧ i < Ls.length) := by omega
      rw [decide_eq_false hno]
      unfold pvo; rw [if_neg hno]
      exact ⟨rfl, rfl, fun k hk => rfl, trivial⟩
    · have hd := of_decide_eq_true hd
      have hno : ¬ (0 ≤ i ∧ i < Ls.length) := by omega
      rw [decide_eq_false hno]
      unfold pvo; rw [if_neg hno]
      exact ⟨rfl, rfl, fun k hk => rfl, trivial⟩
    · have hc := of_decide_eq_false hc
      have hd := of_decide_eq_false hd
      have hyes : 0 ≤ i ∧ i < Ls.length := by omega
      rw [decide_eq_true hyes]
      unfold pvo; rw [if_pos hyes]
      exact ⟨ho, hl, hn, hyes.1, hyes.2, rfl, rfl, fun k hk => rfl, trivial⟩))
noncomputable def gmerkleProve : Con := fun args H => match args, H with
  | [.a (.d (.sb Ls)), .a (.d (.v (.int .i64 i)))], [] => some ⟨[∀ L ∈ Ls, OkB L, Ls.flatten.length + 300 ≤ lim, Ls.length < 1099511627776], .t [.a (.rw 0), .a (.d (.v (.bool (decide (0 ≤ i ∧ i < Ls.length)))))], [(0, .row (.st 32 (pvo Ls i).length (lC dE [] (pvo Ls i))) 28)]⟩
  | _, _ => none
theorem vmerkleProve : Valid Tryd.prog Gs 10 gmerkleProve := by
  intro args H r h hp
  unfold gmerkleProve at h
  split at h
  · simp only [Option.some.injEq] at h; subst h; exact okmerkleProve _ _ hp
  · cases h
noncomputable def ct_merkleProve : List (Nat × Ct) := (10, ⟨[], true, gmerkleProve⟩) :: ct_merkleProve1
theorem ctok_merkleProve : CtsOk Tryd.prog Gs ct_merkleProve := CtsOk.cons vmerkleProve (by kernel_rfl) ctok_merkleProve1
noncomputable def anR03Prove (Ls : List (List Int)) (i : Int) : Nat → List Nat → Option Ann := fun _ _ => none
noncomputable def grR03Prove (n_ : Nat) : Con := fun args H => match args, H with
  | [.a (.d (.sb Ls)), .a (.d (.v (.int .i64 i)))], [] => some ⟨(Ls.length < n_) :: [∀ L ∈ Ls, OkB L, Ls.flatten.length + 300 ≤ lim, Ls.length < 1099511627776, 0 ≤ i, i < Ls.length], .s (.a (.rw 0)), [(0, .row (.st 32 (pv Ls i.toNat).length (lC dE [] (pv Ls i.toNat))) 28)]⟩
  | _, _ => none
noncomputable def ctr_R03Prove (n_ : Nat) : List (Nat × Ct) := (14, ⟨[], true, grR03Prove n_⟩) :: ct_merkleProve
theorem okrR03Prove (Ls : List (List Int)) (i : Int) (n_ : Nat) (hv_ : Valid Tryd.prog Gs 14 (grR03Prove n_)) (hm_ : Ls.length < n_ + 1) (hp : allP [∀ L ∈ Ls, OkB L, Ls.flatten.length + 300 ≤ lim, Ls.length < 1099511627776, 0 ≤ i, i < Ls.length]) : CallsOk Tryd.prog Gs 14 [.a (.d (.sb Ls)), .a (.d (.v (.int .i64 i)))] [] (.s (.a (.rw 0))) [(0, .row (.st 32 (pv Ls i.toNat).length (lC dE [] (pv Ls i.toNat))) 28)] :=
  ok_of (ann := anR03Prove Ls i) (CtsOk.cons (c := ⟨[], true, grR03Prove n_⟩) hv_ (by kernel_rfl) ctok_merkleProve) mixed Tryd.func14 (by kernel_rfl) (of_nf (p := brP ((↑(List.length Ls) : Int) == (1 : Int)) ((0 : Nat) = List.length (pv Ls (Int.toNat i)) ∧ (∀ (i_1 : Nat), i_1 < List.length (pv Ls (Int.toNat i)) → lC dE [] (pv Ls (Int.toNat i)) i_1 = lC dE [] (pv Ls (Int.toNat i)) i_1) ∧ True) ((2 : Int) ≤ (↑(List.length Ls) : Int) ∧ (↑(List.length Ls) : Int) < (9223372036854775808 : Int) ∧ brP (decide (i < (↑(halfN (Int.toNat (↑(List.length Ls) : Int))) : Int))) (((0 : Int) ≤ (↑(halfN (Int.toNat (↑(List.length Ls) : Int))) : Int) ∧ (↑(halfN (Int.toNat (↑(List.length Ls) : Int))) : Int) ≤ (↑(List.length Ls) : Int)) ∧ List.length (cutL Ls none (some (IntKind.i64, (↑(halfN (Int.toNat (↑(List.length Ls) : Int))) : Int)))) < n_ ∧ (∀ (L : List Int), L ∈ cutL Ls none (some (IntKind.i64, (↑(halfN (Int.toNat (↑(List.length Ls) : Int))) : Int))) → OkB L) ∧ List.length (List.flatten (cutL Ls none (some (IntKind.i64, (↑(halfN (Int.toNat (↑(List.length Ls) : Int))) : Int))))) + (300 : Nat) ≤ lim ∧ List.length (cutL Ls none (some (IntKind.i64, (↑(halfN (Int.toNat (↑(List.length Ls) : Int))) : Int)))) < (1099511627776 : Nat) ∧ (0 : Int) ≤ i ∧ i < (↑(List.length (cutL Ls none (some (IntKind.i64, (↑(halfN (Int.toNat (↑(List.length Ls) : Int))) : Int))))) : Int) ∧ ((0 : Int) ≤ (↑(halfN (Int.toNat (↑(List.length Ls) : Int))) : Int) ∧ (↑(halfN (Int.toNat (↑(List.length Ls) : Int))) : Int) ≤ (↑(List.length Ls) : Int)) ∧ (∀ (L : List Int), L ∈ cutL Ls (some (IntKind.i64, (↑(halfN (Int.toNat (↑(List.length Ls) : Int))) : Int))) none → OkB L) ∧ List.length (List.flatten (cutL Ls (some (IntKind.i64, (↑(halfN (Int.toNat (↑(List.length Ls) : Int))) : Int))) none)) + (300 : Nat) ≤ lim ∧ List.length (cutL Ls (some (IntKind.i64, (↑(halfN (Int.toNat (↑(List.length Ls) : Int))) : Int))) none) < (1099511627776 : Nat) ∧ Cont.len (Cont.st (32 : Nat) (List.length (pv (cutL Ls none (some (IntKind.i64, (↑(halfN (Int.toNat (↑(List.length Ls) : Int))) : Int)))) (Int.toNat i))) (lC dE [] (pv (cutL Ls none (some (IntKind.i64, (↑(halfN (Int.toNat (↑(List.length Ls) : Int))) : Int)))) (Int.toNat i)))) + Cont.len (Cont.st (32 : Nat) (1 : Nat) fun (i : Nat) => List.getD [[DC.ints IntKind.u8 (32 : Nat) (sumB shaK (mt (cutL Ls (some (IntKind.i64, (↑(halfN (Int.toNat (↑(List.length Ls) : Int))) : Int))) none)))]] i []) ≤ lim ∧ List.length (pv (cutL Ls none (some (IntKind.i64, (↑(halfN (Int.toNat (↑(List.length Ls) : Int))) : Int)))) (Int.toNat i)) + (1 : Nat) = List.length (pv Ls (Int.toNat i)) ∧ (∀ (i_1 : Nat), i_1 < List.length (pv Ls (Int.toNat i)) → catF (List.length (pv (cutL Ls none (some (IntKind.i64, (↑(halfN (Int.toNat (↑(List.length Ls) : Int))) : Int)))) (Int.toNat i))) (lC dE [] (pv (cutL Ls none (some (IntKind.i64, (↑(halfN (Int.toNat (↑(List.length Ls) : Int))) : Int)))) (Int.toNat i))) (fun (i : Nat) => List.getD [[DC.ints IntKind.u8 (32 : Nat) (sumB shaK (mt (cutL Ls (some (IntKind.i64, (↑(halfN (Int.toNat (↑(List.length Ls) : Int))) : Int))) none)))]] i []) i_1 = lC dE [] (pv Ls (Int.toNat i)) i_1) ∧ True) (((0 : Int) ≤ (↑(halfN (Int.toNat (↑(List.length Ls) : Int))) : Int) ∧ (↑(halfN (Int.toNat (↑(List.length Ls) : Int))) : Int) ≤ (↑(List.length Ls) : Int)) ∧ List.length (cutL Ls (some (IntKind.i64, (↑(halfN (Int.toNat (↑(List.length Ls) : Int))) : Int))) none) < n_ ∧ (∀ (L : List Int), L ∈ cutL Ls (some (IntKind.i64, (↑(halfN (Int.toNat (↑(List.length Ls) : Int))) : Int))) none → OkB L) ∧ List.length (List.flatten (cutL Ls (some (IntKind.i64, (↑(halfN (Int.toNat (↑(List.length Ls) : Int))) : Int))) none)) + (300 : Nat) ≤ lim ∧ List.length (cutL Ls (some (IntKind.i64, (↑(halfN (Int.toNat (↑(List.length Ls) : Int))) : Int))) none) < (1099511627776 : Nat) ∧ (0 : Int) ≤ IntKind.wrap IntKind.i64 (i - (↑(halfN (Int.toNat (↑(List.length Ls) : Int))) : Int)) ∧ IntKind.wrap IntKind.i64 (i - (↑(halfN (Int.toNat (↑(List.length Ls) : Int))) : Int)) < (↑(List.length (cutL Ls (some (IntKind.i64, (↑(halfN (Int.toNat (↑(List.length Ls) : Int))) : Int))) none)) : Int) ∧ ((0 : Int) ≤ (↑(halfN (Int.toNat (↑(List.length Ls) : Int))) : Int) ∧ (↑(halfN (Int.toNat (↑(List.length Ls) : Int))) : Int) ≤ (↑(List.length Ls) : Int)) ∧ (∀ (L : List Int), L ∈ cutL Ls none (some (IntKind.i64, (↑(halfN (Int.toNat (↑(List.length Ls) : Int))) : Int))) → OkB L) ∧ List.length (List.flatten (cutL Ls none (some (IntKind.i64, (↑(halfN (Int.toNat (↑(List.length Ls) : Int))) : Int))))) + (300 : Nat) ≤ lim ∧ List.length (cutL Ls none (some (IntKind.i64, (↑(halfN (Int.toNat (↑(List.length Ls) : Int))) : Int)))) < (1099511627776 : Nat) ∧ Cont.len (Cont.st (32 : Nat) (List.length (pv (cutL Ls (some (IntKind.i64, (↑(halfN (Int.toNat (↑(List.length Ls) : Int))) : Int))) none) (Int.toNat (IntKind.wrap IntKind.i64 (i - (↑(halfN (Int.toNat (↑(List.length Ls) : Int))) : Int)))))) (lC dE [] (pv (cutL Ls (some (IntKind.i64, (↑(halfN (Int.toNat (↑(List.length Ls) : Int))) : Int))) none) (Int.toNat (IntKind.wrap IntKind.i64 (i - (↑(halfN (Int.toNat (↑(List.length Ls) : Int))) : Int))))))) + Cont.len (Cont.st (32 : Nat) (1 : Nat) fun (i : Nat) => List.getD [[DC.ints IntKind.u8 (32 : Nat) (sumB shaK (mt (cutL Ls none (some (IntKind.i64, (↑(halfN (Int.toNat (↑(List.length Ls) : Int))) : Int))))))]] i []) ≤ lim ∧ List.length (pv (cutL Ls (some (IntKind.i64, (↑(halfN (Int.toNat (↑(List.length Ls) : Int))) : Int))) none) (Int.toNat (IntKind.wrap IntKind.i64 (i - (↑(halfN (Int.toNat (↑(List.length Ls) : Int))) : Int))))) + (1 : Nat) = List.length (pv Ls (Int.toNat i)) ∧ (∀ (i_1 : Nat), i_1 < List.length (pv Ls (Int.toNat i)) → catF (List.length (pv (cutL Ls (some (IntKind.i64, (↑(halfN (Int.toNat (↑(List.length Ls) : Int))) : Int))) none) (Int.toNat (IntKind.wrap IntKind.i64 (i - (↑(halfN (Int.toNat (↑(List.length Ls) : Int))) : Int)))))) (lC dE [] (pv (cutL Ls (some (IntKind.i64, (↑(halfN (Int.toNat (↑(List.length Ls) : Int))) : Int))) none) (Int.toNat (IntKind.wrap IntKind.i64 (i - (↑(halfN (Int.toNat (↑(List.length Ls) : Int))) : Int)))))) (fun (i : Nat) => List.getD [[DC.ints IntKind.u8 (32 : Nat) (sumB shaK (mt (cutL Ls none (some (IntKind.i64, (↑(halfN (Int.toNat (↑(List.length Ls) : Int))) : Int))))))]] i []) i_1 = lC dE [] (pv Ls (Int.toNat i)) i_1) ∧ True))) (by kernel_rfl) (by
    obtain ⟨ho, hl, hn, h0, h1, _⟩ := hp
    have hlim : lim = 68719476736 := rfl
    obtain ⟨j, rfl⟩ := Int.eq_ofNat_of_zero_le h0
    rw [Int.toNat_natCast, Int.toNat_natCast]
    have c1 : cutL Ls none (some (IntKind.i64, ((halfN Ls.length : Nat) : Int))) = Ls.take (halfN Ls.length) := rfl
    have c2 : cutL Ls (some (IntKind.i64, ((halfN Ls.length : Nat) : Int))) none = Ls.drop (halfN Ls.length) := rfl
    rw [c1, c2]
    have f1 := flat_take Ls (halfN Ls.length)
    have f2 := flat_drop Ls (halfN Ls.length)
    have o1 : ∀ L ∈ Ls.take (halfN Ls.length), OkB L := fun L hL => ho L (List.mem_of_mem_take hL)
    have o2 : ∀ L ∈ Ls.drop (halfN Ls.length), OkB L := fun L hL => ho L (List.mem_of_mem_drop hL)
    have p1 := pv_le (l := Ls.take (halfN Ls.length)) (i := j)
    have p2 := pv_le (l := Ls.drop (halfN Ls.length)) (i := j - halfN Ls.length)
    refine brI (fun hc => ?_) (fun hc => ?_)
    · have hc : Ls.length = 1 := by have := beq_iff_eq.1 hc; omega
      rw [pv_one (by omega)]
      exact ⟨rfl, fun i hi => rfl, trivial⟩
    · have hc := beq_eq_false_iff_ne.1 hc
      have h2 : 2 ≤ Ls.length := by omega
      have hs := halfN_spec h2
      obtain ⟨l1, l2⟩ := half_len h2
      have e := pv_two h2 j
      refine ⟨by omega, by omega, brI (fun hk => ?_) (fun hk => ?_)⟩
      · have hk : j < halfN Ls.length := by have := of_decide_eq_true hk; omega
        rw [if_pos hk] at e
        have le := congrArg List.length e
        rw [List.length_append] at le
        exact ⟨by omega, by omega, o1, by omega, by omega, by omega, by omega, by omega, o2, by omega, by omega, (show (pv (Ls.take (halfN Ls.length)) j).length + 1 ≤ lim by omega), by rw [le]; rfl, fun k hk' => by
          rw [le] at hk'
          rw [e]
          refine lC_snoc _ _ ?_ k ?_
          · rfl
          · simpa using hk', trivial⟩
      · have hk : ¬ j < halfN Ls.length := by have := of_decide_eq_false hk; omega
        rw [if_neg hk] at e
        have le := congrArg List.length e
        rw [List.length_append] at le
        have ej : Int.toNat (IntKind.wrap .i64 ((j : Int) - ((halfN Ls.length : Nat) : Int))) = j - halfN Ls.length := by rw [wi _ (by omega) (by omega)]; omega
        have ew : IntKind.wrap .i64 ((j : Int) - ((halfN Ls.length : Nat) : Int)) = ((j - halfN Ls.length : Nat) : Int) := by rw [wi _ (by omega) (by omega)]; omega
        rw [ej, ew]
        exact ⟨by omega, by omega, o2, by omega, by omega, by omega, by omega, by omega, o1, by omega, by omega, (show (pv (Ls.drop (halfN Ls.length)) (j - halfN Ls.length)).length + 1 ≤ lim by omega), by rw [le]; rfl, fun k hk' => by
          rw [le] at hk'
          rw [e]
          refine lC_snoc _ _ ?_ k ?_
          · rfl
          · simpa using hk', trivial⟩))
theorem vrR03Prove : ∀ n_, Valid Tryd.prog Gs 14 (grR03Prove n_)
  | 0 => by
    intro args H r h hp
    unfold grR03Prove at h
    split at h
    · simp only [Option.some.injEq] at h; subst h; exact absurd hp.1 (Nat.not_lt_zero _)
    · cases h
  | n_ + 1 => by
    intro args H r h hp
    unfold grR03Prove at h
    split at h
    · simp only [Option.some.injEq] at h; subst h; exact okrR03Prove _ _ n_ (vrR03Prove n_) hp.1 hp.2
    · cases h
theorem okR03Prove (Ls : List (List Int)) (i : Int) (hp : allP [∀ L ∈ Ls, OkB L, Ls.flatten.length + 300 ≤ lim, Ls.length < 1099511627776, 0 ≤ i, i < Ls.length]) : CallsOk Tryd.prog Gs 14 [.a (.d (.sb Ls)), .a (.d (.v (.int .i64 i)))] [] (.s (.a (.rw 0))) [(0, .row (.st 32 (pv Ls i.toNat).length (lC dE [] (pv Ls i.toNat))) 28)] := okrR03Prove Ls i (Ls.length) (vrR03Prove _) (Nat.lt_succ_self _) hp
noncomputable def gR03Prove : Con := fun args H => match args, H with
  | [.a (.d (.sb Ls)), .a (.d (.v (.int .i64 i)))], [] => some ⟨[∀ L ∈ Ls, OkB L, Ls.flatten.length + 300 ≤ lim, Ls.length < 1099511627776, 0 ≤ i, i < Ls.length], .s (.a (.rw 0)), [(0, .row (.st 32 (pv Ls i.toNat).length (lC dE [] (pv Ls i.toNat))) 28)]⟩
  | _, _ => none
theorem vR03Prove : Valid Tryd.prog Gs 14 gR03Prove := by
  intro args H r h hp
  unfold gR03Prove at h
  split at h
  · simp only [Option.some.injEq] at h; subst h; exact okR03Prove _ _ hp
  · cases h
noncomputable def ct_R03Prove : List (Nat × Ct) := (14, ⟨[], true, gR03Prove⟩) :: ct_merkleProve
theorem ctok_R03Prove : CtsOk Tryd.prog Gs ct_R03Prove := CtsOk.cons vR03Prove (by kernel_rfl) ctok_merkleProve
end Go.Proofs.YtamlmlihfpkjaaaDoor
