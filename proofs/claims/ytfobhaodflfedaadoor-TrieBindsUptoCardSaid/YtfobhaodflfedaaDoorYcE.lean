/- Tries: what proofs prove, and clashes. -/
import Derived.Test.YtfobhaodflfedaaDoorYcD
namespace Go.Proofs.YtfobhaodflfedaaDoor
open Go.Dx Go.RowKit
set_option linter.unusedVariables false
set_option linter.unusedSimpArgs false
set_option maxRecDepth 100000
attribute [local irreducible] wpS
attribute [local irreducible] sumB joinB
theorem rd_ok {x : List Int} (hb : OkB x) : (∀ s ∈ rdS x, s.length = 32 ∧ OkB s) ∧ (rdS x).length ≤ 256 ∧ (rdE x).length ≤ 1 ∧ ∀ e ∈ rdE x, e.1.length = 32 ∧ OkB e.1 ∧ OkB e.2 ∧ e.2.length ≤ x.length := by
  cases h : readT x with
  | none =>
    have h1 : rdS x = [] := by unfold rdS; rw [h]; rfl
    have h2 : rdE x = [] := by unfold rdE; rw [h]; rfl
    rw [h1, h2]; exact ⟨by simp, by simp, by simp, by simp⟩
  | some p =>
    obtain ⟨s, e⟩ := p
    obtain ⟨h1, h2, _⟩ := rd_yes h
    rw [h1, h2]; exact read_ok hb h
theorem ans1 (y : TE) (k : List Int) : ansT [y] k = if y.1 = k then (y.2, true) else ([], false) := rfl
theorem hd0 (L : List (List Int)) : L.getD (Int.toNat 0) [] = L.headD [] := by cases L <;> rfl
theorem cl_step {A B : List (List Int)} {t : Nat} (ha : t < A.length) (hb : t < B.length) : clT (A.drop t) (B.drop t) = if A.getD t [] ≠ B.getD t [] ∧ sumB shaK (A.getD t []) = sumB shaK (B.getD t []) then some (A.getD t [], B.getD t []) else clT (A.drop (t + 1)) (B.drop (t + 1)) := by
  have e1 : A.getD t [] = A[t] := by rw [List.getD_eq_getElem?_getD, List.getElem?_eq_getElem ha]; rfl
  have e2 : B.getD t [] = B[t] := by rw [List.getD_eq_getElem?_getD, List.getElem?_eq_getElem hb]; rfl
  rw [List.drop_eq_getElem_cons ha, List.drop_eq_getElem_cons hb, e1, e2]; rfl
theorem cl_end {A B : List (List Int)} (h : A = [] ∨ B = []) : clT A B = none := by
  rcases h with rfl | rfl
  · cases B <;> rfl
  · cases A <;> rfl
theorem getD_all {A : List (List Int)} (h : ∀ x ∈ A, OkB x) {t : Nat} (ht : t < A.length) : OkB (A.getD t []) := by
  rw [List.getD_eq_getElem?_getD, List.getElem?_eq_getElem ht]; exact h _ (List.getElem_mem ht)
theorem clash_no {l : List TE} {k x : List Int} (h : rdO x = false ∨ fitsT k (rdS x) (rdE x) = false ∨ ¬ mayT l) : clashT l k x = none := by
  unfold rdO at h
  unfold clashT
  cases hr : readT x with
  | none => rfl
  | some p =>
    obtain ⟨s, e⟩ := p
    obtain ⟨h1, h2, _⟩ := rd_yes hr
    rw [hr, h1, h2] at h
    dsimp only
    rw [if_neg]
    rintro ⟨g1, g2⟩
    rcases h with h | h | h
    · cases h
    · rw [g1] at h; cases h
    · exact h g2
theorem clash_yes {l : List TE} {k x : List Int} (h : rdO x = true) (hf : fitsT k (rdS x) (rdE x) = true) (hm : mayT l) : clashT l k x = clT (txsT k 0 (wayT 256 l k).1 (wayT 256 l k).2) (txsT k 0 (rdS x) (rdE x)) := by
  unfold rdO at h
  unfold clashT
  cases hr : readT x with
  | none => rw [hr] at h; cases h
  | some p =>
    obtain ⟨s, e⟩ := p
    obtain ⟨h1, h2, _⟩ := rd_yes hr
    rw [h1, h2] at hf ⊢
    dsimp only
    rw [if_pos ⟨hf, hm⟩]
theorem ver_no {r k x : List Int} (h : rdO x = false) : verT r k x = ([], false, 5) := by
  unfold rdO at h
  cases hr : readT x with
  | none => unfold verT; rw [hr]
  | some p => rw [hr] at h; cases h
theorem ver_yes {r k x : List Int} (h : rdO x = true) : verT r k x = if fitsT k (rdS x) (rdE x) = false then ([], false, 19) else if sumB shaK ((txsT k 0 (rdS x) (rdE x)).headD []) ≠ r then ([], false, 18) else ((ansT (rdE x) k).1, (ansT (rdE x) k).2, 0) := by
  unfold rdO at h
  cases hr : readT x with
  | none => rw [hr] at h; cases h
  | some p =>
    obtain ⟨s, e⟩ := p
    obtain ⟨h1, h2, _⟩ := rd_yes hr
    unfold verT; rw [hr, h1, h2]
noncomputable def anbytesEqual (A B : List Int) : Nat → List Nat → List Ann := fun _ _ => []
theorem okbytesEqual (A B : List Int) (hp : allP [OkB A, OkB B]) : CallsOk Tryd.prog Gs 40 [.a (.d (.si .u8 A)), .a (.d (.si .u8 B))] [] (eB (decide (A = B))) [] :=
  ok_of (ann := anbytesEqual A B) ctok_read mixed Tryd.func40 (by kernel_rfl) (of_nf (p := (ByteArray.toList (strOfNums A) == ByteArray.toList (strOfNums B)) = decide (A = B) ∧ True) (by kernel_rfl) (by
    exact ⟨strOf_eq hp.1 hp.2.1, trivial⟩))
noncomputable def gbytesEqual : Con := fun args H => match args, H with
  | [.a (.d (.si .u8 A)), .a (.d (.si .u8 B))], [] => some ⟨[OkB A, OkB B], eB (decide (A = B)), []⟩
  | _, _ => none
theorem vbytesEqual : Valid Tryd.prog Gs 40 gbytesEqual := by
  intro args H r h hp
  unfold gbytesEqual at h
  split at h
  · simp only [Option.some.injEq] at h; subst h; exact okbytesEqual _ _ hp
  · cases h
noncomputable def ct_bytesEqual : List (Nat × Ct) := (40, ⟨[], false, gbytesEqual, none⟩) :: ct_read
theorem ctok_bytesEqual : CtsOk Tryd.prog Gs ct_bytesEqual := CtsOk.cons vbytesEqual (by kernel_rfl) ctok_read
noncomputable def antrieVerify (r k x : List Int) : Nat → List Nat → List Ann := fun _ _ => []
theorem oktrieVerify (r k x : List Int) (hp : allP [OkB x, x.length + 20000 ≤ lim, OkB k, k.length = 32, r.length = 32]) : CallsOk Tryd.prog Gs 18 [.agg [.ints .u8 32 r], .agg [.ints .u8 32 k], .a (.d (.si .u8 x))] [] (.t [.a (.rw 0), .a (.d (.v (.bool ((verT r k x).2.1)))), .a (.d (.v (.int .i64 (verT r k x).2.2)))]) [(0, .row (.ints .u8 (verT r k x).1) 5)] :=
  ok_of (ann := antrieVerify r k x) ctok_bytesEqual mixed Tryd.func18 (by kernel_rfl) (of_nf (p := OkB x ∧ List.length x + (300 : Nat) ≤ lim ∧ brP (!rdO x) (false = Prod.fst (Prod.snd (verT r k x)) ∧ (5 : Int) = Prod.snd (Prod.snd (verT r k x)) ∧ [] = Prod.fst (verT r k x) ∧ True) (k = k ∧ List.length (rdS x) = List.length (lL dG (List.length (rdS x)) (lC dE [] (rdS x))) ∧ (∀ (i : Nat), i < List.length (lL dG (List.length (rdS x)) (lC dE [] (rdS x))) → lC dE [] (rdS x) i = lC dE [] (lL dG (List.length (rdS x)) (lC dE [] (rdS x))) i) ∧ List.length (rdE x) = List.length (lL tG (List.length (rdE x)) (lC tE tZ (rdE x))) ∧ (∀ (i : Nat), i < List.length (lL tG (List.length (rdE x)) (lC tE tZ (rdE x))) → lC tE tZ (rdE x) i = lC tE tZ (lL tG (List.length (rdE x)) (lC tE tZ (rdE x))) i) ∧ OkB k ∧ List.length k = (32 : Nat) ∧ List.length (lL dG (List.length (rdS x)) (lC dE [] (rdS x))) ≤ (256 : Nat) ∧ List.length (lL tG (List.length (rdE x)) (lC tE tZ (rdE x))) ≤ (1 : Nat) ∧ (∀ (x_1 : TE), x_1 ∈ lL tG (List.length (rdE x)) (lC tE tZ (rdE x)) → List.length (Prod.fst x_1) = (32 : Nat) ∧ OkB (Prod.fst x_1)) ∧ brP (!fitsT k (lL dG (List.length (rdS x)) (lC dE [] (rdS x))) (lL tG (List.length (rdE x)) (lC tE tZ (rdE x)))) (false = Prod.fst (Prod.snd (verT r k x)) ∧ (19 : Int) = Prod.snd (Prod.snd (verT r k x)) ∧ [] = Prod.fst (verT r k x) ∧ True) (k = k ∧ List.length (rdS x) = List.length (lL dG (List.length (rdS x)) (lC dE [] (rdS x))) ∧ (∀ (i : Nat), i < List.length (lL dG (List.length (rdS x)) (lC dE [] (rdS x))) → lC dE [] (rdS x) i = lC dE [] (lL dG (List.length (rdS x)) (lC dE [] (rdS x))) i) ∧ List.length (rdE x) = List.length (lL tG (List.length (rdE x)) (lC tE tZ (rdE x))) ∧ (∀ (i : Nat), i < List.length (lL tG (List.length (rdE x)) (lC tE tZ (rdE x))) → lC tE tZ (rdE x) i = lC tE tZ (lL tG (List.length (rdE x)) (lC tE tZ (rdE x))) i) ∧ OkB k ∧ List.length k = (32 : Nat) ∧ List.length (lL dG (List.length (rdS x)) (lC dE [] (rdS x))) ≤ (256 : Nat) ∧ (∀ (x_1 : List Int), x_1 ∈ lL dG (List.length (rdS x)) (lC dE [] (rdS x)) → List.length x_1 = (32 : Nat) ∧ OkB x_1) ∧ List.length (lL tG (List.length (rdE x)) (lC tE tZ (rdE x))) ≤ (1 : Nat) ∧ OkK (lL tG (List.length (rdE x)) (lC tE tZ (rdE x))) ∧ (∀ (x_1 : TE), x_1 ∈ lL tG (List.length (rdE x)) (lC tE tZ (rdE x)) → List.length (Prod.snd x_1) + (300 : Nat) ≤ lim) ∧ ((0 : Int) ≤ (0 : Int) ∧ (0 : Int) < (↑(Cont.len (Cont.bts (txsT k (0 : Nat) (lL dG (List.length (rdS x)) (lC dE [] (rdS x))) (lL tG (List.length (rdE x)) (lC tE tZ (rdE x)))))) : Int)) ∧ OkB (List.getD (txsT k (0 : Nat) (lL dG (List.length (rdS x)) (lC dE [] (rdS x))) (lL tG (List.length (rdE x)) (lC tE tZ (rdE x)))) (Int.toNat (0 : Int)) []) ∧ brP (!sumB shaK (List.getD (txsT k (0 : Nat) (lL dG (List.length (rdS x)) (lC dE [] (rdS x))) (lL tG (List.length (rdE x)) (lC tE tZ (rdE x)))) (Int.toNat (0 : Int)) []) == r) (false = Prod.fst (Prod.snd (verT r k x)) ∧ (18 : Int) = Prod.snd (Prod.snd (verT r k x)) ∧ [] = Prod.fst (verT r k x) ∧ True) (brP ((↑(List.length (rdE x)) : Int) == (0 : Int)) (false = Prod.fst (Prod.snd (verT r k x)) ∧ (0 : Int) = Prod.snd (Prod.snd (verT r k x)) ∧ [] = Prod.fst (verT r k x) ∧ True) (((0 : Int) ≤ (0 : Int) ∧ (0 : Int) < (↑(List.length (rdE x)) : Int)) ∧ brP (!Prod.fst (List.getD (rdE x) (Int.toNat (0 : Int)) tZ) == k) (false = Prod.fst (Prod.snd (verT r k x)) ∧ (0 : Int) = Prod.snd (Prod.snd (verT r k x)) ∧ [] = Prod.fst (verT r k x) ∧ True) (((0 : Int) ≤ (0 : Int) ∧ (0 : Int) < (↑(List.length (rdE x)) : Int)) ∧ List.length (Prod.snd (List.getD (rdE x) (Int.toNat (0 : Int)) tZ)) + (100 : Nat) ≤ lim ∧ true = Prod.fst (Prod.snd (verT r k x)) ∧ (0 : Int) = Prod.snd (Prod.snd (verT r k x)) ∧ Prod.snd (List.getD (rdE x) (Int.toNat (0 : Int)) tZ) = Prod.fst (verT r k x) ∧ True)))))) (by kernel_rfl) (by
    obtain ⟨hx, hl, hk, hkl, hr, _⟩ := hp
    simp only [lL_self tG_tE, lL_self dG_dE]
    have hlim : lim = 68719476736 := rfl
    obtain ⟨r1, r2, r3, r4⟩ := rd_ok hx
    have r5 : OkK (rdE x) := fun e he => ⟨(r4 e he).1, (r4 e he).2.1, (r4 e he).2.2.1, by have := (r4 e he).2.2.2; omega⟩
    refine ⟨hx, by omega, brI (fun h => ?_) (fun h => ?_)⟩
    · have h : rdO x = false := by simpa using h
      rw [ver_no h]; exact ⟨rfl, rfl, rfl, trivial⟩
    · have h : rdO x = true := by simpa using h
      have hv := ver_yes (r := r) (k := k) h
      refine ⟨trivial, trivial, fun _ _ => trivial, trivial, fun _ _ => trivial, hk, hkl, r2, r3, fun e he => ⟨(r4 e he).1, (r4 e he).2.1⟩, brI (fun hf => ?_) (fun hf => ?_)⟩
      · have hf : fitsT k (rdS x) (rdE x) = false := by simpa using hf
        rw [if_pos hf] at hv
        rw [hv]; exact ⟨rfl, rfl, rfl, trivial⟩
      · have hf : ¬ fitsT k (rdS x) (rdE x) = false := by simpa using hf
        rw [if_neg hf] at hv
        rw [hd0]
        refine ⟨trivial, trivial, fun _ _ => trivial, trivial, fun _ _ => trivial, hk, hkl, r2, r1, r3, r5, fun e he => by have := (r4 e he).2.2.2; omega, ⟨Int.le_refl 0, ?_⟩, txs_hd (fun s hs => (r1 s hs).2) r5, brI (fun hs => ?_) (fun hs => ?_)⟩
        · have e : (Cont.bts (txsT k 0 (rdS x) (rdE x))).len = (txsT k 0 (rdS x) (rdE x)).length := rfl
          rw [e, txs_len]; omega
        · have hs : sumB shaK ((txsT k 0 (rdS x) (rdE x)).headD []) ≠ r := by simpa using hs
          rw [if_pos hs] at hv
          rw [hv]; exact ⟨rfl, rfl, rfl, trivial⟩
        · have hs : ¬ sumB shaK ((txsT k 0 (rdS x) (rdE x)).headD []) ≠ r := by simpa using hs
          rw [if_neg hs] at hv
          rw [hv]
          generalize rdE x = e at r3 r4
          match e, r3, r4 with
          | [], _, _ => exact brI (fun _ => ⟨rfl, rfl, rfl, trivial⟩) (fun h => by simp at h)
          | [y], _, r4 =>
            refine brI (fun h => by simp at h) (fun _ => ⟨⟨Int.le_refl 0, Int.zero_lt_one⟩, brI (fun hy => ?_) (fun hy => ?_)⟩)
            · have hy : ¬ y.1 = k := by
                have : (!(y.1 == k)) = true := hy
                simpa using this
              have ea : ansT [y] k = ([], false) := by rw [ans1, if_neg hy]
              rw [ea]; exact ⟨rfl, rfl, rfl, trivial⟩
            · have hy : y.1 = k := by
                have : (!(y.1 == k)) = false := hy
                simpa using this
              have ea : ansT [y] k = (y.2, true) := by rw [ans1, if_pos hy]
              rw [ea]
              have := (r4 y (by simp)).2.2.2
              exact ⟨⟨Int.le_refl 0, Int.zero_lt_one⟩, (show y.2.length + 100 ≤ lim by omega), rfl, rfl, rfl, trivial⟩))
noncomputable def gtrieVerify : Con := fun args H => match args, H with
  | [.agg [.ints .u8 32 r], .agg [.ints .u8 32 k], .a (.d (.si .u8 x))], [] => some ⟨[OkB x, x.length + 20000 ≤ lim, OkB k, k.length = 32, r.length = 32], .t [.a (.rw 0), .a (.d (.v (.bool ((verT r k x).2.1)))), .a (.d (.v (.int .i64 (verT r k x).2.2)))], [(0, .row (.ints .u8 (verT r k x).1) 5)]⟩
  | _, _ => none
theorem vtrieVerify : Valid Tryd.prog Gs 18 gtrieVerify := by
  intro args H r h hp
  unfold gtrieVerify at h
  split at h
  · simp only [Option.some.injEq] at h; subst h; exact oktrieVerify _ _ _ hp
  · cases h
noncomputable def ct_trieVerify : List (Nat × Ct) := (18, ⟨[], false, gtrieVerify, none⟩) :: ct_bytesEqual
theorem ctok_trieVerify : CtsOk Tryd.prog Gs ct_trieVerify := CtsOk.cons vtrieVerify (by kernel_rfl) ctok_bytesEqual
noncomputable def antrieClash (l : List TE) (k x : List Int) : Nat → List Nat → List Ann := fun bk_ gs_ => match bk_, gs_ with
    | 0, _ => [{ τ := Nat, t0 := (default : Nat), J := fun i => i ≤ (wayT 256 l k).1.length + 1 ∧ i ≤ (rdS x).length + 1 ∧ clT ((txsT k 0 (wayT 256 l k).1 (wayT 256 l k).2).drop i) ((txsT k 0 (rdS x) (rdE x)).drop i) = clT (txsT k 0 (wayT 256 l k).1 (wayT 256 l k).2) (txsT k 0 (rdS x) (rdE x)), m := fun i => (rdS x).length + 1 - i, l := fun i => [(14, .s (.a (.rw 214))), (15, .s (.a (.rw 215))), (55, eI .i64 ((min ((wayT 256 l k).1.length + 1) ((rdS x).length + 1) : Nat) : Int)), (56, eI .i64 (i : Int))], H := fun i => [(214, .row (.bts (txsT k 0 (wayT 256 l k).1 (wayT 256 l k).2)) 31), (215, .row (.bts (txsT k 0 (rdS x) (rdE x))) 31)] }]
    | _, _ => []
theorem oktrieClash (l : List TE) (k x : List Int) (hp : allP [OkK l, l.length < 1099511627776, ∀ e ∈ l, e.2.length + 20000 ≤ lim, OkB k, k.length = 32, OkB x, x.length + 20000 ≤ lim]) : CallsOk Tryd.prog Gs 21 [.a (.d (.sl 33 (l).length (lC tE tZ (l)))), .agg [.ints .u8 32 k], .a (.d (.si .u8 x))] [] (.t [.a (.d (.si .u8 (((clashT l k x).map (·.1)).getD []))), .a (.d (.si .u8 (((clashT l k x).map (·.2)).getD []))), .a (.d (.v (.bool ((clashT l k x).isSome))))]) [] :=
  ok_of (ann := antrieClash l k x) ctok_trieVerify mixed Tryd.func21 (by kernel_rfl) (of_nf (p := OkB x ∧ List.length x + (300 : Nat) ≤ lim ∧ brP (!rdO x) (Option.getD (Option.map (fun (x : List Int × List Int) => Prod.fst x) (clashT l k x)) [] = [] ∧ Option.getD (Option.map (fun (x : List Int × List Int) => Prod.snd x) (clashT l k x)) [] = [] ∧ false = Option.isSome (clashT l k x) ∧ True) (k = k ∧ List.length (rdS x) = List.length (lL dG (List.length (rdS x)) (lC dE [] (rdS x))) ∧ (∀ (i : Nat), i < List.length (lL dG (List.length (rdS x)) (lC dE [] (rdS x))) → lC dE [] (rdS x) i = lC dE [] (lL dG (List.length (rdS x)) (lC dE [] (rdS x))) i) ∧ List.length (rdE x) = List.length (lL tG (List.length (rdE x)) (lC tE tZ (rdE x))) ∧ (∀ (i : Nat), i < List.length (lL tG (List.length (rdE x)) (lC tE tZ (rdE x))) → lC tE tZ (rdE x) i = lC tE tZ (lL tG (List.length (rdE x)) (lC tE tZ (rdE x))) i) ∧ OkB k ∧ List.length k = (32 : Nat) ∧ List.length (lL dG (List.length (rdS x)) (lC dE [] (rdS x))) ≤ (256 : Nat) ∧ List.length (lL tG (List.length (rdE x)) (lC tE tZ (rdE x))) ≤ (1 : Nat) ∧ (∀ (x_1 : TE), x_1 ∈ lL tG (List.length (rdE x)) (lC tE tZ (rdE x)) → List.length (Prod.fst x_1) = (32 : Nat) ∧ OkB (Prod.fst x_1)) ∧ brP (!fitsT k (lL dG (List.length (rdS x)) (lC dE [] (rdS x))) (lL tG (List.length (rdE x)) (lC tE tZ (rdE x)))) (Option.getD (Option.map (fun (x : List Int × List Int) => Prod.fst x) (clashT l k x)) [] = [] ∧ Option.getD (Option.map (fun (x : List Int × List Int) => Prod.snd x) (clashT l k x)) [] = [] ∧ false = Option.isSome (clashT l k x) ∧ True) (List.length l = List.length (lL tG (List.length l) (lC tE tZ l)) ∧ (∀ (i : Nat), i < List.length (lL tG (List.length l) (lC tE tZ l)) → lC tE tZ l i = lC tE tZ (lL tG (List.length l) (lC tE tZ l)) i) ∧ OkK (lL tG (List.length l) (lC tE tZ l)) ∧ List.length (lL tG (List.length l) (lC tE tZ l)) < (1099511627776 : Nat) ∧ brP (!decide (mayT (lL tG (List.length l) (lC tE tZ l)))) (Option.getD (Option.map (fun (x : List Int × List Int) => Prod.fst x) (clashT l k x)) [] = [] ∧ Option.getD (Option.map (fun (x : List Int × List Int) => Prod.snd x) (clashT l k x)) [] = [] ∧ false = Option.isSome (clashT l k x) ∧ True) (List.length l = List.length (lL tG (List.length l) (lC tE tZ l)) ∧ (∀ (i : Nat), i < List.length (lL tG (List.length l) (lC tE tZ l)) → lC tE tZ l i = lC tE tZ (lL tG (List.length l) (lC tE tZ l)) i) ∧ k = k ∧ OkK (lL tG (List.length l) (lC tE tZ l)) ∧ List.length (lL tG (List.length l) (lC tE tZ l)) < (1099511627776 : Nat) ∧ mayT (lL tG (List.length l) (lC tE tZ l)) ∧ (∀ (e : TE), e ∈ lL tG (List.length l) (lC tE tZ l) → List.length (Prod.snd e) + (300 : Nat) ≤ lim) ∧ OkB k ∧ List.length k = (32 : Nat) ∧ k = k ∧ List.length (Prod.fst (wayT (256 : Nat) (lL tG (List.length l) (lC tE tZ l)) k)) = List.length (lL dG (List.length (Prod.fst (wayT (256 : Nat) (lL tG (List.length l) (lC tE tZ l)) k))) (lC dE [] (Prod.fst (wayT (256 : Nat) (lL tG (List.length l) (lC tE tZ l)) k)))) ∧ (∀ (i : Nat), i < List.length (lL dG (List.length (Prod.fst (wayT (256 : Nat) (lL tG (List.length l) (lC tE tZ l)) k))) (lC dE [] (Prod.fst (wayT (256 : Nat) (lL tG (List.length l) (lC tE tZ l)) k)))) → lC dE [] (Prod.fst (wayT (256 : Nat) (lL tG (List.length l) (lC tE tZ l)) k)) i = lC dE [] (lL dG (List.length (Prod.fst (wayT (256 : Nat) (lL tG (List.length l) (lC tE tZ l)) k))) (lC dE [] (Prod.fst (wayT (256 : Nat) (lL tG (List.length l) (lC tE tZ l)) k)))) i) ∧ List.length (Prod.snd (wayT (256 : Nat) (lL tG (List.length l) (lC tE tZ l)) k)) = List.length (lL tG (List.length (Prod.snd (wayT (256 : Nat) (lL tG (List.length l) (lC tE tZ l)) k))) (lC tE tZ (Prod.snd (wayT (256 : Nat) (lL tG (List.length l) (lC tE tZ l)) k)))) ∧ (∀ (i : Nat), i < List.length (lL tG (List.length (Prod.snd (wayT (256 : Nat) (lL tG (List.length l) (lC tE tZ l)) k))) (lC tE tZ (Prod.snd (wayT (256 : Nat) (lL tG (List.length l) (lC tE tZ l)) k)))) → lC tE tZ (Prod.snd (wayT (256 : Nat) (lL tG (List.length l) (lC tE tZ l)) k)) i = lC tE tZ (lL tG (List.length (Prod.snd (wayT (256 : Nat) (lL tG (List.length l) (lC tE tZ l)) k))) (lC tE tZ (Prod.snd (wayT (256 : Nat) (lL tG (List.length l) (lC tE tZ l)) k)))) i) ∧ OkB k ∧ List.length k = (32 : Nat) ∧ List.length (lL dG (List.length (Prod.fst (wayT (256 : Nat) (lL tG (List.length l) (lC tE tZ l)) k))) (lC dE [] (Prod.fst (wayT (256 : Nat) (lL tG (List.length l) (lC tE tZ l)) k)))) ≤ (256 : Nat) ∧ (∀ (x : List Int), x ∈ lL dG (List.length (Prod.fst (wayT (256 : Nat) (lL tG (List.length l) (lC tE tZ l)) k))) (lC dE [] (Prod.fst (wayT (256 : Nat) (lL tG (List.length l) (lC tE tZ l)) k))) → List.length x = (32 : Nat) ∧ OkB x) ∧ List.length (lL tG (List.length (Prod.snd (wayT (256 : Nat) (lL tG (List.length l) (lC tE tZ l)) k))) (lC tE tZ (Prod.snd (wayT (256 : Nat) (lL tG (List.length l) (lC tE tZ l)) k)))) ≤ (1 : Nat) ∧ OkK (lL tG (List.length (Prod.snd (wayT (256 : Nat) (lL tG (List.length l) (lC tE tZ l)) k))) (lC tE tZ (Prod.snd (wayT (256 : Nat) (lL tG (List.length l) (lC tE tZ l)) k)))) ∧ (∀ (x : TE), x ∈ lL tG (List.length (Prod.snd (wayT (256 : Nat) (lL tG (List.length l) (lC tE tZ l)) k))) (lC tE tZ (Prod.snd (wayT (256 : Nat) (lL tG (List.length l) (lC tE tZ l)) k))) → List.length (Prod.snd x) + (300 : Nat) ≤ lim) ∧ k = k ∧ List.length (rdS x) = List.length (lL dG (List.length (rdS x)) (lC dE [] (rdS x))) ∧ (∀ (i : Nat), i < List.length (lL dG (List.length (rdS x)) (lC dE [] (rdS x))) → lC dE [] (rdS x) i = lC dE [] (lL dG (List.length (rdS x)) (lC dE [] (rdS x))) i) ∧ List.length (rdE x) = List.length (lL tG (List.length (rdE x)) (lC tE tZ (rdE x))) ∧ (∀ (i : Nat), i < List.length (lL tG (List.length (rdE x)) (lC tE tZ (rdE x))) → lC tE tZ (rdE x) i = lC tE tZ (lL tG (List.length (rdE x)) (lC tE tZ (rdE x))) i) ∧ OkB k ∧ List.length k = (32 : Nat) ∧ List.length (lL dG (List.length (rdS x)) (lC dE [] (rdS x))) ≤ (256 : Nat) ∧ (∀ (x_1 : List Int), x_1 ∈ lL dG (List.length (rdS x)) (lC dE [] (rdS x)) → List.length x_1 = (32 : Nat) ∧ OkB x_1) ∧ List.length (lL tG (List.length (rdE x)) (lC tE tZ (rdE x))) ≤ (1 : Nat) ∧ OkK (lL tG (List.length (rdE x)) (lC tE tZ (rdE x))) ∧ (∀ (x_1 : TE), x_1 ∈ lL tG (List.length (rdE x)) (lC tE tZ (rdE x)) → List.length (Prod.snd x_1) + (300 : Nat) ≤ lim) ∧ (∃ (t : Nat), (if (↑(Cont.len (Cont.bts (txsT k (0 : Nat) (lL dG (List.length (rdS x)) (lC dE [] (rdS x))) (lL tG (List.length (rdE x)) (lC tE tZ (rdE x)))))) : Int) < (↑(Cont.len (Cont.bts (txsT k (0 : Nat) (lL dG (List.length (Prod.fst (wayT (256 : Nat) (lL tG (List.length l) (lC tE tZ l)) k))) (lC dE [] (Prod.fst (wayT (256 : Nat) (lL tG (List.length l) (lC tE tZ l)) k)))) (lL tG (List.length (Prod.snd (wayT (256 : Nat) (lL tG (List.length l) (lC tE tZ l)) k))) (lC tE tZ (Prod.snd (wayT (256 : Nat) (lL tG (List.length l) (lC tE tZ l)) k))))))) : Int) then (↑(Cont.len (Cont.bts (txsT k (0 : Nat) (lL dG (List.length (rdS x)) (lC dE [] (rdS x))) (lL tG (List.length (rdE x)) (lC tE tZ (rdE x)))))) : Int) else (↑(Cont.len (Cont.bts (txsT k (0 : Nat) (lL dG (List.length (Prod.fst (wayT (256 : Nat) (lL tG (List.length l) (lC tE tZ l)) k))) (lC dE [] (Prod.fst (wayT (256 : Nat) (lL tG (List.length l) (lC tE tZ l)) k)))) (lL tG (List.length (Prod.snd (wayT (256 : Nat) (lL tG (List.length l) (lC tE tZ l)) k))) (lC tE tZ (Prod.snd (wayT (256 : Nat) (lL tG (List.length l) (lC tE tZ l)) k))))))) : Int)) = (↑(min (List.length (Prod.fst (wayT (256 : Nat) l k)) + (1 : Nat)) (List.length (rdS x) + (1 : Nat))) : Int) ∧ (0 : Int) = (↑t : Int) ∧ txsT k (0 : Nat) (lL dG (List.length (Prod.fst (wayT (256 : Nat) (lL tG (List.length l) (lC tE tZ l)) k))) (lC dE [] (Prod.fst (wayT (256 : Nat) (lL tG (List.length l) (lC tE tZ l)) k)))) (lL tG (List.length (Prod.snd (wayT (256 : Nat) (lL tG (List.length l) (lC tE tZ l)) k))) (lC tE tZ (Prod.snd (wayT (256 : Nat) (lL tG (List.length l) (lC tE tZ l)) k)))) = txsT k (0 : Nat) (Prod.fst (wayT (256 : Nat) l k)) (Prod.snd (wayT (256 : Nat) l k)) ∧ txsT k (0 : Nat) (lL dG (List.length (rdS x)) (lC dE [] (rdS x))) (lL tG (List.length (rdE x)) (lC tE tZ (rdE x))) = txsT k (0 : Nat) (rdS x) (rdE x) ∧ (t ≤ List.length (Prod.fst (wayT (256 : Nat) l k)) + (1 : Nat) ∧ t ≤ List.length (rdS x) + (1 : Nat) ∧ clT (List.drop t (txsT k (0 : Nat) (Prod.fst (wayT (256 : Nat) l k)) (Prod.snd (wayT (256 : Nat) l k)))) (List.drop t (txsT k (0 : Nat) (rdS x) (rdE x))) = clT (txsT k (0 : Nat) (Prod.fst (wayT (256 : Nat) l k)) (Prod.snd (wayT (256 : Nat) l k))) (txsT k (0 : Nat) (rdS x) (rdE x))) ∧ True) ∧ ∀ (t : Nat), t ≤ List.length (Prod.fst (wayT (256 : Nat) l k)) + (1 : Nat) ∧ t ≤ List.length (rdS x) + (1 : Nat) ∧ clT (List.drop t (txsT k (0 : Nat) (Prod.fst (wayT (256 : Nat) l k)) (Prod.snd (wayT (256 : Nat) l k)))) (List.drop t (txsT k (0 : Nat) (rdS x) (rdE x))) = clT (txsT k (0 : Nat) (Prod.fst (wayT (256 : Nat) l k)) (Prod.snd (wayT (256 : Nat) l k))) (txsT k (0 : Nat) (rdS x) (rdE x)) → brP (decide ((↑t : Int) < (↑(min (List.length (Prod.fst (wayT (256 : Nat) l k)) + (1 : Nat)) (List.length (rdS x) + (1 : Nat))) : Int))) (((0 : Int) ≤ (↑t : Int) ∧ (↑t : Int) < (↑(Cont.len (Cont.bts (txsT k (0 : Nat) (Prod.fst (wayT (256 : Nat) l k)) (Prod.snd (wayT (256 : Nat) l k))))) : Int)) ∧ ((0 : Int) ≤ (↑t : Int) ∧ (↑t : Int) < (↑(Cont.len (Cont.bts (txsT k (0 : Nat) (rdS x) (rdE x)))) : Int)) ∧ OkB (List.getD (txsT k (0 : Nat) (Prod.fst (wayT (256 : Nat) l k)) (Prod.snd (wayT (256 : Nat) l k))) (Int.toNat (↑t : Int)) []) ∧ OkB (List.getD (txsT k (0 : Nat) (rdS x) (rdE x)) (Int.toNat (↑t : Int)) []) ∧ brP (!decide (List.getD (txsT k (0 : Nat) (Prod.fst (wayT (256 : Nat) l k)) (Prod.snd (wayT (256 : Nat) l k))) (Int.toNat (↑t : Int)) [] = List.getD (txsT k (0 : Nat) (rdS x) (rdE x)) (Int.toNat (↑t : Int)) [])) (((0 : Int) ≤ (↑t : Int) ∧ (↑t : Int) < (↑(Cont.len (Cont.bts (txsT k (0 : Nat) (Prod.fst (wayT (256 : Nat) l k)) (Prod.snd (wayT (256 : Nat) l k))))) : Int)) ∧ OkB (List.getD (txsT k (0 : Nat) (Prod.fst (wayT (256 : Nat) l k)) (Prod.snd (wayT (256 : Nat) l k))) (Int.toNat (↑t : Int)) []) ∧ ((0 : Int) ≤ (↑t : Int) ∧ (↑t : Int) < (↑(Cont.len (Cont.bts (txsT k (0 : Nat) (rdS x) (rdE x)))) : Int)) ∧ OkB (List.getD (txsT k (0 : Nat) (rdS x) (rdE x)) (Int.toNat (↑t : Int)) []) ∧ brP (sumB shaK (List.getD (txsT k (0 : Nat) (Prod.fst (wayT (256 : Nat) l k)) (Prod.snd (wayT (256 : Nat) l k))) (Int.toNat (↑t : Int)) []) == sumB shaK (List.getD (txsT k (0 : Nat) (rdS x) (rdE x)) (Int.toNat (↑t : Int)) [])) (((0 : Int) ≤ (↑t : Int) ∧ (↑t : Int) < (↑(Cont.len (Cont.bts (txsT k (0 : Nat) (Prod.fst (wayT (256 : Nat) l k)) (Prod.snd (wayT (256 : Nat) l k))))) : Int)) ∧ ((0 : Int) ≤ (↑t : Int) ∧ (↑t : Int) < (↑(Cont.len (Cont.bts (txsT k (0 : Nat) (rdS x) (rdE x)))) : Int)) ∧ List.getD (txsT k (0 : Nat) (Prod.fst (wayT (256 : Nat) l k)) (Prod.snd (wayT (256 : Nat) l k))) (Int.toNat (↑t : Int)) [] = Option.getD (Option.map (fun (x : List Int × List Int) => Prod.fst x) (clashT l k x)) [] ∧ List.getD (txsT k (0 : Nat) (rdS x) (rdE x)) (Int.toNat (↑t : Int)) [] = Option.getD (Option.map (fun (x : List Int × List Int) => Prod.snd x) (clashT l k x)) [] ∧ true = Option.isSome (clashT l k x) ∧ True) (∃ (t_1 : Nat), (↑(min (List.length (Prod.fst (wayT (256 : Nat) l k)) + (1 : Nat)) (List.length (rdS x) + (1 : Nat))) : Int) = (↑(min (List.length (Prod.fst (wayT (256 : Nat) l k)) + (1 : Nat)) (List.length (rdS x) + (1 : Nat))) : Int) ∧ IntKind.wrap IntKind.i64 ((↑t : Int) + (1 : Int)) = (↑t_1 : Int) ∧ txsT k (0 : Nat) (Prod.fst (wayT (256 : Nat) l k)) (Prod.snd (wayT (256 : Nat) l k)) = txsT k (0 : Nat) (Prod.fst (wayT (256 : Nat) l k)) (Prod.snd (wayT (256 : Nat) l k)) ∧ txsT k (0 : Nat) (rdS x) (rdE x) = txsT k (0 : Nat) (rdS x) (rdE x) ∧ (t_1 ≤ List.length (Prod.fst (wayT (256 : Nat) l k)) + (1 : Nat) ∧ t_1 ≤ List.length (rdS x) + (1 : Nat) ∧ clT (List.drop t_1 (txsT k (0 : Nat) (Prod.fst (wayT (256 : Nat) l k)) (Prod.snd (wayT (256 : Nat) l k)))) (List.drop t_1 (txsT k (0 : Nat) (rdS x) (rdE x))) = clT (txsT k (0 : Nat) (Prod.fst (wayT (256 : Nat) l k)) (Prod.snd (wayT (256 : Nat) l k))) (txsT k (0 : Nat) (rdS x) (rdE x))) ∧ List.length (rdS x) + (1 : Nat) - t_1 < List.length (rdS x) + (1 : Nat) - t ∧ True)) (∃ (t_1 : Nat), (↑(min (List.length (Prod.fst (wayT (256 : Nat) l k)) + (1 : Nat)) (List.length (rdS x) + (1 : Nat))) : Int) = (↑(min (List.length (Prod.fst (wayT (256 : Nat) l k)) + (1 : Nat)) (List.length (rdS x) + (1 : Nat))) : Int) ∧ IntKind.wrap IntKind.i64 ((↑t : Int) + (1 : Int)) = (↑t_1 : Int) ∧ txsT k (0 : Nat) (Prod.fst (wayT (256 : Nat) l k)) (Prod.snd (wayT (256 : Nat) l k)) = txsT k (0 : Nat) (Prod.fst (wayT (256 : Nat) l k)) (Prod.snd (wayT (256 : Nat) l k)) ∧ txsT k (0 : Nat) (rdS x) (rdE x) = txsT k (0 : Nat) (rdS x) (rdE x) ∧ (t_1 ≤ List.length (Prod.fst (wayT (256 : Nat) l k)) + (1 : Nat) ∧ t_1 ≤ List.length (rdS x) + (1 : Nat) ∧ clT (List.drop t_1 (txsT k (0 : Nat) (Prod.fst (wayT (256 : Nat) l k)) (Prod.snd (wayT (256 : Nat) l k)))) (List.drop t_1 (txsT k (0 : Nat) (rdS x) (rdE x))) = clT (txsT k (0 : Nat) (Prod.fst (wayT (256 : Nat) l k)) (Prod.snd (wayT (256 : Nat) l k))) (txsT k (0 : Nat) (rdS x) (rdE x))) ∧ List.length (rdS x) + (1 : Nat) - t_1 < List.length (rdS x) + (1 : Nat) - t ∧ True)) (Option.getD (Option.map (fun (x : List Int × List Int) => Prod.fst x) (clashT l k x)) [] = [] ∧ Option.getD (Option.map (fun (x : List Int × List Int) => Prod.snd x) (clashT l k x)) [] = [] ∧ false = Option.isSome (clashT l k x) ∧ True))))) (by kernel_rfl) (by
    obtain ⟨ho, hl, hv2, hk, hkl, hx, hxl, _⟩ := hp
    have hlim : lim = 68719476736 := rfl
    have hv : ∀ e ∈ l, e.2.length + 300 ≤ lim := fun e he => by have := hv2 e he; omega
    simp only [lL_self tG_tE, lL_self dG_dE]
    obtain ⟨r1, r2, r3, r4⟩ := rd_ok hx
    have r5 : OkK (rdE x) := fun e he => ⟨(r4 e he).1, (r4 e he).2.1, (r4 e he).2.2.1, by have := (r4 e he).2.2.2; omega⟩
    have r6 : ∀ e ∈ rdE x, e.2.length + 300 ≤ lim := fun e he => by have := (r4 e he).2.2.2; omega
    have none_ : clashT l k x = none → Option.getD (Option.map (fun x : List Int × List Int => x.1) (clashT l k x)) [] = [] ∧ Option.getD (Option.map (fun x : List Int × List Int => x.2) (clashT l k x)) [] = [] ∧ false = (clashT l k x).isSome ∧ True := fun h => by rw [h]; exact ⟨rfl, rfl, rfl, trivial⟩
    refine ⟨hx, by omega, brI (fun h => none_ (clash_no (.inl (by simpa using h)))) (fun h => ?_)⟩
    have h : rdO x = true := by simpa using h
    refine ⟨trivial, trivial, fun _ _ => trivial, trivial, fun _ _ => trivial, hk, hkl, r2, r3, fun e he => ⟨(r4 e he).1, (r4 e he).2.1⟩, brI (fun hf => none_ (clash_no (.inr (.inl (by simpa using hf))))) (fun hf => ?_)⟩
    have hf : fitsT k (rdS x) (rdE x) = true := by simpa using hf
    refine ⟨trivial, fun _ _ => trivial, ho, hl, brI (fun hm => none_ (clash_no (.inr (.inr (by simpa using hm))))) (fun hm => ?_)⟩
    have hm : mayT l := by simpa using hm
    have hcl := clash_yes h hf hm
    have hs := may_srt hm fun e he => ⟨(ho e he).1, (ho e he).2.1⟩
    have wl := way_len k 256 l
    have we := way_end k hs (Nat.le_refl _)
    have ws : ∀ s ∈ (wayT 256 l k).1, s.length = 32 ∧ OkB s := fun s hs => by
      obtain ⟨t, rfl⟩ := way_side k 256 l s hs; exact ⟨sumB_len _ _, sumB_ok2 _⟩
    have wo : OkK (wayT 256 l k).2 := fun e he => ho e (way_mem k 256 l e he)
    have wv : ∀ e ∈ (wayT 256 l k).2, e.2.length + 300 ≤ lim := fun e he => hv e (way_mem k 256 l e he)
    rw [hcl]
    generalize wayT 256 l k = ww at wl we ws wo wv ⊢
    obtain ⟨s, e⟩ := ww
    dsimp only at wl we ws wo wv ⊢
    have la := txs_len k s 0 e
    have lb := txs_len k (rdS x) 0 (rdE x)
    have oa := txs_all (k := k) (d := 0) (fun t ht => (ws t ht).2) wo
    have ob := txs_all (k := k) (d := 0) (fun t ht => (r1 t ht).2) r5
    generalize txsT k 0 s e = A at la oa ⊢
    generalize txsT k 0 (rdS x) (rdE x) = B at lb ob ⊢
    have eA : ∀ C : List (List Int), (Cont.bts C).len = C.length := fun _ => rfl
    simp only [eA, la, lb]
    have step : ∀ t, t < s.length + 1 → t < (rdS x).length + 1 → clT (A.drop t) (B.drop t) = clT A B → ¬ (A.getD t [] ≠ B.getD t [] ∧ sumB shaK (A.getD t []) = sumB shaK (B.getD t [])) → clT (A.drop (t + 1)) (B.drop (t + 1)) = clT A B := fun t h1 h2 h3 h4 => by
      rw [cl_step (by omega) (by omega), if_neg h4] at h3; exact h3
    repeat' first | with_reducible apply And.intro | with_reducible trivial | assumption | exact fun _ _ => trivial | with_reducible rfl
    · refine ⟨0, ?_, rfl, trivial, trivial, ⟨Nat.zero_le _, Nat.zero_le _, rfl⟩, trivial⟩
      split <;> omega
    · rintro t ⟨h1, h2, h3⟩
      have nx : IntKind.wrap .i64 ((t : Int) + 1) = ((t + 1 : Nat) : Int) := by rw [wi _ (by omega) (by omega)]; rfl
      refine brI (fun hc => ?_) (fun hc => ?_)
      · have hc := of_decide_eq_true hc
        have ha : t < s.length + 1 := by omega
        have hb : t < (rdS x).length + 1 := by omega
        have og := getD_all oa (t := t) (by omega)
        have oh := getD_all ob (t := t) (by omega)
        rw [Int.toNat_natCast, nx]
        refine ⟨⟨by omega, by omega⟩, ⟨by omega, by omega⟩, og, oh, brI (fun hd => ?_) (fun hd => ?_)⟩
        · have hd : A.getD t [] ≠ B.getD t [] := by simpa using hd
          refine ⟨⟨by omega, by omega⟩, og, ⟨by omega, by omega⟩, oh, brI (fun hq => ?_) (fun hq => ?_)⟩
          · have hq := beq_iff_eq.1 hq
            rw [← h3, cl_step (by omega) (by omega), if_pos ⟨hd, hq⟩]
            exact ⟨⟨by omega, by omega⟩, ⟨by omega, by omega⟩, rfl, rfl, rfl, trivial⟩
          · have hq := beq_eq_false_iff_ne.1 hq
            exact ⟨t + 1, trivial, rfl, trivial, trivial, ⟨by omega, by omega, step t ha hb h3 fun h => hq h.2⟩, by omega, trivial⟩
        · have hd : A.getD t [] = B.getD t [] := by simpa using hd
          exact ⟨t + 1, trivial, rfl, trivial, trivial, ⟨by omega, by omega, step t ha hb h3 fun h => h.1 hd⟩, by omega, trivial⟩
      · have hc := of_decide_eq_false hc
        have : A.drop t = [] ∨ B.drop t = [] := by
          rcases Nat.le_total (s.length + 1) ((rdS x).length + 1) with h | h
          · left; exact List.drop_eq_nil_of_le (by omega)
          · right; exact List.drop_eq_nil_of_le (by omega)
        rw [← h3, cl_end this]
        exact ⟨rfl, rfl, rfl, trivial⟩))
noncomputable def gtrieClash : Con := fun args H => match args, H with
  | [.a (.d (.sl 33 m c)), .agg [.ints .u8 32 k], .a (.d (.si .u8 x))], [] => (fun (l : List TE) (k x : List Int) => conC args H [.a (.d (.sl 33 (l).length (lC tE tZ (l)))), .agg [.ints .u8 32 k], .a (.d (.si .u8 x))] [] ⟨[OkK l, l.length < 1099511627776, ∀ e ∈ l, e.2.length + 20000 ≤ lim, OkB k, k.length = 32, OkB x, x.length + 20000 ≤ lim], .t [.a (.d (.si .u8 (((clashT l k x).map (·.1)).getD []))), .a (.d (.si .u8 (((clashT l k x).map (·.2)).getD []))), .a (.d (.v (.bool ((clashT l k x).isSome))))], []⟩) (lL tG m c) (k) (x)
  | _, _ => none
theorem vtrieClash : Valid Tryd.prog Gs 21 gtrieClash := by
  intro args H r h hp
  unfold gtrieClash at h
  split at h
  · rename_i m c k x
    exact conC_ok h hp fun hp => oktrieClash (lL tG m c) (k) (x) hp
  · cases h
noncomputable def ct_trieClash : List (Nat × Ct) := (21, ⟨[], true, gtrieClash, none⟩) :: ct_trieVerify
theorem ctok_trieClash : CtsOk Tryd.prog Gs ct_trieClash := CtsOk.cons vtrieClash (by kernel_rfl) ctok_trieVerify
end Go.Proofs.YtfobhaodflfedaaDoor
