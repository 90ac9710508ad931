/- Parts split, by both texts. -/
import Derived.Test.YtfobhaodflfedaaDoorYcB
namespace Go.Proofs.YtfobhaodflfedaaDoor
open Go.Dx Go.RowKit
set_option linter.unusedVariables false
set_option linter.unusedSimpArgs false
set_option maxRecDepth 100000
attribute [local irreducible] wpS
noncomputable def an44 (L : List Int) : Nat → List Nat → List Ann := fun bk_ gs_ => match bk_, gs_ with
    | 0, _ => [{ τ := Nat, t0 := (default : Nat), J := fun i => i ≤ 8, m := fun i => 8 - i, l := fun i => [(7, .s (.a (.d (.si .u8 (L.take 8))))), (8, eI .i64 8), (9, eI .i64 i), (3, eI .u64 (acc8 L i))], H := fun _ => [] }]
    | _, _ => []
theorem ok44 (L : List Int) (hp : allP [8 ≤ L.length, OkB L]) : CallsOk Tryd.prog Gs 68 [.a (.d (.si .u8 L))] [] (eI .u64 (be8v L)) [] :=
  ok_of (ann := an44 L) ctok_trieProve mixed Tryd.func68 (by kernel_rfl) (of_nf (p := ((0 : Int) ≤ (8 : Int) ∧ (8 : Int) ≤ (↑(List.length L) : Int)) ∧ (∃ (t : Nat), cutL L none (some (IntKind.i64, (8 : Int))) = List.take (8 : Nat) L ∧ (↑(List.length (cutL L none (some (IntKind.i64, (8 : Int))))) : Int) = (8 : Int) ∧ (0 : Int) = (↑t : Int) ∧ (0 : Int) = acc8 L t ∧ t ≤ (8 : Nat) ∧ True) ∧ ∀ (t : Nat), t ≤ (8 : Nat) → brP (decide ((↑t : Int) < (8 : Int))) (((0 : Int) ≤ (↑t : Int) ∧ (↑t : Int) < (↑(List.length (List.take (8 : Nat) L)) : Int)) ∧ (0 : Int) ≤ (8 : Int) ∧ ∃ (t_1 : Nat), List.take (8 : Nat) L = List.take (8 : Nat) L ∧ (8 : Int) = (8 : Int) ∧ IntKind.wrap IntKind.i64 ((↑t : Int) + (1 : Int)) = (↑t_1 : Int) ∧ bOr IntKind.u64 (IntKind.wrap IntKind.u64 (acc8 L t * (2 : Int) ^ min (Int.toNat (8 : Int)) (IntKind.bits IntKind.u64))) (IntKind.wrap IntKind.u64 (List.getD (List.take (8 : Nat) L) (Int.toNat (↑t : Int)) (0 : Int))) = acc8 L t_1 ∧ t_1 ≤ (8 : Nat) ∧ (8 : Nat) - t_1 < (8 : Nat) - t ∧ True) (acc8 L t = be8v L ∧ True)) (by kernel_rfl) (by
    obtain ⟨h8, hb, _⟩ := hp
    have hl : (L.take 8).length = 8 := by simp; omega
    refine ⟨by omega, ⟨0, rfl, by show ((L.take 8).length : Int) = 8; rw [hl]; rfl, rfl, rfl, by omega, trivial⟩, fun t ht => brI (fun hc => ?_) (fun hc => ?_)⟩
    · have hc : t < 8 := by have := of_decide_eq_true hc; omega
      refine ⟨by rw [hl]; omega, by omega, t + 1, rfl, rfl, by rw [wi _ (by omega) (by omega)]; rfl, ?_, by omega, by omega, trivial⟩
      rw [getD_take _ (by omega), Int.toNat_natCast]
      rfl
    · have hc : ¬ (t : Int) < 8 := of_decide_eq_false hc
      obtain rfl : t = 8 := by omega
      exact ⟨be8_acc hb, trivial⟩))
noncomputable def g44 : Con := fun args H => match args, H with
  | [.a (.d (.si .u8 L))], [] => some ⟨[8 ≤ L.length, OkB L], eI .u64 (be8v L), []⟩
  | _, _ => none
theorem v44 : Valid Tryd.prog Gs 68 g44 := by
  intro args H r h hp
  unfold g44 at h
  split at h
  · simp only [Option.some.injEq] at h; subst h; exact ok44 _ hp
  · cases h
noncomputable def ct_44 : List (Nat × Ct) := (68, ⟨[], false, g44, none⟩) :: ct_trieProve
theorem ctok_44 : CtsOk Tryd.prog Gs ct_44 := CtsOk.cons v44 (by kernel_rfl) ctok_trieProve
noncomputable def an17 (L : List Int) : Nat → List Nat → List Ann := fun bk_ gs_ => match bk_, gs_ with
    | 0, _ => [{ τ := List (List Int) × List Int, t0 := (default : List (List Int) × List Int), J := fun t => SJ L t.1 t.2, m := fun t => (be8v L).toNat - t.1.length, l := fun t => [(0, .s (.a (.d (.si .u8 t.2)))), (5, .s (.a (.rw 5))), (20, eI .u64 (be8v L)), (21, eI .u64 t.1.length)], H := fun t => [(5, .row (.bts t.1) 31)] }]
    | _, _ => []
theorem ok17 (L : List Int) (hp : allP [OkB L, L.length ≤ lim]) : CallsOk Tryd.prog Gs 56 [.a (.d (.si .u8 L))] [] (.t [.a (.rw 0), .a (.d (.v (.bool (splitB L).isSome)))]) [(0, .row (.bts ((splitB L).getD [])) 31)] :=
  ok_of (ann := an17 L) ctok_44 mixed Tryd.func56 (by kernel_rfl) (of_nf (p := brP (decide ((↑(List.length L) : Int) < (8 : Int))) (false = Option.isSome (splitB L) ∧ [] = Option.getD (splitB L) [] ∧ True) ((8 : Nat) ≤ List.length L ∧ OkB L ∧ ((0 : Int) ≤ (8 : Int) ∧ (8 : Int) ≤ (↑(List.length L) : Int)) ∧ (8 : Int) ≠ (0 : Int) ∧ brP (decide (be8v L > IntKind.wrap IntKind.u64 (Int.tdiv (IntKind.wrap IntKind.u64 (↑(List.length (cutL L (some (IntKind.i64, (8 : Int))) none)) : Int)) (8 : Int)))) (false = Option.isSome (splitB L) ∧ [] = Option.getD (splitB L) [] ∧ True) ((∃ (t : List (List Int) × List Int), cutL L (some (IntKind.i64, (8 : Int))) none = Prod.snd t ∧ be8v L = be8v L ∧ (0 : Int) = (↑(List.length (Prod.fst t)) : Int) ∧ [] = Prod.fst t ∧ SJ L (Prod.fst t) (Prod.snd t) ∧ True) ∧ ∀ (t : List (List Int) × List Int), SJ L (Prod.fst t) (Prod.snd t) → brP (decide ((↑(List.length (Prod.fst t)) : Int) < be8v L)) (brP (decide ((↑(List.length (Prod.snd t)) : Int) < (8 : Int))) (false = Option.isSome (splitB L) ∧ [] = Option.getD (splitB L) [] ∧ True) ((8 : Nat) ≤ List.length (Prod.snd t) ∧ OkB (Prod.snd t) ∧ brP (decide (be8v (Prod.snd t) > IntKind.wrap IntKind.u64 (IntKind.wrap IntKind.i64 ((↑(List.length (Prod.snd t)) : Int) - (8 : Int))))) (false = Option.isSome (splitB L) ∧ [] = Option.getD (splitB L) [] ∧ True) ((8 : Nat) ≤ List.length (Prod.snd t) ∧ OkB (Prod.snd t) ∧ ((0 : Int) ≤ (8 : Int) ∧ (8 : Int) ≤ IntKind.wrap IntKind.i64 ((8 : Int) + IntKind.wrap IntKind.i64 (be8v (Prod.snd t))) ∧ IntKind.wrap IntKind.i64 ((8 : Int) + IntKind.wrap IntKind.i64 (be8v (Prod.snd t))) ≤ (↑(List.length (Prod.snd t)) : Int)) ∧ Cont.len (Cont.ints IntKind.u8 (cutL (Prod.snd t) (some (IntKind.i64, (8 : Int))) (some (IntKind.i64, IntKind.wrap IntKind.i64 ((8 : Int) + IntKind.wrap IntKind.i64 (be8v (Prod.snd t))))))) ≤ lim ∧ Cont.len (Cont.bts (Prod.fst t)) + Cont.len (Cont.bts [cutL (Prod.snd t) (some (IntKind.i64, (8 : Int))) (some (IntKind.i64, IntKind.wrap IntKind.i64 ((8 : Int) + IntKind.wrap IntKind.i64 (be8v (Prod.snd t)))))]) ≤ lim ∧ ((0 : Int) ≤ IntKind.wrap IntKind.i64 ((8 : Int) + IntKind.wrap IntKind.i64 (be8v (Prod.snd t))) ∧ IntKind.wrap IntKind.i64 ((8 : Int) + IntKind.wrap IntKind.i64 (be8v (Prod.snd t))) ≤ (↑(List.length (Prod.snd t)) : Int)) ∧ ∃ (t_1 : List (List Int) × List Int), cutL (Prod.snd t) (some (IntKind.i64, IntKind.wrap IntKind.i64 ((8 : Int) + IntKind.wrap IntKind.i64 (be8v (Prod.snd t))))) none = Prod.snd t_1 ∧ be8v L = be8v L ∧ IntKind.wrap IntKind.u64 ((↑(List.length (Prod.fst t)) : Int) + (1 : Int)) = (↑(List.length (Prod.fst t_1)) : Int) ∧ Prod.fst t ++ [cutL (Prod.snd t) (some (IntKind.i64, (8 : Int))) (some (IntKind.i64, IntKind.wrap IntKind.i64 ((8 : Int) + IntKind.wrap IntKind.i64 (be8v (Prod.snd t)))))] = Prod.fst t_1 ∧ SJ L (Prod.fst t_1) (Prod.snd t_1) ∧ Int.toNat (be8v L) - List.length (Prod.fst t_1) < Int.toNat (be8v L) - List.length (Prod.fst t) ∧ True))) (brP (decide ((↑(List.length (Prod.snd t)) : Int) > (0 : Int))) (false = Option.isSome (splitB L) ∧ [] = Option.getD (splitB L) [] ∧ True) (true = Option.isSome (splitB L) ∧ Prod.fst t = Option.getD (splitB L) [] ∧ True))))) (by kernel_rfl) (by
    obtain ⟨hb, hl, _⟩ := hp
    have hlim : lim = 68719476736 := rfl
    have hv := be8v_lt hb
    refine brI (fun hc => ?_) (fun hc => ?_)
    · have hc : L.length < 8 := by have := of_decide_eq_true hc; omega
      exact split_none (by unfold splitB; rw [if_pos hc])
    · have hc : 8 ≤ L.length := by have := of_decide_eq_false hc; omega
      have e0 : IntKind.wrap .u64 (Int.tdiv (IntKind.wrap .u64 ((List.length (cutL L (some (IntKind.i64, 8)) none) : Nat) : Int)) 8) = (((L.length - 8) / 8 : Nat) : Int) := by
        have : List.length (cutL L (some (IntKind.i64, 8)) none) = L.length - 8 := List.length_drop
        rw [this, wu ((L.length - 8 : Nat) : Int) (by omega) (by omega)]
        have e1 : Int.tdiv ((L.length - 8 : Nat) : Int) 8 = (((L.length - 8) / 8 : Nat) : Int) := rfl
        rw [e1, wu _ (by omega) (by omega)]
      rw [e0]
      refine ⟨hc, hb, by omega, by decide, brI (fun hd => ?_) (fun hd => ?_)⟩
      · have hd := of_decide_eq_true hd
        exact split_none (by unfold splitB; rw [if_neg (by omega), if_pos hd])
      · refine ⟨⟨([], L.drop 8), rfl, rfl, rfl, rfl, SJ.init hb hc, trivial⟩, fun u hu => ?_⟩
        obtain ⟨D, R⟩ := u
        have hu : SJ L D R := hu
        dsimp only
        have hRl := hu.len
        have hDl := hu.le
        have hr := be8v_lt hu.ok
        refine brI (fun he => ?_) (fun he => ?_)
        · have he : D.length < (be8v L).toNat := by have := of_decide_eq_true he; omega
          refine brI (fun hf => ?_) (fun hf => ?_)
          · exact split_none (hu.bad he (.inl (by have := of_decide_eq_true hf; omega)))
          · have hf : 8 ≤ R.length := by have := of_decide_eq_false hf; omega
            have e2 : IntKind.wrap .u64 (IntKind.wrap .i64 ((R.length : Int) - 8)) = ((R.length - 8 : Nat) : Int) := by rw [wi _ (by omega) (by omega), wu _ (by omega) (by omega)]; omega
            rw [e2]
            refine ⟨hf, hu.ok, brI (fun hg => ?_) (fun hg => ?_)⟩
            · exact split_none (hu.bad he (.inr (of_decide_eq_true hg)))
            · have hg : ¬ be8v R > ((R.length - 8 : Nat) : Int) := of_decide_eq_false hg
              have e3 : IntKind.wrap .i64 (8 + IntKind.wrap .i64 (be8v R)) = ((8 + (be8v R).toNat : Nat) : Int) := by rw [wi (be8v R) (by omega) (by omega), wi _ (by omega) (by omega)]; omega
              rw [e3]
              have e4 : cutL R (some (IntKind.i64, 8)) (some (IntKind.i64, ((8 + (be8v R).toNat : Nat) : Int))) = (R.drop 8).take (be8v R).toNat := by
                show (R.take (8 + (be8v R).toNat)).drop 8 = _
                rw [List.drop_take]; congr 1; omega
              rw [e4]
              refine ⟨hf, hu.ok, by omega, ?_, ?_, by omega, (D ++ [(R.drop 8).take (be8v R).toNat], R.drop (8 + (be8v R).toNat)), rfl, rfl, ?_, rfl, hu.next he (by omega), ?_, trivial⟩
              · show ((R.drop 8).take (be8v R).toNat).length ≤ lim
                simp; omega
              · show D.length + 1 ≤ lim
                omega
              · rw [wu _ (by omega) (by omega)]; simp
              · simp; omega
        · have he : D.length = (be8v L).toNat := by have := of_decide_eq_false he; omega
          have hfin := hu.fin he
          refine brI (fun hf => ?_) (fun hf => ?_)
          · rw [if_neg (by have := of_decide_eq_true hf; omega)] at hfin
            exact split_none hfin
          · rw [if_pos (by have := of_decide_eq_false hf; omega)] at hfin
            exact split_some hfin))
noncomputable def g17 : Con := fun args H => match args, H with
  | [.a (.d (.si .u8 L))], [] => some ⟨[OkB L, L.length ≤ lim], .t [.a (.rw 0), .a (.d (.v (.bool (splitB L).isSome)))], [(0, .row (.bts ((splitB L).getD [])) 31)]⟩
  | _, _ => none
theorem v17 : Valid Tryd.prog Gs 56 g17 := by
  intro args H r h hp
  unfold g17 at h
  split at h
  · simp only [Option.some.injEq] at h; subst h; exact ok17 _ hp
  · cases h
noncomputable def ct_17 : List (Nat × Ct) := (56, ⟨[], true, g17, none⟩) :: ct_44
theorem ctok_17 : CtsOk Tryd.prog Gs ct_17 := CtsOk.cons v17 (by kernel_rfl) ctok_44
noncomputable def an45 (L : List Int) : Nat → List Nat → List Ann := fun bk_ gs_ => match bk_, gs_ with
    | 0, _ => [{ τ := Nat, t0 := (default : Nat), J := fun i => i ≤ 8 ∧ 8 ≤ L.length, m := fun i => 8 - i, l := fun i => [(0, .s (.a (.d (.si .u8 L)))), (5, eI .u64 (acc8 L i)), (6, eI .i64 i)], H := fun _ => [] }]
    | _, _ => []
theorem ok45 (L : List Int) (hp : allP [OkB L]) : CallsOk Tryd.prog Gs 70 [.a (.d (.si .u8 L))] [] (.t [.a (.d (.v (.int .u64 (if 8 ≤ L.length then be8v L else 0)))), .a (.d (.si .u8 (if 8 ≤ L.length then L.drop 8 else []))), .a (.d (.v (.bool (decide (8 ≤ L.length)))))]) [] :=
  ok_of (ann := an45 L) ctok_17 mixed Tryd.func70 (by kernel_rfl) (of_nf (p := brP (decide ((↑(List.length L) : Int) < (8 : Int))) (((0 : Int) = if (8 : Nat) ≤ List.length L then be8v L else (0 : Int)) ∧ (if (8 : Nat) ≤ List.length L then List.drop (8 : Nat) L else []) = [] ∧ false = decide ((8 : Nat) ≤ List.length L) ∧ True) ((∃ (t : Nat), L = L ∧ (0 : Int) = acc8 L t ∧ (0 : Int) = (↑t : Int) ∧ (t ≤ (8 : Nat) ∧ (8 : Nat) ≤ List.length L) ∧ True) ∧ ∀ (t : Nat), t ≤ (8 : Nat) ∧ (8 : Nat) ≤ List.length L → brP (decide ((↑t : Int) < (8 : Int))) ((0 : Int) ≤ (8 : Int) ∧ ((0 : Int) ≤ (↑t : Int) ∧ (↑t : Int) < (↑(List.length L) : Int)) ∧ ∃ (t_1 : Nat), L = L ∧ bOr IntKind.u64 (IntKind.wrap IntKind.u64 (acc8 L t * (2 : Int) ^ min (Int.toNat (8 : Int)) (IntKind.bits IntKind.u64))) (IntKind.wrap IntKind.u64 (List.getD L (Int.toNat (↑t : Int)) (0 : Int))) = acc8 L t_1 ∧ IntKind.wrap IntKind.i64 ((↑t : Int) + (1 : Int)) = (↑t_1 : Int) ∧ (t_1 ≤ (8 : Nat) ∧ (8 : Nat) ≤ List.length L) ∧ (8 : Nat) - t_1 < (8 : Nat) - t ∧ True) (((0 : Int) ≤ (8 : Int) ∧ (8 : Int) ≤ (↑(List.length L) : Int)) ∧ (acc8 L t = if (8 : Nat) ≤ List.length L then be8v L else (0 : Int)) ∧ (cutL L (some (IntKind.i64, (8 : Int))) none = if (8 : Nat) ≤ List.length L then List.drop (8 : Nat) L else []) ∧ true = decide ((8 : Nat) ≤ List.length L) ∧ True))) (by kernel_rfl) (by
    obtain ⟨hb, _⟩ := hp
    refine brI (fun hc => ?_) (fun hc => ?_)
    · have hc : ¬ 8 ≤ L.length := by have := of_decide_eq_true hc; omega
      rw [if_neg hc, if_neg hc, decide_eq_false hc]
      exact ⟨rfl, rfl, rfl, trivial⟩
    · have hc : 8 ≤ L.length := by have := of_decide_eq_false hc; omega
      rw [if_pos hc, if_pos hc, decide_eq_true hc]
      refine ⟨⟨0, rfl, rfl, rfl, ⟨by omega, hc⟩, trivial⟩, fun t ht => brI (fun hd => ?_) (fun hd => ?_)⟩
      · have hd : t < 8 := by have := of_decide_eq_true hd; omega
        exact ⟨by omega, by omega, t + 1, rfl, rfl, by rw [wi _ (by omega) (by omega)]; rfl, ⟨hd, hc⟩, by omega, trivial⟩
      · have hd : ¬ (t : Int) < 8 := of_decide_eq_false hd
        obtain rfl : t = 8 := by omega
        exact ⟨by omega, be8_acc hb, rfl, rfl, trivial⟩))
noncomputable def g45 : Con := fun args H => match args, H with
  | [.a (.d (.si .u8 L))], [] => some ⟨[OkB L], .t [.a (.d (.v (.int .u64 (if 8 ≤ L.length then be8v L else 0)))), .a (.d (.si .u8 (if 8 ≤ L.length then L.drop 8 else []))), .a (.d (.v (.bool (decide (8 ≤ L.length)))))], []⟩
  | _, _ => none
theorem v45 : Valid Tryd.prog Gs 70 g45 := by
  intro args H r h hp
  unfold g45 at h
  split at h
  · simp only [Option.some.injEq] at h; subst h; exact ok45 _ hp
  · cases h
noncomputable def ct_45 : List (Nat × Ct) := (70, ⟨[], true, g45, none⟩) :: ct_17
theorem ctok_45 : CtsOk Tryd.prog Gs ct_45 := CtsOk.cons v45 (by kernel_rfl) ctok_17
noncomputable def an18 (L : List Int) : Nat → List Nat → List Ann := fun bk_ gs_ => match bk_, gs_ with
    | 0, _ => [{ τ := List (List Int) × List Int, t0 := (default : List (List Int) × List Int), J := fun t => SJ L t.1 t.2 ∨ L.length < 8 ∧ t = ([], []), m := fun t => (be8v L).toNat - t.1.length, l := fun t => [(4, eI .u64 (if 8 ≤ L.length then be8v L else 0)), (5, .s (.a (.d (.si .u8 t.2)))), (6, eB (decide (8 ≤ L.length))), (7, .s (.a (.rw 7)))], H := fun t => [(7, .row (.bts t.1) 31)] }]
    | _, _ => []
theorem ok18 (L : List Int) (hp : allP [OkB L, L.length ≤ lim]) : CallsOk Tryd.prog Gs 59 [.a (.d (.si .u8 L))] [] (.t [.a (.rw 0), .a (.d (.v (.bool (splitB L).isSome)))]) [(0, .row (.bts ((splitB L).getD [])) 31)] :=
  ok_of (ann := an18 L) ctok_45 mixed Tryd.func59 (by kernel_rfl) (of_nf (p := OkB L ∧ (∃ (t : List (List Int) × List Int), ((if (8 : Nat) ≤ List.length L then be8v L else (0 : Int)) = if (8 : Nat) ≤ List.length L then be8v L else (0 : Int)) ∧ (if (8 : Nat) ≤ List.length L then List.drop (8 : Nat) L else []) = Prod.snd t ∧ decide ((8 : Nat) ≤ List.length L) = decide ((8 : Nat) ≤ List.length L) ∧ [] = Prod.fst t ∧ (SJ L (Prod.fst t) (Prod.snd t) ∨ List.length L < (8 : Nat) ∧ t = ([], [])) ∧ True) ∧ ∀ (t : List (List Int) × List Int), SJ L (Prod.fst t) (Prod.snd t) ∨ List.length L < (8 : Nat) ∧ t = ([], []) → brP (decide ((8 : Nat) ≤ List.length L)) (brP (decide (IntKind.wrap IntKind.u64 (↑(Cont.len (Cont.bts (Prod.fst t))) : Int) < if (8 : Nat) ≤ List.length L then be8v L else (0 : Int))) (OkB (Prod.snd t) ∧ brP (!decide ((8 : Nat) ≤ List.length (Prod.snd t))) (false = Option.isSome (splitB L) ∧ [] = Option.getD (splitB L) [] ∧ True) (brP (decide ((if (8 : Nat) ≤ List.length (Prod.snd t) then be8v (Prod.snd t) else (0 : Int)) > IntKind.wrap IntKind.u64 (↑(List.length (if (8 : Nat) ≤ List.length (Prod.snd t) then List.drop (8 : Nat) (Prod.snd t) else [])) : Int))) (false = Option.isSome (splitB L) ∧ [] = Option.getD (splitB L) [] ∧ True) ((((0 : Int) ≤ if (8 : Nat) ≤ List.length (Prod.snd t) then be8v (Prod.snd t) else (0 : Int)) ∧ (if (8 : Nat) ≤ List.length (Prod.snd t) then be8v (Prod.snd t) else (0 : Int)) ≤ (↑(List.length (if (8 : Nat) ≤ List.length (Prod.snd t) then List.drop (8 : Nat) (Prod.snd t) else [])) : Int)) ∧ Cont.len (Cont.ints IntKind.u8 []) + Cont.len (Cont.ints IntKind.u8 (cutL (if (8 : Nat) ≤ List.length (Prod.snd t) then List.drop (8 : Nat) (Prod.snd t) else []) none (some (IntKind.u64, if (8 : Nat) ≤ List.length (Prod.snd t) then be8v (Prod.snd t) else (0 : Int))))) ≤ lim ∧ Cont.len (Cont.bts (Prod.fst t)) + Cont.len (Cont.bts [[] ++ cutL (if (8 : Nat) ≤ List.length (Prod.snd t) then List.drop (8 : Nat) (Prod.snd t) else []) none (some (IntKind.u64, if (8 : Nat) ≤ List.length (Prod.snd t) then be8v (Prod.snd t) else (0 : Int)))]) ≤ lim ∧ (((0 : Int) ≤ if (8 : Nat) ≤ List.length (Prod.snd t) then be8v (Prod.snd t) else (0 : Int)) ∧ (if (8 : Nat) ≤ List.length (Prod.snd t) then be8v (Prod.snd t) else (0 : Int)) ≤ (↑(List.length (if (8 : Nat) ≤ List.length (Prod.snd t) then List.drop (8 : Nat) (Prod.snd t) else [])) : Int)) ∧ ∃ (t_1 : List (List Int) × List Int), ((if (8 : Nat) ≤ List.length L then be8v L else (0 : Int)) = if (8 : Nat) ≤ List.length L then be8v L else (0 : Int)) ∧ cutL (if (8 : Nat) ≤ List.length (Prod.snd t) then List.drop (8 : Nat) (Prod.snd t) else []) (some (IntKind.u64, if (8 : Nat) ≤ List.length (Prod.snd t) then be8v (Prod.snd t) else (0 : Int))) none = Prod.snd t_1 ∧ decide ((8 : Nat) ≤ List.length L) = decide ((8 : Nat) ≤ List.length L) ∧ Prod.fst t ++ [[] ++ cutL (if (8 : Nat) ≤ List.length (Prod.snd t) then List.drop (8 : Nat) (Prod.snd t) else []) none (some (IntKind.u64, if (8 : Nat) ≤ List.length (Prod.snd t) then be8v (Prod.snd t) else (0 : Int)))] = Prod.fst t_1 ∧ (SJ L (Prod.fst t_1) (Prod.snd t_1) ∨ List.length L < (8 : Nat) ∧ t_1 = ([], [])) ∧ Int.toNat (be8v L) - List.length (Prod.fst t_1) < Int.toNat (be8v L) - List.length (Prod.fst t) ∧ True))) (brP (!decide ((8 : Nat) ≤ List.length L)) (false = Option.isSome (splitB L) ∧ [] = Option.getD (splitB L) [] ∧ True) (brP (decide ((↑(List.length (Prod.snd t)) : Int) > (0 : Int))) (false = Option.isSome (splitB L) ∧ [] = Option.getD (splitB L) [] ∧ True) (true = Option.isSome (splitB L) ∧ Prod.fst t = Option.getD (splitB L) [] ∧ True)))) (brP (!decide ((8 : Nat) ≤ List.length L)) (false = Option.isSome (splitB L) ∧ [] = Option.getD (splitB L) [] ∧ True) (brP (decide ((↑(List.length (Prod.snd t)) : Int) > (0 : Int))) (false = Option.isSome (splitB L) ∧ [] = Option.getD (splitB L) [] ∧ True) (true = Option.isSome (splitB L) ∧ Prod.fst t = Option.getD (splitB L) [] ∧ True)))) (by kernel_rfl) (by
    obtain ⟨hb, hl, _⟩ := hp
    have hlim : lim = 68719476736 := rfl
    have hv := be8v_lt hb
    by_cases h8 : 8 ≤ L.length
    · rw [if_pos h8, decide_eq_true h8]
      refine ⟨hb, ⟨([], L.drop 8), rfl, by rw [if_pos h8], rfl, rfl, .inl (SJ.init hb h8), trivial⟩, fun u hu => ?_⟩
      obtain ⟨D, R⟩ := u
      have hu : SJ L D R := hu.resolve_right (fun h => by have := h.1; omega)
      dsimp only
      have hRl := hu.len
      have hDl := hu.le
      have hr := be8v_lt hu.ok
      have eD : IntKind.wrap .u64 ((Cont.len (Cont.bts D) : Nat) : Int) = (D.length : Int) := by
        show IntKind.wrap .u64 (D.length : Int) = _
        rw [wu _ (by omega) (by omega)]
      have fin : ∀ he : D.length = (be8v L).toNat, brP (!true) (false = (splitB L).isSome ∧ [] = (splitB L).getD [] ∧ True) (brP (decide ((R.length : Int) > 0)) (false = (splitB L).isSome ∧ [] = (splitB L).getD [] ∧ True) (true = (splitB L).isSome ∧ D = (splitB L).getD [] ∧ True)) := fun he => by
        have hfin := hu.fin he
        refine brI (fun hf => ?_) (fun _ => brI (fun hf => ?_) (fun hf => ?_))
        · cases hf
        · rw [if_neg (by have := of_decide_eq_true hf; omega)] at hfin
          exact split_none hfin
        · rw [if_pos (by have := of_decide_eq_false hf; omega)] at hfin
          exact split_some hfin
      rw [eD]
      refine brI (fun _ => brI (fun he => ?_) (fun he => ?_)) (fun h => by cases h)
      · have he : D.length < (be8v L).toNat := by have := of_decide_eq_true he; omega
        refine ⟨hu.ok, ?_⟩
        by_cases hf : 8 ≤ R.length
        · rw [decide_eq_true hf]
          simp only [if_pos hf]
          have e2 : IntKind.wrap .u64 ((List.length (R.drop 8) : Nat) : Int) = ((R.length - 8 : Nat) : Int) := by
            rw [List.length_drop, wu _ (by omega) (by omega)]
          rw [e2]
          refine brI (fun h => by cases h) (fun _ => brI (fun hg => ?_) (fun hg => ?_))
          · exact split_none (hu.bad he (.inr (of_decide_eq_true hg)))
          · have hg : ¬ be8v R > ((R.length - 8 : Nat) : Int) := of_decide_eq_false hg
            have e4 : cutL (R.drop 8) none (some (IntKind.u64, be8v R)) = (R.drop 8).take (be8v R).toNat := rfl
            have e5 : cutL (R.drop 8) (some (IntKind.u64, be8v R)) none = R.drop (8 + (be8v R).toNat) := by
              show (R.drop 8).drop _ = _
              rw [List.drop_drop]
            rw [e4, e5]
            have hdl : (R.drop 8).length = R.length - 8 := List.length_drop
            refine ⟨by omega, ?_, ?_, by omega, (D ++ [(R.drop 8).take (be8v R).toNat], R.drop (8 + (be8v R).toNat)), (by first | trivial | rfl), (by first | trivial | rfl), (by first | trivial | rfl), (by first | trivial | rfl), .inl (hu.next he (by omega)), ?_, trivial⟩
            · show 0 + ((R.drop 8).take (be8v R).toNat).length ≤ lim
              simp; omega
            · show D.length + 1 ≤ lim
              omega
            · simp; omega
        · rw [decide_eq_false hf]
          exact brI (fun _ => split_none (hu.bad he (.inl (by omega)))) (fun h => by cases h)
      · have he : D.length = (be8v L).toNat := by have := of_decide_eq_false he; omega
        exact fin he
    · have hn : splitB L = none := by unfold splitB; rw [if_pos (by omega)]
      rw [decide_eq_false h8]
      refine ⟨hb, ⟨([], []), rfl, by rw [if_neg h8], rfl, rfl, .inr ⟨by omega, rfl⟩, trivial⟩, fun u hu => ?_⟩
      exact brI (fun h => by cases h) (fun _ => brI (fun _ => split_none hn) (fun h => by cases h))))
noncomputable def g18 : Con := fun args H => match args, H with
  | [.a (.d (.si .u8 L))], [] => some ⟨[OkB L, L.length ≤ lim], .t [.a (.rw 0), .a (.d (.v (.bool (splitB L).isSome)))], [(0, .row (.bts ((splitB L).getD [])) 31)]⟩
  | _, _ => none
theorem v18 : Valid Tryd.prog Gs 59 g18 := by
  intro args H r h hp
  unfold g18 at h
  split at h
  · simp only [Option.some.injEq] at h; subst h; exact ok18 _ hp
  · cases h
noncomputable def ct_18 : List (Nat × Ct) := (59, ⟨[], true, g18, none⟩) :: ct_45
theorem ctok_18 : CtsOk Tryd.prog Gs ct_18 := CtsOk.cons v18 (by kernel_rfl) ctok_45
end Go.Proofs.YtfobhaodflfedaaDoor
