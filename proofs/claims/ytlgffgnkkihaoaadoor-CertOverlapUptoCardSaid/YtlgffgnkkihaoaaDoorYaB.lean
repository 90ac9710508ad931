/- The digest: how bytes are taken and told. -/
import Derived.Test.YtlgffgnkkihaoaaDoorYaA
namespace Go.Proofs.YtlgffgnkkihaoaaDoor
open Go.Dx Go.RowKit
set_option linter.unusedVariables false
set_option linter.unusedSimpArgs false
set_option maxRecDepth 100000
attribute [local irreducible] wpS
def p4 (d : List Int) (o : Nat) (x : Int) : Nat → List Int
  | 0 => d
  | t + 1 => (p4 d o x t).set (o + t) (IntKind.wrap .u8 (Int.fdiv x (2 ^ (24 - 8 * t))))
noncomputable def an47 (d : List Int) (i len : Nat) (x : Int) : Nat → List Nat → List Ann := fun bk_ gs_ => match bk_, gs_ with
    | 0, _ => [{ τ := Nat, t0 := (default : Nat), J := fun t => t ≤ 4, m := fun t => 4 - t, l := fun t => [(0, .s (.a (.ls 100000 0 32 i len))), (1, eI .u32 x), (5, eI .i64 t)], H := fun t => [(100000, .cells [.ints .u8 32 (p4 d i x t)] 28)] }]
    | _, _ => []
theorem ok47 (d : List Int) (i len : Nat) (x : Int) (hp : allP [d.length = 32, i + 4 ≤ 32, 4 ≤ len]) : CallsOk Tryd.prog Gs 99 [.a (.ls 100000 0 32 i len), .a (.d (.v (.int .u32 x)))] [(100000, .cells [.ints .u8 32 d] 28)] (.t []) [(100000, .cells [.ints .u8 32 (put4 d i x)] 28)] :=
  ok_of (ann := an47 d i len x) ctok_46 mixed Tryd.func99 (by kernel_rfl) (of_nf (p := (∃ (t : Nat), i = i ∧ len = len ∧ x = x ∧ (0 : Int) = (↑t : Int) ∧ d = p4 d i x t ∧ t ≤ (4 : Nat) ∧ True) ∧ ∀ (t : Nat), t ≤ (4 : Nat) → brP (decide ((↑t : Int) < (4 : Int))) ((0 : Int) ≤ IntKind.wrap IntKind.i64 ((24 : Int) - IntKind.wrap IntKind.i64 ((8 : Int) * (↑t : Int))) ∧ ((0 : Int) ≤ (↑t : Int) ∧ (↑t : Int) < (↑len : Int)) ∧ ∃ (t_1 : Nat), i = i ∧ len = len ∧ x = x ∧ IntKind.wrap IntKind.i64 ((↑t : Int) + (1 : Int)) = (↑t_1 : Int) ∧ List.set (p4 d i x t) (i + Int.toNat (↑t : Int)) (IntKind.wrap IntKind.u8 (Int.fdiv x ((2 : Int) ^ min (Int.toNat (IntKind.wrap IntKind.i64 ((24 : Int) - IntKind.wrap IntKind.i64 ((8 : Int) * (↑t : Int))))) (IntKind.bits IntKind.u32)))) = p4 d i x t_1 ∧ t_1 ≤ (4 : Nat) ∧ (4 : Nat) - t_1 < (4 : Nat) - t ∧ True) (p4 d i x t = put4 d i x ∧ True)) (by kernel_rfl) (by
    obtain ⟨h32, h4, hl, _⟩ := hp
    refine ⟨⟨0, rfl, rfl, rfl, rfl, rfl, by omega, trivial⟩, fun t ht => brI (fun hc => ?_) (fun hc => ?_)⟩
    · have hc : t < 4 := by have := of_decide_eq_true hc; omega
      have e : IntKind.wrap .i64 (24 - IntKind.wrap .i64 (8 * (t : Int))) = ((24 - 8 * t : Nat) : Int) := by rw [wi (8 * (t : Int)) (by omega) (by omega), wi _ (by omega) (by omega)]; omega
      rw [e]
      refine ⟨by omega, by omega, t + 1, rfl, rfl, rfl, by rw [wi _ (by omega) (by omega)]; rfl, ?_, by omega, by omega, trivial⟩
      rw [Int.toNat_natCast, Int.toNat_natCast, Nat.min_eq_left (show 24 - 8 * t ≤ IntKind.bits IntKind.u32 from Nat.le_trans (Nat.sub_le _ _) (by decide))]
      rfl
    · have hc : ¬ (t : Int) < 4 := of_decide_eq_false hc
      obtain rfl : t = 4 := by omega
      exact ⟨rfl, trivial⟩))
noncomputable def g47 : Con := fun args H => match args, H with
  | [.a (.ls 100000 0 32 i len), .a (.d (.v (.int .u32 x)))], [(100000, .cells [.ints .u8 32 d] 28)] => some ⟨[d.length = 32, i + 4 ≤ 32, 4 ≤ len], .t [], [(100000, .cells [.ints .u8 32 (put4 d i x)] 28)]⟩
  | _, _ => none
theorem v47 : Valid Tryd.prog Gs 99 g47 := by
  intro args H r h hp
  unfold g47 at h
  split at h
  · simp only [Option.some.injEq] at h; subst h; exact ok47 _ _ _ _ hp
  · cases h
noncomputable def ct_47 : List (Nat × Ct) := (99, ⟨[true, false], false, g47, none⟩) :: ct_46
theorem ctok_47 : CtsOk Tryd.prog Gs ct_47 := CtsOk.cons v47 (by kernel_rfl) ctok_46
noncomputable def an43n (x : Int) : Nat → List Nat → List Ann := fun _ _ => []
theorem ok43n (x : Int) : CallsOk Tryd.prog Gs 76 [.a (.d (.v (.slice none 0 0))), .a (.d (.v (.int .u64 x)))] [] (.s (.a (.rw 0))) [(0, .row (.ints .u8 (be8 x)) 5)] :=
  ok_of (ann := an43n x) ctok_47 mixed Tryd.func76 (by kernel_rfl) (of_nf (p := let l1 := (IntKind.bits IntKind.u64); let l0 := (List.set (List.set (List.set (List.set (List.set (List.set (List.set (List.replicate ((7 : Nat) + (1 : Nat)) (0 : Int)) ((0 : Nat) * (1 : Nat)) (IntKind.wrap IntKind.u8 (Int.fdiv x ((2 : Int) ^ min (Int.toNat (56 : Int)) l1)))) ((1 : Nat) * (1 : Nat)) (IntKind.wrap IntKind.u8 (Int.fdiv x ((2 : Int) ^ min (Int.toNat (48 : Int)) l1)))) ((2 : Nat) * (1 : Nat)) (IntKind.wrap IntKind.u8 (Int.fdiv x ((2 : Int) ^ min (Int.toNat (40 : Int)) l1)))) ((3 : Nat) * (1 : Nat)) (IntKind.wrap IntKind.u8 (Int.fdiv x ((2 : Int) ^ min (Int.toNat (32 : Int)) l1)))) ((4 : Nat) * (1 : Nat)) (IntKind.wrap IntKind.u8 (Int.fdiv x ((2 : Int) ^ min (Int.toNat (24 : Int)) l1)))) ((5 : Nat) * (1 : Nat)) (IntKind.wrap IntKind.u8 (Int.fdiv x ((2 : Int) ^ min (Int.toNat (16 : Int)) l1)))) ((6 : Nat) * (1 : Nat)) (IntKind.wrap IntKind.u8 (Int.fdiv x ((2 : Int) ^ min (Int.toNat (8 : Int)) l1)))); (0 : Int) ≤ (56 : Int) ∧ (0 : Int) ≤ (48 : Int) ∧ (0 : Int) ≤ (40 : Int) ∧ (0 : Int) ≤ (32 : Int) ∧ (0 : Int) ≤ (24 : Int) ∧ (0 : Int) ≤ (16 : Int) ∧ (0 : Int) ≤ (8 : Int) ∧ Cont.len (Cont.ints IntKind.u8 (List.set l0 ((7 : Nat) * (1 : Nat)) (IntKind.wrap IntKind.u8 x))) ≤ lim ∧ List.set l0 ((7 : Nat) * (1 : Nat)) (IntKind.wrap IntKind.u8 x) = be8 x ∧ True) (by kernel_rfl) (by
    conv => zeta
    exact ⟨by omega, by omega, by omega, by omega, by omega, by omega, by omega, (show (8 : Nat) ≤ lim by unfold lim; omega), rfl, trivial⟩))
noncomputable def an43r (L : List Int) (x : Int) : Nat → List Nat → List Ann := fun _ _ => []
theorem ok43r (L : List Int) (x : Int) (hp : allP [L.length + 8 ≤ lim]) : CallsOk Tryd.prog Gs 76 [.a (.rw 100000), .a (.d (.v (.int .u64 x)))] [(100000, .row (.ints .u8 L) 5)] (.s (.a (.rw 0))) [(0, .row (.ints .u8 (L ++ be8 x)) 5)] :=
  ok_of (ann := an43r L x) ctok_47 mixed Tryd.func76 (by kernel_rfl) (of_nf (p := let l1 := (IntKind.bits IntKind.u64); let l0 := (List.set (List.set (List.set (List.set (List.set (List.set (List.set (List.replicate ((7 : Nat) + (1 : Nat)) (0 : Int)) ((0 : Nat) * (1 : Nat)) (IntKind.wrap IntKind.u8 (Int.fdiv x ((2 : Int) ^ min (Int.toNat (56 : Int)) l1)))) ((1 : Nat) * (1 : Nat)) (IntKind.wrap IntKind.u8 (Int.fdiv x ((2 : Int) ^ min (Int.toNat (48 : Int)) l1)))) ((2 : Nat) * (1 : Nat)) (IntKind.wrap IntKind.u8 (Int.fdiv x ((2 : Int) ^ min (Int.toNat (40 : Int)) l1)))) ((3 : Nat) * (1 : Nat)) (IntKind.wrap IntKind.u8 (Int.fdiv x ((2 : Int) ^ min (Int.toNat (32 : Int)) l1)))) ((4 : Nat) * (1 : Nat)) (IntKind.wrap IntKind.u8 (Int.fdiv x ((2 : Int) ^ min (Int.toNat (24 : Int)) l1)))) ((5 : Nat) * (1 : Nat)) (IntKind.wrap IntKind.u8 (Int.fdiv x ((2 : Int) ^ min (Int.toNat (16 : Int)) l1)))) ((6 : Nat) * (1 : Nat)) (IntKind.wrap IntKind.u8 (Int.fdiv x ((2 : Int) ^ min (Int.toNat (8 : Int)) l1)))); (0 : Int) ≤ (56 : Int) ∧ (0 : Int) ≤ (48 : Int) ∧ (0 : Int) ≤ (40 : Int) ∧ (0 : Int) ≤ (32 : Int) ∧ (0 : Int) ≤ (24 : Int) ∧ (0 : Int) ≤ (16 : Int) ∧ (0 : Int) ≤ (8 : Int) ∧ Cont.len (Cont.ints IntKind.u8 L) + Cont.len (Cont.ints IntKind.u8 (List.set l0 ((7 : Nat) * (1 : Nat)) (IntKind.wrap IntKind.u8 x))) ≤ lim ∧ L ++ List.set l0 ((7 : Nat) * (1 : Nat)) (IntKind.wrap IntKind.u8 x) = L ++ be8 x ∧ True) (by kernel_rfl) (by
    conv => zeta
    exact ⟨by omega, by omega, by omega, by omega, by omega, by omega, by omega, hp.1, rfl, trivial⟩))
noncomputable def g43 : Con := fun args H => match args, H with
  | [.a (.d (.v (.slice none 0 0))), .a (.d (.v (.int .u64 x)))], [] => some ⟨[], .s (.a (.rw 0)), [(0, .row (.ints .u8 (be8 x)) 5)]⟩
  | [.a (.rw 100000), .a (.d (.v (.int .u64 x)))], [(100000, .row (.ints .u8 L) 5)] => some ⟨[L.length + 8 ≤ lim], .s (.a (.rw 0)), [(0, .row (.ints .u8 (L ++ be8 x)) 5)]⟩
  | _, _ => none
theorem v43 : Valid Tryd.prog Gs 76 g43 := by
  intro args H r h hp
  unfold g43 at h
  split at h
  · simp only [Option.some.injEq] at h; subst h; exact ok43n _
  · simp only [Option.some.injEq] at h; subst h; exact ok43r _ _ hp
  · cases h
noncomputable def ct_43 : List (Nat × Ct) := (76, ⟨[true, false], false, g43, none⟩) :: ct_47
theorem ctok_43 : CtsOk Tryd.prog Gs ct_43 := CtsOk.cons v43 (by kernel_rfl) ctok_47
noncomputable def an23  : Nat → List Nat → List Ann := fun _ _ => []
theorem ok23  : CallsOk Tryd.prog Gs 86 [] [] (.s (.a (.lp 0 0))) [(0, .cells (hC hs0) 180)] :=
  ok_of (ann := an23 ) ctok_43 mixed Tryd.func86 (by kernel_rfl) (of_nf (p := List.set (List.set (List.set (List.set (List.set (List.set (List.set (List.set (List.replicate (8 : Nat) (0 : Int)) ((0 : Nat) * (1 : Nat)) (1779033703 : Int)) ((1 : Nat) * (1 : Nat)) (3144134277 : Int)) ((2 : Nat) * (1 : Nat)) (1013904242 : Int)) ((3 : Nat) * (1 : Nat)) (2773480762 : Int)) ((4 : Nat) * (1 : Nat)) (1359893119 : Int)) ((5 : Nat) * (1 : Nat)) (2600822924 : Int)) ((6 : Nat) * (1 : Nat)) (528734635 : Int)) ((7 : Nat) * (1 : Nat)) (1541459225 : Int) = HS.h hs0 ∧ List.replicate (64 : Nat) (0 : Int) = HS.rest hs0 ∧ (0 : Int) = HS.n hs0 ∧ True) (by kernel_rfl) (by
    exact ⟨rfl, rfl, rfl, trivial⟩))
noncomputable def g23 : Con := fun args H => match args, H with
  | [], [] => some ⟨[], .s (.a (.lp 0 0)), [(0, .cells (hC hs0) 180)]⟩
  | _, _ => none
theorem v23 : Valid Tryd.prog Gs 86 g23 := by
  intro args H r h hp
  unfold g23 at h
  split at h
  · simp only [Option.some.injEq] at h; subst h; exact ok23 
  · cases h
noncomputable def ct_23 : List (Nat × Ct) := (86, ⟨[], false, g23, none⟩) :: ct_43
theorem ctok_23 : CtsOk Tryd.prog Gs ct_23 := CtsOk.cons v23 (by kernel_rfl) ctok_43
noncomputable def an24 (h rest : List Int) (n : Int) (L : List Int) : Nat → List Nat → List Ann := fun bk_ gs_ => match bk_, gs_ with
    | 0, _ => [{ τ := Nat, t0 := (default : Nat), J := fun j => j ≤ L.length, m := fun j => L.length - j, l := fun j => [(0, .s (.a (.lp 100000 0))), (1, .s (.a (.d (.si .u8 (L.drop j)))))], H := fun j => [(100000, .cells (hC (wr shaK ⟨h, rest, n⟩ (L.take j))) 180)] }]
    | _, _ => []
theorem ok24 (h rest : List Int) (n : Int) (L : List Int) (hp : allP [HS.ok ⟨h, rest, n⟩, OkB L]) : CallsOk Tryd.prog Gs 87 [.a (.lp 100000 0), .a (.d (.si .u8 L))] [(100000, .cells (hC ⟨h, rest, n⟩) 180)] (.t []) [(100000, .cells (hC (wr shaK ⟨h, rest, n⟩ L)) 180)] :=
  ok_of (ann := an24 h rest n L) ctok_23 mixed Tryd.func87 (by kernel_rfl) (of_nf (p := let l10 := (wr shaK { h := h, rest := rest, n := n } L); (∃ (t : Nat), let l7 := (wr shaK { h := h, rest := rest, n := n } (List.take t L)); L = List.drop t L ∧ h = HS.h l7 ∧ rest = HS.rest l7 ∧ n = HS.n l7 ∧ t ≤ List.length L ∧ True) ∧ ∀ (t : Nat), let l11 := (List.length (List.drop t L)); let l1 := (wr shaK { h := h, rest := rest, n := n } (List.take t L)); let l9 := (Int.tmod (HS.n l1) (64 : Int)); let l0 := (some (IntKind.i64, IntKind.wrap IntKind.i64 l9)); let l4 := (startN (0 : Nat) l0 + min l11 (lenN (64 : Nat) l0 none)); let l2 := (min l11 (lenN (64 : Nat) l0 none)); let l8 := (HS.n l1 + IntKind.wrap IntKind.u64 (↑l2 : Int)); let l3 := (List.take (startN (0 : Nat) l0) (HS.rest l1) ++ List.take l2 (List.drop t L) ++ List.drop l4 (HS.rest l1)); t ≤ List.length L → brP (decide ((↑l11 : Int) > (0 : Int))) ((64 : Int) ≠ (0 : Int) ∧ ((0 : Int) ≤ IntKind.wrap IntKind.i64 l9 ∧ IntKind.wrap IntKind.i64 l9 ≤ (↑(64 : Nat) : Int)) ∧ (0 : Nat) + Int.toNat (IntKind.wrap IntKind.i64 l9) < (64 : Nat) ∧ ((0 : Int) ≤ (↑l2 : Int) ∧ (↑l2 : Int) ≤ (↑l11 : Int)) ∧ (64 : Int) ≠ (0 : Int) ∧ brP (Int.tmod (IntKind.wrap IntKind.u64 l8) (64 : Int) == (0 : Int)) (List.length (HS.h l1) = (8 : Nat) ∧ List.length l3 = (64 : Nat) ∧ OkB l3 ∧ ∃ (t_1 : Nat), let l5 := (wr shaK { h := h, rest := rest, n := n } (List.take t_1 L)); cutL (List.drop t L) (some (IntKind.i64, (↑l2 : Int))) none = List.drop t_1 L ∧ comp shaK (HS.h l1) l3 = HS.h l5 ∧ List.take (startN (0 : Nat) l0) (HS.rest l1) ++ List.take l2 (List.drop t L) ++ List.drop l4 (HS.rest l1) = HS.rest l5 ∧ IntKind.wrap IntKind.u64 l8 = HS.n l5 ∧ t_1 ≤ List.length L ∧ List.length L - t_1 < List.length L - t ∧ True) (∃ (t_1 : Nat), let l6 := (wr shaK { h := h, rest := rest, n := n } (List.take t_1 L)); cutL (List.drop t L) (some (IntKind.i64, (↑l2 : Int))) none = List.drop t_1 L ∧ HS.h l1 = HS.h l6 ∧ List.take (startN (0 : Nat) l0) (HS.rest l1) ++ List.take l2 (List.drop t L) ++ List.drop l4 (HS.rest l1) = HS.rest l6 ∧ IntKind.wrap IntKind.u64 l8 = HS.n l6 ∧ t_1 ≤ List.length L ∧ List.length L - t_1 < List.length L - t ∧ True)) (HS.h l1 = HS.h l10 ∧ HS.rest l1 = HS.rest l10 ∧ HS.n l1 = HS.n l10 ∧ True)) (by kernel_rfl) (by
    conv => zeta
    obtain ⟨hs, hL, _⟩ := hp
    refine ⟨⟨0, rfl, rfl, rfl, rfl, by omega, trivial⟩, fun t ht => ?_⟩
    have hW : (wr shaK ⟨h, rest, n⟩ (L.take t)).ok := wr_ok hs (fun x hx => hL x (List.mem_of_mem_take hx))
    have hadd : ∀ m, wr shaK ⟨h, rest, n⟩ (L.take (t + m)) = wr shaK (wr shaK ⟨h, rest, n⟩ (L.take t)) ((L.drop t).take m) := fun m => by rw [List.take_add, wr_app]
    generalize hWd : wr shaK ⟨h, rest, n⟩ (L.take t) = W at hW hadd ⊢
    have w1 := hW.hl
    have w2 := hW.rl
    have w4 := hW.n0
    have w5 := hW.n1
    refine brI (fun hc => ?_) (fun hc => ?_)
    · have hc : t < L.length := by
        have := of_decide_eq_true hc
        simp only [List.length_drop] at this
        omega
      have eq : IntKind.wrap .i64 (Int.tmod W.n 64) = (((W.n % 64).toNat : Nat) : Int) := by rw [Int.tmod_eq_emod_of_nonneg w4, wi _ (by omega) (by omega)]; omega
      rw [eq]
      generalize hq : (W.n % 64).toNat = q
      have hq64 : q < 64 := by omega
      simp only [lenN, startN, Int.toNat_natCast, Nat.zero_add, List.length_drop, cutL]
      generalize hm : min (L.length - t) (64 - q) = m
      have hm0 : 0 < m ∧ m ≤ L.length - t ∧ m ≤ 64 - q := by omega
      have hl : ((L.drop t).take m).length = m := by simp; omega
      have hob : OkB ((L.drop t).take m) := fun x hx => hL x (List.mem_of_mem_drop (List.mem_of_mem_take hx))
      have hch := wr_chunk shaK ((L.drop t).take m) hW hob (by omega) (by omega)
      unfold chunk at hch
      rw [hl, hq] at hch
      have hadd' := (hadd m).trans hch
      have ew : IntKind.wrap .u64 (W.n + IntKind.wrap .u64 (m : Int)) = IntKind.wrap .u64 (W.n + (m : Int)) := by rw [wu (m : Int) (by omega) (by omega)]
      rw [ew]
      refine ⟨by decide, by omega, by omega, by omega, by decide, brI (fun hz => ?_) (fun hz => ?_)⟩
      · have hz' : IntKind.wrap .u64 (W.n + (m : Int)) % 64 = 0 := by
          rw [Int.tmod_eq_emod_of_nonneg (u64_lt _).1] at hz
          exact beq_iff_eq.1 hz
        rw [if_pos hz'] at hadd'
        refine ⟨w1, by simp; omega, okB_app (okB_app (fun x hx => hW.rb x (List.mem_of_mem_take hx)) hob) (fun x hx => hW.rb x (List.mem_of_mem_drop hx)), t + m, by rw [List.drop_drop], by rw [hadd'], by rw [hadd'], by rw [hadd'], by omega, by omega, trivial⟩
      · have hz' : ¬ IntKind.wrap .u64 (W.n + (m : Int)) % 64 = 0 := by
          rw [Int.tmod_eq_emod_of_nonneg (u64_lt _).1] at hz
          exact beq_eq_false_iff_ne.1 hz
        rw [if_neg hz'] at hadd'
        exact ⟨t + m, by rw [List.drop_drop], by rw [hadd'], by rw [hadd'], by rw [hadd'], by omega, by omega, trivial⟩
    · have hc : t = L.length := by
        have := of_decide_eq_false hc
        simp only [List.length_drop] at this
        omega
      subst hc
      rw [List.take_length] at hWd
      subst hWd
      exact ⟨rfl, rfl, rfl, trivial⟩))
noncomputable def g24 : Con := fun args H => match args, H with
  | [.a (.lp 100000 0), .a (.d (.si .u8 L))], [(100000, .cells [.ints .u32 8 h, .ints .u8 64 rest, .one (.d (.v (.int .u64 n)))] 180)] => some ⟨[HS.ok ⟨h, rest, n⟩, OkB L], .t [], [(100000, .cells (hC (wr shaK ⟨h, rest, n⟩ L)) 180)]⟩
  | _, _ => none
theorem v24 : Valid Tryd.prog Gs 87 g24 := by
  intro args H r h hp
  unfold g24 at h
  split at h
  · simp only [Option.some.injEq] at h; subst h; exact ok24 _ _ _ _ hp
  · cases h
noncomputable def ct_24 : List (Nat × Ct) := (87, ⟨[true, false], false, g24, none⟩) :: ct_23
theorem ctok_24 : CtsOk Tryd.prog Gs ct_24 := CtsOk.cons v24 (by kernel_rfl) ctok_23
noncomputable def an25 (h rest : List Int) (n : Int) : Nat → List Nat → List Ann := fun bk_ gs_ => match bk_, gs_ with
    | 0, _ => [{ τ := Nat, t0 := (default : Nat), J := fun t => t ≤ padz n, m := fun t => padz n - t, l := fun t => [(0, .s (.a (.lp 100000 0))), (2, .s (.a (.lp 2 0))), (3, .s (.a (.lp 3 0))), (4, .s (.a (.rw 4)))], H := fun t => [(100000, .cells (hC ⟨h, rest, n⟩) 180), (2, .cells [.ints .u8 32 (List.replicate 32 0)] 28), (3, .cells (hC ⟨h, rest, n⟩) 180), (4, .row (.ints .u8 (128 :: List.replicate t 0)) 5)] }]
    | 2, _ => [{ τ := Nat, t0 := (default : Nat), J := fun i => i ≤ 8, m := fun i => 8 - i, l := fun i => [(2, .s (.a (.lp 2 0))), (5, .s (.a (.lp 5 0))), (35, .s (.agg [.ints .u32 8 (wr shaK ⟨h, rest, n⟩ (pad n)).h])), (36, eI .i64 i)], H := fun i => [(100000, .cells (hC ⟨h, rest, n⟩) 180), (2, .cells [.ints .u8 32 (List.replicate 32 0)] 28), (5, .cells [.ints .u8 32 (digF (wr shaK ⟨h, rest, n⟩ (pad n)).h i)] 28)] }]
    | _, _ => []
theorem ok25 (h rest : List Int) (n : Int) (hp : allP [HS.ok ⟨h, rest, n⟩]) : CallsOk Tryd.prog Gs 88 [.a (.lp 100000 0)] [(100000, .cells (hC ⟨h, rest, n⟩) 180)] (.s (.agg [.ints .u8 32 (sumH shaK ⟨h, rest, n⟩)])) [(100000, .cells (hC ⟨h, rest, n⟩) 180)] :=
  ok_of (ann := an25 h rest n) ctok_24 mixed Tryd.func88 (by kernel_rfl) (of_nf (p := let l5 := (List.replicate (Int.toNat (1 : Int)) (0 : Int)); let l0 := (wr shaK { h := h, rest := rest, n := n } (pad n)); ((0 : Int) ≤ (1 : Int) ∧ (1 : Int) ≤ (72 : Int) ∧ (72 : Int) ≤ (↑lim : Int)) ∧ ((0 : Int) ≤ (0 : Int) ∧ (0 : Int) < (↑(Cont.len (Cont.ints IntKind.u8 l5)) : Int)) ∧ (∃ (t : Nat), h = h ∧ rest = rest ∧ n = n ∧ List.replicate (32 : Nat) (0 : Int) = List.replicate (32 : Nat) (0 : Int) ∧ h = h ∧ rest = rest ∧ n = n ∧ List.set l5 (Int.toNat (0 : Int)) (128 : Int) = (128 : Int) :: List.replicate t (0 : Int) ∧ t ≤ padz n ∧ True) ∧ ∀ (t : Nat), let l3 := ((128 : Int) :: List.replicate t (0 : Int)); let l2 := ((128 : Int) :: List.replicate t (0 : Int) ++ be8 (IntKind.wrap IntKind.u64 ((8 : Int) * n))); t ≤ padz n → (64 : Int) ≠ (0 : Int) ∧ brP (Int.tmod (IntKind.wrap IntKind.u64 (n + IntKind.wrap IntKind.u64 (↑(Cont.len (Cont.ints IntKind.u8 l3)) : Int))) (64 : Int) != (56 : Int)) (Cont.len (Cont.ints IntKind.u8 l3) + Cont.len (Cont.ints IntKind.u8 [(0 : Int)]) ≤ lim ∧ ∃ (t_1 : Nat), h = h ∧ rest = rest ∧ n = n ∧ List.replicate (32 : Nat) (0 : Int) = List.replicate (32 : Nat) (0 : Int) ∧ h = h ∧ rest = rest ∧ n = n ∧ (128 : Int) :: List.replicate t (0 : Int) ++ [(0 : Int)] = (128 : Int) :: List.replicate t_1 (0 : Int) ∧ t_1 ≤ padz n ∧ padz n - t_1 < padz n - t ∧ True) (List.length l3 + (8 : Nat) ≤ lim ∧ HS.ok { h := h, rest := rest, n := n } ∧ OkB l2 ∧ (∃ (t_1 : Nat), HS.h (wr shaK { h := h, rest := rest, n := n } l2) = HS.h l0 ∧ (0 : Int) = (↑t_1 : Int) ∧ h = h ∧ rest = rest ∧ n = n ∧ List.replicate (32 : Nat) (0 : Int) = List.replicate (32 : Nat) (0 : Int) ∧ List.replicate (32 : Nat) (0 : Int) = digF (HS.h l0) t_1 ∧ t_1 ≤ (8 : Nat) ∧ True) ∧ ∀ (t : Nat), let l4 := ((4 : Int) * (↑t : Int)); let l1 := (some (IntKind.i64, IntKind.wrap IntKind.i64 l4)); t ≤ (8 : Nat) → brP (decide ((↑t : Int) < (8 : Int))) (((0 : Int) ≤ (↑t : Int) ∧ (↑t : Int) < (↑(8 : Nat) : Int)) ∧ ((0 : Int) ≤ IntKind.wrap IntKind.i64 l4 ∧ IntKind.wrap IntKind.i64 l4 ≤ (↑(32 : Nat) : Int)) ∧ (0 : Nat) + Int.toNat (IntKind.wrap IntKind.i64 l4) < (32 : Nat) ∧ List.length (digF (HS.h l0) t) = (32 : Nat) ∧ startN (0 : Nat) l1 + (4 : Nat) ≤ (32 : Nat) ∧ (4 : Nat) ≤ lenN (32 : Nat) l1 none ∧ ∃ (t_1 : Nat), HS.h l0 = HS.h l0 ∧ IntKind.wrap IntKind.i64 ((↑t : Int) + (1 : Int)) = (↑t_1 : Int) ∧ h = h ∧ rest = rest ∧ n = n ∧ List.replicate (32 : Nat) (0 : Int) = List.replicate (32 : Nat) (0 : Int) ∧ put4 (digF (HS.h l0) t) (startN (0 : Nat) l1) (List.getD (HS.h l0) (Int.toNat (↑t : Int)) (0 : Int)) = digF (HS.h l0) t_1 ∧ t_1 ≤ (8 : Nat) ∧ (8 : Nat) - t_1 < (8 : Nat) - t ∧ True) (digF (HS.h l0) t = sumH shaK { h := h, rest := rest, n := n } ∧ h = h ∧ rest = rest ∧ n = n ∧ True))) (by kernel_rfl) (by
    conv => zeta
    obtain ⟨hs, _⟩ := hp
    have n0 : 0 ≤ n := hs.n0
    have n1 : n < 18446744073709551616 := hs.n1
    have hpz : padz n < 64 := by unfold padz; omega
    have hlim : (72 : Nat) ≤ lim := by unfold lim; omega
    refine ⟨⟨by omega, by omega, by omega⟩, ⟨by omega, (show (0 : Int) < ((1 : Nat) : Int) by omega)⟩, ⟨0, rfl, rfl, rfl, rfl, rfl, rfl, rfl, rfl, by omega, trivial⟩, fun t ht => ⟨by decide, ?_⟩⟩
    have el : Cont.len (Cont.ints IntKind.u8 ((128 : Int) :: List.replicate t (0 : Int))) = t + 1 := by simp [Cont.len]
    rw [el]
    have ew : Int.tmod (IntKind.wrap .u64 (n + IntKind.wrap .u64 ((t + 1 : Nat) : Int))) 64 = (n + t + 1) % 64 := by
      rw [Int.tmod_eq_emod_of_nonneg (u64_lt _).1, wu ((t + 1 : Nat) : Int) (by omega) (by omega), IntKind.wrap_u64]
      omega
    rw [ew]
    refine brI (fun hc => ?_) (fun hc => ?_)
    · have hc : (n + t + 1) % 64 ≠ 56 := by simpa using hc
      have : t < padz n := by unfold padz at ht ⊢; omega
      refine ⟨(show (t + 1) + 1 ≤ lim by omega), t + 1, rfl, rfl, rfl, rfl, rfl, rfl, rfl, ?_, by omega, by omega, trivial⟩
      rw [List.cons_append, List.replicate_succ']
    · have hc : (n + t + 1) % 64 = 56 := by simpa using hc
      have e : t = padz n := by unfold padz at ht ⊢; omega
      subst e
      refine ⟨by simp; omega, hs, pad_ok n, ⟨0, rfl, rfl, rfl, rfl, rfl, rfl, rfl, by omega, trivial⟩, fun i hi => brI (fun hd => ?_) (fun hd => ?_)⟩
      · have hd : i < 8 := by have := of_decide_eq_true hd; omega
        have e4 : IntKind.wrap .i64 (4 * (i : Int)) = ((4 * i : Nat) : Int) := by rw [wi _ (by omega) (by omega)]; omega
        rw [e4, show lenN 32 (some (IntKind.i64, ((4 * i : Nat) : Int))) none = 32 - 4 * i from rfl, show startN 0 (some (IntKind.i64, ((4 * i : Nat) : Int))) = 4 * i from by simp only [startN, Int.toNat_natCast, Nat.zero_add]]
        refine ⟨by omega, by omega, by omega, digF_len _ _, by omega, by omega, i + 1, rfl, by rw [wi _ (by omega) (by omega)]; rfl, rfl, rfl, rfl, rfl, rfl, by omega, by omega, trivial⟩
      · have hd : ¬ (i : Int) < 8 := of_decide_eq_false hd
        obtain rfl : i = 8 := by omega
        exact ⟨rfl, rfl, rfl, rfl, trivial⟩))
noncomputable def g25 : Con := fun args H => match args, H with
  | [.a (.lp 100000 0)], [(100000, .cells [.ints .u32 8 h, .ints .u8 64 rest, .one (.d (.v (.int .u64 n)))] 180)] => some ⟨[HS.ok ⟨h, rest, n⟩], .s (.agg [.ints .u8 32 (sumH shaK ⟨h, rest, n⟩)]), [(100000, .cells (hC ⟨h, rest, n⟩) 180)]⟩
  | _, _ => none
theorem v25 : Valid Tryd.prog Gs 88 g25 := by
  intro args H r h hp
  unfold g25 at h
  split at h
  · simp only [Option.some.injEq] at h; subst h; exact ok25 _ _ _ hp
  · cases h
noncomputable def ct_25 : List (Nat × Ct) := (88, ⟨[true], false, g25, none⟩) :: ct_24
theorem ctok_25 : CtsOk Tryd.prog Gs ct_25 := CtsOk.cons v25 (by kernel_rfl) ctok_24
noncomputable def an14 (L : List Int) : Nat → List Nat → List Ann := fun _ _ => []
theorem ok14 (L : List Int) (hp : allP [OkB L]) : CallsOk Tryd.prog Gs 73 [.a (.d (.si .u8 L))] [] (.s (.agg [.ints .u8 32 (sumB shaK L)])) [] :=
  ok_of (ann := an14 L) ctok_25 mixed Tryd.func73 (by kernel_rfl) (of_nf (p := HS.ok { h := HS.h hs0, rest := HS.rest hs0, n := HS.n hs0 } ∧ OkB L ∧ HS.ok { h := HS.h (wr shaK { h := HS.h hs0, rest := HS.rest hs0, n := HS.n hs0 } L), rest := HS.rest (wr shaK { h := HS.h hs0, rest := HS.rest hs0, n := HS.n hs0 } L), n := HS.n (wr shaK { h := HS.h hs0, rest := HS.rest hs0, n := HS.n hs0 } L) } ∧ sumH shaK { h := HS.h (wr shaK { h := HS.h hs0, rest := HS.rest hs0, n := HS.n hs0 } L), rest := HS.rest (wr shaK { h := HS.h hs0, rest := HS.rest hs0, n := HS.n hs0 } L), n := HS.n (wr shaK { h := HS.h hs0, rest := HS.rest hs0, n := HS.n hs0 } L) } = sumB shaK L ∧ True) (by kernel_rfl) (by
    obtain ⟨hL, _⟩ := hp
    exact ⟨hs0_ok, hL, wr_ok hs0_ok hL, rfl, trivial⟩))
noncomputable def g14 : Con := fun args H => match args, H with
  | [.a (.d (.si .u8 L))], [] => some ⟨[OkB L], .s (.agg [.ints .u8 32 (sumB shaK L)]), []⟩
  | _, _ => none
theorem v14 : Valid Tryd.prog Gs 73 g14 := by
  intro args H r h hp
  unfold g14 at h
  split at h
  · simp only [Option.some.injEq] at h; subst h; exact ok14 _ hp
  · cases h
noncomputable def ct_14 : List (Nat × Ct) := (73, ⟨[], false, g14, none⟩) :: ct_25
theorem ctok_14 : CtsOk Tryd.prog Gs ct_14 := CtsOk.cons v14 (by kernel_rfl) ctok_25
end Go.Proofs.YtlgffgnkkihaoaaDoor
