/- Parts joined, split, digested, by both texts. -/
import Derived.Test.YtlgffgnkkihaoaaDoorYaP
namespace Go.Proofs.YtlgffgnkkihaoaaDoor
open Go.Dx Go.RowKit
set_option linter.unusedVariables false
set_option linter.unusedSimpArgs false
set_option maxRecDepth 100000
attribute [local irreducible] wpS
def acc8 (L : List Int) : Nat → Int
  | 0 => 0
  | i + 1 => bOr .u64 (IntKind.wrap .u64 (acc8 L i * 2 ^ (8 : Nat))) (IntKind.wrap .u64 (L.getD i 0))
def jnp (Ls : List (List Int)) (i : Nat) : List Int := be8 ((Ls.length : Nat) : Int) ++ jn (Ls.take i)
theorem jn_app (A B : List (List Int)) : jn (A ++ B) = jn A ++ jn B := by
  induction A with
  | nil => rfl
  | cons L r ih => simp [jn, ih]
theorem jnp_next {Ls : List (List Int)} {i : Nat} (h : i < Ls.length) : jnp Ls (i + 1) = jnp Ls i ++ be8 (((Ls.getD i []).length : Nat) : Int) ++ Ls.getD i [] := by
  unfold jnp
  rw [take_succ_getD Ls [] h, jn_app]
  simp [jn]
theorem jnp_zero (Ls : List (List Int)) : jnp Ls 0 = be8 ((Ls.length : Nat) : Int) := by simp [jnp, jn]
theorem jnp_all (Ls : List (List Int)) : jnp Ls Ls.length = joinB Ls := by simp [jnp, joinB]
theorem jnp_le (Ls : List (List Int)) : ∀ (d i : Nat), i + d = Ls.length → (jnp Ls i).length ≤ (joinB Ls).length
  | 0, i, h => by
    rw [Nat.add_zero] at h
    subst h; rw [jnp_all]; exact Nat.le_refl _
  | d + 1, i, h => by
    have := jnp_le Ls d (i + 1) (by omega)
    rw [jnp_next (by omega)] at this
    simp only [List.length_append] at this
    omega
theorem joinB_okB {Ls : List (List Int)} (h : ∀ L ∈ Ls, OkB L) : OkB (joinB Ls) := by
  have : ∀ {M : List (List Int)}, (∀ L ∈ M, OkB L) → OkB (jn M) := fun {M} => by
    induction M with
    | nil => exact fun _ x hx => by cases hx
    | cons L r ih => exact fun h => okB_app (okB_app (be8_ok _) (h L (by simp))) (ih fun M hM => h M (by simp [hM]))
  exact okB_app (be8_ok _) (this h)
theorem be8_acc {L : List Int} (h : OkB L) : acc8 L 8 = be8v L := by
  have a0 := getD_ok h 0
  have a1 := getD_ok h 1
  have a2 := getD_ok h 2
  have a3 := getD_ok h 3
  have a4 := getD_ok h 4
  have a5 := getD_ok h 5
  have a6 := getD_ok h 6
  have a7 := getD_ok h 7
  have hz : acc8 L 1 = L.getD 0 0 := by
    show bOr .u64 (IntKind.wrap .u64 (0 * 2 ^ (8 : Nat))) (IntKind.wrap .u64 (L.getD 0 0)) = _
    rw [or_step64 (by omega) (by omega) a0]; omega
  have st : ∀ i, acc8 L (i + 1) = bOr .u64 (IntKind.wrap .u64 (acc8 L i * 2 ^ (8 : Nat))) (IntKind.wrap .u64 (L.getD i 0)) := fun i => rfl
  unfold be8v
  rw [st 7, st 6, st 5, st 4, st 3, st 2, st 1, hz, or_step64 (by omega) (by omega) a1, or_step64 (by omega) (by omega) a2, or_step64 (by omega) (by omega) a3, or_step64 (by omega) (by omega) a4, or_step64 (by omega) (by omega) a5, or_step64 (by omega) (by omega) a6, or_step64 (by omega) (by omega) a7]
theorem split_none {L : List Int} (h : splitB L = none) : false = (splitB L).isSome ∧ [] = (splitB L).getD [] ∧ True := by rw [h]; exact ⟨rfl, rfl, trivial⟩
theorem split_some {L : List Int} {Ds : List (List Int)} (h : splitB L = some Ds) : true = (splitB L).isSome ∧ Ds = (splitB L).getD [] ∧ True := by rw [h]; exact ⟨rfl, rfl, trivial⟩
noncomputable def an16 (Ls : List (List Int)) : Nat → List Nat → List Ann := fun bk_ gs_ => match bk_, gs_ with
    | 0, _ => [{ τ := Nat, t0 := (default : Nat), J := fun i => i ≤ Ls.length, m := fun i => Ls.length - i, l := fun i => [(3, .s (.a (.rw 3))), (10, .s (.a (.d (.sb Ls)))), (11, eI .i64 Ls.length), (12, eI .i64 i)], H := fun i => [(3, .row (.ints .u8 (jnp Ls i)) 5)] }]
    | _, _ => []
theorem ok16 (Ls : List (List Int)) (hp : allP [(joinB Ls).length + 100 ≤ lim]) : CallsOk Tryd.prog Gs 64 [.a (.d (.sb Ls))] [] (.s (.a (.rw 0))) [(0, .row (.ints .u8 (joinB Ls)) 5)] :=
  ok_of (ann := an16 Ls) ctok_15 mixed Tryd.func64 (by kernel_rfl) (of_nf (p := (∃ (t : Nat), Ls = Ls ∧ (↑(List.length Ls) : Int) = (↑(List.length Ls) : Int) ∧ (0 : Int) = (↑t : Int) ∧ be8 (IntKind.wrap IntKind.u64 (↑(List.length Ls) : Int)) = jnp Ls t ∧ t ≤ List.length Ls ∧ True) ∧ ∀ (t : Nat), t ≤ List.length Ls → brP (decide ((↑t : Int) < (↑(List.length Ls) : Int))) (((0 : Int) ≤ (↑t : Int) ∧ (↑t : Int) < (↑(List.length Ls) : Int)) ∧ List.length (jnp Ls t) + (8 : Nat) ≤ lim ∧ Cont.len (Cont.ints IntKind.u8 (jnp Ls t ++ be8 (IntKind.wrap IntKind.u64 (↑(List.length (List.getD Ls (Int.toNat (↑t : Int)) [])) : Int)))) + Cont.len (Cont.ints IntKind.u8 (List.getD Ls (Int.toNat (↑t : Int)) [])) ≤ lim ∧ ∃ (t_1 : Nat), Ls = Ls ∧ (↑(List.length Ls) : Int) = (↑(List.length Ls) : Int) ∧ IntKind.wrap IntKind.i64 ((↑t : Int) + (1 : Int)) = (↑t_1 : Int) ∧ jnp Ls t ++ be8 (IntKind.wrap IntKind.u64 (↑(List.length (List.getD Ls (Int.toNat (↑t : Int)) [])) : Int)) ++ List.getD Ls (Int.toNat (↑t : Int)) [] = jnp Ls t_1 ∧ t_1 ≤ List.length Ls ∧ List.length Ls - t_1 < List.length Ls - t ∧ True) (jnp Ls t = joinB Ls ∧ True)) (by kernel_rfl) (by
    obtain ⟨hb, _⟩ := hp
    have hlim : lim = 68719476736 := rfl
    have hj := jnp_le Ls
    have h0 := jn_ge Ls
    have h1 := joinB_len Ls
    refine ⟨⟨0, rfl, rfl, rfl, ?_, by omega, trivial⟩, fun t ht => brI (fun hc => ?_) (fun hc => ?_)⟩
    · rw [jnp_zero, wu _ (by omega) (by omega)]
    · have hc : t < Ls.length := by have := of_decide_eq_true hc; omega
      have hm : Ls.getD t [] ∈ Ls := by rw [List.getD_eq_getElem?_getD, List.getElem?_eq_getElem hc]; exact List.getElem_mem hc
      have h2 := jn_mem hm
      have h3 := hj (Ls.length - (t + 1)) (t + 1) (by omega)
      have h4 := hj (Ls.length - t) t (by omega)
      have h5 : (jnp Ls (t + 1)).length = (jnp Ls t).length + 8 + (Ls.getD t []).length := by rw [jnp_next hc, List.length_append, List.length_append, be8_len]
      rw [Int.toNat_natCast, wu ((List.length (Ls.getD t []) : Nat) : Int) (by omega) (by omega)]
      refine ⟨by omega, by omega, ?_, t + 1, rfl, rfl, by rw [wi _ (by omega) (by omega)]; rfl, (jnp_next hc).symm, by omega, by omega, trivial⟩
      show (jnp Ls t ++ be8 _).length + (Ls.getD t []).length ≤ lim
      rw [List.length_append, be8_len]; omega
    · have hc : ¬ (t : Int) < (Ls.length : Int) := of_decide_eq_false hc
      obtain rfl : t = Ls.length := by omega
      exact ⟨jnp_all Ls, trivial⟩))
noncomputable def g16 : Con := fun args H => match args, H with
  | [.a (.d (.sb Ls))], [] => some ⟨[(joinB Ls).length + 100 ≤ lim], .s (.a (.rw 0)), [(0, .row (.ints .u8 (joinB Ls)) 5)]⟩
  | _, _ => none
theorem v16 : Valid Tryd.prog Gs 64 g16 := by
  intro args H r h hp
  unfold g16 at h
  split at h
  · simp only [Option.some.injEq] at h; subst h; exact ok16 _ hp
  · cases h
noncomputable def ct_16 : List (Nat × Ct) := (64, ⟨[], false, g16, none⟩) :: ct_15
theorem ctok_16 : CtsOk Tryd.prog Gs ct_16 := CtsOk.cons v16 (by kernel_rfl) ctok_15
noncomputable def an21 (Ls : List (List Int)) : Nat → List Nat → List Ann := fun _ _ => []
theorem ok21 (Ls : List (List Int)) (hp : allP [∀ L ∈ Ls, OkB L, (joinB Ls).length + 100 ≤ lim]) : CallsOk Tryd.prog Gs 69 [.a (.d (.sb Ls))] [] (.s (.agg [.ints .u8 32 (sumB shaK (joinB Ls))])) [] :=
  ok_of (ann := an21 Ls) ctok_16 mixed Tryd.func69 (by kernel_rfl) (of_nf (p := List.length (joinB Ls) + (100 : Nat) ≤ lim ∧ OkB (joinB Ls) ∧ sumB shaK (joinB Ls) = sumB shaK (joinB Ls) ∧ True) (by kernel_rfl) (by
    exact ⟨hp.2.1, joinB_okB hp.1, rfl, trivial⟩))
noncomputable def g21 : Con := fun args H => match args, H with
  | [.a (.d (.sb Ls))], [] => some ⟨[∀ L ∈ Ls, OkB L, (joinB Ls).length + 100 ≤ lim], .s (.agg [.ints .u8 32 (sumB shaK (joinB Ls))]), []⟩
  | _, _ => none
theorem v21 : Valid Tryd.prog Gs 69 g21 := by
  intro args H r h hp
  unfold g21 at h
  split at h
  · simp only [Option.some.injEq] at h; subst h; exact ok21 _ hp
  · cases h
noncomputable def ct_21 : List (Nat × Ct) := (69, ⟨[], false, g21, none⟩) :: ct_16
theorem ctok_21 : CtsOk Tryd.prog Gs ct_21 := CtsOk.cons v21 (by kernel_rfl) ctok_16
noncomputable def an19 (Ls : List (List Int)) : Nat → List Nat → List Ann := fun bk_ gs_ => match bk_, gs_ with
    | 0, _ => [{ τ := Nat, t0 := (default : Nat), J := fun i => i ≤ Ls.length, m := fun i => Ls.length - i, l := fun i => [(0, .s (.a (.d (.sb Ls)))), (3, .s (.a (.rw 3))), (4, eI .i64 i)], H := fun i => [(3, .row (.ints .u8 (jnp Ls i)) 5)] }]
    | _, _ => []
theorem ok19 (Ls : List (List Int)) (hp : allP [(joinB Ls).length + 100 ≤ lim]) : CallsOk Tryd.prog Gs 32 [.a (.d (.sb Ls))] [] (.s (.a (.rw 0))) [(0, .row (.ints .u8 (joinB Ls)) 5)] :=
  ok_of (ann := an19 Ls) ctok_21 mixed Tryd.func32 (by kernel_rfl) (of_nf (p := (∃ (t : Nat), Ls = Ls ∧ (0 : Int) = (↑t : Int) ∧ be8 (IntKind.wrap IntKind.u64 (↑(List.length Ls) : Int)) = jnp Ls t ∧ t ≤ List.length Ls ∧ True) ∧ ∀ (t : Nat), t ≤ List.length Ls → brP (decide ((↑t : Int) < (↑(List.length Ls) : Int))) (((0 : Int) ≤ (↑t : Int) ∧ (↑t : Int) < (↑(List.length Ls) : Int)) ∧ Cont.len (Cont.ints IntKind.u8 (jnp Ls t)) + Cont.len (Cont.ints IntKind.u8 (be8 (IntKind.wrap IntKind.u64 (↑(List.length (List.getD Ls (Int.toNat (↑t : Int)) [])) : Int)))) ≤ lim ∧ ((0 : Int) ≤ (↑t : Int) ∧ (↑t : Int) < (↑(List.length Ls) : Int)) ∧ Cont.len (Cont.ints IntKind.u8 (jnp Ls t ++ be8 (IntKind.wrap IntKind.u64 (↑(List.length (List.getD Ls (Int.toNat (↑t : Int)) [])) : Int)))) + Cont.len (Cont.ints IntKind.u8 (List.getD Ls (Int.toNat (↑t : Int)) [])) ≤ lim ∧ ∃ (t_1 : Nat), Ls = Ls ∧ IntKind.wrap IntKind.i64 ((↑t : Int) + (1 : Int)) = (↑t_1 : Int) ∧ jnp Ls t ++ be8 (IntKind.wrap IntKind.u64 (↑(List.length (List.getD Ls (Int.toNat (↑t : Int)) [])) : Int)) ++ List.getD Ls (Int.toNat (↑t : Int)) [] = jnp Ls t_1 ∧ t_1 ≤ List.length Ls ∧ List.length Ls - t_1 < List.length Ls - t ∧ True) (jnp Ls t = joinB Ls ∧ True)) (by kernel_rfl) (by
    obtain ⟨hb, _⟩ := hp
    have hlim : lim = 68719476736 := rfl
    have hj := jnp_le Ls
    have h0 := jn_ge Ls
    have h1 := joinB_len Ls
    refine ⟨⟨0, rfl, rfl, ?_, by omega, trivial⟩, fun t ht => brI (fun hc => ?_) (fun hc => ?_)⟩
    · rw [jnp_zero, wu _ (by omega) (by omega)]
    · have hc : t < Ls.length := by have := of_decide_eq_true hc; omega
      have hm : Ls.getD t [] ∈ Ls := by rw [List.getD_eq_getElem?_getD, List.getElem?_eq_getElem hc]; exact List.getElem_mem hc
      have h2 := jn_mem hm
      have h3 := hj (Ls.length - (t + 1)) (t + 1) (by omega)
      have h4 := hj (Ls.length - t) t (by omega)
      have h5 : (jnp Ls (t + 1)).length = (jnp Ls t).length + 8 + (Ls.getD t []).length := by rw [jnp_next hc, List.length_append, List.length_append, be8_len]
      rw [Int.toNat_natCast, wu ((List.length (Ls.getD t []) : Nat) : Int) (by omega) (by omega)]
      refine ⟨by omega, (show (jnp Ls t).length + 8 ≤ lim by omega), by omega, ?_, t + 1, rfl, by rw [wi _ (by omega) (by omega)]; rfl, (jnp_next hc).symm, by omega, by omega, trivial⟩
      show (jnp Ls t ++ be8 _).length + (Ls.getD t []).length ≤ lim
      rw [List.length_append, be8_len]; omega
    · have hc : ¬ (t : Int) < (Ls.length : Int) := of_decide_eq_false hc
      obtain rfl : t = Ls.length := by omega
      exact ⟨jnp_all Ls, trivial⟩))
noncomputable def g19 : Con := fun args H => match args, H with
  | [.a (.d (.sb Ls))], [] => some ⟨[(joinB Ls).length + 100 ≤ lim], .s (.a (.rw 0)), [(0, .row (.ints .u8 (joinB Ls)) 5)]⟩
  | _, _ => none
theorem v19 : Valid Tryd.prog Gs 32 g19 := by
  intro args H r h hp
  unfold g19 at h
  split at h
  · simp only [Option.some.injEq] at h; subst h; exact ok19 _ hp
  · cases h
noncomputable def ct_19 : List (Nat × Ct) := (32, ⟨[], false, g19, none⟩) :: ct_21
theorem ctok_19 : CtsOk Tryd.prog Gs ct_19 := CtsOk.cons v19 (by kernel_rfl) ctok_21
end Go.Proofs.YtlgffgnkkihaoaaDoor
