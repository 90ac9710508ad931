/- What the laws of the digest answer. -/
import Derived.Test.YtjcghjgennddaaaDoorYaE
namespace Go.Proofs.YtjcghjgennddaaaDoor
open Go.Dx Go.RowKit
set_option linter.unusedVariables false
set_option linter.unusedSimpArgs false
set_option maxRecDepth 100000
def fl (Ls : List (List Int)) (i : Nat) : List Int := (Ls.take i).flatten
def sp7 (L : List Int) (j : Nat) : List Int := List.replicate j 7 ++ L.drop j
theorem fl_succ {Ls : List (List Int)} {i : Nat} (h : i < Ls.length) : fl Ls (i + 1) = fl Ls i ++ Ls.getD i [] := by
  unfold fl; rw [take_succ_getD Ls [] h]; simp
theorem fl_len (Ls : List (List Int)) (i : Nat) : (fl Ls i).length ≤ Ls.flatten.length := by
  have : (Ls.take i).flatten ++ (Ls.drop i).flatten = Ls.flatten := by rw [← List.flatten_append, List.take_append_drop]
  have := congrArg List.length this
  rw [List.length_append] at this
  show (Ls.take i).flatten.length ≤ _
  omega
theorem fl_ok {Ls : List (List Int)} (h : ∀ L ∈ Ls, OkB L) (i : Nat) : OkB (fl Ls i) := fun x hx => by
  obtain ⟨L, h1, h2⟩ := List.mem_flatten.1 hx
  exact h L (List.mem_of_mem_take h1) x h2
theorem sp7_len {L : List Int} {j : Nat} (h : j ≤ L.length) : (sp7 L j).length = L.length := by simp [sp7]; omega
theorem sp7_succ {L : List Int} {j : Nat} (h : j < L.length) : (sp7 L j).set j 7 = sp7 L (j + 1) := by
  unfold sp7
  rw [List.set_append_right _ _ (by simp), List.length_replicate, Nat.sub_self, List.drop_eq_getElem_cons h, List.set_cons_zero, List.replicate_succ', List.append_assoc]
  rfl
theorem hs_eta (X : HS) : (⟨X.h, X.rest, X.n⟩ : HS) = X := rfl
noncomputable def an13  : Nat → List Nat → Option Ann := fun _ _ => none
theorem ok13  : CallsOk Tryd.prog Gs 13 [] [] (eB true) [] :=
  ok_of (ann := an13 ) ctok_20 mixed Tryd.func13 (by kernel_rfl) (of_nf (p := (0 : Nat) < List.length (List.set (List.set (List.replicate ((1 : Nat) + (1 : Nat)) (0 : Int)) ((0 : Nat) * (1 : Nat)) (97 : Int)) ((1 : Nat) * (1 : Nat)) (98 : Int)) ∧ HS.ok { h := HS.h hs0, rest := HS.rest hs0, n := HS.n hs0 } ∧ OkB (List.set (List.set (List.replicate ((1 : Nat) + (1 : Nat)) (0 : Int)) ((0 : Nat) * (1 : Nat)) (97 : Int)) ((1 : Nat) * (1 : Nat)) (98 : Int)) ∧ (0 : Nat) < List.length [(99 : Int)] ∧ HS.ok { h := HS.h (wr shaK { h := HS.h hs0, rest := HS.rest hs0, n := HS.n hs0 } (List.set (List.set (List.replicate ((1 : Nat) + (1 : Nat)) (0 : Int)) ((0 : Nat) * (1 : Nat)) (97 : Int)) ((1 : Nat) * (1 : Nat)) (98 : Int))), rest := HS.rest (wr shaK { h := HS.h hs0, rest := HS.rest hs0, n := HS.n hs0 } (List.set (List.set (List.replicate ((1 : Nat) + (1 : Nat)) (0 : Int)) ((0 : Nat) * (1 : Nat)) (97 : Int)) ((1 : Nat) * (1 : Nat)) (98 : Int))), n := HS.n (wr shaK { h := HS.h hs0, rest := HS.rest hs0, n := HS.n hs0 } (List.set (List.set (List.replicate ((1 : Nat) + (1 : Nat)) (0 : Int)) ((0 : Nat) * (1 : Nat)) (97 : Int)) ((1 : Nat) * (1 : Nat)) (98 : Int))) } ∧ OkB [(99 : Int)] ∧ (0 : Nat) < List.length (List.set (List.set (List.set (List.replicate ((2 : Nat) + (1 : Nat)) (0 : Int)) ((0 : Nat) * (1 : Nat)) (97 : Int)) ((1 : Nat) * (1 : Nat)) (98 : Int)) ((2 : Nat) * (1 : Nat)) (99 : Int)) ∧ OkB (List.set (List.set (List.set (List.replicate ((2 : Nat) + (1 : Nat)) (0 : Int)) ((0 : Nat) * (1 : Nat)) (97 : Int)) ((1 : Nat) * (1 : Nat)) (98 : Int)) ((2 : Nat) * (1 : Nat)) (99 : Int)) ∧ OkB [] ∧ (0 : Nat) < List.length [(97 : Int)] ∧ List.length (joinB [[(97 : Int)], []]) + (100 : Nat) ≤ lim ∧ OkB (joinB [[(97 : Int)], []]) ∧ List.length (joinB [[(97 : Int)], []]) ≤ lim ∧ ((0 : Int) ≤ (9 : Int) ∧ (9 : Int) ≤ (9 : Int) ∧ (9 : Int) ≤ (↑lim : Int)) ∧ OkB (List.replicate (Int.toNat (9 : Int)) (0 : Int)) ∧ List.length (List.replicate (Int.toNat (9 : Int)) (0 : Int)) ≤ lim ∧ ((0 : Int) ≤ (0 : Int) ∧ (0 : Int) < (↑(32 : Nat) : Int)) ∧ ((0 : Int) ≤ (31 : Int) ∧ (31 : Int) < (↑(32 : Nat) : Int)) ∧ ((0 : Int) ≤ (0 : Int) ∧ (0 : Int) < (↑(32 : Nat) : Int)) ∧ ((0 : Int) ≤ (31 : Int) ∧ (31 : Int) < (↑(32 : Nat) : Int)) ∧ HS.ok { h := HS.h (wr shaK { h := HS.h (wr shaK { h := HS.h hs0, rest := HS.rest hs0, n := HS.n hs0 } (List.set (List.set (List.replicate ((1 : Nat) + (1 : Nat)) (0 : Int)) ((0 : Nat) * (1 : Nat)) (97 : Int)) ((1 : Nat) * (1 : Nat)) (98 : Int))), rest := HS.rest (wr shaK { h := HS.h hs0, rest := HS.rest hs0, n := HS.n hs0 } (List.set (List.set (List.replicate ((1 : Nat) + (1 : Nat)) (0 : Int)) ((0 : Nat) * (1 : Nat)) (97 : Int)) ((1 : Nat) * (1 : Nat)) (98 : Int))), n := HS.n (wr shaK { h := HS.h hs0, rest := HS.rest hs0, n := HS.n hs0 } (List.set (List.set (List.replicate ((1 : Nat) + (1 : Nat)) (0 : Int)) ((0 : Nat) * (1 : Nat)) (97 : Int)) ((1 : Nat) * (1 : Nat)) (98 : Int))) } [(99 : Int)]), rest := HS.rest (wr shaK { h := HS.h (wr shaK { h := HS.h hs0, rest := HS.rest hs0, n := HS.n hs0 } (List.set (List.set (List.replicate ((1 : Nat) + (1 : Nat)) (0 : Int)) ((0 : Nat) * (1 : Nat)) (97 : Int)) ((1 : Nat) * (1 : Nat)) (98 : Int))), rest := HS.rest (wr shaK { h := HS.h hs0, rest := HS.rest hs0, n := HS.n hs0 } (List.set (List.set (List.replicate ((1 : Nat) + (1 : Nat)) (0 : Int)) ((0 : Nat) * (1 : Nat)) (97 : Int)) ((1 : Nat) * (1 : Nat)) (98 : Int))), n := HS.n (wr shaK { h := HS.h hs0, rest := HS.rest hs0, n := HS.n hs0 } (List.set (List.set (List.replicate ((1 : Nat) + (1 : Nat)) (0 : Int)) ((0 : Nat) * (1 : Nat)) (97 : Int)) ((1 : Nat) * (1 : Nat)) (98 : Int))) } [(99 : Int)]), n := HS.n (wr shaK { h := HS.h (wr shaK { h := HS.h hs0, rest := HS.rest hs0, n := HS.n hs0 } (List.set (List.set (List.replicate ((1 : Nat) + (1 : Nat)) (0 : Int)) ((0 : Nat) * (1 : Nat)) (97 : Int)) ((1 : Nat) * (1 : Nat)) (98 : Int))), rest := HS.rest (wr shaK { h := HS.h hs0, rest := HS.rest hs0, n := HS.n hs0 } (List.set (List.set (List.replicate ((1 : Nat) + (1 : Nat)) (0 : Int)) ((0 : Nat) * (1 : Nat)) (97 : Int)) ((1 : Nat) * (1 : Nat)) (98 : Int))), n := HS.n (wr shaK { h := HS.h hs0, rest := HS.rest hs0, n := HS.n hs0 } (List.set (List.set (List.replicate ((1 : Nat) + (1 : Nat)) (0 : Int)) ((0 : Nat) * (1 : Nat)) (97 : Int)) ((1 : Nat) * (1 : Nat)) (98 : Int))) } [(99 : Int)]) } ∧ ((0 : Int) ≤ (0 : Int) ∧ (0 : Int) < (↑(Cont.len (Cont.bts (Option.getD (splitB (joinB [[(97 : Int)], []])) []))) : Int)) ∧ (∀ (L : List Int), L ∈ [] → OkB L) ∧ List.length (joinB []) + (100 : Nat) ≤ lim ∧ ((0 : Int) ≤ (8 : Int) ∧ (8 : Int) ≤ (8 : Int) ∧ (8 : Int) ≤ (↑lim : Int)) ∧ OkB (List.replicate (Int.toNat (8 : Int)) (0 : Int)) ∧ (sumB shaK (joinB []) == sumB shaK (List.replicate (Int.toNat (8 : Int)) (0 : Int))) = true ∧ True) (by kernel_rfl) (by
    have hlim : lim = 68719476736 := rfl
    have o2 : OkB [97, 98] := fun x hx => by simp at hx; omega
    have o3 : OkB [97, 98, 99] := fun x hx => by simp at hx; omega
    have o9 : OkB [99] := fun x hx => by simp at hx; omega
    have o1 : OkB [97] := fun x hx => by simp at hx; omega
    have o0 : OkB [] := fun x hx => by cases hx
    have w1 := wr_ok (K := shaK) hs0_ok o2
    have oj : ∀ M ∈ [[97], ([] : List Int)], OkB M := fun M hM => by
      simp only [List.mem_cons, List.not_mem_nil, or_false] at hM
      rcases hM with rfl | rfl
      · exact o1
      · exact o0
    have lj : (joinB [[97], []]).length = 25 := rfl
    refine ⟨by decide, hs0_ok, o2, by decide, w1, o9, by decide, o3, o0, by decide, by omega, joinB_okB oj, by omega, by omega, rep_ok _, (show 9 ≤ lim by omega), by omega, by omega, by omega, by omega, wr_ok w1 o9, ⟨by omega, ?_⟩, fun L hL => (by cases hL), (show 8 + 100 ≤ lim by omega), by omega, rep_ok _, ?_, trivial⟩
    · rw [split_join (by omega)]
      exact (by decide : (0 : Int) < ((2 : Nat) : Int))
    · have e : joinB [] = List.replicate (Int.toNat 8) 0 := by kernel_rfl
      rw [e, beq_self_eq_true]))
noncomputable def g13 : Con := fun args H => match args, H with
  | [], [] => some ⟨[], eB true, []⟩
  | _, _ => none
theorem v13 : Valid Tryd.prog Gs 13 g13 := by
  intro args H r h hp
  unfold g13 at h
  split at h
  · simp only [Option.some.injEq] at h; subst h; exact ok13 
  · cases h
noncomputable def ct_13 : List (Nat × Ct) := (13, ⟨[], false, g13⟩) :: ct_20
theorem ctok_13 : CtsOk Tryd.prog Gs ct_13 := CtsOk.cons v13 (by kernel_rfl) ctok_20
noncomputable def an5 (Ls : List (List Int)) : Nat → List Nat → Option Ann := fun bk_ gs_ => match bk_, gs_ with
    | 0, _ => some { τ := Nat, J := fun i => i ≤ Ls.length, m := fun i => Ls.length - i, l := fun i => [(0, .s (.a (.d (.sb Ls)))), (3, .s (.a (.lp 3 0))), (4, .s (.a (.rw 4))), (5, eI .i64 i)], H := fun i => [(3, .cells (hC (wr shaK hs0 (fl Ls i))) 88), (4, .row (.ints .u8 (fl Ls i)) 5)] }
    | 2, m :: _ => some { τ := Nat × Nat, J := fun t => t.1 < Ls.length ∧ t.2 ≤ (Ls.getD t.1 []).length ∧ Ls.length - t.1 = m, m := fun t => (Ls.getD t.1 []).length - t.2, l := fun t => [(0, .s (.a (.d (.sb Ls)))), (3, .s (.a (.lp 3 0))), (4, .s (.a (.rw 4))), (5, eI .i64 t.1), (6, .s (.a (.rw 6))), (7, eI .i64 t.2)], H := fun t => [(3, .cells (hC (wr shaK hs0 (fl Ls (t.1 + 1)))) 88), (4, .row (.ints .u8 (fl Ls t.1)) 5), (6, .row (.ints .u8 (sp7 (Ls.getD t.1 []) t.2)) 5)] }
    | _, _ => none
theorem ok5 (Ls : List (List Int)) (hp : allP [∀ L ∈ Ls, OkB L, Ls.flatten.length + 100 ≤ lim, Ls.length ≤ lim]) : CallsOk Tryd.prog Gs 5 [.a (.d (.sb Ls))] [] (eB true) [] :=
  ok_of (ann := an5 Ls) ctok_13 mixed Tryd.func5 (by kernel_rfl) (of_nf (p := (∃ (t : Nat), Ls = Ls ∧ (0 : Int) = (↑t : Int) ∧ HS.h hs0 = HS.h (wr shaK hs0 (fl Ls t)) ∧ HS.rest hs0 = HS.rest (wr shaK hs0 (fl Ls t)) ∧ HS.n hs0 = HS.n (wr shaK hs0 (fl Ls t)) ∧ [] = fl Ls t ∧ t ≤ List.length Ls ∧ True) ∧ ∀ (t : Nat), t ≤ List.length Ls → brP (decide ((↑t : Int) < (↑(List.length Ls) : Int))) (((0 : Int) ≤ (↑t : Int) ∧ (↑t : Int) < (↑(List.length Ls) : Int)) ∧ Cont.len (Cont.ints IntKind.u8 []) + Cont.len (Cont.ints IntKind.u8 (List.getD Ls (Int.toNat (↑t : Int)) [])) ≤ lim ∧ HS.ok { h := HS.h (wr shaK hs0 (fl Ls t)), rest := HS.rest (wr shaK hs0 (fl Ls t)), n := HS.n (wr shaK hs0 (fl Ls t)) } ∧ OkB ([] ++ List.getD Ls (Int.toNat (↑t : Int)) []) ∧ (∃ (t_1 : Nat × Nat), Ls = Ls ∧ (↑t : Int) = (↑(Prod.fst t_1) : Int) ∧ (0 : Int) = (↑(Prod.snd t_1) : Int) ∧ HS.h (wr shaK { h := HS.h (wr shaK hs0 (fl Ls t)), rest := HS.rest (wr shaK hs0 (fl Ls t)), n := HS.n (wr shaK hs0 (fl Ls t)) } ([] ++ List.getD Ls (Int.toNat (↑t : Int)) [])) = HS.h (wr shaK hs0 (fl Ls (Prod.fst t_1 + (1 : Nat)))) ∧ HS.rest (wr shaK { h := HS.h (wr shaK hs0 (fl Ls t)), rest := HS.rest (wr shaK hs0 (fl Ls t)), n := HS.n (wr shaK hs0 (fl Ls t)) } ([] ++ List.getD Ls (Int.toNat (↑t : Int)) [])) = HS.rest (wr shaK hs0 (fl Ls (Prod.fst t_1 + (1 : Nat)))) ∧ HS.n (wr shaK { h := HS.h (wr shaK hs0 (fl Ls t)), rest := HS.rest (wr shaK hs0 (fl Ls t)), n := HS.n (wr shaK hs0 (fl Ls t)) } ([] ++ List.getD Ls (Int.toNat (↑t : Int)) [])) = HS.n (wr shaK hs0 (fl Ls (Prod.fst t_1 + (1 : Nat)))) ∧ fl Ls t = fl Ls (Prod.fst t_1) ∧ [] ++ List.getD Ls (Int.toNat (↑t : Int)) [] = sp7 (List.getD Ls (Prod.fst t_1) []) (Prod.snd t_1) ∧ (Prod.fst t_1 < List.length Ls ∧ Prod.snd t_1 ≤ List.length (List.getD Ls (Prod.fst t_1) []) ∧ List.length Ls - Prod.fst t_1 = List.length Ls - t) ∧ True) ∧ ∀ (t_1 : Nat × Nat), Prod.fst t_1 < List.length Ls ∧ Prod.snd t_1 ≤ List.length (List.getD Ls (Prod.fst t_1) []) ∧ List.length Ls - Prod.fst t_1 = List.length Ls - t → brP (decide ((↑(Prod.snd t_1) : Int) < (↑(Cont.len (Cont.ints IntKind.u8 (sp7 (List.getD Ls (Prod.fst t_1) []) (Prod.snd t_1)))) : Int))) (((0 : Int) ≤ (↑(Prod.snd t_1) : Int) ∧ (↑(Prod.snd t_1) : Int) < (↑(Cont.len (Cont.ints IntKind.u8 (sp7 (List.getD Ls (Prod.fst t_1) []) (Prod.snd t_1)))) : Int)) ∧ ∃ (t' : Nat × Nat), Ls = Ls ∧ (↑(Prod.fst t_1) : Int) = (↑(Prod.fst t') : Int) ∧ IntKind.wrap IntKind.i64 ((↑(Prod.snd t_1) : Int) + (1 : Int)) = (↑(Prod.snd t') : Int) ∧ HS.h (wr shaK hs0 (fl Ls (Prod.fst t_1 + (1 : Nat)))) = HS.h (wr shaK hs0 (fl Ls (Prod.fst t' + (1 : Nat)))) ∧ HS.rest (wr shaK hs0 (fl Ls (Prod.fst t_1 + (1 : Nat)))) = HS.rest (wr shaK hs0 (fl Ls (Prod.fst t' + (1 : Nat)))) ∧ HS.n (wr shaK hs0 (fl Ls (Prod.fst t_1 + (1 : Nat)))) = HS.n (wr shaK hs0 (fl Ls (Prod.fst t' + (1 : Nat)))) ∧ fl Ls (Prod.fst t_1) = fl Ls (Prod.fst t') ∧ List.set (sp7 (List.getD Ls (Prod.fst t_1) []) (Prod.snd t_1)) (Int.toNat (↑(Prod.snd t_1) : Int)) (7 : Int) = sp7 (List.getD Ls (Prod.fst t') []) (Prod.snd t') ∧ (Prod.fst t' < List.length Ls ∧ Prod.snd t' ≤ List.length (List.getD Ls (Prod.fst t') []) ∧ List.length Ls - Prod.fst t' = List.length Ls - t) ∧ List.length (List.getD Ls (Prod.fst t') []) - Prod.snd t' < List.length (List.getD Ls (Prod.fst t_1) []) - Prod.snd t_1 ∧ True) (((0 : Int) ≤ (↑(Prod.fst t_1) : Int) ∧ (↑(Prod.fst t_1) : Int) < (↑(List.length Ls) : Int)) ∧ Cont.len (Cont.ints IntKind.u8 (fl Ls (Prod.fst t_1))) + Cont.len (Cont.ints IntKind.u8 (List.getD Ls (Int.toNat (↑(Prod.fst t_1) : Int)) [])) ≤ lim ∧ HS.ok { h := HS.h (wr shaK hs0 (fl Ls (Prod.fst t_1 + (1 : Nat)))), rest := HS.rest (wr shaK hs0 (fl Ls (Prod.fst t_1 + (1 : Nat)))), n := HS.n (wr shaK hs0 (fl Ls (Prod.fst t_1 + (1 : Nat)))) } ∧ OkB (fl Ls (Prod.fst t_1) ++ List.getD Ls (Int.toNat (↑(Prod.fst t_1) : Int)) []) ∧ brP (!sumH shaK { h := HS.h (wr shaK hs0 (fl Ls (Prod.fst t_1 + (1 : Nat)))), rest := HS.rest (wr shaK hs0 (fl Ls (Prod.fst t_1 + (1 : Nat)))), n := HS.n (wr shaK hs0 (fl Ls (Prod.fst t_1 + (1 : Nat)))) } == sumB shaK (fl Ls (Prod.fst t_1) ++ List.getD Ls (Int.toNat (↑(Prod.fst t_1) : Int)) [])) (false = true ∧ True) (∃ (t' : Nat), Ls = Ls ∧ IntKind.wrap IntKind.i64 ((↑(Prod.fst t_1) : Int) + (1 : Int)) = (↑t' : Int) ∧ HS.h (wr shaK hs0 (fl Ls (Prod.fst t_1 + (1 : Nat)))) = HS.h (wr shaK hs0 (fl Ls t')) ∧ HS.rest (wr shaK hs0 (fl Ls (Prod.fst t_1 + (1 : Nat)))) = HS.rest (wr shaK hs0 (fl Ls t')) ∧ HS.n (wr shaK hs0 (fl Ls (Prod.fst t_1 + (1 : Nat)))) = HS.n (wr shaK hs0 (fl Ls t')) ∧ fl Ls (Prod.fst t_1) ++ List.getD Ls (Int.toNat (↑(Prod.fst t_1) : Int)) [] = fl Ls t' ∧ t' ≤ List.length Ls ∧ List.length Ls - t' < List.length Ls - t ∧ True))) (HS.ok { h := HS.h (wr shaK hs0 (fl Ls t)), rest := HS.rest (wr shaK hs0 (fl Ls t)), n := HS.n (wr shaK hs0 (fl Ls t)) } ∧ OkB (fl Ls t) ∧ List.length (fl Ls t) + (100 : Nat) ≤ lim ∧ (sumH shaK { h := HS.h (wr shaK hs0 (fl Ls t)), rest := HS.rest (wr shaK hs0 (fl Ls t)), n := HS.n (wr shaK hs0 (fl Ls t)) } == sumB shaK (fl Ls t)) = true ∧ True)) (by kernel_rfl) (by
    obtain ⟨hb, hl, hn, _⟩ := hp
    have hlim : lim = 68719476736 := rfl
    refine ⟨⟨0, rfl, rfl, rfl, rfl, rfl, rfl, by omega, trivial⟩, fun t ht => brI (fun hc => ?_) (fun hc => ?_)⟩
    · have hc : t < Ls.length := by have := of_decide_eq_true hc; omega
      have hm : Ls.getD t [] ∈ Ls := by rw [List.getD_eq_getElem?_getD, List.getElem?_eq_getElem hc]; exact List.getElem_mem hc
      have hw := wr_ok (K := shaK) hs0_ok (fl_ok hb t)
      have e := fl_succ hc
      have hlen := fl_len Ls (t + 1)
      rw [e, List.length_append] at hlen
      have ea : wr shaK hs0 (fl Ls (t + 1)) = wr shaK (wr shaK hs0 (fl Ls t)) ([] ++ Ls.getD t []) := by rw [e, wr_app]; rfl
      rw [Int.toNat_natCast]
      refine ⟨by omega, (show 0 + (Ls.getD t []).length ≤ lim by omega), hw, hb _ hm, ⟨(t, 0), rfl, rfl, rfl, ?_, ?_, ?_, rfl, rfl, ⟨hc, Nat.zero_le _, rfl⟩, trivial⟩, fun u hu => ?_⟩
      · exact congrArg HS.h ea.symm
      · exact congrArg HS.rest ea.symm
      · exact congrArg HS.n ea.symm
      · obtain ⟨i, j⟩ := u
        obtain ⟨h1, h2, h3⟩ := hu
        dsimp only at h1 h2 h3 ⊢
        obtain rfl : i = t := by omega
        have es : Cont.len (Cont.ints IntKind.u8 (sp7 (Ls.getD i []) j)) = (Ls.getD i []).length := sp7_len h2
        rw [Int.toNat_natCast]
        refine brI (fun hd => ?_) (fun hd => ?_)
        · have hd : j < (Ls.getD i []).length := by have := of_decide_eq_true hd; omega
          refine ⟨by omega, (i, j + 1), rfl, rfl, by rw [wi _ (by omega) (by omega)]; rfl, rfl, rfl, rfl, rfl, sp7_succ hd, ⟨h1, hd, h3⟩, by dsimp only; omega, trivial⟩
        · have hw1 := wr_ok (K := shaK) hs0_ok (fl_ok hb (i + 1))
          have ho := fl_ok hb (i + 1)
          rw [e] at ho
          rw [Int.toNat_natCast]
          have eq : sumH shaK (wr shaK hs0 (fl Ls (i + 1))) = sumB shaK (fl Ls (i + 1)) := rfl
          rw [← e, eq, beq_self_eq_true]
          refine ⟨by omega, (show (fl Ls i).length + (Ls.getD i []).length ≤ lim by omega), hw1, fl_ok hb _, brI (fun hx => by cases hx) (fun _ => ?_)⟩
          exact ⟨i + 1, rfl, by rw [wi _ (by omega) (by omega)]; rfl, rfl, rfl, rfl, rfl, by omega, by omega, trivial⟩
    · have hf := fl_len Ls t
      refine ⟨wr_ok hs0_ok (fl_ok hb t), fl_ok hb t, by omega, ?_, trivial⟩
      have : sumH shaK (wr shaK hs0 (fl Ls t)) = sumB shaK (fl Ls t) := rfl
      rw [this, beq_self_eq_true]))
noncomputable def g5 : Con := fun args H => match args, H with
  | [.a (.d (.sb Ls))], [] => some ⟨[∀ L ∈ Ls, OkB L, Ls.flatten.length + 100 ≤ lim, Ls.length ≤ lim], eB true, []⟩
  | _, _ => none
theorem v5 : Valid Tryd.prog Gs 5 g5 := by
  intro args H r h hp
  unfold g5 at h
  split at h
  · simp only [Option.some.injEq] at h; subst h; exact ok5 _ hp
  · cases h
noncomputable def ct_5 : List (Nat × Ct) := (5, ⟨[], false, g5⟩) :: ct_13
theorem ctok_5 : CtsOk Tryd.prog Gs ct_5 := CtsOk.cons v5 (by kernel_rfl) ctok_13
noncomputable def an6 (A B : List (List Int)) (L : List Int) : Nat → List Nat → Option Ann := fun _ _ => none
theorem ok6 (A B : List (List Int)) (L : List Int) (hp : allP [∀ L ∈ A, OkB L, ∀ L ∈ B, OkB L, OkB L, (joinB A).length + 100 ≤ lim, (joinB B).length + 100 ≤ lim, L.length + 100 ≤ lim]) : CallsOk Tryd.prog Gs 6 [.a (.d (.sb A)), .a (.d (.sb B)), .a (.d (.si .u8 L))] [] (eB true) [] :=
  ok_of (ann := an6 A B L) ctok_5 mixed Tryd.func6 (by kernel_rfl) (of_nf (p := List.length (joinB A) + (100 : Nat) ≤ lim ∧ List.length (joinB B) + (100 : Nat) ≤ lim ∧ OkB (joinB A) ∧ List.length (joinB A) ≤ lim ∧ brP (!Option.isSome (splitB (joinB A))) (false = true ∧ True) ((∀ (L : List Int), L ∈ Option.getD (splitB (joinB A)) [] → OkB L) ∧ (∀ (L : List Int), L ∈ A → OkB L) ∧ List.length (Option.getD (splitB (joinB A)) []) ≤ lim ∧ List.length A ≤ lim ∧ brP (!sameB (Option.getD (splitB (joinB A)) []) A) (false = true ∧ True) ((∀ (L : List Int), L ∈ A → OkB L) ∧ (∀ (L : List Int), L ∈ B → OkB L) ∧ List.length A ≤ lim ∧ List.length B ≤ lim ∧ brP (!(ByteArray.toList (strOfNums (joinB A)) == ByteArray.toList (strOfNums (joinB B))) == sameB A B) (false = true ∧ True) (OkB L ∧ List.length L ≤ lim ∧ brP (!Option.isSome (splitB L)) (((↑(Cont.len (Cont.bts (Option.getD (splitB L) []))) : Int) == (0 : Int)) = true ∧ True) (List.length (joinB (Option.getD (splitB L) [])) + (100 : Nat) ≤ lim ∧ (ByteArray.toList (strOfNums (joinB (Option.getD (splitB L) []))) == ByteArray.toList (strOfNums L)) = true ∧ True))))) (by kernel_rfl) (by
    obtain ⟨hA, hB, hL, la, lb, ll, _⟩ := hp
    have hlim : lim = 68719476736 := rfl
    have gA := jn_ge A
    have gB := jn_ge B
    have jA := joinB_len A
    have jB := joinB_len B
    have same : ∀ X : List (List Int), sameB X X = true := fun X => by simp [sameB]
    refine ⟨la, lb, joinB_okB hA, by omega, ?_⟩
    rw [split_join (Ls := A) (by omega)]
    refine brI (fun h => by cases h) (fun _ => ⟨hA, hA, (show A.length ≤ lim by omega), by omega, brI (fun h => ?_) (fun _ => ⟨hA, hB, by omega, by omega, brI (fun h => ?_) (fun _ => ⟨hL, by omega, ?_⟩)⟩)⟩)
    · rw [show sameB (Option.getD (some A) []) A = true from same A] at h; cases h
    · rw [strOf_eq (joinB_okB hA) (joinB_okB hB), join_inj (by omega) (by omega), beq_self_eq_true] at h; cases h
    · cases hs : splitB L with
      | none => exact brI (fun _ => ⟨rfl, trivial⟩) (fun h => by cases h)
      | some Ds =>
        have e := join_split hL hs
        have e' : joinB (Option.getD (some Ds) []) = L := e
        refine brI (fun h => by cases h) (fun _ => ?_)
        rw [e', beq_self_eq_true]
        exact ⟨ll, rfl, trivial⟩))
noncomputable def g6 : Con := fun args H => match args, H with
  | [.a (.d (.sb A)), .a (.d (.sb B)), .a (.d (.si .u8 L))], [] => some ⟨[∀ L ∈ A, OkB L, ∀ L ∈ B, OkB L, OkB L, (joinB A).length + 100 ≤ lim, (joinB B).length + 100 ≤ lim, L.length + 100 ≤ lim], eB true, []⟩
  | _, _ => none
theorem v6 : Valid Tryd.prog Gs 6 g6 := by
  intro args H r h hp
  unfold g6 at h
  split at h
  · simp only [Option.some.injEq] at h; subst h; exact ok6 _ _ _ hp
  · cases h
noncomputable def ct_6 : List (Nat × Ct) := (6, ⟨[], false, g6⟩) :: ct_5
theorem ctok_6 : CtsOk Tryd.prog Gs ct_6 := CtsOk.cons v6 (by kernel_rfl) ctok_5
end Go.Proofs.YtjcghjgennddaaaDoor
