/- Merkle: what the laws begin with, and the laws. -/
import Derived.Test.YtamlmlihfpkjaaaDoorYaT
namespace Go.Proofs.YtamlmlihfpkjaaaDoor
open Go.Dx Go.RowKit
set_option linter.unusedVariables false
set_option linter.unusedSimpArgs false
set_option maxRecDepth 100000
attribute [local irreducible] wpS
attribute [local irreducible] sumB joinB
theorem joinB_inj' {A B : List (List Int)} (ha : (joinB A).length ≤ 140737488355328) (h : joinB A = joinB B) : A = B := by
  have h1 := split_join ha
  have h2 := split_join (Ls := B) (by rw [← h]; exact ha)
  rw [h, h2] at h1
  exact (Option.some.inj h1).symm
theorem nodeB_inj {a b c d : List Int} (ha : a.length = 32) (hb : b.length = 32) (h : nodeB a b = nodeB c d) : a = c ∧ b = d := by
  have := joinB_inj' (by have := nodeB_len ha hb; unfold nodeB at this; omega) h
  simp only [List.cons.injEq, and_true, true_and] at this
  exact this
theorem leafB_inj {a b : List Int} (ha : a.length ≤ 1099511627776) (h : leafB a = leafB b) : a = b := by
  have := joinB_inj' (by have := leafB_len a; unfold leafB at this; omega) h
  simp only [List.cons.injEq, and_true, true_and] at this
  exact this
theorem listB_inj {m n : Int} {a b : List Int} (ha : a.length = 32) (h : listB m a = listB n b) : be8 m = be8 n ∧ a = b := by
  have := joinB_inj' (by have := listB_len (n := m) ha; unfold listB at this; omega) h
  simp only [List.cons.injEq, and_true, true_and] at this
  exact this
theorem be8_inj {m n : Nat} (hm : m < 1099511627776) (hn : n < 1099511627776) (h : be8 (m : Int) = be8 (n : Int)) : m = n := by
  have e1 := be8v_be8 (n := m) (by omega) []
  have e2 := be8v_be8 (n := n) (by omega) []
  rw [h] at e1; omega
theorem mt_one (x : List Int) : mt [x] = leafB x := rfl
/-- What a list proves of itself ends with its text. -/
theorem tk_top : ∀ (f : Nat) (l : List (List Int)) (i : Nat), l.length ≤ f → i < l.length → tk l.length i (l.getD i []) (pv l i) (pv l i).length = mt l
  | 0, l, i, h, hi => by omega
  | f + 1, l, i, h, hi => by
    by_cases hn : l.length = 1
    · match l, hn with
      | [x], _ =>
        have : i = 0 := by simpa using hi
        subst this
        rw [pv_one (Nat.le_refl _), List.length_nil, tk_zero, mt_one]; rfl
    · have h2 : 2 ≤ l.length := by omega
      have hs := halfN_spec h2
      obtain ⟨l1, l2⟩ := half_len h2
      have cut : ∀ (b : Bool) (S : List Bool) (R : List (List Int)) (d t0 : List Int), R.length = S.length → txk (b :: S).reverse (R ++ [d]) t0 (R.length + 1) = if b then nodeB (sumB shaK (txk S.reverse R t0 R.length)) d else nodeB d (sumB shaK (txk S.reverse R t0 R.length)) := fun b S R d t0 hS => by
        have e1 : ((b :: S).reverse).getD R.length false = b := by
          rw [List.reverse_cons, List.getD_eq_getElem?_getD, List.getElem?_append_right (by simp; omega)]
          simp [hS]
        have e2 : (R ++ [d]).getD R.length [] = d := by
          rw [List.getD_eq_getElem?_getD, List.getElem?_append_right (Nat.le_refl _)]
          simp
        have e3 : txk (b :: S).reverse (R ++ [d]) t0 R.length = txk S.reverse R t0 R.length := txk_pre fun j hj => by
          simp only [List.reverse_cons, List.getD_eq_getElem?_getD]
          rw [List.getElem?_append_left (by simp; omega), List.getElem?_append_left (by omega)]
          exact ⟨rfl, rfl⟩
        simp only [txk]
        rw [e1, e2, e3]
      have hp := pv_two h2 i
      have hd := sd_two h2 i
      rw [mt_two h2]
      by_cases hk : i < halfN l.length
      · rw [if_pos hk] at hp hd
        have ih := tk_top f (l.take (halfN l.length)) i (by omega) (by omega)
        have el : (l.take (halfN l.length)).getD i [] = l.getD i [] := by
          rw [List.getD_eq_getElem?_getD, List.getD_eq_getElem?_getD, List.getElem?_take, if_pos hk]
        have lS := pv_len _ (l.take (halfN l.length)) i (Nat.le_refl _)
        unfold tk at ih ⊢
        rw [l1, el] at ih
        rw [l1] at lS
        rw [hp, hd, List.length_append, List.length_singleton, cut true _ _ _ _ lS, ih]
        rfl
      · rw [if_neg hk] at hp hd
        have ih := tk_top f (l.drop (halfN l.length)) (i - halfN l.length) (by omega) (by omega)
        have el : (l.drop (halfN l.length)).getD (i - halfN l.length) [] = l.getD i [] := by
          rw [List.getD_eq_getElem?_getD, List.getD_eq_getElem?_getD, List.getElem?_drop, show halfN l.length + (i - halfN l.length) = i by omega]
        have lS := pv_len _ (l.drop (halfN l.length)) (i - halfN l.length) (Nat.le_refl _)
        unfold tk at ih ⊢
        rw [l2, el] at ih
        rw [l2] at lS
        rw [hp, hd, List.length_append, List.length_singleton, cut false _ _ _ _ lS, ih]
        rfl
def rootB (l : List (List Int)) : List Int := sumB shaK (listB l.length (sumB shaK (mt l)))
theorem own_ok {l : List (List Int)} {i : Int} (h0 : 0 ≤ i) (h1 : i < l.length) : txOk l.length i (pvo l i) = true := by
  refine decide_eq_true ⟨h0, h1, ?_⟩
  rw [Int.toNat_natCast]
  unfold pvo; rw [if_pos ⟨h0, h1⟩]; exact (pv_len _ _ _ (Nat.le_refl _)).symm
theorem pvo_in {l : List (List Int)} {i : Int} (h0 : 0 ≤ i) (h1 : i < l.length) : pvo l i = pv l i.toNat := by unfold pvo; rw [if_pos ⟨h0, h1⟩]
/-- What is proved is taken. -/
theorem ver_own {l : List (List Int)} {i : Int} (h0 : 0 ≤ i) (h1 : i < l.length) : verB (rootB l) l.length i (l.getD i.toNat []) (pvo l i) = true := by
  have e := tk_top l.length l i.toNat (Nat.le_refl _) (by omega)
  unfold verB
  rw [own_ok h0 h1, Int.toNat_natCast, pvo_in h0 h1, e, Bool.true_and]
  exact beq_self_eq_true _
theorem fdD_some {p : Nat → Bool} : ∀ {n k : Nat}, fdD p n = some k → k < n ∧ p k = true
  | n + 1, k, h => by
    simp only [fdD] at h
    split at h
    · simp only [Option.some.injEq] at h; subst h; exact ⟨by omega, by assumption⟩
    · have := fdD_some h; exact ⟨by omega, this.2⟩
theorem fdD_none {p : Nat → Bool} : ∀ {n : Nat}, fdD p n = none → ∀ k, k < n → p k = false
  | n + 1, h, k, hk => by
    simp only [fdD] at h
    split at h
    · cases h
    · rename_i hp
      by_cases e : k = n
      · subst e; simpa using hp
      · exact fdD_none h k (by omega)
theorem txs_at {n i : Int} {el : List Int} {P : List (List Int)} (h : txOk n i P = true) {k : Nat} (hk : k ≤ P.length) : (txs n i el P).getD k [] = tk n.toNat i.toNat el P k := by
  unfold txs
  rw [if_pos h, List.getD_eq_getElem?_getD, List.getElem?_append_left (by simp; omega), List.getElem?_map, List.getElem?_range (by omega)]
  rfl
theorem txs_top {n i : Int} {el : List Int} {P : List (List Int)} (h : txOk n i P = true) : (txs n i el P).getD (P.length + 1) [] = listB n (sumB shaK (tk n.toNat i.toNat el P P.length)) := by
  unfold txs
  rw [if_pos h, List.getD_eq_getElem?_getD, List.getElem?_append_right (by simp)]
  simp
/-- What is taken stands there, or two texts of one digest are told. -/
theorem sound {l : List (List Int)} {i : Int} {el : List Int} {P : List (List Int)} (hl : ∀ L ∈ l, L.length ≤ 1099511627776) (hP : OkD P) (hv : verB (rootB l) l.length i el P = true) (hne : l.getD i.toNat [] ≠ el) : (clB l i el P).isSome = true := by
  unfold verB at hv
  rw [Bool.and_eq_true] at hv
  obtain ⟨ok, hr⟩ := hv
  have hr := beq_iff_eq.1 hr
  have h1 := of_decide_eq_true ok
  obtain ⟨ok', hlen⟩ := own_txOk (Ls := l) ok
  cases hc : clB l i el P with
  | some k => rfl
  | none =>
    exfalso
    unfold clB at hc
    rw [if_pos ok] at hc
    have hno := fdD_none hc
    have cl : ∀ k, k < P.length + 2 → sumB shaK ((txs l.length i (l.getD i.toNat []) (pvo l i)).getD k []) = sumB shaK ((txs l.length i el P).getD k []) → (txs l.length i (l.getD i.toNat []) (pvo l i)).getD k [] = (txs l.length i el P).getD k [] := fun k hk he => by
      have := hno k hk
      unfold clP at this
      rw [he, beq_self_eq_true, Bool.and_true] at this
      simpa using this
    have eA : (txs l.length i (l.getD i.toNat []) (pvo l i)).getD (P.length + 1) [] = listB l.length (sumB shaK (mt l)) := by
      have e := tk_top l.length l i.toNat (Nat.le_refl _) (by omega)
      rw [← hlen, txs_top ok', pvo_in h1.1 h1.2.1, Int.toNat_natCast, e]
    have top := cl (P.length + 1) (by omega) (by rw [eA, txs_top ok, hr]; rfl)
    rw [txs_top ok] at top
    have top' : listB (l.length : Int) (sumB shaK (tk (l.length : Int).toNat i.toNat (l.getD i.toNat []) (pvo l i) (pvo l i).length)) = listB (l.length : Int) (sumB shaK (tk (l.length : Int).toNat i.toNat el P P.length)) := by
      rw [← txs_top ok', hlen]; exact top
    have t0 := (listB_inj (sumB_len _ _) top').2
    have down : ∀ d k, k + d = P.length → tk (l.length : Int).toNat i.toNat (l.getD i.toNat []) (pvo l i) k = tk (l.length : Int).toNat i.toNat el P k := fun d => by
      induction d with
      | zero =>
        intro k hk
        have := cl k (by omega)
        rw [txs_at ok (by omega), txs_at ok' (by omega)] at this
        refine this ?_
        rw [show k = P.length by omega]
        rw [hlen] at t0
        exact t0
      | succ d ih =>
        intro k hk
        have hx := ih (k + 1) (by omega)
        have := cl k (by omega)
        rw [txs_at ok (by omega), txs_at ok' (by omega)] at this
        refine this ?_
        obtain ⟨g1, g2⟩ := hP.get (k := k) (by omega)
        obtain ⟨g3, g4⟩ := (pvo_okD l i).get (k := k) (by omega)
        unfold tk at hx ⊢
        simp only [txk] at hx
        split at hx
        · exact (nodeB_inj (sumB_len _ _) g3 hx).1
        · exact (nodeB_inj g3 (sumB_len _ _) hx).2
    have z := down P.length 0 (by omega)
    rw [tk_zero, tk_zero] at z
    exact hne (leafB_inj (hl _ (getD_mem (by omega))) z)
theorem cl_own {l : List (List Int)} {i : Int} : clB l i (l.getD i.toNat []) (pvo l i) = none := by
  cases hc : clB l i (l.getD i.toNat []) (pvo l i) with
  | none => rfl
  | some k =>
    unfold clB at hc
    split at hc
    · have := (fdD_some hc).2
      unfold clP at this
      simp at this
    · cases hc
theorem cl_out {l : List (List Int)} {i : Int} {el : List Int} {P : List (List Int)} (h : ¬ (0 ≤ i ∧ i < l.length)) : clB l i el P = none := by
  have : txOk l.length i P = false := decide_eq_false fun hh => h ⟨hh.1, hh.2.1⟩
  unfold clB; rw [this]; rfl
theorem cl_some {l : List (List Int)} {i : Int} {el : List Int} {P : List (List Int)} (h : (clB l i el P).isSome = true) : oget (txs l.length i (l.getD i.toNat []) (pvo l i)) (clB l i el P) ≠ oget (txs l.length i el P) (clB l i el P) ∧ sumB shaK (oget (txs l.length i (l.getD i.toNat []) (pvo l i)) (clB l i el P)) = sumB shaK (oget (txs l.length i el P) (clB l i el P)) := by
  cases hc : clB l i el P with
  | none => rw [hc] at h; cases h
  | some k =>
    unfold clB at hc
    split at hc
    · have := (fdD_some hc).2
      unfold clP at this
      rw [Bool.and_eq_true] at this
      rw [oget_some, oget_some]
      exact ⟨by simpa using this.1, beq_iff_eq.1 this.2⟩
    · cases hc
theorem getD_okB {l : List (List Int)} (h : ∀ L ∈ l, OkB L) (k : Nat) : OkB (l.getD k []) ∧ (l.getD k []).length ≤ l.flatten.length := by
  by_cases hk : k < l.length
  · exact ⟨h _ (getD_mem hk), flat_mem (getD_mem hk)⟩
  · rw [List.getD_eq_getElem?_getD, List.getElem?_eq_none (by omega)]
    exact ⟨(fun x hx => by cases hx), Nat.zero_le _⟩
theorem oget_ok {L : List (List Int)} (h : ∀ t ∈ L, OkB t ∧ t.length + 100 ≤ lim) (o : Option Nat) : OkB (oget L o) ∧ (oget L o).length + 100 ≤ lim := by
  have hlim : lim = 68719476736 := rfl
  have h0 : OkB ([] : List Int) ∧ ([] : List Int).length + 100 ≤ lim := ⟨(fun x hx => by cases hx), by simp; omega⟩
  cases o with
  | none => exact h0
  | some k =>
    rw [oget_some]
    by_cases hk : k < L.length
    · exact h _ (getD_mem hk)
    · rw [List.getD_eq_getElem?_getD, List.getElem?_eq_none (by omega)]; exact h0
noncomputable def anL03awake  : Nat → List Nat → Option Ann := fun _ _ => none
theorem okL03awake  : CallsOk Tryd.prog Gs 9 [] [] (eB true) [] :=
  ok_of (ann := anL03awake ) ctok_R03Verify mixed Tryd.func9 (by kernel_rfl) (of_nf (p := (0 : Nat) < List.length (List.set (List.set (List.set (List.set (List.replicate ((3 : Nat) + (1 : Nat)) (0 : Int)) ((0 : Nat) * (1 : Nat)) (110 : Int)) ((1 : Nat) * (1 : Nat)) (111 : Int)) ((2 : Nat) * (1 : Nat)) (110 : Int)) ((3 : Nat) * (1 : Nat)) (101 : Int)) ∧ (∀ (L : List Int), L ∈ [List.set (List.set (List.set (List.set (List.replicate ((3 : Nat) + (1 : Nat)) (0 : Int)) ((0 : Nat) * (1 : Nat)) (110 : Int)) ((1 : Nat) * (1 : Nat)) (111 : Int)) ((2 : Nat) * (1 : Nat)) (110 : Int)) ((3 : Nat) * (1 : Nat)) (101 : Int)] → OkB L) ∧ List.length (joinB [List.set (List.set (List.set (List.set (List.replicate ((3 : Nat) + (1 : Nat)) (0 : Int)) ((0 : Nat) * (1 : Nat)) (110 : Int)) ((1 : Nat) * (1 : Nat)) (111 : Int)) ((2 : Nat) * (1 : Nat)) (110 : Int)) ((3 : Nat) * (1 : Nat)) (101 : Int)]) + (100 : Nat) ≤ lim ∧ (0 : Nat) < List.length [(97 : Int)] ∧ (0 : Nat) < List.length [(98 : Int)] ∧ (0 : Nat) < List.length [(99 : Int)] ∧ (∀ (L : List Int), L ∈ [[(97 : Int)], [(98 : Int)], [(99 : Int)]] → OkB L) ∧ List.length (List.flatten [[(97 : Int)], [(98 : Int)], [(99 : Int)]]) + (300 : Nat) ≤ lim ∧ List.length [[(97 : Int)], [(98 : Int)], [(99 : Int)]] < (1099511627776 : Nat) ∧ (∀ (L : List Int), L ∈ [[(97 : Int)], [(98 : Int)], [(99 : Int)]] → OkB L) ∧ List.length (List.flatten [[(97 : Int)], [(98 : Int)], [(99 : Int)]]) + (300 : Nat) ≤ lim ∧ List.length [[(97 : Int)], [(98 : Int)], [(99 : Int)]] < (1099511627776 : Nat) ∧ (∀ (L : List Int), L ∈ [] → OkB L) ∧ List.length (List.flatten ([] : List (List Int))) + (300 : Nat) ≤ lim ∧ List.length ([] : List (List Int)) < (1099511627776 : Nat) ∧ (0 : Nat) < List.length (List.set (List.set (List.set (List.set (List.replicate ((3 : Nat) + (1 : Nat)) (0 : Int)) ((0 : Nat) * (1 : Nat)) (108 : Int)) ((1 : Nat) * (1 : Nat)) (105 : Int)) ((2 : Nat) * (1 : Nat)) (115 : Int)) ((3 : Nat) * (1 : Nat)) (116 : Int)) ∧ ((0 : Int) ≤ (8 : Int) ∧ (8 : Int) ≤ (8 : Int) ∧ (8 : Int) ≤ (↑lim : Int)) ∧ (∀ (L : List Int), L ∈ [List.set (List.set (List.set (List.set (List.replicate ((3 : Nat) + (1 : Nat)) (0 : Int)) ((0 : Nat) * (1 : Nat)) (108 : Int)) ((1 : Nat) * (1 : Nat)) (105 : Int)) ((2 : Nat) * (1 : Nat)) (115 : Int)) ((3 : Nat) * (1 : Nat)) (116 : Int), List.replicate (Int.toNat (8 : Int)) (0 : Int), List.take (lenN (32 : Nat) none none) (List.drop (startN (0 : Nat) none) (sumB shaK (joinB [List.set (List.set (List.set (List.set (List.replicate ((3 : Nat) + (1 : Nat)) (0 : Int)) ((0 : Nat) * (1 : Nat)) (110 : Int)) ((1 : Nat) * (1 : Nat)) (111 : Int)) ((2 : Nat) * (1 : Nat)) (110 : Int)) ((3 : Nat) * (1 : Nat)) (101 : Int)])))] → OkB L) ∧ List.length (joinB [List.set (List.set (List.set (List.set (List.replicate ((3 : Nat) + (1 : Nat)) (0 : Int)) ((0 : Nat) * (1 : Nat)) (108 : Int)) ((1 : Nat) * (1 : Nat)) (105 : Int)) ((2 : Nat) * (1 : Nat)) (115 : Int)) ((3 : Nat) * (1 : Nat)) (116 : Int), List.replicate (Int.toNat (8 : Int)) (0 : Int), List.take (lenN (32 : Nat) none none) (List.drop (startN (0 : Nat) none) (sumB shaK (joinB [List.set (List.set (List.set (List.set (List.replicate ((3 : Nat) + (1 : Nat)) (0 : Int)) ((0 : Nat) * (1 : Nat)) (110 : Int)) ((1 : Nat) * (1 : Nat)) (111 : Int)) ((2 : Nat) * (1 : Nat)) (110 : Int)) ((3 : Nat) * (1 : Nat)) (101 : Int)])))]) + (100 : Nat) ≤ lim ∧ (∀ (L : List Int), L ∈ [[(97 : Int)], [(98 : Int)], [(99 : Int)]] → OkB L) ∧ List.length (List.flatten [[(97 : Int)], [(98 : Int)], [(99 : Int)]]) + (300 : Nat) ≤ lim ∧ List.length [[(97 : Int)], [(98 : Int)], [(99 : Int)]] < (1099511627776 : Nat) ∧ ((0 : Int) ≤ (2 : Int) ∧ (2 : Int) < (↑(List.length [[(97 : Int)], [(98 : Int)], [(99 : Int)]]) : Int)) ∧ sumB shaK (listB (↑(List.length [[(97 : Int)], [(98 : Int)], [(99 : Int)]]) : Int) (sumB shaK (mt [[(97 : Int)], [(98 : Int)], [(99 : Int)]]))) = sumB shaK (listB (↑(List.length [[(97 : Int)], [(98 : Int)], [(99 : Int)]]) : Int) (sumB shaK (mt [[(97 : Int)], [(98 : Int)], [(99 : Int)]]))) ∧ (3 : Int) = (3 : Int) ∧ (2 : Int) = (2 : Int) ∧ List.getD [[(97 : Int)], [(98 : Int)], [(99 : Int)]] (Int.toNat (2 : Int)) [] = List.getD [[(97 : Int)], [(98 : Int)], [(99 : Int)]] (Int.toNat (2 : Int)) [] ∧ List.length (pvo [[(97 : Int)], [(98 : Int)], [(99 : Int)]] (2 : Int)) = List.length (lL dG (List.length (pvo [[(97 : Int)], [(98 : Int)], [(99 : Int)]] (2 : Int))) (lC dE [] (pvo [[(97 : Int)], [(98 : Int)], [(99 : Int)]] (2 : Int)))) ∧ (∀ (i : Nat), i < List.length (lL dG (List.length (pvo [[(97 : Int)], [(98 : Int)], [(99 : Int)]] (2 : Int))) (lC dE [] (pvo [[(97 : Int)], [(98 : Int)], [(99 : Int)]] (2 : Int)))) → lC dE [] (pvo [[(97 : Int)], [(98 : Int)], [(99 : Int)]] (2 : Int)) i = lC dE [] (lL dG (List.length (pvo [[(97 : Int)], [(98 : Int)], [(99 : Int)]] (2 : Int))) (lC dE [] (pvo [[(97 : Int)], [(98 : Int)], [(99 : Int)]] (2 : Int)))) i) ∧ OkB (List.getD [[(97 : Int)], [(98 : Int)], [(99 : Int)]] (Int.toNat (2 : Int)) []) ∧ List.length (List.getD [[(97 : Int)], [(98 : Int)], [(99 : Int)]] (Int.toNat (2 : Int)) []) + (300 : Nat) ≤ lim ∧ (3 : Int) < (9223372036854775808 : Int) ∧ OkD (lL dG (List.length (pvo [[(97 : Int)], [(98 : Int)], [(99 : Int)]] (2 : Int))) (lC dE [] (pvo [[(97 : Int)], [(98 : Int)], [(99 : Int)]] (2 : Int)))) ∧ verB (sumB shaK (listB (↑(List.length [[(97 : Int)], [(98 : Int)], [(99 : Int)]]) : Int) (sumB shaK (mt [[(97 : Int)], [(98 : Int)], [(99 : Int)]])))) (3 : Int) (2 : Int) (List.getD [[(97 : Int)], [(98 : Int)], [(99 : Int)]] (Int.toNat (2 : Int)) []) (lL dG (List.length (pvo [[(97 : Int)], [(98 : Int)], [(99 : Int)]] (2 : Int))) (lC dE [] (pvo [[(97 : Int)], [(98 : Int)], [(99 : Int)]] (2 : Int)))) = true ∧ True) (by kernel_rfl) (by
    have hlim : lim = 68719476736 := rfl
    have o1 : ∀ L ∈ [[97], [98], [99]], OkB L := fun L hL => by
      simp only [List.mem_cons, List.not_mem_nil, or_false] at hL
      rcases hL with rfl | rfl | rfl <;> exact lit_ok (by decide)
    have o0 : ∀ L ∈ ([] : List (List Int)), OkB L := fun L hL => by cases hL
    have f1 : (List.flatten [[97], [98], [99]] : List Int).length + 300 ≤ lim := by rw [hlim]; decide
    have d := sumB_len shaK noneB
    have e3 : (List.take (lenN 32 none none) (List.drop (startN 0 none) (sumB shaK noneB))) = sumB shaK noneB := all32 d
    have en : joinB [List.set (List.set (List.set (List.set (List.replicate (3 + 1) 0) (0 * 1) 110) (1 * 1) 111) (2 * 1) 110) (3 * 1) 101] = noneB := rfl
    have v := ver_own (l := [[97], [98], [99]]) (i := 2) (by decide) (by decide)
    rw [lL_self dG_dE, en, e3]
    have ok1 : ∀ L ∈ [List.set (List.set (List.set (List.set (List.replicate (3 + 1) (0 : Int)) (0 * 1) 110) (1 * 1) 111) (2 * 1) 110) (3 * 1) 101], OkB L := fun L hL => by
      simp only [List.mem_cons, List.not_mem_nil, or_false] at hL
      rcases hL with rfl; exact lit_ok (by decide)
    have ok2 : ∀ L ∈ [List.set (List.set (List.set (List.set (List.replicate (3 + 1) (0 : Int)) (0 * 1) 108) (1 * 1) 105) (2 * 1) 115) (3 * 1) 116, List.replicate (Int.toNat 8) 0, sumB shaK noneB], OkB L := fun L hL => by
      simp only [List.mem_cons, List.not_mem_nil, or_false] at hL
      rcases hL with rfl | rfl | rfl
      · exact lit_ok (by decide)
      · exact lit_ok (by decide)
      · exact sumB_ok _
    have hn : noneB.length = 20 := by unfold noneB; rw [joinB_bulk]; rfl
    refine ⟨by decide, ok1, by omega, by decide, by decide, by decide, o1, f1, by decide, o1, f1, by decide, o0, by rw [hlim]; decide, by decide, by decide, by rw [hlim]; decide, ok2, ?_, o1, f1, by decide, by decide, rfl, rfl, rfl, rfl, rfl, fun k hk => rfl, lit_ok (by decide), by rw [hlim]; decide, by decide, pvo_okD _ _, v, trivial⟩
    rw [joinB_bulk]
    simp only [List.flatten_cons, List.flatten_nil, List.length_append, List.length_set, List.length_replicate, List.length_cons, List.length_nil, d]
    rw [hlim]; decide))
noncomputable def gL03awake : Con := fun args H => match args, H with
  | [], [] => some ⟨[], eB true, []⟩
  | _, _ => none
theorem vL03awake : Valid Tryd.prog Gs 9 gL03awake := by
  intro args H r h hp
  unfold gL03awake at h
  split at h
  · simp only [Option.some.injEq] at h; subst h; exact okL03awake 
  · cases h
noncomputable def ct_L03awake : List (Nat × Ct) := (9, ⟨[], false, gL03awake⟩) :: ct_R03Verify
theorem ctok_L03awake : CtsOk Tryd.prog Gs ct_L03awake := CtsOk.cons vL03awake (by kernel_rfl) ctok_R03Verify
noncomputable def anL03MerkleRoots (l : List (List Int)) (i : Int) : Nat → List Nat → Option Ann := fun _ _ => none
theorem okL03MerkleRoots (l : List (List Int)) (i : Int) (hp : allP [∀ L ∈ l, OkB L, l.flatten.length + 300 ≤ lim, l.length < 1099511627776]) : CallsOk Tryd.prog Gs 3 [.a (.d (.sb l)), .a (.d (.v (.int .i64 i)))] [] (eB true) [] :=
  ok_of (ann := anL03MerkleRoots l i) ctok_L03awake mixed Tryd.func3 (by kernel_rfl) (of_nf (p := (∀ (L : List Int), L ∈ l → OkB L) ∧ List.length (List.flatten l) + (300 : Nat) ≤ lim ∧ List.length l < (1099511627776 : Nat) ∧ brP (decide (i ≥ (0 : Int))) (brP (!decide ((0 : Int) ≤ i ∧ i < (↑(List.length l) : Int)) == decide (i < (↑(List.length l) : Int))) (false = true ∧ True) ((∀ (L : List Int), L ∈ l → OkB L) ∧ List.length (List.flatten l) + (300 : Nat) ≤ lim ∧ List.length l < (1099511627776 : Nat) ∧ (∀ (L : List Int), L ∈ l → OkB L) ∧ List.length (List.flatten l) + (300 : Nat) ≤ lim ∧ List.length l < (1099511627776 : Nat) ∧ brP (!sumB shaK (listB (↑(List.length l) : Int) (sumB shaK (mt l))) == sumB shaK (listB (↑(List.length l) : Int) (sumB shaK (mt l)))) (false = true ∧ True) (brP (!decide ((0 : Int) ≤ i ∧ i < (↑(List.length l) : Int))) (brP ((↑(Cont.len (Cont.st (32 : Nat) (List.length (pvo l i)) (lC dE [] (pvo l i)))) : Int) == (0 : Int)) (true = true ∧ True) (brP (decide ((0 : Int) ≤ i ∧ i < (↑(List.length l) : Int))) ((∀ (L : List Int), L ∈ l → OkB L) ∧ List.length (List.flatten l) + (300 : Nat) ≤ lim ∧ List.length l < (1099511627776 : Nat) ∧ (0 : Int) ≤ i ∧ i < (↑(List.length l) : Int) ∧ List.length (pvo l i) = List.length (lL dG (List.length (pvo l i)) (lC dE [] (pvo l i))) ∧ (∀ (i_1 : Nat), i_1 < List.length (lL dG (List.length (pvo l i)) (lC dE [] (pvo l i))) → lC dE [] (pvo l i) i_1 = lC dE [] (lL dG (List.length (pvo l i)) (lC dE [] (pvo l i))) i_1) ∧ List.length (pv l (Int.toNat i)) = List.length (lL dG (List.length (pv l (Int.toNat i))) (lC dE [] (pv l (Int.toNat i)))) ∧ (∀ (i_1 : Nat), i_1 < List.length (lL dG (List.length (pv l (Int.toNat i))) (lC dE [] (pv l (Int.toNat i)))) → lC dE [] (pv l (Int.toNat i)) i_1 = lC dE [] (lL dG (List.length (pv l (Int.toNat i))) (lC dE [] (pv l (Int.toNat i)))) i_1) ∧ OkD (lL dG (List.length (pvo l i)) (lC dE [] (pvo l i))) ∧ OkD (lL dG (List.length (pv l (Int.toNat i))) (lC dE [] (pv l (Int.toNat i)))) ∧ List.length (lL dG (List.length (pvo l i)) (lC dE [] (pvo l i))) < (1099511627776 : Nat) ∧ decide (lL dG (List.length (pvo l i)) (lC dE [] (pvo l i)) = lL dG (List.length (pv l (Int.toNat i))) (lC dE [] (pv l (Int.toNat i)))) = true ∧ True) (false = true ∧ True))) (brP (decide ((0 : Int) ≤ i ∧ i < (↑(List.length l) : Int))) ((∀ (L : List Int), L ∈ l → OkB L) ∧ List.length (List.flatten l) + (300 : Nat) ≤ lim ∧ List.length l < (1099511627776 : Nat) ∧ (0 : Int) ≤ i ∧ i < (↑(List.length l) : Int) ∧ List.length (pvo l i) = List.length (lL dG (List.length (pvo l i)) (lC dE [] (pvo l i))) ∧ (∀ (i_1 : Nat), i_1 < List.length (lL dG (List.length (pvo l i)) (lC dE [] (pvo l i))) → lC dE [] (pvo l i) i_1 = lC dE [] (lL dG (List.length (pvo l i)) (lC dE [] (pvo l i))) i_1) ∧ List.length (pv l (Int.toNat i)) = List.length (lL dG (List.length (pv l (Int.toNat i))) (lC dE [] (pv l (Int.toNat i)))) ∧ (∀ (i_1 : Nat), i_1 < List.length (lL dG (List.length (pv l (Int.toNat i))) (lC dE [] (pv l (Int.toNat i)))) → lC dE [] (pv l (Int.toNat i)) i_1 = lC dE [] (lL dG (List.length (pv l (Int.toNat i))) (lC dE [] (pv l (Int.toNat i)))) i_1) ∧ OkD (lL dG (List.length (pvo l i)) (lC dE [] (pvo l i))) ∧ OkD (lL dG (List.length (pv l (Int.toNat i))) (lC dE [] (pv l (Int.toNat i)))) ∧ List.length (lL dG (List.length (pvo l i)) (lC dE [] (pvo l i))) < (1099511627776 : Nat) ∧ decide (lL dG (List.length (pvo l i)) (lC dE [] (pvo l i)) = lL dG (List.length (pv l (Int.toNat i))) (lC dE [] (pv l (Int.toNat i)))) = true ∧ True) (false = true ∧ True))))) (brP (!decide ((0 : Int) ≤ i ∧ i < (↑(List.length l) : Int)) == false) (false = true ∧ True) ((∀ (L : List Int), L ∈ l → OkB L) ∧ List.length (List.flatten l) + (300 : Nat) ≤ lim ∧ List.length l < (1099511627776 : Nat) ∧ (∀ (L : List Int), L ∈ l → OkB L) ∧ List.length (List.flatten l) + (300 : Nat) ≤ lim ∧ List.length l < (1099511627776 : Nat) ∧ brP (!sumB shaK (listB (↑(List.length l) : Int) (sumB shaK (mt l))) == sumB shaK (listB (↑(List.length l) : Int) (sumB shaK (mt l)))) (false = true ∧ True) (brP (!decide ((0 : Int) ≤ i ∧ i < (↑(List.length l) : Int))) (brP ((↑(Cont.len (Cont.st (32 : Nat) (List.length (pvo l i)) (lC dE [] (pvo l i)))) : Int) == (0 : Int)) (true = true ∧ True) (brP (decide ((0 : Int) ≤ i ∧ i < (↑(List.length l) : Int))) ((∀ (L : List Int), L ∈ l → OkB L) ∧ List.length (List.flatten l) + (300 : Nat) ≤ lim ∧ List.length l < (1099511627776 : Nat) ∧ (0 : Int) ≤ i ∧ i < (↑(List.length l) : Int) ∧ List.length (pvo l i) = List.length (lL dG (List.length (pvo l i)) (lC dE [] (pvo l i))) ∧ (∀ (i_1 : Nat), i_1 < List.length (lL dG (List.length (pvo l i)) (lC dE [] (pvo l i))) → lC dE [] (pvo l i) i_1 = lC dE [] (lL dG (List.length (pvo l i)) (lC dE [] (pvo l i))) i_1) ∧ List.length (pv l (Int.toNat i)) = List.length (lL dG (List.length (pv l (Int.toNat i))) (lC dE [] (pv l (Int.toNat i)))) ∧ (∀ (i_1 : Nat), i_1 < List.length (lL dG (List.length (pv l (Int.toNat i))) (lC dE [] (pv l (Int.toNat i)))) → lC dE [] (pv l (Int.toNat i)) i_1 = lC dE [] (lL dG (List.length (pv l (Int.toNat i))) (lC dE [] (pv l (Int.toNat i)))) i_1) ∧ OkD (lL dG (List.length (pvo l i)) (lC dE [] (pvo l i))) ∧ OkD (lL dG (List.length (pv l (Int.toNat i))) (lC dE [] (pv l (Int.toNat i)))) ∧ List.length (lL dG (List.length (pvo l i)) (lC dE [] (pvo l i))) < (1099511627776 : Nat) ∧ decide (lL dG (List.length (pvo l i)) (lC dE [] (pvo l i)) = lL dG (List.length (pv l (Int.toNat i))) (lC dE [] (pv l (Int.toNat i)))) = true ∧ True) (false = true ∧ True))) (brP (decide ((0 : Int) ≤ i ∧ i < (↑(List.length l) : Int))) ((∀ (L : List Int), L ∈ l → OkB L) ∧ List.length (List.flatten l) + (300 : Nat) ≤ lim ∧ List.length l < (1099511627776 : Nat) ∧ (0 : Int) ≤ i ∧ i < (↑(List.length l) : Int) ∧ List.length (pvo l i) = List.length (lL dG (List.length (pvo l i)) (lC dE [] (pvo l i))) ∧ (∀ (i_1 : Nat), i_1 < List.length (lL dG (List.length (pvo l i)) (lC dE [] (pvo l i))) → lC dE [] (pvo l i) i_1 = lC dE [] (lL dG (List.length (pvo l i)) (lC dE [] (pvo l i))) i_1) ∧ List.length (pv l (Int.toNat i)) = List.length (lL dG (List.length (pv l (Int.toNat i))) (lC dE [] (pv l (Int.toNat i)))) ∧ (∀ (i_1 : Nat), i_1 < List.length (lL dG (List.length (pv l (Int.toNat i))) (lC dE [] (pv l (Int.toNat i)))) → lC dE [] (pv l (Int.toNat i)) i_1 = lC dE [] (lL dG (List.length (pv l (Int.toNat i))) (lC dE [] (pv l (Int.toNat i)))) i_1) ∧ OkD (lL dG (List.length (pvo l i)) (lC dE [] (pvo l i))) ∧ OkD (lL dG (List.length (pv l (Int.toNat i))) (lC dE [] (pv l (Int.toNat i)))) ∧ List.length (lL dG (List.length (pvo l i)) (lC dE [] (pvo l i))) < (1099511627776 : Nat) ∧ decide (lL dG (List.length (pvo l i)) (lC dE [] (pvo l i)) = lL dG (List.length (pv l (Int.toNat i))) (lC dE [] (pv l (Int.toNat i)))) = true ∧ True) (false = true ∧ True)))))) (by kernel_rfl) (by
    obtain ⟨ho, hf, hn, _⟩ := hp
    have hA : 0 ≤ i ∧ i < l.length → pv l i.toNat = pvo l i := fun h => (pvo_in h.1 h.2).symm
    have hlp := pv_le (l := l) (i := i.toNat) hn
    rw [lL_self dG_dE, lL_self dG_dE]
    have A : 0 ≤ i ∧ i < l.length → (∀ L ∈ l, OkB L) ∧ l.flatten.length + 300 ≤ lim ∧ l.length < 1099511627776 ∧ 0 ≤ i ∧ i < l.length ∧ (pvo l i).length = (pvo l i).length ∧ (∀ k, k < (pvo l i).length → lC dE [] (pvo l i) k = lC dE [] (pvo l i) k) ∧ (pv l i.toNat).length = (pv l i.toNat).length ∧ (∀ k, k < (pv l i.toNat).length → lC dE [] (pv l i.toNat) k = lC dE [] (pv l i.toNat) k) ∧ OkD (pvo l i) ∧ OkD (pv l i.toNat) ∧ (pvo l i).length < 1099511627776 ∧ decide (pvo l i = pv l i.toNat) = true ∧ True := fun h =>
      ⟨ho, hf, hn, h.1, h.2, rfl, fun k hk => rfl, rfl, fun k hk => rfl, pvo_okD _ _, pv_okD _ _, by rw [← hA h]; omega, decide_eq_true (hA h).symm, trivial⟩
    refine ⟨ho, hf, hn, brI (fun hc => ?_) (fun hc => ?_)⟩
    · have hc := of_decide_eq_true hc
      have e : decide (0 ≤ i ∧ i < l.length) = decide (i < l.length) := by
        by_cases h : i < l.length
        · rw [decide_eq_true h, decide_eq_true ⟨hc, h⟩]
        · rw [decide_eq_false h, decide_eq_false fun hh => h hh.2]
      rw [e, beq_self_eq_true]
      refine ⟨ho, hf, hn, ho, hf, hn, ?_⟩
      rw [beq_self_eq_true]
      show brP (!decide (i < l.length)) _ _
      refine brI (fun hd => brI (fun _ => ⟨rfl, trivial⟩) (fun hz => ?_)) (fun hd => brI (fun hx => A ⟨hc, of_decide_eq_true hx⟩) (fun hx => ?_))
      · have hd : ¬ i < l.length := by simpa using hd
        have : pvo l i = [] := by unfold pvo; rw [if_neg fun hh => hd hh.2]
        have hz : (((pvo l i).length : Int) == 0) = false := hz
        rw [this] at hz; cases hz
      · rw [hx] at hd; cases hd
    · have hc : ¬ 0 ≤ i := by have := of_decide_eq_false hc; omega
      have e : decide (0 ≤ i ∧ i < l.length) = false := decide_eq_false fun hh => hc hh.1
      rw [e]
      refine ⟨ho, hf, hn, ho, hf, hn, ?_⟩
      rw [beq_self_eq_true]
      show brP (((pvo l i).length : Int) == 0) _ _
      have : pvo l i = [] := by unfold pvo; rw [if_neg fun hh => hc hh.1]
      rw [this]
      exact ⟨rfl, trivial⟩))
noncomputable def anL03MerkleVerifies (root : List Int) (n i : Int) (el : List Int) (P : List (List Int)) : Nat → List Nat → Option Ann := fun _ _ => none
theorem okL03MerkleVerifies (root : List Int) (n i : Int) (el : List Int) (P : List (List Int)) (hp : allP [OkB el, el.length + 300 ≤ lim, n < 9223372036854775808, OkD P, P.length < 1099511627776]) : CallsOk Tryd.prog Gs 4 [.agg [.ints .u8 32 root], .a (.d (.v (.int .i64 n))), .a (.d (.v (.int .i64 i))), .a (.d (.si .u8 el)), .a (.d (.sl 32 (P).length (lC dE [] (P))))] [] (eB true) [] :=
  ok_of (ann := anL03MerkleVerifies root n i el P) ctok_L03awake mixed Tryd.func4 (by kernel_rfl) (of_nf (p := root = root ∧ n = n ∧ i = i ∧ el = el ∧ List.length P = List.length (lL dG (List.length P) (lC dE [] P)) ∧ (∀ (i : Nat), i < List.length (lL dG (List.length P) (lC dE [] P)) → lC dE [] P i = lC dE [] (lL dG (List.length P) (lC dE [] P)) i) ∧ OkB el ∧ List.length el + (300 : Nat) ≤ lim ∧ n < (9223372036854775808 : Int) ∧ OkD (lL dG (List.length P) (lC dE [] P)) ∧ root = root ∧ n = n ∧ i = i ∧ el = el ∧ List.length P = List.length (lL dG (List.length P) (lC dE [] P)) ∧ (∀ (i : Nat), i < List.length (lL dG (List.length P) (lC dE [] P)) → lC dE [] P i = lC dE [] (lL dG (List.length P) (lC dE [] P)) i) ∧ OkB el ∧ List.length el + (300 : Nat) ≤ lim ∧ n < (9223372036854775808 : Int) ∧ OkD (lL dG (List.length P) (lC dE [] P)) ∧ List.length (lL dG (List.length P) (lC dE [] P)) < (1099511627776 : Nat) ∧ (verB root n i el (lL dG (List.length P) (lC dE [] P)) == verB root n i el (lL dG (List.length P) (lC dE [] P))) = true ∧ True) (by kernel_rfl) (by
    obtain ⟨he, hl, hn, hP, hm, _⟩ := hp
    rw [lL_self dG_dE]
    generalize verB root n i el P = b
    exact ⟨rfl, rfl, rfl, rfl, rfl, fun k hk => rfl, he, hl, hn, hP, rfl, rfl, rfl, rfl, rfl, fun k hk => rfl, he, hl, hn, hP, hm, by cases b <;> rfl, trivial⟩))
noncomputable def anL03MerkleComplete (l : List (List Int)) : Nat → List Nat → Option Ann := fun bk_ gs_ => match bk_, gs_ with
    | 0, _ => some { τ := Nat, J := fun t => t ≤ l.length, m := fun t => l.length - t, l := fun t => [(0, .s (.a (.d (.sb l)))), (3, .s (.a (.lp 3 0))), (4, eI .i64 (t : Int))], H := fun t => [(3, .cells [.ints .u8 32 (rootB l)] 28)] }
    | _, _ => none
theorem okL03MerkleComplete (l : List (List Int)) (hp : allP [∀ L ∈ l, OkB L, l.flatten.length + 300 ≤ lim, l.length < 1099511627776]) : CallsOk Tryd.prog Gs 5 [.a (.d (.sb l))] [] (eB true) [] :=
  ok_of (ann := anL03MerkleComplete l) ctok_L03awake mixed Tryd.func5 (by kernel_rfl) (of_nf (p := (∀ (L : List Int), L ∈ l → OkB L) ∧ List.length (List.flatten l) + (300 : Nat) ≤ lim ∧ List.length l < (1099511627776 : Nat) ∧ (∃ (t : Nat), l = l ∧ (0 : Int) = (↑t : Int) ∧ sumB shaK (listB (↑(List.length l) : Int) (sumB shaK (mt l))) = rootB l ∧ t ≤ List.length l ∧ True) ∧ ∀ (t : Nat), t ≤ List.length l → brP (decide ((↑t : Int) < (↑(List.length l) : Int))) (brP (decide ((↑t : Int) < (200 : Int))) ((∀ (L : List Int), L ∈ l → OkB L) ∧ List.length (List.flatten l) + (300 : Nat) ≤ lim ∧ List.length l < (1099511627776 : Nat) ∧ brP (!decide ((0 : Int) ≤ (↑t : Int) ∧ (↑t : Int) < (↑(List.length l) : Int))) (false = true ∧ True) (((0 : Int) ≤ (↑t : Int) ∧ (↑t : Int) < (↑(List.length l) : Int)) ∧ rootB l = rootB l ∧ (↑(List.length l) : Int) = (↑(List.length l) : Int) ∧ (↑t : Int) = (↑t : Int) ∧ List.getD l (Int.toNat (↑t : Int)) [] = List.getD l (Int.toNat (↑t : Int)) [] ∧ List.length (pvo l (↑t : Int)) = List.length (lL dG (List.length (pvo l (↑t : Int))) (lC dE [] (pvo l (↑t : Int)))) ∧ (∀ (i : Nat), i < List.length (lL dG (List.length (pvo l (↑t : Int))) (lC dE [] (pvo l (↑t : Int)))) → lC dE [] (pvo l (↑t : Int)) i = lC dE [] (lL dG (List.length (pvo l (↑t : Int))) (lC dE [] (pvo l (↑t : Int)))) i) ∧ OkB (List.getD l (Int.toNat (↑t : Int)) []) ∧ List.length (List.getD l (Int.toNat (↑t : Int)) []) + (300 : Nat) ≤ lim ∧ (↑(List.length l) : Int) < (9223372036854775808 : Int) ∧ OkD (lL dG (List.length (pvo l (↑t : Int))) (lC dE [] (pvo l (↑t : Int)))) ∧ brP (!verB (rootB l) (↑(List.length l) : Int) (↑t : Int) (List.getD l (Int.toNat (↑t : Int)) []) (lL dG (List.length (pvo l (↑t : Int))) (lC dE [] (pvo l (↑t : Int))))) (false = true ∧ True) (∃ (t' : Nat), l = l ∧ IntKind.wrap IntKind.i64 ((↑t : Int) + (1 : Int)) = (↑t' : Int) ∧ rootB l = rootB l ∧ t' ≤ List.length l ∧ List.length l - t' < List.length l - t ∧ True))) (true = true ∧ True)) (true = true ∧ True)) (by kernel_rfl) (by
    obtain ⟨ho, hf, hn, _⟩ := hp
    refine ⟨ho, hf, hn, ⟨0, rfl, rfl, rfl, Nat.zero_le _, trivial⟩, fun t ht => brI (fun hc => brI (fun hd => ?_) (fun _ => ⟨rfl, trivial⟩)) (fun _ => ⟨rfl, trivial⟩)⟩
    have hc : t < l.length := by have := of_decide_eq_true hc; omega
    have e : decide (0 ≤ (t : Int) ∧ (t : Int) < l.length) = true := decide_eq_true (by omega)
    have v := ver_own (l := l) (i := t) (by omega) (by omega)
    obtain ⟨g1, g2⟩ := getD_okB ho t
    rw [Int.toNat_natCast] at v ⊢
    rw [e, lL_self dG_dE]
    refine ⟨ho, hf, hn, by omega, rfl, rfl, rfl, rfl, rfl, fun k hk => rfl, g1, by omega, by omega, pvo_okD _ _, ?_⟩
    rw [v]
    exact ⟨t + 1, rfl, by rw [wi _ (by omega) (by omega)]; rfl, rfl, by omega, by omega, trivial⟩))
noncomputable def anL03MerkleSound (l : List (List Int)) (i : Int) (el : List Int) (P : List (List Int)) : Nat → List Nat → Option Ann := fun _ _ => none
theorem okL03MerkleSound (l : List (List Int)) (i : Int) (el : List Int) (P : List (List Int)) (hp : allP [∀ L ∈ l, OkB L, l.flatten.length + 300 ≤ lim, l.length < 1099511627776, OkB el, el.length + 300 ≤ lim, OkD P]) : CallsOk Tryd.prog Gs 6 [.a (.d (.sb l)), .a (.d (.v (.int .i64 i))), .a (.d (.si .u8 el)), .a (.d (.sl 32 (P).length (lC dE [] (P))))] [] (eB true) [] :=
  ok_of (ann := anL03MerkleSound l i el P) ctok_L03awake mixed Tryd.func6 (by kernel_rfl) (of_nf (p := (∀ (L : List Int), L ∈ l → OkB L) ∧ List.length (List.flatten l) + (300 : Nat) ≤ lim ∧ List.length l < (1099511627776 : Nat) ∧ sumB shaK (listB (↑(List.length l) : Int) (sumB shaK (mt l))) = sumB shaK (listB (↑(List.length l) : Int) (sumB shaK (mt l))) ∧ (↑(List.length l) : Int) = (↑(List.length l) : Int) ∧ i = i ∧ el = el ∧ List.length P = List.length (lL dG (List.length P) (lC dE [] P)) ∧ (∀ (i : Nat), i < List.length (lL dG (List.length P) (lC dE [] P)) → lC dE [] P i = lC dE [] (lL dG (List.length P) (lC dE [] P)) i) ∧ OkB el ∧ List.length el + (300 : Nat) ≤ lim ∧ (↑(List.length l) : Int) < (9223372036854775808 : Int) ∧ OkD (lL dG (List.length P) (lC dE [] P)) ∧ brP (!verB (sumB shaK (listB (↑(List.length l) : Int) (sumB shaK (mt l)))) (↑(List.length l) : Int) i el (lL dG (List.length P) (lC dE [] P))) (true = true ∧ True) (brP (decide (i ≥ (0 : Int))) (brP (decide (i < (↑(List.length l) : Int))) (((0 : Int) ≤ i ∧ i < (↑(List.length l) : Int)) ∧ brP (ByteArray.toList (strOfNums (List.getD l (Int.toNat i) [])) == ByteArray.toList (strOfNums el)) (true = true ∧ True) (l = l ∧ i = i ∧ el = el ∧ List.length P = List.length (lL dG (List.length P) (lC dE [] P)) ∧ (∀ (i : Nat), i < List.length (lL dG (List.length P) (lC dE [] P)) → lC dE [] P i = lC dE [] (lL dG (List.length P) (lC dE [] P)) i) ∧ (∀ (L : List Int), L ∈ l → OkB L) ∧ List.length (List.flatten l) + (300 : Nat) ≤ lim ∧ List.length l < (1099511627776 : Nat) ∧ OkB el ∧ List.length el + (300 : Nat) ≤ lim ∧ OkD (lL dG (List.length P) (lC dE [] P)) ∧ brP (Option.isSome (clB l i el (lL dG (List.length P) (lC dE [] P)))) (brP (!ByteArray.toList (strOfNums (oget (txs (↑(List.length l) : Int) i (List.getD l (Int.toNat i) []) (pvo l i)) (clB l i el (lL dG (List.length P) (lC dE [] P))))) == ByteArray.toList (strOfNums (oget (txs (↑(List.length l) : Int) i el (lL dG (List.length P) (lC dE [] P))) (clB l i el (lL dG (List.length P) (lC dE [] P)))))) (OkB (oget (txs (↑(List.length l) : Int) i (List.getD l (Int.toNat i) []) (pvo l i)) (clB l i el (lL dG (List.length P) (lC dE [] P)))) ∧ List.length (oget (txs (↑(List.length l) : Int) i (List.getD l (Int.toNat i) []) (pvo l i)) (clB l i el (lL dG (List.length P) (lC dE [] P)))) + (100 : Nat) ≤ lim ∧ OkB (oget (txs (↑(List.length l) : Int) i el (lL dG (List.length P) (lC dE [] P))) (clB l i el (lL dG (List.length P) (lC dE [] P)))) ∧ List.length (oget (txs (↑(List.length l) : Int) i el (lL dG (List.length P) (lC dE [] P))) (clB l i el (lL dG (List.length P) (lC dE [] P)))) + (100 : Nat) ≤ lim ∧ (sumB shaK (oget (txs (↑(List.length l) : Int) i (List.getD l (Int.toNat i) []) (pvo l i)) (clB l i el (lL dG (List.length P) (lC dE [] P)))) == sumB shaK (oget (txs (↑(List.length l) : Int) i el (lL dG (List.length P) (lC dE [] P))) (clB l i el (lL dG (List.length P) (lC dE [] P))))) = true ∧ True) (false = true ∧ True)) (false = true ∧ True))) (l = l ∧ i = i ∧ el = el ∧ List.length P = List.length (lL dG (List.length P) (lC dE [] P)) ∧ (∀ (i : Nat), i < List.length (lL dG (List.length P) (lC dE [] P)) → lC dE [] P i = lC dE [] (lL dG (List.length P) (lC dE [] P)) i) ∧ (∀ (L : List Int), L ∈ l → OkB L) ∧ List.length (List.flatten l) + (300 : Nat) ≤ lim ∧ List.length l < (1099511627776 : Nat) ∧ OkB el ∧ List.length el + (300 : Nat) ≤ lim ∧ OkD (lL dG (List.length P) (lC dE [] P)) ∧ brP (Option.isSome (clB l i el (lL dG (List.length P) (lC dE [] P)))) (brP (!ByteArray.toList (strOfNums (oget (txs (↑(List.length l) : Int) i (List.getD l (Int.toNat i) []) (pvo l i)) (clB l i el (lL dG (List.length P) (lC dE [] P))))) == ByteArray.toList (strOfNums (oget (txs (↑(List.length l) : Int) i el (lL dG (List.length P) (lC dE [] P))) (clB l i el (lL dG (List.length P) (lC dE [] P)))))) (OkB (oget (txs (↑(List.length l) : Int) i (List.getD l (Int.toNat i) []) (pvo l i)) (clB l i el (lL dG (List.length P) (lC dE [] P)))) ∧ List.length (oget (txs (↑(List.length l) : Int) i (List.getD l (Int.toNat i) []) (pvo l i)) (clB l i el (lL dG (List.length P) (lC dE [] P)))) + (100 : Nat) ≤ lim ∧ OkB (oget (txs (↑(List.length l) : Int) i el (lL dG (List.length P) (lC dE [] P))) (clB l i el (lL dG (List.length P) (lC dE [] P)))) ∧ List.length (oget (txs (↑(List.length l) : Int) i el (lL dG (List.length P) (lC dE [] P))) (clB l i el (lL dG (List.length P) (lC dE [] P)))) + (100 : Nat) ≤ lim ∧ (sumB shaK (oget (txs (↑(List.length l) : Int) i (List.getD l (Int.toNat i) []) (pvo l i)) (clB l i el (lL dG (List.length P) (lC dE [] P)))) == sumB shaK (oget (txs (↑(List.length l) : Int) i el (lL dG (List.length P) (lC dE [] P))) (clB l i el (lL dG (List.length P) (lC dE [] P))))) = true ∧ True) (false = true ∧ True)) (false = true ∧ True))) (l = l ∧ i = i ∧ el = el ∧ List.length P = List.length (lL dG (List.length P) (lC dE [] P)) ∧ (∀ (i : Nat), i < List.length (lL dG (List.length P) (lC dE [] P)) → lC dE [] P i = lC dE [] (lL dG (List.length P) (lC dE [] P)) i) ∧ (∀ (L : List Int), L ∈ l → OkB L) ∧ List.length (List.flatten l) + (300 : Nat) ≤ lim ∧ List.length l < (1099511627776 : Nat) ∧ OkB el ∧ List.length el + (300 : Nat) ≤ lim ∧ OkD (lL dG (List.length P) (lC dE [] P)) ∧ brP (Option.isSome (clB l i el (lL dG (List.length P) (lC dE [] P)))) (brP (!ByteArray.toList (strOfNums (oget (txs (↑(List.length l) : Int) i (List.getD l (Int.toNat i) []) (pvo l i)) (clB l i el (lL dG (List.length P) (lC dE [] P))))) == ByteArray.toList (strOfNums (oget (txs (↑(List.length l) : Int) i el (lL dG (List.length P) (lC dE [] P))) (clB l i el (lL dG (List.length P) (lC dE [] P)))))) (OkB (oget (txs (↑(List.length l) : Int) i (List.getD l (Int.toNat i) []) (pvo l i)) (clB l i el (lL dG (List.length P) (lC dE [] P)))) ∧ List.length (oget (txs (↑(List.length l) : Int) i (List.getD l (Int.toNat i) []) (pvo l i)) (clB l i el (lL dG (List.length P) (lC dE [] P)))) + (100 : Nat) ≤ lim ∧ OkB (oget (txs (↑(List.length l) : Int) i el (lL dG (List.length P) (lC dE [] P))) (clB l i el (lL dG (List.length P) (lC dE [] P)))) ∧ List.length (oget (txs (↑(List.length l) : Int) i el (lL dG (List.length P) (lC dE [] P))) (clB l i el (lL dG (List.length P) (lC dE [] P)))) + (100 : Nat) ≤ lim ∧ (sumB shaK (oget (txs (↑(List.length l) : Int) i (List.getD l (Int.toNat i) []) (pvo l i)) (clB l i el (lL dG (List.length P) (lC dE [] P)))) == sumB shaK (oget (txs (↑(List.length l) : Int) i el (lL dG (List.length P) (lC dE [] P))) (clB l i el (lL dG (List.length P) (lC dE [] P))))) = true ∧ True) (false = true ∧ True)) (false = true ∧ True)))) (by kernel_rfl) (by
    obtain ⟨ho, hf, hn, he, hl, hP, _⟩ := hp
    have hlim : lim = 68719476736 := rfl
    rw [lL_self dG_dE]
    obtain ⟨g1, g2⟩ := getD_okB ho i.toNat
    have oC := oget_ok (txs_ok (n := l.length) (i := i) g1 (by omega) (pvo_okD l i)) (clB l i el P)
    have oD := oget_ok (txs_ok (n := l.length) (i := i) he hl hP) (clB l i el P)
    
    refine ⟨ho, hf, hn, rfl, rfl, rfl, rfl, rfl, fun k hk => rfl, he, hl, by omega, hP, brI (fun _ => ⟨rfl, trivial⟩) (fun hv => ?_)⟩
    have hv : verB (rootB l) l.length i el P = true := by
      cases h : verB (rootB l) l.length i el P with
      | true => rfl
      | false => rw [show verB (sumB shaK (listB l.length (sumB shaK (mt l)))) l.length i el P = false from h] at hv; cases hv
    have hin : 0 ≤ i ∧ i < l.length := by
      unfold verB at hv
      rw [Bool.and_eq_true] at hv
      have := of_decide_eq_true hv.1
      exact ⟨this.1, this.2.1⟩
    refine brI (fun _ => brI (fun _ => ⟨hin, brI (fun _ => ⟨rfl, trivial⟩) (fun h => ?_)⟩) (fun h => absurd hin.2 (of_decide_eq_false h))) (fun h => absurd hin.1 (by have := of_decide_eq_false h; omega))
    rw [strOf_eq g1 he] at h
    have hs := sound (fun L hL => by have := flat_mem hL; omega) hP hv (of_decide_eq_false h)
    
    refine ⟨rfl, rfl, rfl, rfl, fun k hk => rfl, ho, hf, hn, he, hl, hP, brI (fun _ => ?_) (fun h => by rw [hs] at h; cases h)⟩
    obtain ⟨c1, c2⟩ := cl_some hs
    rw [strOf_eq oC.1 oD.1, decide_eq_false c1]
    exact ⟨oC.1, oC.2, oD.1, oD.2, by rw [c2]; exact beq_self_eq_true _, trivial⟩))
noncomputable def anL03MerkleClash (l : List (List Int)) (i : Int) (el : List Int) (P : List (List Int)) : Nat → List Nat → Option Ann := fun _ _ => none
theorem okL03MerkleClash (l : List (List Int)) (i : Int) (el : List Int) (P : List (List Int)) (hp : allP [∀ L ∈ l, OkB L, l.flatten.length + 300 ≤ lim, l.length < 1099511627776, OkB el, el.length + 300 ≤ lim, OkD P]) : CallsOk Tryd.prog Gs 7 [.a (.d (.sb l)), .a (.d (.v (.int .i64 i))), .a (.d (.si .u8 el)), .a (.d (.sl 32 (P).length (lC dE [] (P))))] [] (eB true) [] :=
  ok_of (ann := anL03MerkleClash l i el P) ctok_L03awake mixed Tryd.func7 (by kernel_rfl) (of_nf (p := l = l ∧ i = i ∧ el = el ∧ List.length P = List.length (lL dG (List.length P) (lC dE [] P)) ∧ (∀ (i : Nat), i < List.length (lL dG (List.length P) (lC dE [] P)) → lC dE [] P i = lC dE [] (lL dG (List.length P) (lC dE [] P)) i) ∧ (∀ (L : List Int), L ∈ l → OkB L) ∧ List.length (List.flatten l) + (300 : Nat) ≤ lim ∧ List.length l < (1099511627776 : Nat) ∧ OkB el ∧ List.length el + (300 : Nat) ≤ lim ∧ OkD (lL dG (List.length P) (lC dE [] P)) ∧ brP (Option.isSome (clB l i el (lL dG (List.length P) (lC dE [] P)))) (brP (ByteArray.toList (strOfNums (oget (txs (↑(List.length l) : Int) i (List.getD l (Int.toNat i) []) (pvo l i)) (clB l i el (lL dG (List.length P) (lC dE [] P))))) == ByteArray.toList (strOfNums (oget (txs (↑(List.length l) : Int) i el (lL dG (List.length P) (lC dE [] P))) (clB l i el (lL dG (List.length P) (lC dE [] P)))))) (false = true ∧ True) (OkB (oget (txs (↑(List.length l) : Int) i (List.getD l (Int.toNat i) []) (pvo l i)) (clB l i el (lL dG (List.length P) (lC dE [] P)))) ∧ List.length (oget (txs (↑(List.length l) : Int) i (List.getD l (Int.toNat i) []) (pvo l i)) (clB l i el (lL dG (List.length P) (lC dE [] P)))) + (100 : Nat) ≤ lim ∧ OkB (oget (txs (↑(List.length l) : Int) i el (lL dG (List.length P) (lC dE [] P))) (clB l i el (lL dG (List.length P) (lC dE [] P)))) ∧ List.length (oget (txs (↑(List.length l) : Int) i el (lL dG (List.length P) (lC dE [] P))) (clB l i el (lL dG (List.length P) (lC dE [] P)))) + (100 : Nat) ≤ lim ∧ brP (!sumB shaK (oget (txs (↑(List.length l) : Int) i (List.getD l (Int.toNat i) []) (pvo l i)) (clB l i el (lL dG (List.length P) (lC dE [] P)))) == sumB shaK (oget (txs (↑(List.length l) : Int) i el (lL dG (List.length P) (lC dE [] P))) (clB l i el (lL dG (List.length P) (lC dE [] P))))) (false = true ∧ True) (brP (!Option.isSome (clB l i el (lL dG (List.length P) (lC dE [] P)))) (brP (decide (IntKind.wrap IntKind.i64 ((↑(List.length (oget (txs (↑(List.length l) : Int) i (List.getD l (Int.toNat i) []) (pvo l i)) (clB l i el (lL dG (List.length P) (lC dE [] P))))) : Int) + (↑(List.length (oget (txs (↑(List.length l) : Int) i el (lL dG (List.length P) (lC dE [] P))) (clB l i el (lL dG (List.length P) (lC dE [] P))))) : Int)) > (0 : Int))) (false = true ∧ True) (brP (decide (i < (0 : Int))) ((!Option.isSome (clB l i el (lL dG (List.length P) (lC dE [] P)))) = true ∧ True) (brP (decide (i ≥ (↑(List.length l) : Int))) ((!Option.isSome (clB l i el (lL dG (List.length P) (lC dE [] P)))) = true ∧ True) ((∀ (L : List Int), L ∈ l → OkB L) ∧ List.length (List.flatten l) + (300 : Nat) ≤ lim ∧ List.length l < (1099511627776 : Nat) ∧ ((0 : Int) ≤ i ∧ i < (↑(List.length l) : Int)) ∧ l = l ∧ i = i ∧ List.getD l (Int.toNat i) [] = List.getD l (Int.toNat i) [] ∧ List.length (pvo l i) = List.length (lL dG (List.length (pvo l i)) (lC dE [] (pvo l i))) ∧ (∀ (i_1 : Nat), i_1 < List.length (lL dG (List.length (pvo l i)) (lC dE [] (pvo l i))) → lC dE [] (pvo l i) i_1 = lC dE [] (lL dG (List.length (pvo l i)) (lC dE [] (pvo l i))) i_1) ∧ (∀ (L : List Int), L ∈ l → OkB L) ∧ List.length (List.flatten l) + (300 : Nat) ≤ lim ∧ List.length l < (1099511627776 : Nat) ∧ OkB (List.getD l (Int.toNat i) []) ∧ List.length (List.getD l (Int.toNat i) []) + (300 : Nat) ≤ lim ∧ OkD (lL dG (List.length (pvo l i)) (lC dE [] (pvo l i))) ∧ (!Option.isSome (clB l i (List.getD l (Int.toNat i) []) (lL dG (List.length (pvo l i)) (lC dE [] (pvo l i))))) = true ∧ True)))) (brP (decide (i < (0 : Int))) ((!Option.isSome (clB l i el (lL dG (List.length P) (lC dE [] P)))) = true ∧ True) (brP (decide (i ≥ (↑(List.length l) : Int))) ((!Option.isSome (clB l i el (lL dG (List.length P) (lC dE [] P)))) = true ∧ True) ((∀ (L : List Int), L ∈ l → OkB L) ∧ List.length (List.flatten l) + (300 : Nat) ≤ lim ∧ List.length l < (1099511627776 : Nat) ∧ ((0 : Int) ≤ i ∧ i < (↑(List.length l) : Int)) ∧ l = l ∧ i = i ∧ List.getD l (Int.toNat i) [] = List.getD l (Int.toNat i) [] ∧ List.length (pvo l i) = List.length (lL dG (List.length (pvo l i)) (lC dE [] (pvo l i))) ∧ (∀ (i_1 : Nat), i_1 < List.length (lL dG (List.length (pvo l i)) (lC dE [] (pvo l i))) → lC dE [] (pvo l i) i_1 = lC dE [] (lL dG (List.length (pvo l i)) (lC dE [] (pvo l i))) i_1) ∧ (∀ (L : List Int), L ∈ l → OkB L) ∧ List.length (List.flatten l) + (300 : Nat) ≤ lim ∧ List.length l < (1099511627776 : Nat) ∧ OkB (List.getD l (Int.toNat i) []) ∧ List.length (List.getD l (Int.toNat i) []) + (300 : Nat) ≤ lim ∧ OkD (lL dG (List.length (pvo l i)) (lC dE [] (pvo l i))) ∧ (!Option.isSome (clB l i (List.getD l (Int.toNat i) []) (lL dG (List.length (pvo l i)) (lC dE [] (pvo l i))))) = true ∧ True)))))) (brP (!Option.isSome (clB l i el (lL dG (List.length P) (lC dE [] P)))) (brP (decide (IntKind.wrap IntKind.i64 ((↑(List.length (oget (txs (↑(List.length l) : Int) i (List.getD l (Int.toNat i) []) (pvo l i)) (clB l i el (lL dG (List.length P) (lC dE [] P))))) : Int) + (↑(List.length (oget (txs (↑(List.length l) : Int) i el (lL dG (List.length P) (lC dE [] P))) (clB l i el (lL dG (List.length P) (lC dE [] P))))) : Int)) > (0 : Int))) (false = true ∧ True) (brP (decide (i < (0 : Int))) ((!Option.isSome (clB l i el (lL dG (List.length P) (lC dE [] P)))) = true ∧ True) (brP (decide (i ≥ (↑(List.length l) : Int))) ((!Option.isSome (clB l i el (lL dG (List.length P) (lC dE [] P)))) = true ∧ True) ((∀ (L : List Int), L ∈ l → OkB L) ∧ List.length (List.flatten l) + (300 : Nat) ≤ lim ∧ List.length l < (1099511627776 : Nat) ∧ ((0 : Int) ≤ i ∧ i < (↑(List.length l) : Int)) ∧ l = l ∧ i = i ∧ List.getD l (Int.toNat i) [] = List.getD l (Int.toNat i) [] ∧ List.length (pvo l i) = List.length (lL dG (List.length (pvo l i)) (lC dE [] (pvo l i))) ∧ (∀ (i_1 : Nat), i_1 < List.length (lL dG (List.length (pvo l i)) (lC dE [] (pvo l i))) → lC dE [] (pvo l i) i_1 = lC dE [] (lL dG (List.length (pvo l i)) (lC dE [] (pvo l i))) i_1) ∧ (∀ (L : List Int), L ∈ l → OkB L) ∧ List.length (List.flatten l) + (300 : Nat) ≤ lim ∧ List.length l < (1099511627776 : Nat) ∧ OkB (List.getD l (Int.toNat i) []) ∧ List.length (List.getD l (Int.toNat i) []) + (300 : Nat) ≤ lim ∧ OkD (lL dG (List.length (pvo l i)) (lC dE [] (pvo l i))) ∧ (!Option.isSome (clB l i (List.getD l (Int.toNat i) []) (lL dG (List.length (pvo l i)) (lC dE [] (pvo l i))))) = true ∧ True)))) (brP (decide (i < (0 : Int))) ((!Option.isSome (clB l i el (lL dG (List.length P) (lC dE [] P)))) = true ∧ True) (brP (decide (i ≥ (↑(List.length l) : Int))) ((!Option.isSome (clB l i el (lL dG (List.length P) (lC dE [] P)))) = true ∧ True) ((∀ (L : List Int), L ∈ l → OkB L) ∧ List.length (List.flatten l) + (300 : Nat) ≤ lim ∧ List.length l < (1099511627776 : Nat) ∧ ((0 : Int) ≤ i ∧ i < (↑(List.length l) : Int)) ∧ l = l ∧ i = i ∧ List.getD l (Int.toNat i) [] = List.getD l (Int.toNat i) [] ∧ List.length (pvo l i) = List.length (lL dG (List.length (pvo l i)) (lC dE [] (pvo l i))) ∧ (∀ (i_1 : Nat), i_1 < List.length (lL dG (List.length (pvo l i)) (lC dE [] (pvo l i))) → lC dE [] (pvo l i) i_1 = lC dE [] (lL dG (List.length (pvo l i)) (lC dE [] (pvo l i))) i_1) ∧ (∀ (L : List Int), L ∈ l → OkB L) ∧ List.length (List.flatten l) + (300 : Nat) ≤ lim ∧ List.length l < (1099511627776 : Nat) ∧ OkB (List.getD l (Int.toNat i) []) ∧ List.length (List.getD l (Int.toNat i) []) + (300 : Nat) ≤ lim ∧ OkD (lL dG (List.length (pvo l i)) (lC dE [] (pvo l i))) ∧ (!Option.isSome (clB l i (List.getD l (Int.toNat i) []) (lL dG (List.length (pvo l i)) (lC dE [] (pvo l i))))) = true ∧ True))))) (by kernel_rfl) (by
    obtain ⟨ho, hf, hn, he, hl, hP, _⟩ := hp
    have hlim : lim = 68719476736 := rfl
    rw [lL_self dG_dE, lL_self dG_dE]
    obtain ⟨g1, g2⟩ := getD_okB ho i.toNat
    have oC := oget_ok (txs_ok (n := l.length) (i := i) g1 (by omega) (pvo_okD l i)) (clB l i el P)
    have oD := oget_ok (txs_ok (n := l.length) (i := i) he hl hP) (clB l i el P)
    
    refine ⟨rfl, rfl, rfl, rfl, fun k hk => rfl, ho, hf, hn, he, hl, hP, brI (fun hs => ?_) (fun hs => ?_)⟩
    · obtain ⟨c1, c2⟩ := cl_some hs
      rw [strOf_eq oC.1 oD.1, decide_eq_false c1, c2, beq_self_eq_true, hs]
      refine ⟨oC.1, oC.2, oD.1, oD.2, ?_⟩
      show brP (decide (i < 0)) _ _
      refine brI (fun h => ?_) (fun h => brI (fun h' => ?_) (fun h' => ?_))
      · have := of_decide_eq_true h; exact absurd hs (by rw [cl_out (by omega)]; decide)
      · have := of_decide_eq_true h'; exact absurd hs (by rw [cl_out (by omega)]; decide)
      · have := of_decide_eq_false h; have := of_decide_eq_false h'; exact ⟨ho, hf, hn, by omega, rfl, rfl, rfl, rfl, fun k hk => rfl, ho, hf, hn, g1, by omega, pvo_okD _ _, by rw [cl_own]; rfl, trivial⟩
    · have hno : clB l i el P = none := by cases h : clB l i el P with
        | none => rfl
        | some k => rw [h] at hs; cases hs
      rw [hno]
      show brP (decide (i < 0)) _ _
      refine brI (fun h => ⟨rfl, trivial⟩) (fun h => brI (fun h' => ⟨rfl, trivial⟩) (fun h' => ?_))
      have := of_decide_eq_false h; have := of_decide_eq_false h'; exact ⟨ho, hf, hn, by omega, rfl, rfl, rfl, rfl, fun k hk => rfl, ho, hf, hn, g1, by omega, pvo_okD _ _, by rw [cl_own]; rfl, trivial⟩))
noncomputable def anL03MerkleBinds (l m : List (List Int)) : Nat → List Nat → Option Ann := fun bk_ gs_ => match bk_, gs_ with
    | 0, _ => some { τ := Nat, J := fun t => t ≤ l.length ∧ l.length = m.length ∧ l.length ≤ 64 ∧ rootB l = rootB m, m := fun t => l.length - t, l := fun t => [(0, .s (.a (.d (.sb l)))), (1, .s (.a (.d (.sb m)))), (7, eI .i64 (t : Int))], H := fun t => [] }
    | _, _ => none
theorem okL03MerkleBinds (l m : List (List Int)) (hp : allP [∀ L ∈ l, OkB L, l.flatten.length + 300 ≤ lim, l.length < 1099511627776, ∀ L ∈ m, OkB L, m.flatten.length + 300 ≤ lim, m.length < 1099511627776]) : CallsOk Tryd.prog Gs 8 [.a (.d (.sb l)), .a (.d (.sb m))] [] (eB true) [] :=
  ok_of (ann := anL03MerkleBinds l m) ctok_L03awake mixed Tryd.func8 (by kernel_rfl) (of_nf (p := brP (decide ((↑(List.length l) : Int) > (64 : Int))) (true = true ∧ True) (brP (decide ((↑(List.length m) : Int) > (64 : Int))) (true = true ∧ True) ((∀ (L : List Int), L ∈ l → OkB L) ∧ List.length (List.flatten l) + (300 : Nat) ≤ lim ∧ List.length l < (1099511627776 : Nat) ∧ (∀ (L : List Int), L ∈ m → OkB L) ∧ List.length (List.flatten m) + (300 : Nat) ≤ lim ∧ List.length m < (1099511627776 : Nat) ∧ brP (!sumB shaK (listB (↑(List.length l) : Int) (sumB shaK (mt l))) == sumB shaK (listB (↑(List.length m) : Int) (sumB shaK (mt m)))) (true = true ∧ True) (brP ((↑(List.length l) : Int) != (↑(List.length m) : Int)) ((∀ (L : List Int), L ∈ l → OkB L) ∧ List.length (List.flatten l) + (300 : Nat) ≤ lim ∧ List.length l < (1099511627776 : Nat) ∧ (0 : Int) ≤ (↑(List.length l) : Int) ∧ (↑(List.length l) : Int) < (9223372036854775808 : Int) ∧ List.length (sumB shaK (mt l)) = (32 : Nat) ∧ (∀ (L : List Int), L ∈ m → OkB L) ∧ List.length (List.flatten m) + (300 : Nat) ≤ lim ∧ List.length m < (1099511627776 : Nat) ∧ (0 : Int) ≤ (↑(List.length m) : Int) ∧ (↑(List.length m) : Int) < (9223372036854775808 : Int) ∧ List.length (sumB shaK (mt m)) = (32 : Nat) ∧ brP (!ByteArray.toList (strOfNums (listB (↑(List.length l) : Int) (sumB shaK (mt l)))) == ByteArray.toList (strOfNums (listB (↑(List.length m) : Int) (sumB shaK (mt m))))) (OkB (listB (↑(List.length l) : Int) (sumB shaK (mt l))) ∧ List.length (listB (↑(List.length l) : Int) (sumB shaK (mt l))) + (100 : Nat) ≤ lim ∧ OkB (listB (↑(List.length m) : Int) (sumB shaK (mt m))) ∧ List.length (listB (↑(List.length m) : Int) (sumB shaK (mt m))) + (100 : Nat) ≤ lim ∧ (sumB shaK (listB (↑(List.length l) : Int) (sumB shaK (mt l))) == sumB shaK (listB (↑(List.length m) : Int) (sumB shaK (mt m)))) = true ∧ True) (false = true ∧ True)) ((∃ (t : Nat), l = l ∧ m = m ∧ (0 : Int) = (↑t : Int) ∧ (t ≤ List.length l ∧ List.length l = List.length m ∧ List.length l ≤ (64 : Nat) ∧ rootB l = rootB m) ∧ True) ∧ ∀ (t : Nat), t ≤ List.length l ∧ List.length l = List.length m ∧ List.length l ≤ (64 : Nat) ∧ rootB l = rootB m → brP (decide ((↑t : Int) < (↑(List.length l) : Int))) (((0 : Int) ≤ (↑t : Int) ∧ (↑t : Int) < (↑(List.length l) : Int)) ∧ ((0 : Int) ≤ (↑t : Int) ∧ (↑t : Int) < (↑(List.length m) : Int)) ∧ brP (ByteArray.toList (strOfNums (List.getD l (Int.toNat (↑t : Int)) [])) == ByteArray.toList (strOfNums (List.getD m (Int.toNat (↑t : Int)) []))) (∃ (t' : Nat), l = l ∧ m = m ∧ IntKind.wrap IntKind.i64 ((↑t : Int) + (1 : Int)) = (↑t' : Int) ∧ (t' ≤ List.length l ∧ List.length l = List.length m ∧ List.length l ≤ (64 : Nat) ∧ rootB l = rootB m) ∧ List.length l - t' < List.length l - t ∧ True) ((∀ (L : List Int), L ∈ m → OkB L) ∧ List.length (List.flatten m) + (300 : Nat) ≤ lim ∧ List.length m < (1099511627776 : Nat) ∧ ((0 : Int) ≤ (↑t : Int) ∧ (↑t : Int) < (↑(List.length m) : Int)) ∧ l = l ∧ (↑t : Int) = (↑t : Int) ∧ List.getD m (Int.toNat (↑t : Int)) [] = List.getD m (Int.toNat (↑t : Int)) [] ∧ List.length (pvo m (↑t : Int)) = List.length (lL dG (List.length (pvo m (↑t : Int))) (lC dE [] (pvo m (↑t : Int)))) ∧ (∀ (i : Nat), i < List.length (lL dG (List.length (pvo m (↑t : Int))) (lC dE [] (pvo m (↑t : Int)))) → lC dE [] (pvo m (↑t : Int)) i = lC dE [] (lL dG (List.length (pvo m (↑t : Int))) (lC dE [] (pvo m (↑t : Int)))) i) ∧ (∀ (L : List Int), L ∈ l → OkB L) ∧ List.length (List.flatten l) + (300 : Nat) ≤ lim ∧ List.length l < (1099511627776 : Nat) ∧ OkB (List.getD m (Int.toNat (↑t : Int)) []) ∧ List.length (List.getD m (Int.toNat (↑t : Int)) []) + (300 : Nat) ≤ lim ∧ OkD (lL dG (List.length (pvo m (↑t : Int))) (lC dE [] (pvo m (↑t : Int)))) ∧ brP (Option.isSome (clB l (↑t : Int) (List.getD m (Int.toNat (↑t : Int)) []) (lL dG (List.length (pvo m (↑t : Int))) (lC dE [] (pvo m (↑t : Int)))))) (brP (!ByteArray.toList (strOfNums (oget (txs (↑(List.length l) : Int) (↑t : Int) (List.getD l (Int.toNat (↑t : Int)) []) (pvo l (↑t : Int))) (clB l (↑t : Int) (List.getD m (Int.toNat (↑t : Int)) []) (lL dG (List.length (pvo m (↑t : Int))) (lC dE [] (pvo m (↑t : Int))))))) == ByteArray.toList (strOfNums (oget (txs (↑(List.length l) : Int) (↑t : Int) (List.getD m (Int.toNat (↑t : Int)) []) (lL dG (List.length (pvo m (↑t : Int))) (lC dE [] (pvo m (↑t : Int))))) (clB l (↑t : Int) (List.getD m (Int.toNat (↑t : Int)) []) (lL dG (List.length (pvo m (↑t : Int))) (lC dE [] (pvo m (↑t : Int)))))))) (OkB (oget (txs (↑(List.length l) : Int) (↑t : Int) (List.getD l (Int.toNat (↑t : Int)) []) (pvo l (↑t : Int))) (clB l (↑t : Int) (List.getD m (Int.toNat (↑t : Int)) []) (lL dG (List.length (pvo m (↑t : Int))) (lC dE [] (pvo m (↑t : Int)))))) ∧ List.length (oget (txs (↑(List.length l) : Int) (↑t : Int) (List.getD l (Int.toNat (↑t : Int)) []) (pvo l (↑t : Int))) (clB l (↑t : Int) (List.getD m (Int.toNat (↑t : Int)) []) (lL dG (List.length (pvo m (↑t : Int))) (lC dE [] (pvo m (↑t : Int)))))) + (100 : Nat) ≤ lim ∧ OkB (oget (txs (↑(List.length l) : Int) (↑t : Int) (List.getD m (Int.toNat (↑t : Int)) []) (lL dG (List.length (pvo m (↑t : Int))) (lC dE [] (pvo m (↑t : Int))))) (clB l (↑t : Int) (List.getD m (Int.toNat (↑t : Int)) []) (lL dG (List.length (pvo m (↑t : Int))) (lC dE [] (pvo m (↑t : Int)))))) ∧ List.length (oget (txs (↑(List.length l) : Int) (↑t : Int) (List.getD m (Int.toNat (↑t : Int)) []) (lL dG (List.length (pvo m (↑t : Int))) (lC dE [] (pvo m (↑t : Int))))) (clB l (↑t : Int) (List.getD m (Int.toNat (↑t : Int)) []) (lL dG (List.length (pvo m (↑t : Int))) (lC dE [] (pvo m (↑t : Int)))))) + (100 : Nat) ≤ lim ∧ (sumB shaK (oget (txs (↑(List.length l) : Int) (↑t : Int) (List.getD l (Int.toNat (↑t : Int)) []) (pvo l (↑t : Int))) (clB l (↑t : Int) (List.getD m (Int.toNat (↑t : Int)) []) (lL dG (List.length (pvo m (↑t : Int))) (lC dE [] (pvo m (↑t : Int)))))) == sumB shaK (oget (txs (↑(List.length l) : Int) (↑t : Int) (List.getD m (Int.toNat (↑t : Int)) []) (lL dG (List.length (pvo m (↑t : Int))) (lC dE [] (pvo m (↑t : Int))))) (clB l (↑t : Int) (List.getD m (Int.toNat (↑t : Int)) []) (lL dG (List.length (pvo m (↑t : Int))) (lC dE [] (pvo m (↑t : Int))))))) = true ∧ True) (false = true ∧ True)) (false = true ∧ True))) (true = true ∧ True)))))) (by kernel_rfl) (by
    obtain ⟨ho, hf, hn, hoM, hfM, hnM, _⟩ := hp
    have hlim : lim = 68719476736 := rfl
    refine brI (fun _ => ⟨rfl, trivial⟩) (fun h1 => brI (fun _ => ⟨rfl, trivial⟩) (fun h2 => ?_))
    have h1 := of_decide_eq_false h1
    have h2 := of_decide_eq_false h2
    refine ⟨ho, hf, hn, hoM, hfM, hnM, brI (fun _ => ⟨rfl, trivial⟩) (fun hr => ?_)⟩
    have hr : rootB l = rootB m := by
      have hr : (!(rootB l == rootB m)) = false := hr
      simpa using hr
    refine brI (fun hl => ?_) (fun hl => ?_)
    · have hl : l.length ≠ m.length := by have := bne_iff_ne.1 hl; omega
      have e1 := listB_len (n := (l.length : Int)) (sumB_len shaK (mt l))
      have e2 := listB_len (n := (m.length : Int)) (sumB_len shaK (mt m))
      have ok1 : OkB (listB (l.length : Int) (sumB shaK (mt l))) := listB_ok (sumB_ok _)
      have ok2 : OkB (listB (m.length : Int) (sumB shaK (mt m))) := listB_ok (sumB_ok _)
      have ne : listB (l.length : Int) (sumB shaK (mt l)) ≠ listB (m.length : Int) (sumB shaK (mt m)) := fun e => hl (be8_inj hn hnM (listB_inj (sumB_len _ _) e).1)
      refine ⟨ho, hf, hn, by omega, by omega, sumB_len _ _, hoM, hfM, hnM, by omega, by omega, sumB_len _ _, ?_⟩
      rw [strOf_eq ok1 ok2, decide_eq_false ne]
      exact ⟨ok1, by omega, ok2, by omega, beq_iff_eq.2 hr, trivial⟩
    · have hl : l.length = m.length := by simp at hl; omega
      refine ⟨⟨0, rfl, rfl, rfl, ⟨Nat.zero_le _, hl, by omega, hr⟩, trivial⟩, fun t ht => brI (fun hc => ?_) (fun _ => ⟨rfl, trivial⟩)⟩
      have hc : t < l.length := by have := of_decide_eq_true hc; omega
      obtain ⟨a1, a2⟩ := getD_okB ho t
      obtain ⟨b1, b2⟩ := getD_okB hoM t
      rw [Int.toNat_natCast, lL_self dG_dE]
      refine ⟨by omega, by omega, ?_⟩
      rw [strOf_eq a1 b1]
      refine brI (fun _ => ⟨t + 1, rfl, rfl, by rw [wi _ (by omega) (by omega)]; rfl, ⟨by omega, hl, by omega, hr⟩, by omega, trivial⟩) (fun hne => ?_)
      have hne := of_decide_eq_false hne
      have v := ver_own (l := m) (i := t) (by omega) (by omega)
      rw [← hl, ← hr, Int.toNat_natCast] at v
      have hs := sound (fun L hL => by have := flat_mem hL; omega) (pvo_okD m t) v (by rw [Int.toNat_natCast]; exact hne)
      have oC := oget_ok (txs_ok (n := l.length) (i := (t : Int)) a1 (by omega) (pvo_okD l t)) (clB l t (m.getD t []) (pvo m t))
      have oD := oget_ok (txs_ok (n := l.length) (i := (t : Int)) b1 (by omega) (pvo_okD m t)) (clB l t (m.getD t []) (pvo m t))
      refine ⟨hoM, hfM, hnM, by omega, rfl, rfl, rfl, rfl, fun k hk => rfl, ho, hf, hn, b1, by omega, pvo_okD _ _, brI (fun _ => ?_) (fun h => by rw [hs] at h; cases h)⟩
      obtain ⟨c1, c2⟩ := cl_some hs
      rw [Int.toNat_natCast] at c1 c2
      rw [strOf_eq oC.1 oD.1, decide_eq_false c1]
      exact ⟨oC.1, oC.2, oD.1, oD.2, by rw [c2]; exact beq_self_eq_true _, trivial⟩))
end Go.Proofs.YtamlmlihfpkjaaaDoor
