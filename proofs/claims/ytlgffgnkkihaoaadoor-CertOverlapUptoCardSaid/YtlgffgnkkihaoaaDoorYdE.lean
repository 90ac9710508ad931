/- Certificates of votes: the document. -/
import Derived.Test.YtlgffgnkkihaoaaDoorYdD
namespace Go.Proofs.YtlgffgnkkihaoaaDoor
open Go.Dx Go.RowKit
set_option linter.unusedVariables false
set_option linter.unusedSimpArgs false
set_option maxRecDepth 100000
attribute [local irreducible] wpS
attribute [local irreducible] sumB joinB
theorem any_hit {p : VT → Bool} {l : List VT} {t : Nat} (h : t < l.length) (hp : p (l.getD t vtZ) = true) : l.any p = true := by
  rw [List.getD_eq_getElem?_getD, List.getElem?_eq_getElem h] at hp
  exact List.any_eq_true.2 ⟨_, List.getElem_mem h, hp⟩
theorem any_no {p : VT → Bool} {l : List VT} (h : ∀ j, j < l.length → p (l.getD j vtZ) = false) : l.any p = false := List.any_eq_false.2 fun x hx => by
  obtain ⟨j, hj, rfl⟩ := List.mem_iff_getElem.1 hx
  have := h j hj
  rw [List.getD_eq_getElem?_getD, List.getElem?_eq_getElem hj] at this
  have : p l[j] = false := this
  rw [this]; decide
/-- The signers rise. -/
def SW (S : List VT) : Prop := S.Pairwise fun x y => x.who < y.who
theorem sw_adj {S : List VT} (h : SW S) : adjA S = false := adj_no fun j hj => by
  unfold adjD
  by_cases h0 : 0 < j
  · have := List.pairwise_iff_getElem.1 h (j - 1) j (by omega) hj (by omega)
    rw [List.getD_eq_getElem?_getD, List.getD_eq_getElem?_getD, List.getElem?_eq_getElem hj, List.getElem?_eq_getElem (show j - 1 < S.length by omega)]
    rw [decide_eq_true h0, Bool.true_and]
    exact decide_eq_false fun e => by
      have e : S[j - 1].who = S[j].who := e
      omega
  · rw [decide_eq_false h0, Bool.false_and]
theorem adj_sw {S : List VT} (hs : KSrt wK S) (h : adjA S = false) : SW S := by
  have h1 : ∀ j, j < S.length → adjD S j = false := fun j hj => by
    have := List.any_eq_false.1 h j (List.mem_range.2 hj)
    simpa using this
  have nx : ∀ j, (hj : j + 1 < S.length) → S[j].who < S[j + 1].who := fun j hj => by
    have a1 := h1 (j + 1) hj
    unfold adjD at a1
    rw [decide_eq_true (Nat.succ_pos j), Bool.true_and, List.getD_eq_getElem?_getD, List.getD_eq_getElem?_getD, List.getElem?_eq_getElem hj, Nat.add_sub_cancel, List.getElem?_eq_getElem (show j < S.length by omega)] at a1
    have a2 : ¬ S[j].who = S[j + 1].who := of_decide_eq_false a1
    have a3 := List.pairwise_iff_getElem.1 hs j (j + 1) (by omega) hj (by omega)
    have a3 : S[j].who ≤ S[j + 1].who := a3
    omega
  refine List.pairwise_iff_getElem.2 fun i j hi hj hij => ?_
  have b1 := nx i (by omega)
  have b2 : S[i + 1].who ≤ S[j].who := by
    rcases Nat.lt_or_ge (i + 1) j with h2 | h2
    · exact List.pairwise_iff_getElem.1 hs (i + 1) j (by omega) hj h2
    · obtain rfl : j = i + 1 := by omega
      exact Int.le_refl _
  omega
theorem sw_one {S : List VT} (h : SW S) (k : Int) : (kf wK k S).length ≤ 1 := by
  have h1 : (kf wK k S).Pairwise fun x y => x.who < y.who := List.Pairwise.sublist List.filter_sublist h
  match hk : kf wK k S, h1 with
  | [], _ => simp
  | [_], _ => simp
  | x :: y :: r, h1 =>
    exfalso
    have a1 := (List.pairwise_cons.1 h1).1 y (by simp)
    have a2 : x ∈ kf wK k S := by rw [hk]; simp
    have a3 : y ∈ kf wK k S := by rw [hk]; simp
    have a2 : x.who = k := (kf_mem.1 a2).2
    have a3 : y.who = k := (kf_mem.1 a3).2
    omega
theorem dup_adj {l : List VT} {i : Nat} {y : VT} (hi : i < l.length) (hy : y ∈ l.take i) (he : y.who = (l.getD i vtZ).who) : adjA (stb wK l) = true := by
  cases h : adjA (stb wK l) with
  | true => rfl
  | false =>
    exfalso
    have h1 := sw_one (adj_sw (stb_srt l) h) y.who
    rw [stb_same l] at h1
    have e : l = l.take i ++ (l.getD i vtZ :: l.drop (i + 1)) := by
      rw [List.getD_eq_getElem?_getD, List.getElem?_eq_getElem hi]
      show l = l.take i ++ (l[i] :: l.drop (i + 1))
      rw [← List.drop_eq_getElem_cons hi, List.take_append_drop]
    rw [e, kf_app, List.length_append] at h1
    have g1 : 0 < (kf wK y.who (l.take i)).length := List.length_pos_of_mem (kf_mem.2 ⟨hy, rfl⟩)
    have g2 : 0 < (kf wK y.who (l.getD i vtZ :: l.drop (i + 1))).length := List.length_pos_of_mem (kf_mem.2 ⟨List.mem_cons_self .., he.symm⟩)
    omega
theorem sw_ins {P Q : List VT} {x : VT} (h : SW (P ++ Q)) (hP : ∀ y ∈ P, y.who < x.who) (hQ : ∀ y ∈ Q, x.who < y.who) : SW (P ++ x :: Q) := by
  obtain ⟨h1, h2, h3⟩ := List.pairwise_append.1 h
  refine List.pairwise_append.2 ⟨h1, List.pairwise_cons.2 ⟨hQ, h2⟩, fun a ha b hb => ?_⟩
  rcases List.mem_cons.1 hb with rfl | hb
  · exact hP a ha
  · exact h3 a ha b hb
theorem ins_next {l : List VT} {i a : Nat} (hi : i < l.length) (hP : ∀ y ∈ (stb wK (l.take i)).take a, y.who ≤ (l.getD i vtZ).who) (hQ : ∀ y ∈ (stb wK (l.take i)).drop a, (l.getD i vtZ).who < y.who) :
    (stb wK (l.take i)).take a ++ l.getD i vtZ :: (stb wK (l.take i)).drop a = stb wK (l.take (i + 1)) := by
  rw [take_one hi]
  exact stb_snoc (List.take_append_drop _ _).symm hP hQ
/-- Up to the one at a place, all that stand ahead are not above it. -/
theorem srt_take {S : List VT} {a : Nat} {k : Int} (hs : KSrt wK S) (ha : 0 < a) (hl : a ≤ S.length) (h : (S.getD (a - 1) vtZ).who ≤ k) : ∀ y ∈ S.take a, y.who ≤ k := fun y hy => by
  obtain ⟨j, hj, rfl⟩ := List.mem_iff_getElem.1 hy
  rw [List.length_take] at hj
  rw [List.getElem_take]
  rw [List.getD_eq_getElem?_getD, List.getElem?_eq_getElem (show a - 1 < S.length by omega)] at h
  have h : S[a - 1].who ≤ k := h
  rcases Nat.lt_or_ge j (a - 1) with h2 | h2
  · have : S[j].who ≤ S[a - 1].who := List.pairwise_iff_getElem.1 hs j (a - 1) (by omega) (by omega) h2
    omega
  · have : j = a - 1 := by omega
    subst this; exact h
theorem wGet {S : List VT} {j : Nat} (h : j < S.length) : (S.map VT.who).getD j 0 = (S.getD j vtZ).who := by
  rw [List.getD_eq_getElem?_getD, List.getD_eq_getElem?_getD, List.getElem?_map, List.getElem?_eq_getElem h]; rfl
theorem clInts (k : IntKind) (L : List Int) : Cont.len (.ints k L) = L.length := rfl
theorem catF_lt {n i : Nat} {c c' : Nat → List DC} (h : i < n) : catF n c c' i = c i := by
  unfold catF; rw [show Nat.blt i n = true from Nat.ble_eq_true_of_le h]
theorem catF_ge {n i : Nat} {c c' : Nat → List DC} (h : n ≤ i) : catF n c c' i = c' (i - n) := by
  unfold catF
  cases hb : Nat.blt i n with
  | false => rfl
  | true => have : i + 1 ≤ n := Nat.le_of_ble_eq_true hb; omega
theorem ins_cells {S : List SI} {a : Nat} {x : SI} (ha : a ≤ S.length) : ∀ i, i < S.length + 1 → catF (a + 1) (catF a (catF 0 (fun i => (List.getD ([] : List (List DC)) i [])) (lC siE siZ S)) (fun i => [siE x].getD i [])) (fun i => lC siE siZ S (a + i)) i = lC siE siZ (S.take a ++ x :: S.drop a) i := fun i hi => by
  have hl : (S.take a).length = a := by rw [List.length_take]; omega
  by_cases h1 : i < a
  · rw [catF_lt (by omega), catF_lt h1, catF_ge (Nat.zero_le _)]
    unfold lC
    rw [List.getD_eq_getElem?_getD, List.getD_eq_getElem?_getD, List.getElem?_append_left (by omega), List.getElem?_take, if_pos h1]; rfl
  · by_cases h2 : i = a
    · subst h2
      rw [catF_lt (by omega), catF_ge (Nat.le_refl _)]
      unfold lC
      rw [Nat.sub_self, List.getD_eq_getElem?_getD (l := _ ++ _), List.getElem?_append_right (by omega), hl, Nat.sub_self]; rfl
    · rw [catF_ge (by omega)]
      unfold lC
      rw [List.getD_eq_getElem?_getD, List.getD_eq_getElem?_getD, List.getElem?_append_right (by omega), hl]
      obtain ⟨t, e⟩ : ∃ t, i = a + 1 + t := ⟨i - (a + 1), by omega⟩
      subst e
      rw [show a + 1 + t - a = t + 1 by omega, List.getElem?_cons_succ, List.getElem?_drop, show a + 1 + t - (a + 1) = t by omega]
noncomputable def anR06Make (l : List VT) : Nat → List Nat → List Ann := fun bk_ gs_ => match bk_, gs_ with
    | 0, _ => [{ τ := Nat, t0 := (default : Nat), J := fun i => i ≤ l.length ∧ ∀ j, j < i → ((l.getD j vtZ).ch != (l.getD 0 vtZ).ch) = false, m := fun i => l.length - i, l := fun i => [(0, .s (.a (.d (.sl 69 l.length (lC vtE vtZ l))))), (2, .s (.a (.lp 202 0))), (3, eI .i64 0), (4, eI .i64 (i : Int))], H := fun i => [(202, .cells [.one (.d (.v (.int .i64 0))), .one (.d (.v (.int .i64 0))), .one (.d (.v (.int .i64 0))), .ints .u8 32 (List.replicate 32 0), .one (.d (.v (.slice none 0 0))), .one (.d (.v (.slice none 0 0)))] 31)] }]
    | 2, _ => [{ τ := Nat, t0 := (default : Nat), J := fun i => i ≤ l.length ∧ ∀ j, j < i → ((l.getD j vtZ).ep != (l.getD 0 vtZ).ep) = false, m := fun i => l.length - i, l := fun i => [(0, .s (.a (.d (.sl 69 l.length (lC vtE vtZ l))))), (2, .s (.a (.lp 202 0))), (3, eI .i64 0), (5, eI .i64 (i : Int))], H := fun i => [(202, .cells [.one (.d (.v (.int .i64 0))), .one (.d (.v (.int .i64 0))), .one (.d (.v (.int .i64 0))), .ints .u8 32 (List.replicate 32 0), .one (.d (.v (.slice none 0 0))), .one (.d (.v (.slice none 0 0)))] 31)] }]
    | 4, _ => [{ τ := Nat, t0 := (default : Nat), J := fun i => i ≤ l.length ∧ ∀ j, j < i → ((l.getD j vtZ).vw != (l.getD 0 vtZ).vw) = false, m := fun i => l.length - i, l := fun i => [(0, .s (.a (.d (.sl 69 l.length (lC vtE vtZ l))))), (2, .s (.a (.lp 202 0))), (3, eI .i64 0), (6, eI .i64 (i : Int))], H := fun i => [(202, .cells [.one (.d (.v (.int .i64 0))), .one (.d (.v (.int .i64 0))), .one (.d (.v (.int .i64 0))), .ints .u8 32 (List.replicate 32 0), .one (.d (.v (.slice none 0 0))), .one (.d (.v (.slice none 0 0)))] 31)] }]
    | 6, _ => [{ τ := Nat, t0 := (default : Nat), J := fun i => i ≤ l.length ∧ ∀ j, j < i → ((l.getD j vtZ).blk != (l.getD 0 vtZ).blk) = false, m := fun i => l.length - i, l := fun i => [(0, .s (.a (.d (.sl 69 l.length (lC vtE vtZ l))))), (2, .s (.a (.lp 202 0))), (3, eI .i64 0), (7, eI .i64 (i : Int))], H := fun i => [(202, .cells [.one (.d (.v (.int .i64 0))), .one (.d (.v (.int .i64 0))), .one (.d (.v (.int .i64 0))), .ints .u8 32 (List.replicate 32 0), .one (.d (.v (.slice none 0 0))), .one (.d (.v (.slice none 0 0)))] 31)] }]
    | 8, _ => [{ τ := Nat, t0 := (default : Nat), J := fun i => i ≤ l.length ∧ SW (stb wK (l.take i)), m := fun i => l.length - i, l := fun i => [(0, .s (.a (.d (.sl 69 l.length (lC vtE vtZ l))))), (2, .s (.a (.lp 202 0))), (3, eI .i64 0), (8, .s (.a (.lp 208 0))), (9, eI .i64 (i : Int))], H := fun i => [(202, .cells [.one (.d (.v (.int .i64 0))), .one (.d (.v (.int .i64 0))), .one (.d (.v (.int .i64 0))), .ints .u8 32 (List.replicate 32 0), .one (.d (.v (.slice none 0 0))), .one (.d (.v (.slice none 0 0)))] 31), (208, .cells [.one (.d (.v (.int .i64 (l.getD 0 vtZ).ch))), .one (.d (.v (.int .i64 (l.getD 0 vtZ).ep))), .one (.d (.v (.int .i64 (l.getD 0 vtZ).vw))), .ints .u8 32 (l.getD 0 vtZ).blk, .one (.rw 209), .one (.rw 210)] 31), (209, .row (.ints .i64 ((stb wK (l.take i)).map VT.who)) 3), (210, .row (.st 33 ((stb wK (l.take i)).map VT.sig).length (lC siE siZ ((stb wK (l.take i)).map VT.sig))) 47)] }]
    | 10, m :: _ => [{ τ := Nat, t0 := (default : Nat), J := fun a => a ≤ (l.length - m) ∧ (∀ y ∈ (stb wK (l.take (l.length - m))).drop a, (l.getD (l.length - m) vtZ).who < y.who), m := fun a => a, l := fun a => [(0, .s (.a (.d (.sl 69 l.length (lC vtE vtZ l))))), (2, .s (.a (.lp 202 0))), (3, eI .i64 0), (8, .s (.a (.lp 208 0))), (9, eI .i64 ((l.length - m : Nat) : Int)), (10, eI .i64 (a : Int))], H := fun a => [(202, .cells [.one (.d (.v (.int .i64 0))), .one (.d (.v (.int .i64 0))), .one (.d (.v (.int .i64 0))), .ints .u8 32 (List.replicate 32 0), .one (.d (.v (.slice none 0 0))), .one (.d (.v (.slice none 0 0)))] 31), (208, .cells [.one (.d (.v (.int .i64 (l.getD 0 vtZ).ch))), .one (.d (.v (.int .i64 (l.getD 0 vtZ).ep))), .one (.d (.v (.int .i64 (l.getD 0 vtZ).vw))), .ints .u8 32 (l.getD 0 vtZ).blk, .one (.rw 209), .one (.rw 210)] 31), (209, .row (.ints .i64 ((stb wK (l.take (l.length - m))).map VT.who)) 3), (210, .row (.st 33 ((stb wK (l.take (l.length - m))).map VT.sig).length (lC siE siZ ((stb wK (l.take (l.length - m))).map VT.sig))) 47)] }]
    | 1030, m :: _ => [{ τ := Nat, t0 := (default : Nat), J := fun a => a ≤ (l.length - m) ∧ (∀ y ∈ (stb wK (l.take (l.length - m))).drop a, (l.getD (l.length - m) vtZ).who < y.who) ∧ (∀ y ∈ (stb wK (l.take (l.length - m))).take a, y.who ≤ (l.getD (l.length - m) vtZ).who), m := fun a => a, l := fun a => [(0, .s (.a (.d (.sl 69 l.length (lC vtE vtZ l))))), (2, .s (.a (.lp 202 0))), (3, eI .i64 0), (8, .s (.a (.lp 208 0))), (9, eI .i64 ((l.length - m : Nat) : Int)), (10, eI .i64 (a : Int))], H := fun a => [(202, .cells [.one (.d (.v (.int .i64 0))), .one (.d (.v (.int .i64 0))), .one (.d (.v (.int .i64 0))), .ints .u8 32 (List.replicate 32 0), .one (.d (.v (.slice none 0 0))), .one (.d (.v (.slice none 0 0)))] 31), (208, .cells [.one (.d (.v (.int .i64 (l.getD 0 vtZ).ch))), .one (.d (.v (.int .i64 (l.getD 0 vtZ).ep))), .one (.d (.v (.int .i64 (l.getD 0 vtZ).vw))), .ints .u8 32 (l.getD 0 vtZ).blk, .one (.rw 209), .one (.rw 210)] 31), (209, .row (.ints .i64 ((stb wK (l.take (l.length - m))).map VT.who)) 3), (210, .row (.st 33 ((stb wK (l.take (l.length - m))).map VT.sig).length (lC siE siZ ((stb wK (l.take (l.length - m))).map VT.sig))) 47)] }]
    | 1032, m :: _ => [{ τ := Nat, t0 := (default : Nat), J := fun a => a ≤ (l.length - m) ∧ (∀ y ∈ (stb wK (l.take (l.length - m))).drop a, (l.getD (l.length - m) vtZ).who < y.who) ∧ (∀ y ∈ (stb wK (l.take (l.length - m))).take a, y.who < (l.getD (l.length - m) vtZ).who), m := fun a => a, l := fun a => [(0, .s (.a (.d (.sl 69 l.length (lC vtE vtZ l))))), (2, .s (.a (.lp 202 0))), (3, eI .i64 0), (8, .s (.a (.lp 208 0))), (9, eI .i64 ((l.length - m : Nat) : Int)), (10, eI .i64 (a : Int))], H := fun a => [(202, .cells [.one (.d (.v (.int .i64 0))), .one (.d (.v (.int .i64 0))), .one (.d (.v (.int .i64 0))), .ints .u8 32 (List.replicate 32 0), .one (.d (.v (.slice none 0 0))), .one (.d (.v (.slice none 0 0)))] 31), (208, .cells [.one (.d (.v (.int .i64 (l.getD 0 vtZ).ch))), .one (.d (.v (.int .i64 (l.getD 0 vtZ).ep))), .one (.d (.v (.int .i64 (l.getD 0 vtZ).vw))), .ints .u8 32 (l.getD 0 vtZ).blk, .one (.rw 209), .one (.rw 210)] 31), (209, .row (.ints .i64 ((stb wK (l.take (l.length - m))).map VT.who)) 3), (210, .row (.st 33 ((stb wK (l.take (l.length - m))).map VT.sig).length (lC siE siZ ((stb wK (l.take (l.length - m))).map VT.sig))) 47)] }]
    | _, _ => []
theorem okR06Make (l : List VT) (hp : allP [l.length < 1073741824]) : CallsOk Tryd.prog Gs 15 [.a (.d (.sl 69 l.length (lC vtE vtZ l)))] [] (.t [.agg [.one (.d (.v (.int .i64 (mkQ l).ch))), .one (.d (.v (.int .i64 (mkQ l).ep))), .one (.d (.v (.int .i64 (mkQ l).vw))), .ints .u8 32 (mkQ l).blk, .one (.rw 0), .one (.rw 1)], .a (.d (.v (.int .i64 (mkE l))))]) [(0, .row (.ints .i64 (mkQ l).who) 3), (1, .row (.st 33 (mkQ l).sigs.length (lC siE siZ (mkQ l).sigs)) 47)] :=
  ok_of (ann := anR06Make l) ctok_certMake mixed Tryd.func15 (by kernel_rfl) (of_nf (p := let l7 := (List.getD l (Int.toNat (0 : Int)) vtZ); let l3 := (↑(List.length l) : Int); let l6 := ((0 : Int) ≤ (0 : Int) ∧ (0 : Int) < l3); let l1 := (List.getD l (0 : Nat) vtZ); brP (decide (l3 < (3 : Int))) ((0 : Int) = QC.ch (mkQ l) ∧ (0 : Int) = QC.ep (mkQ l) ∧ (0 : Int) = QC.vw (mkQ l) ∧ List.replicate (32 : Nat) (0 : Int) = QC.blk (mkQ l) ∧ (15 : Int) = mkE l ∧ [] = QC.who (mkQ l) ∧ (0 : Nat) = List.length (QC.sigs (mkQ l)) ∧ (∀ (i : Nat), i < List.length (QC.sigs (mkQ l)) → lC siE siZ (QC.sigs (mkQ l)) i = lC siE siZ (QC.sigs (mkQ l)) i) ∧ True) ((∃ (t : Nat), List.length l = List.length l ∧ (∀ (i : Nat), i < List.length l → lC vtE vtZ l i = lC vtE vtZ l i) ∧ (0 : Int) = (0 : Int) ∧ (0 : Int) = (↑t : Int) ∧ (0 : Int) = (0 : Int) ∧ (0 : Int) = (0 : Int) ∧ (0 : Int) = (0 : Int) ∧ List.replicate (32 : Nat) (0 : Int) = List.replicate (32 : Nat) (0 : Int) ∧ (t ≤ List.length l ∧ ∀ (j : Nat), j < t → (VT.ch (List.getD l j vtZ) != VT.ch l1) = false) ∧ True) ∧ ∀ (t : Nat), (t ≤ List.length l ∧ ∀ (j : Nat), j < t → (VT.ch (List.getD l j vtZ) != VT.ch l1) = false) → brP (decide ((↑t : Int) < l3)) (((0 : Int) ≤ (↑t : Int) ∧ (↑t : Int) < l3) ∧ l6 ∧ brP (VT.ch (List.getD l (Int.toNat (↑t : Int)) vtZ) != VT.ch l7) ((0 : Int) = QC.ch (mkQ l) ∧ (0 : Int) = QC.ep (mkQ l) ∧ (0 : Int) = QC.vw (mkQ l) ∧ List.replicate (32 : Nat) (0 : Int) = QC.blk (mkQ l) ∧ (9 : Int) = mkE l ∧ [] = QC.who (mkQ l) ∧ (0 : Nat) = List.length (QC.sigs (mkQ l)) ∧ (∀ (i : Nat), i < List.length (QC.sigs (mkQ l)) → lC siE siZ (QC.sigs (mkQ l)) i = lC siE siZ (QC.sigs (mkQ l)) i) ∧ True) (∃ (t_1 : Nat), List.length l = List.length l ∧ (∀ (i : Nat), i < List.length l → lC vtE vtZ l i = lC vtE vtZ l i) ∧ (0 : Int) = (0 : Int) ∧ IntKind.wrap IntKind.i64 ((↑t : Int) + (1 : Int)) = (↑t_1 : Int) ∧ (0 : Int) = (0 : Int) ∧ (0 : Int) = (0 : Int) ∧ (0 : Int) = (0 : Int) ∧ List.replicate (32 : Nat) (0 : Int) = List.replicate (32 : Nat) (0 : Int) ∧ (t_1 ≤ List.length l ∧ ∀ (j : Nat), j < t_1 → (VT.ch (List.getD l j vtZ) != VT.ch l1) = false) ∧ List.length l - t_1 < List.length l - t ∧ True)) ((∃ (t : Nat), List.length l = List.length l ∧ (∀ (i : Nat), i < List.length l → lC vtE vtZ l i = lC vtE vtZ l i) ∧ (0 : Int) = (0 : Int) ∧ (0 : Int) = (↑t : Int) ∧ (0 : Int) = (0 : Int) ∧ (0 : Int) = (0 : Int) ∧ (0 : Int) = (0 : Int) ∧ List.replicate (32 : Nat) (0 : Int) = List.replicate (32 : Nat) (0 : Int) ∧ (t ≤ List.length l ∧ ∀ (j : Nat), j < t → (VT.ep (List.getD l j vtZ) != VT.ep l1) = false) ∧ True) ∧ ∀ (t : Nat), (t ≤ List.length l ∧ ∀ (j : Nat), j < t → (VT.ep (List.getD l j vtZ) != VT.ep l1) = false) → brP (decide ((↑t : Int) < l3)) (((0 : Int) ≤ (↑t : Int) ∧ (↑t : Int) < l3) ∧ l6 ∧ brP (VT.ep (List.getD l (Int.toNat (↑t : Int)) vtZ) != VT.ep l7) ((0 : Int) = QC.ch (mkQ l) ∧ (0 : Int) = QC.ep (mkQ l) ∧ (0 : Int) = QC.vw (mkQ l) ∧ List.replicate (32 : Nat) (0 : Int) = QC.blk (mkQ l) ∧ (10 : Int) = mkE l ∧ [] = QC.who (mkQ l) ∧ (0 : Nat) = List.length (QC.sigs (mkQ l)) ∧ (∀ (i : Nat), i < List.length (QC.sigs (mkQ l)) → lC siE siZ (QC.sigs (mkQ l)) i = lC siE siZ (QC.sigs (mkQ l)) i) ∧ True) (∃ (t_1 : Nat), List.length l = List.length l ∧ (∀ (i : Nat), i < List.length l → lC vtE vtZ l i = lC vtE vtZ l i) ∧ (0 : Int) = (0 : Int) ∧ IntKind.wrap IntKind.i64 ((↑t : Int) + (1 : Int)) = (↑t_1 : Int) ∧ (0 : Int) = (0 : Int) ∧ (0 : Int) = (0 : Int) ∧ (0 : Int) = (0 : Int) ∧ List.replicate (32 : Nat) (0 : Int) = List.replicate (32 : Nat) (0 : Int) ∧ (t_1 ≤ List.length l ∧ ∀ (j : Nat), j < t_1 → (VT.ep (List.getD l j vtZ) != VT.ep l1) = false) ∧ List.length l - t_1 < List.length l - t ∧ True)) ((∃ (t : Nat), List.length l = List.length l ∧ (∀ (i : Nat), i < List.length l → lC vtE vtZ l i = lC vtE vtZ l i) ∧ (0 : Int) = (0 : Int) ∧ (0 : Int) = (↑t : Int) ∧ (0 : Int) = (0 : Int) ∧ (0 : Int) = (0 : Int) ∧ (0 : Int) = (0 : Int) ∧ List.replicate (32 : Nat) (0 : Int) = List.replicate (32 : Nat) (0 : Int) ∧ (t ≤ List.length l ∧ ∀ (j : Nat), j < t → (VT.vw (List.getD l j vtZ) != VT.vw l1) = false) ∧ True) ∧ ∀ (t : Nat), (t ≤ List.length l ∧ ∀ (j : Nat), j < t → (VT.vw (List.getD l j vtZ) != VT.vw l1) = false) → brP (decide ((↑t : Int) < l3)) (((0 : Int) ≤ (↑t : Int) ∧ (↑t : Int) < l3) ∧ l6 ∧ brP (VT.vw (List.getD l (Int.toNat (↑t : Int)) vtZ) != VT.vw l7) ((0 : Int) = QC.ch (mkQ l) ∧ (0 : Int) = QC.ep (mkQ l) ∧ (0 : Int) = QC.vw (mkQ l) ∧ List.replicate (32 : Nat) (0 : Int) = QC.blk (mkQ l) ∧ (11 : Int) = mkE l ∧ [] = QC.who (mkQ l) ∧ (0 : Nat) = List.length (QC.sigs (mkQ l)) ∧ (∀ (i : Nat), i < List.length (QC.sigs (mkQ l)) → lC siE siZ (QC.sigs (mkQ l)) i = lC siE siZ (QC.sigs (mkQ l)) i) ∧ True) (∃ (t_1 : Nat), List.length l = List.length l ∧ (∀ (i : Nat), i < List.length l → lC vtE vtZ l i = lC vtE vtZ l i) ∧ (0 : Int) = (0 : Int) ∧ IntKind.wrap IntKind.i64 ((↑t : Int) + (1 : Int)) = (↑t_1 : Int) ∧ (0 : Int) = (0 : Int) ∧ (0 : Int) = (0 : Int) ∧ (0 : Int) = (0 : Int) ∧ List.replicate (32 : Nat) (0 : Int) = List.replicate (32 : Nat) (0 : Int) ∧ (t_1 ≤ List.length l ∧ ∀ (j : Nat), j < t_1 → (VT.vw (List.getD l j vtZ) != VT.vw l1) = false) ∧ List.length l - t_1 < List.length l - t ∧ True)) ((∃ (t : Nat), List.length l = List.length l ∧ (∀ (i : Nat), i < List.length l → lC vtE vtZ l i = lC vtE vtZ l i) ∧ (0 : Int) = (0 : Int) ∧ (0 : Int) = (↑t : Int) ∧ (0 : Int) = (0 : Int) ∧ (0 : Int) = (0 : Int) ∧ (0 : Int) = (0 : Int) ∧ List.replicate (32 : Nat) (0 : Int) = List.replicate (32 : Nat) (0 : Int) ∧ (t ≤ List.length l ∧ ∀ (j : Nat), j < t → (VT.blk (List.getD l j vtZ) != VT.blk l1) = false) ∧ True) ∧ ∀ (t : Nat), (t ≤ List.length l ∧ ∀ (j : Nat), j < t → (VT.blk (List.getD l j vtZ) != VT.blk l1) = false) → brP (decide ((↑t : Int) < l3)) (((0 : Int) ≤ (↑t : Int) ∧ (↑t : Int) < l3) ∧ l6 ∧ brP (!VT.blk (List.getD l (Int.toNat (↑t : Int)) vtZ) == VT.blk l7) ((0 : Int) = QC.ch (mkQ l) ∧ (0 : Int) = QC.ep (mkQ l) ∧ (0 : Int) = QC.vw (mkQ l) ∧ List.replicate (32 : Nat) (0 : Int) = QC.blk (mkQ l) ∧ (13 : Int) = mkE l ∧ [] = QC.who (mkQ l) ∧ (0 : Nat) = List.length (QC.sigs (mkQ l)) ∧ (∀ (i : Nat), i < List.length (QC.sigs (mkQ l)) → lC siE siZ (QC.sigs (mkQ l)) i = lC siE siZ (QC.sigs (mkQ l)) i) ∧ True) (∃ (t_1 : Nat), List.length l = List.length l ∧ (∀ (i : Nat), i < List.length l → lC vtE vtZ l i = lC vtE vtZ l i) ∧ (0 : Int) = (0 : Int) ∧ IntKind.wrap IntKind.i64 ((↑t : Int) + (1 : Int)) = (↑t_1 : Int) ∧ (0 : Int) = (0 : Int) ∧ (0 : Int) = (0 : Int) ∧ (0 : Int) = (0 : Int) ∧ List.replicate (32 : Nat) (0 : Int) = List.replicate (32 : Nat) (0 : Int) ∧ (t_1 ≤ List.length l ∧ ∀ (j : Nat), j < t_1 → (VT.blk (List.getD l j vtZ) != VT.blk l1) = false) ∧ List.length l - t_1 < List.length l - t ∧ True)) (l6 ∧ l6 ∧ l6 ∧ l6 ∧ (∃ (t : Nat), let l11 := (List.map VT.sig (stb wK (List.take t l))); List.length l = List.length l ∧ (∀ (i : Nat), i < List.length l → lC vtE vtZ l i = lC vtE vtZ l i) ∧ (0 : Int) = (0 : Int) ∧ (0 : Int) = (↑t : Int) ∧ (0 : Int) = (0 : Int) ∧ (0 : Int) = (0 : Int) ∧ (0 : Int) = (0 : Int) ∧ List.replicate (32 : Nat) (0 : Int) = List.replicate (32 : Nat) (0 : Int) ∧ VT.ch l7 = VT.ch l1 ∧ VT.ep l7 = VT.ep l1 ∧ VT.vw l7 = VT.vw l1 ∧ VT.blk l7 = VT.blk l1 ∧ [] = List.map VT.who (stb wK (List.take t l)) ∧ (0 : Nat) = List.length l11 ∧ (∀ (i : Nat), i < List.length l11 → lC siE siZ l11 i = lC siE siZ l11 i) ∧ (t ≤ List.length l ∧ SW (stb wK (List.take t l))) ∧ True) ∧ ∀ (t : Nat), let l9 := (stb wK (List.take t l)); let l2 := (List.length l - (List.length l - t)); let l10 := ((0 : Int) ≤ (↑l2 : Int) ∧ (↑l2 : Int) < l3); let l8 := (List.getD l (Int.toNat (↑l2 : Int)) vtZ); let l0 := (stb wK (List.take l2 l)); let l15 := (↑(Cont.len (Cont.ints IntKind.i64 (List.map VT.who l0))) : Int); let l5 := (List.length (List.map VT.sig l0)); t ≤ List.length l ∧ SW l9 → brP (decide ((↑t : Int) < l3)) (((∃ (t_1 : Nat), List.length l = List.length l ∧ (∀ (i : Nat), i < List.length l → lC vtE vtZ l i = lC vtE vtZ l i) ∧ (0 : Int) = (0 : Int) ∧ (↑t : Int) = (↑l2 : Int) ∧ (↑(Cont.len (Cont.ints IntKind.i64 (List.map VT.who l9))) : Int) = (↑t_1 : Int) ∧ (0 : Int) = (0 : Int) ∧ (0 : Int) = (0 : Int) ∧ (0 : Int) = (0 : Int) ∧ List.replicate (32 : Nat) (0 : Int) = List.replicate (32 : Nat) (0 : Int) ∧ VT.ch l1 = VT.ch l1 ∧ VT.ep l1 = VT.ep l1 ∧ VT.vw l1 = VT.vw l1 ∧ VT.blk l1 = VT.blk l1 ∧ List.map VT.who l9 = List.map VT.who l0 ∧ List.length (List.map VT.sig l9) = List.length (List.map VT.sig l0) ∧ (∀ (i : Nat), i < List.length (List.map VT.sig l0) → lC siE siZ (List.map VT.sig l9) i = lC siE siZ (List.map VT.sig l0) i) ∧ (t_1 ≤ List.length l - (List.length l - t) ∧ ∀ (y : VT), y ∈ List.drop t_1 l0 → VT.who (List.getD l l2 vtZ) < VT.who y) ∧ True) ∧ ∀ (t_1 : Nat), let l14 := ((↑t_1 : Int) - (1 : Int)); (t_1 ≤ List.length l - (List.length l - t) ∧ ∀ (y : VT), y ∈ List.drop t_1 l0 → VT.who (List.getD l l2 vtZ) < VT.who y) → brP (decide ((↑t_1 : Int) > (0 : Int))) (((0 : Int) ≤ IntKind.wrap IntKind.i64 l14 ∧ IntKind.wrap IntKind.i64 l14 < l15) ∧ l10 ∧ brP (decide (List.getD (List.map VT.who l0) (Int.toNat (IntKind.wrap IntKind.i64 l14)) (0 : Int) > VT.who l8)) (∃ (t_2 : Nat), List.length l = List.length l ∧ (∀ (i : Nat), i < List.length l → lC vtE vtZ l i = lC vtE vtZ l i) ∧ (0 : Int) = (0 : Int) ∧ (↑l2 : Int) = (↑l2 : Int) ∧ IntKind.wrap IntKind.i64 l14 = (↑t_2 : Int) ∧ (0 : Int) = (0 : Int) ∧ (0 : Int) = (0 : Int) ∧ (0 : Int) = (0 : Int) ∧ List.replicate (32 : Nat) (0 : Int) = List.replicate (32 : Nat) (0 : Int) ∧ VT.ch l1 = VT.ch l1 ∧ VT.ep l1 = VT.ep l1 ∧ VT.vw l1 = VT.vw l1 ∧ VT.blk l1 = VT.blk l1 ∧ List.map VT.who l0 = List.map VT.who l0 ∧ List.length (List.map VT.sig l0) = List.length (List.map VT.sig l0) ∧ (∀ (i : Nat), i < List.length (List.map VT.sig l0) → lC siE siZ (List.map VT.sig l0) i = lC siE siZ (List.map VT.sig l0) i) ∧ (t_2 ≤ List.length l - (List.length l - t) ∧ ∀ (y : VT), y ∈ List.drop t_2 l0 → VT.who (List.getD l l2 vtZ) < VT.who y) ∧ t_2 < t_1 ∧ True) (∃ (t_2 : Nat), List.length l = List.length l ∧ (∀ (i : Nat), i < List.length l → lC vtE vtZ l i = lC vtE vtZ l i) ∧ (0 : Int) = (0 : Int) ∧ (↑l2 : Int) = (↑l2 : Int) ∧ (↑t_1 : Int) = (↑t_2 : Int) ∧ (0 : Int) = (0 : Int) ∧ (0 : Int) = (0 : Int) ∧ (0 : Int) = (0 : Int) ∧ List.replicate (32 : Nat) (0 : Int) = List.replicate (32 : Nat) (0 : Int) ∧ VT.ch l1 = VT.ch l1 ∧ VT.ep l1 = VT.ep l1 ∧ VT.vw l1 = VT.vw l1 ∧ VT.blk l1 = VT.blk l1 ∧ List.map VT.who l0 = List.map VT.who l0 ∧ List.length (List.map VT.sig l0) = List.length (List.map VT.sig l0) ∧ (∀ (i : Nat), i < List.length (List.map VT.sig l0) → lC siE siZ (List.map VT.sig l0) i = lC siE siZ (List.map VT.sig l0) i) ∧ (t_2 ≤ List.length l - (List.length l - t) ∧ (∀ (y : VT), y ∈ List.drop t_2 l0 → VT.who (List.getD l l2 vtZ) < VT.who y) ∧ ∀ (y : VT), y ∈ List.take t_2 l0 → VT.who y ≤ VT.who (List.getD l l2 vtZ)) ∧ True)) (∃ (t_2 : Nat), List.length l = List.length l ∧ (∀ (i : Nat), i < List.length l → lC vtE vtZ l i = lC vtE vtZ l i) ∧ (0 : Int) = (0 : Int) ∧ (↑l2 : Int) = (↑l2 : Int) ∧ (↑t_1 : Int) = (↑t_2 : Int) ∧ (0 : Int) = (0 : Int) ∧ (0 : Int) = (0 : Int) ∧ (0 : Int) = (0 : Int) ∧ List.replicate (32 : Nat) (0 : Int) = List.replicate (32 : Nat) (0 : Int) ∧ VT.ch l1 = VT.ch l1 ∧ VT.ep l1 = VT.ep l1 ∧ VT.vw l1 = VT.vw l1 ∧ VT.blk l1 = VT.blk l1 ∧ List.map VT.who l0 = List.map VT.who l0 ∧ List.length (List.map VT.sig l0) = List.length (List.map VT.sig l0) ∧ (∀ (i : Nat), i < List.length (List.map VT.sig l0) → lC siE siZ (List.map VT.sig l0) i = lC siE siZ (List.map VT.sig l0) i) ∧ (t_2 ≤ List.length l - (List.length l - t) ∧ (∀ (y : VT), y ∈ List.drop t_2 l0 → VT.who (List.getD l l2 vtZ) < VT.who y) ∧ ∀ (y : VT), y ∈ List.take t_2 l0 → VT.who y ≤ VT.who (List.getD l l2 vtZ)) ∧ True)) ∧ ∀ (t_1 : Nat), let l17 := ((↑t_1 : Int) - (1 : Int)); (t_1 ≤ List.length l - (List.length l - t) ∧ (∀ (y : VT), y ∈ List.drop t_1 l0 → VT.who (List.getD l l2 vtZ) < VT.who y) ∧ ∀ (y : VT), y ∈ List.take t_1 l0 → VT.who y ≤ VT.who (List.getD l l2 vtZ)) → brP (decide ((↑t_1 : Int) > (0 : Int))) (((0 : Int) ≤ IntKind.wrap IntKind.i64 l17 ∧ IntKind.wrap IntKind.i64 l17 < l15) ∧ l10 ∧ brP (List.getD (List.map VT.who l0) (Int.toNat (IntKind.wrap IntKind.i64 l17)) (0 : Int) == VT.who l8) ((0 : Int) = QC.ch (mkQ l) ∧ (0 : Int) = QC.ep (mkQ l) ∧ (0 : Int) = QC.vw (mkQ l) ∧ List.replicate (32 : Nat) (0 : Int) = QC.blk (mkQ l) ∧ (14 : Int) = mkE l ∧ [] = QC.who (mkQ l) ∧ (0 : Nat) = List.length (QC.sigs (mkQ l)) ∧ (∀ (i : Nat), i < List.length (QC.sigs (mkQ l)) → lC siE siZ (QC.sigs (mkQ l)) i = lC siE siZ (QC.sigs (mkQ l)) i) ∧ True) (∃ (t_2 : Nat), List.length l = List.length l ∧ (∀ (i : Nat), i < List.length l → lC vtE vtZ l i = lC vtE vtZ l i) ∧ (0 : Int) = (0 : Int) ∧ (↑l2 : Int) = (↑l2 : Int) ∧ (↑t_1 : Int) = (↑t_2 : Int) ∧ (0 : Int) = (0 : Int) ∧ (0 : Int) = (0 : Int) ∧ (0 : Int) = (0 : Int) ∧ List.replicate (32 : Nat) (0 : Int) = List.replicate (32 : Nat) (0 : Int) ∧ VT.ch l1 = VT.ch l1 ∧ VT.ep l1 = VT.ep l1 ∧ VT.vw l1 = VT.vw l1 ∧ VT.blk l1 = VT.blk l1 ∧ List.map VT.who l0 = List.map VT.who l0 ∧ List.length (List.map VT.sig l0) = List.length (List.map VT.sig l0) ∧ (∀ (i : Nat), i < List.length (List.map VT.sig l0) → lC siE siZ (List.map VT.sig l0) i = lC siE siZ (List.map VT.sig l0) i) ∧ (t_2 ≤ List.length l - (List.length l - t) ∧ (∀ (y : VT), y ∈ List.drop t_2 l0 → VT.who (List.getD l l2 vtZ) < VT.who y) ∧ ∀ (y : VT), y ∈ List.take t_2 l0 → VT.who y < VT.who (List.getD l l2 vtZ)) ∧ True)) (∃ (t_2 : Nat), List.length l = List.length l ∧ (∀ (i : Nat), i < List.length l → lC vtE vtZ l i = lC vtE vtZ l i) ∧ (0 : Int) = (0 : Int) ∧ (↑l2 : Int) = (↑l2 : Int) ∧ (↑t_1 : Int) = (↑t_2 : Int) ∧ (0 : Int) = (0 : Int) ∧ (0 : Int) = (0 : Int) ∧ (0 : Int) = (0 : Int) ∧ List.replicate (32 : Nat) (0 : Int) = List.replicate (32 : Nat) (0 : Int) ∧ VT.ch l1 = VT.ch l1 ∧ VT.ep l1 = VT.ep l1 ∧ VT.vw l1 = VT.vw l1 ∧ VT.blk l1 = VT.blk l1 ∧ List.map VT.who l0 = List.map VT.who l0 ∧ List.length (List.map VT.sig l0) = List.length (List.map VT.sig l0) ∧ (∀ (i : Nat), i < List.length (List.map VT.sig l0) → lC siE siZ (List.map VT.sig l0) i = lC siE siZ (List.map VT.sig l0) i) ∧ (t_2 ≤ List.length l - (List.length l - t) ∧ (∀ (y : VT), y ∈ List.drop t_2 l0 → VT.who (List.getD l l2 vtZ) < VT.who y) ∧ ∀ (y : VT), y ∈ List.take t_2 l0 → VT.who y < VT.who (List.getD l l2 vtZ)) ∧ True) ∧ ∀ (t_2 : Nat), let l16 := ((0 : Int) ≤ (↑t_2 : Int) ∧ (↑t_2 : Int) ≤ (↑l5 : Int)); let l13 := ((0 : Int) ≤ (↑t_2 : Int) ∧ (↑t_2 : Int) ≤ (↑(List.length (List.map VT.who l0)) : Int)); let l4 := (some (IntKind.i64, (↑t_2 : Int))); (t_2 ≤ List.length l - (List.length l - t) ∧ (∀ (y : VT), y ∈ List.drop t_2 l0 → VT.who (List.getD l l2 vtZ) < VT.who y) ∧ ∀ (y : VT), y ∈ List.take t_2 l0 → VT.who y < VT.who (List.getD l l2 vtZ)) → l13 ∧ Cont.len (Cont.ints IntKind.i64 []) + Cont.len (Cont.ints IntKind.i64 (cutL (List.map VT.who l0) none l4)) ≤ lim ∧ l10 ∧ Cont.len (Cont.ints IntKind.i64 ([] ++ cutL (List.map VT.who l0) none l4)) + Cont.len (Cont.ints IntKind.i64 [VT.who l8]) ≤ lim ∧ l16 ∧ (0 : Nat) + (lenN l5 none l4) ≤ lim ∧ l10 ∧ ((0 : Nat) + lenN l5 none l4) + (1 : Nat) ≤ lim ∧ l13 ∧ Cont.len (Cont.ints IntKind.i64 ([] ++ cutL (List.map VT.who l0) none l4 ++ [VT.who l8])) + Cont.len (Cont.ints IntKind.i64 (cutL (List.map VT.who l0) l4 none)) ≤ lim ∧ l16 ∧ ((0 : Nat) + lenN l5 none l4 + (1 : Nat)) + (lenN l5 l4 none) ≤ lim ∧ ∃ (t_3 : Nat), let l12 := (stb wK (List.take t_3 l)); List.length l = List.length l ∧ (∀ (i : Nat), i < List.length l → lC vtE vtZ l i = lC vtE vtZ l i) ∧ (0 : Int) = (0 : Int) ∧ IntKind.wrap IntKind.i64 ((↑l2 : Int) + (1 : Int)) = (↑t_3 : Int) ∧ (0 : Int) = (0 : Int) ∧ (0 : Int) = (0 : Int) ∧ (0 : Int) = (0 : Int) ∧ List.replicate (32 : Nat) (0 : Int) = List.replicate (32 : Nat) (0 : Int) ∧ VT.ch l1 = VT.ch l1 ∧ VT.ep l1 = VT.ep l1 ∧ VT.vw l1 = VT.vw l1 ∧ VT.blk l1 = VT.blk l1 ∧ [] ++ cutL (List.map VT.who l0) none l4 ++ [VT.who l8] ++ cutL (List.map VT.who l0) l4 none = List.map VT.who l12 ∧ (0 : Nat) + lenN l5 none l4 + (1 : Nat) + lenN l5 l4 none = List.length (List.map VT.sig l12) ∧ (∀ (i : Nat), i < List.length (List.map VT.sig l12) → catF ((0 : Nat) + lenN l5 none l4 + (1 : Nat)) (catF ((0 : Nat) + lenN l5 none l4) (catF (0 : Nat) (fun (i : Nat) => (List.getD ([] : List (List DC)) i [])) (cutF (lC siE siZ (List.map VT.sig l0)) none)) fun (i : Nat) => List.getD [(siE (VT.sig l8))] i []) (cutF (lC siE siZ (List.map VT.sig l0)) l4) i = lC siE siZ (List.map VT.sig l12) i) ∧ (t_3 ≤ List.length l ∧ SW l12) ∧ List.length l - t_3 < List.length l - t ∧ True) (VT.ch l1 = QC.ch (mkQ l) ∧ VT.ep l1 = QC.ep (mkQ l) ∧ VT.vw l1 = QC.vw (mkQ l) ∧ VT.blk l1 = QC.blk (mkQ l) ∧ (0 : Int) = mkE l ∧ List.map VT.who l9 = QC.who (mkQ l) ∧ List.length (List.map VT.sig l9) = List.length (QC.sigs (mkQ l)) ∧ (∀ (i : Nat), i < List.length (QC.sigs (mkQ l)) → lC siE siZ (List.map VT.sig l9) i = lC siE siZ (QC.sigs (mkQ l)) i) ∧ True))))))) (by kernel_rfl) (by
    conv => zeta
    obtain ⟨hl, _⟩ := hp
    have hlim : lim = 68719476736 := rfl
    simp only [lL_self vtG_vtE, Int.toNat_natCast, true_and, and_true, implies_true, show Int.toNat 0 = 0 from rfl]
    refine brI (fun h0 => ?_) (fun h0 => ?_)
    · have h0 : l.length < 3 := by have := of_decide_eq_true h0; omega
      exact mk_err (e := 15) (by unfold mkE; rw [if_pos h0]) (by decide)
    have h0 : ¬ l.length < 3 := by have := of_decide_eq_false h0; omega
    refine ⟨⟨0, rfl, Nat.zero_le _, fun j hj => absurd hj (Nat.not_lt_zero j)⟩, fun t ht => ?_⟩
    obtain ⟨s1, s2⟩ := ht
    refine brI (fun hc => ?_) (fun hc => ?_)
    · have hc : t < l.length := by have := of_decide_eq_true hc; omega
      refine ⟨⟨by omega, by omega⟩, ⟨by omega, by omega⟩, brI (fun he => ?_) (fun he => ?_)⟩
      · exact mk_err (e := 9) (by unfold mkE; rw [if_neg h0, if_pos (any_hit hc he)]) (by decide)
      · refine ⟨t + 1, by rw [wi _ (by omega) (by omega)]; rfl, ⟨hc, fun j hj => ?_⟩, by omega⟩
        by_cases hjt : j < t
        · exact s2 j hjt
        · obtain rfl : j = t := by omega
          exact he
    have k1 : l.any (fun v => v.ch != (l.getD 0 vtZ).ch) = false := any_no fun j hj => s2 j (by have := of_decide_eq_false hc; omega)
    clear s1 s2 hc
    refine ⟨⟨0, rfl, Nat.zero_le _, fun j hj => absurd hj (Nat.not_lt_zero j)⟩, fun t ht => ?_⟩
    obtain ⟨s1, s2⟩ := ht
    refine brI (fun hc => ?_) (fun hc => ?_)
    · have hc : t < l.length := by have := of_decide_eq_true hc; omega
      refine ⟨⟨by omega, by omega⟩, ⟨by omega, by omega⟩, brI (fun he => ?_) (fun he => ?_)⟩
      · exact mk_err (e := 10) (by unfold mkE; rw [if_neg h0, if_neg (by rw [k1]; decide), if_pos (any_hit hc he)]) (by decide)
      · refine ⟨t + 1, by rw [wi _ (by omega) (by omega)]; rfl, ⟨hc, fun j hj => ?_⟩, by omega⟩
        by_cases hjt : j < t
        · exact s2 j hjt
        · obtain rfl : j = t := by omega
          exact he
    have k2 : l.any (fun v => v.ep != (l.getD 0 vtZ).ep) = false := any_no fun j hj => s2 j (by have := of_decide_eq_false hc; omega)
    clear s1 s2 hc
    refine ⟨⟨0, rfl, Nat.zero_le _, fun j hj => absurd hj (Nat.not_lt_zero j)⟩, fun t ht => ?_⟩
    obtain ⟨s1, s2⟩ := ht
    refine brI (fun hc => ?_) (fun hc => ?_)
    · have hc : t < l.length := by have := of_decide_eq_true hc; omega
      refine ⟨⟨by omega, by omega⟩, ⟨by omega, by omega⟩, brI (fun he => ?_) (fun he => ?_)⟩
      · exact mk_err (e := 11) (by unfold mkE; rw [if_neg h0, if_neg (by rw [k1]; decide), if_neg (by rw [k2]; decide), if_pos (any_hit hc he)]) (by decide)
      · refine ⟨t + 1, by rw [wi _ (by omega) (by omega)]; rfl, ⟨hc, fun j hj => ?_⟩, by omega⟩
        by_cases hjt : j < t
        · exact s2 j hjt
        · obtain rfl : j = t := by omega
          exact he
    have k3 : l.any (fun v => v.vw != (l.getD 0 vtZ).vw) = false := any_no fun j hj => s2 j (by have := of_decide_eq_false hc; omega)
    clear s1 s2 hc
    refine ⟨⟨0, rfl, Nat.zero_le _, fun j hj => absurd hj (Nat.not_lt_zero j)⟩, fun t ht => ?_⟩
    obtain ⟨s1, s2⟩ := ht
    refine brI (fun hc => ?_) (fun hc => ?_)
    · have hc : t < l.length := by have := of_decide_eq_true hc; omega
      refine ⟨⟨by omega, by omega⟩, ⟨by omega, by omega⟩, brI (fun he => ?_) (fun he => ?_)⟩
      · exact mk_err (e := 13) (by unfold mkE; rw [if_neg h0, if_neg (by rw [k1]; decide), if_neg (by rw [k2]; decide), if_neg (by rw [k3]; decide), if_pos (any_hit hc he)]) (by decide)
      · refine ⟨t + 1, by rw [wi _ (by omega) (by omega)]; rfl, ⟨hc, fun j hj => ?_⟩, by omega⟩
        by_cases hjt : j < t
        · exact s2 j hjt
        · obtain rfl : j = t := by omega
          exact he
    have k4 : l.any (fun v => v.blk != (l.getD 0 vtZ).blk) = false := any_no fun j hj => s2 j (by have := of_decide_eq_false hc; omega)
    clear s1 s2 hc
    have hE : mkE l = if adjA (stb wK l) then 14 else 0 := by unfold mkE; rw [if_neg h0, if_neg (by rw [k1]; decide), if_neg (by rw [k2]; decide), if_neg (by rw [k3]; decide), if_neg (by rw [k4]; decide)]
    refine ⟨⟨by omega, by omega⟩, ⟨by omega, by omega⟩, ⟨by omega, by omega⟩, ⟨by omega, by omega⟩, ⟨0, rfl, rfl, rfl, Nat.zero_le _, List.Pairwise.nil⟩, fun t ht => ?_⟩
    obtain ⟨s1, s2⟩ := ht
    have hT : (stb wK (l.take t)).length = t := by rw [stb_len, List.length_take]; omega
    refine brI (fun hc => ?_) (fun hc => ?_)
    · have hc : t < l.length := by have := of_decide_eq_true hc; omega
      have em : l.length - (l.length - t) = t := by omega
      simp only [em, true_and, implies_true, cutL, lenN, cutF, Int.toNat_natCast, List.nil_append, Nat.zero_add, List.length_map, hT, clInts]
      refine ⟨⟨⟨t, rfl, Nat.le_refl _, fun y hy => by rw [List.drop_of_length_le (by omega)] at hy; cases hy⟩, fun a ha => ?_⟩, fun a ha => ⟨?_, fun a ha => ?_⟩⟩
      · obtain ⟨a1, a2⟩ := ha
        refine brI (fun hd => ?_) (fun hd => ?_)
        · have hd : 0 < a := by have := of_decide_eq_true hd; omega
          have pv : IntKind.wrap .i64 ((a : Int) - 1) = ((a - 1 : Nat) : Int) := by rw [wi _ (by omega) (by omega)]; omega
          rw [pv, Int.toNat_natCast, wGet (by omega)]
          refine ⟨⟨by omega, by omega⟩, ⟨by omega, by omega⟩, brI (fun he => ?_) (fun he => ?_)⟩
          · have he := of_decide_eq_true he
            refine ⟨a - 1, rfl, ⟨by omega, fun y hy => ?_⟩, by omega⟩
            have hlt : a - 1 < (stb wK (l.take t)).length := by omega
            rw [List.drop_eq_getElem_cons hlt, show a - 1 + 1 = a by omega] at hy
            rcases List.mem_cons.1 hy with rfl | hy
            · rw [List.getD_eq_getElem?_getD, List.getElem?_eq_getElem hlt] at he
              exact he
            · exact a2 y hy
          · exact ⟨a, rfl, a1, a2, srt_take (stb_srt _) hd (by omega) (Int.not_lt.1 (of_decide_eq_false he))⟩
        · have hd : a = 0 := by have := of_decide_eq_false hd; omega
          subst hd
          exact ⟨0, rfl, Nat.zero_le _, a2, fun y hy => by cases hy⟩
      · obtain ⟨a1, a2, a3⟩ := ha
        refine brI (fun hd => ?_) (fun hd => ?_)
        · have hd : 0 < a := by have := of_decide_eq_true hd; omega
          have pv : IntKind.wrap .i64 ((a : Int) - 1) = ((a - 1 : Nat) : Int) := by rw [wi _ (by omega) (by omega)]; omega
          rw [pv, Int.toNat_natCast, wGet (by omega)]
          have hlt : a - 1 < (stb wK (l.take t)).length := by omega
          have hg : (stb wK (l.take t)).getD (a - 1) vtZ = (stb wK (l.take t))[a - 1] := by rw [List.getD_eq_getElem?_getD, List.getElem?_eq_getElem hlt]; rfl
          refine ⟨⟨by omega, by omega⟩, ⟨by omega, by omega⟩, brI (fun he => ?_) (fun he => ?_)⟩
          · have he := beq_iff_eq.1 he
            have hm : (stb wK (l.take t)).getD (a - 1) vtZ ∈ l.take t := stb_mem.1 (by rw [hg]; exact List.getElem_mem hlt)
            exact mk_err (e := 14) (by rw [hE, if_pos (dup_adj hc hm he)]) (by decide)
          · have he := beq_eq_false_iff_ne.1 he
            refine ⟨a, rfl, a1, a2, fun y hy => ?_⟩
            obtain ⟨j, hj, rfl⟩ := List.mem_iff_getElem.1 hy
            rw [List.length_take] at hj
            have h1 := a3 _ (List.getElem_mem (show a - 1 < ((stb wK (l.take t)).take a).length by rw [List.length_take]; omega))
            rw [List.getElem_take] at h1 ⊢
            rw [hg] at he
            rcases Nat.lt_or_ge j (a - 1) with h2 | h2
            · have := List.pairwise_iff_getElem.1 s2 j (a - 1) (by omega) (by omega) h2
              omega
            · have : j = a - 1 := by omega
              subst this; omega
        · have hd : a = 0 := by have := of_decide_eq_false hd; omega
          subst hd
          exact ⟨0, rfl, Nat.zero_le _, a2, fun y hy => by cases hy⟩
      · obtain ⟨a1, a2, a3⟩ := ha
        have e1 := ins_next hc (fun y hy => Int.le_of_lt (a3 y hy)) a2
        have hl1 : (stb wK (l.take (t + 1))).length = t + 1 := by rw [stb_len, List.length_take]; omega
        have la : (((stb wK (l.take t)).map VT.who).take a).length = a := by rw [List.length_take, List.length_map]; omega
        have lb : (((stb wK (l.take t)).map VT.who).drop a).length = t - a := by rw [List.length_drop, List.length_map]; omega
        refine ⟨by omega, by rw [la]; simp; omega, by omega, by rw [la]; simp; omega, by omega, by omega, by omega, by omega, by omega, by rw [List.length_append, la, lb]; simp; omega, by omega, by omega, t + 1, by rw [wi _ (by omega) (by omega)]; rfl, ?_, by rw [hl1]; omega, fun i hi => ?_, ⟨hc, ?_⟩, by omega⟩
        · rw [← e1, List.map_append, List.map_cons, List.map_take, List.map_drop]; simp
        · rw [ins_cells (by rw [List.length_map]; omega) i (by rw [List.length_map]; omega), ← e1, List.map_append, List.map_cons, List.map_take, List.map_drop]
        · rw [← e1]
          exact sw_ins (by rw [List.take_append_drop]; exact s2) a3 a2
    · have hc : t = l.length := by have := of_decide_eq_false hc; omega
      have ft : l.take t = l := List.take_of_length_le (by omega)
      rw [ft] at s2 ⊢
      have e0 : mkE l = 0 := by rw [hE, sw_adj s2]; rfl
      rw [mk_ok e0, e0]
      exact ⟨rfl, rfl, rfl, rfl, rfl, rfl, rfl, fun i hi => rfl⟩))
noncomputable def gR06Make : Con := fun args H => match args, H with
  | [.a (.d (.sl 69 n c))], [] => (fun (l : List VT) => conC args H [.a (.d (.sl 69 l.length (lC vtE vtZ l)))] [] ⟨[l.length < 1073741824], .t [.agg [.one (.d (.v (.int .i64 (mkQ l).ch))), .one (.d (.v (.int .i64 (mkQ l).ep))), .one (.d (.v (.int .i64 (mkQ l).vw))), .ints .u8 32 (mkQ l).blk, .one (.rw 0), .one (.rw 1)], .a (.d (.v (.int .i64 (mkE l))))], [(0, .row (.ints .i64 (mkQ l).who) 3), (1, .row (.st 33 (mkQ l).sigs.length (lC siE siZ (mkQ l).sigs)) 47)]⟩) ((lL vtG n c))
  | _, _ => none
theorem vR06Make : Valid Tryd.prog Gs 15 gR06Make := by
  intro args H r h hp
  unfold gR06Make at h
  split at h
  · rename_i n c
    exact conC_ok h hp fun hp => okR06Make ((lL vtG n c)) hp
  · cases h
noncomputable def ct_R06Make : List (Nat × Ct) := (15, ⟨[], false, gR06Make, none⟩) :: ct_certMake
theorem ctok_R06Make : CtsOk Tryd.prog Gs ct_R06Make := CtsOk.cons vR06Make (by kernel_rfl) ctok_certMake
end Go.Proofs.YtlgffgnkkihaoaaDoor
