/- Tries: by definition. -/
import Derived.Test.YtfobhaodflfedaaDoorYcE
namespace Go.Proofs.YtfobhaodflfedaaDoor
open Go.Dx Go.RowKit
set_option linter.unusedVariables false
set_option linter.unusedSimpArgs false
set_option maxRecDepth 100000
attribute [local irreducible] wpS
attribute [local irreducible] sumB joinB
/-- An entry of the document: key, value. -/
abbrev SE := List Int × ByteArray
def rE (x : SE) : List DC := [.ints .u8 32 x.1, .one (.v (.string x.2))]
abbrev rZ : SE := (List.replicate 32 0, ⟨#[]⟩)
def rG : List DC → SE
  | [.ints _ _ k, .one (.v (.string s))] => (k, s)
  | _ => ([], ⟨#[]⟩)
theorem rG_rE (x : SE) : rG (rE x) = x := rfl
/-- The entry as the program has it. -/
def ow (x : SE) : TE := (x.1, numsOf x.2)
def OkR (l : List SE) : Prop := ∀ e ∈ l, e.1.length = 32 ∧ OkB e.1 ∧ e.2.size + 20000 ≤ lim
theorem numsOk (s : ByteArray) : OkB (numsOf s) := fun x hx => by
  obtain ⟨y, _, rfl⟩ := List.mem_map.1 hx
  have := y.toNat_lt
  exact ⟨by omega, by omega⟩
theorem nl2 (s : ByteArray) : (numsOf s).length = s.size := by simp [numsOf]
theorem OkR.own {l : List SE} (h : OkR l) : OkK (l.map ow) := fun e he => by
  obtain ⟨x, hx, rfl⟩ := List.mem_map.1 he
  obtain ⟨h1, h2, h3⟩ := h x hx
  have hlim : lim = 68719476736 := rfl
  exact ⟨h1, h2, numsOk _, by show (numsOf x.2).length ≤ _; rw [nl2]; omega⟩
theorem OkR.vals {l : List SE} (h : OkR l) : ∀ e ∈ l.map ow, e.2.length + 20000 ≤ lim := fun e he => by
  obtain ⟨x, hx, rfl⟩ := List.mem_map.1 he
  show (numsOf x.2).length + _ ≤ _; rw [nl2]; exact (h x hx).2.2
theorem tSn (M : List TE) (k v : List Int) : ∀ i, i < (M ++ [(k, v)]).length → catF M.length (lC tE tZ M) (fun i => [[DC.ints .u8 32 k, DC.one (D.si .u8 v)]].getD i []) i = lC tE tZ (M ++ [(k, v)]) i := fun i hi => lC_snoc (f := tE) M (k, v) rfl i (by simpa using hi)
theorem rSn (M : List SE) (k : List Int) (s : ByteArray) : ∀ i, i < (M ++ [(k, s)]).length → catF M.length (lC rE rZ M) (fun i => [[DC.ints .u8 32 k, DC.one (D.v (.string s))]].getD i []) i = lC rE rZ (M ++ [(k, s)]) i := fun i hi => lC_snoc (f := rE) M (k, s) rfl i (by simpa using hi)
theorem bl_kv : ∀ {A B : List Int}, OkB A → OkB B → A.length = B.length → Op.bytesLess (A.map fun n => UInt8.ofNat n.toNat) (B.map fun n => UInt8.ofNat n.toNat) = decide (kv A < kv B)
  | [], [], _, _, _ => rfl
  | [], _ :: _, _, _, h => by simp at h
  | _ :: _, [], _, _, h => by simp at h
  | x :: A, y :: B, ha, hb, h => by
    have hl : A.length = B.length := by simpa using h
    have h1 := ha x (by simp)
    have h2 := hb y (by simp)
    have ha' : OkB A := fun z hz => ha z (by simp [hz])
    have hb' : OkB B := fun z hz => hb z (by simp [hz])
    have ih := bl_kv ha' hb' hl
    have l1 := kv_lt ha'
    have l2 := kv_lt hb'
    have e1 : (UInt8.ofNat x.toNat < UInt8.ofNat y.toNat) ↔ x.toNat < y.toNat := by
      rw [UInt8.lt_iff_toNat_lt]; simp; omega
    have e2 : (UInt8.ofNat x.toNat = UInt8.ofNat y.toNat) ↔ x.toNat = y.toNat := by
      rw [← UInt8.toNat_inj]; simp; omega
    show (decide (UInt8.ofNat x.toNat < UInt8.ofNat y.toNat) || ((UInt8.ofNat x.toNat == UInt8.ofNat y.toNat) && Op.bytesLess (A.map fun n => UInt8.ofNat n.toNat) (B.map fun n => UInt8.ofNat n.toNat))) = _
    rw [ih]
    rw [hl] at l1
    have eb : (UInt8.ofNat x.toNat == UInt8.ofNat y.toNat) = decide (x.toNat = y.toNat) := by
      rw [Bool.eq_iff_iff, beq_iff_eq, e2, decide_eq_true_eq]
    rw [eb, show decide (UInt8.ofNat x.toNat < UInt8.ofNat y.toNat) = decide (x.toNat < y.toNat) by rw [decide_eq_decide]; exact e1]
    rw [Bool.eq_iff_iff]
    simp only [Bool.or_eq_true, Bool.and_eq_true, decide_eq_true_eq, kv, hl]
    rcases Nat.lt_trichotomy x.toNat y.toNat with hc | hc | hc
    · have := Nat.mul_le_mul_right (256 ^ B.length) (show x.toNat + 1 ≤ y.toNat from hc)
      rw [Nat.add_mul] at this
      exact ⟨fun _ => by omega, fun _ => .inl hc⟩
    · rw [hc]
      exact ⟨fun h => by rcases h with h | h; exact absurd h (Nat.lt_irrefl _); omega, fun h => .inr ⟨rfl, by omega⟩⟩
    · have := Nat.mul_le_mul_right (256 ^ B.length) (show y.toNat + 1 ≤ x.toNat from hc)
      rw [Nat.add_mul] at this
      exact ⟨fun h => by rcases h with h | h <;> omega, fun h => by omega⟩
theorem str_less {A B : List Int} (ha : OkB A) (hb : OkB B) (h : A.length = B.length) : Op.bytesLess (ByteArray.toList (strOfNums A)) (ByteArray.toList (strOfNums B)) = decide (kv A < kv B) := by
  rw [ByteArray.toList_eq, ByteArray.toList_eq]
  exact bl_kv ha hb h
theorem gR {l : List SE} {i : Nat} (h : i < l.length) : l.getD i rZ = l[i] := by
  rw [List.getD_eq_getElem?_getD, List.getElem?_eq_getElem h]; rfl
noncomputable def anL04list (l : List SE) : Nat → List Nat → List Ann := fun bk_ gs_ => match bk_, gs_ with
    | 0, _ => [{ τ := Nat, t0 := (default : Nat), J := fun i => i ≤ l.length, m := fun i => l.length - i, l := fun i => [(0, .s (.a (.d (.sl 33 (l).length (lC rE rZ (l)))))), (3, .s (.a (.rw 203))), (4, eI .i64 (i : Int))], H := fun i => [(203, .row (.st 33 (((l.take i).map ow)).length (lC tE tZ (((l.take i).map ow)))) 34)] }]
    | _, _ => []
theorem okL04list (l : List SE) (hp : allP [OkR l, l.length < 1073741824]) : CallsOk Tryd.prog Gs 11 [.a (.d (.sl 33 (l).length (lC rE rZ (l))))] [] (.s (.a (.rw 0))) [(0, .row (.st 33 ((l.map ow)).length (lC tE tZ ((l.map ow)))) 34)] :=
  ok_of (ann := anL04list l) ctok_trieClash mixed Tryd.func11 (by kernel_rfl) (of_nf (p := (∃ (t : Nat), List.length l = List.length l ∧ (∀ (i : Nat), i < List.length l → lC rE rZ l i = lC rE rZ l i) ∧ (0 : Int) = (↑t : Int) ∧ (0 : Nat) = List.length (List.map ow (List.take t l)) ∧ (∀ (i : Nat), i < List.length (List.map ow (List.take t l)) → List.getD [] i [] = lC tE tZ (List.map ow (List.take t l)) i) ∧ t ≤ List.length l ∧ True) ∧ ∀ (t : Nat), t ≤ List.length l → brP (decide ((↑t : Int) < (↑(List.length l) : Int))) (((0 : Int) ≤ (↑t : Int) ∧ (↑t : Int) < (↑(List.length l) : Int)) ∧ ((0 : Int) ≤ (↑t : Int) ∧ (↑t : Int) < (↑(List.length l) : Int)) ∧ Cont.len (Cont.st (33 : Nat) (List.length (List.map ow (List.take t l))) (lC tE tZ (List.map ow (List.take t l)))) + Cont.len (Cont.st (33 : Nat) (1 : Nat) fun (i : Nat) => List.getD [[DC.ints IntKind.u8 (32 : Nat) (Prod.fst (List.getD l (Int.toNat (↑t : Int)) rZ)), DC.one (D.si IntKind.u8 (numsOf (Prod.snd (List.getD l (Int.toNat (↑t : Int)) rZ))))]] i []) ≤ lim ∧ ∃ (t_1 : Nat), List.length l = List.length l ∧ (∀ (i : Nat), i < List.length l → lC rE rZ l i = lC rE rZ l i) ∧ IntKind.wrap IntKind.i64 ((↑t : Int) + (1 : Int)) = (↑t_1 : Int) ∧ List.length (List.map ow (List.take t l)) + (1 : Nat) = List.length (List.map ow (List.take t_1 l)) ∧ (∀ (i : Nat), i < List.length (List.map ow (List.take t_1 l)) → catF (List.length (List.map ow (List.take t l))) (lC tE tZ (List.map ow (List.take t l))) (fun (i : Nat) => List.getD [[DC.ints IntKind.u8 (32 : Nat) (Prod.fst (List.getD l (Int.toNat (↑t : Int)) rZ)), DC.one (D.si IntKind.u8 (numsOf (Prod.snd (List.getD l (Int.toNat (↑t : Int)) rZ))))]] i []) i = lC tE tZ (List.map ow (List.take t_1 l)) i) ∧ t_1 ≤ List.length l ∧ List.length l - t_1 < List.length l - t ∧ True) (List.length (List.map ow (List.take t l)) = List.length (List.map ow l) ∧ (∀ (i : Nat), i < List.length (List.map ow l) → lC tE tZ (List.map ow (List.take t l)) i = lC tE tZ (List.map ow l) i) ∧ True)) (by kernel_rfl) (by
    obtain ⟨ho, hl, _⟩ := hp
    have hlim : lim = 68719476736 := rfl
    refine ⟨⟨0, rfl, fun _ _ => rfl, rfl, rfl, fun i hi => absurd hi (Nat.not_lt_zero i), Nat.zero_le _, trivial⟩, fun t ht => brI (fun hc => ?_) (fun hc => ?_)⟩
    · have hc : t < l.length := by have := of_decide_eq_true hc; omega
      have e : (l.take (t + 1)).map ow = (l.take t).map ow ++ [ow l[t]] := by rw [List.take_succ_eq_append_getElem hc, List.map_append]; rfl
      have hlt : ((l.take t).map ow).length = t := by rw [List.length_map, List.length_take]; omega
      rw [Int.toNat_natCast, gR hc]
      refine ⟨⟨by omega, by omega⟩, ⟨by omega, by omega⟩, (show ((l.take t).map ow).length + 1 ≤ lim by omega), t + 1, rfl, fun _ _ => rfl, by rw [wi _ (by omega) (by omega)]; rfl, ?_, ?_, by omega, by omega, trivial⟩
      · rw [e, List.length_append]; rfl
      · rw [e]; exact tSn _ _ _
    · have hc : t = l.length := by have := of_decide_eq_false hc; omega
      subst hc
      rw [List.take_length]
      exact ⟨rfl, fun _ _ => rfl, trivial⟩))
noncomputable def gL04list : Con := fun args H => match args, H with
  | [.a (.d (.sl 33 m c))], [] => (fun (l : List SE) => conC args H [.a (.d (.sl 33 (l).length (lC rE rZ (l))))] [] ⟨[OkR l, l.length < 1073741824], .s (.a (.rw 0)), [(0, .row (.st 33 ((l.map ow)).length (lC tE tZ ((l.map ow)))) 34)]⟩) (lL rG m c)
  | _, _ => none
theorem vL04list : Valid Tryd.prog Gs 11 gL04list := by
  intro args H r h hp
  unfold gL04list at h
  split at h
  · rename_i m c
    exact conC_ok h hp fun hp => okL04list (lL rG m c) hp
  · cases h
noncomputable def ct_L04list : List (Nat × Ct) := (11, ⟨[], true, gL04list, none⟩) :: ct_trieClash
theorem ctok_L04list : CtsOk Tryd.prog Gs ct_L04list := CtsOk.cons vL04list (by kernel_rfl) ctok_trieClash
noncomputable def anR04May (l : List SE) : Nat → List Nat → List Ann := fun bk_ gs_ => match bk_, gs_ with
    | 0, _ => [{ τ := Nat, t0 := (default : Nat), J := fun i => i + 1 ≤ max l.length 1 ∧ mayT ((l.map ow).take (i + 1)), m := fun i => l.length - i, l := fun i => [(0, .s (.a (.d (.sl 33 (l).length (lC rE rZ (l)))))), (3, eI .i64 (((i + 1 : Nat)) : Int))], H := fun i => [] }]
    | _, _ => []
theorem okR04May (l : List SE) (hp : allP [OkR l, l.length < 1099511627776]) : CallsOk Tryd.prog Gs 12 [.a (.d (.sl 33 (l).length (lC rE rZ (l))))] [] (eB (decide (mayT (l.map ow)))) [] :=
  ok_of (ann := anR04May l) ctok_L04list mixed Tryd.func12 (by kernel_rfl) (of_nf (p := (∃ (t : Nat), List.length l = List.length l ∧ (∀ (i : Nat), i < List.length l → lC rE rZ l i = lC rE rZ l i) ∧ (1 : Int) = (↑(t + (1 : Nat)) : Int) ∧ (t + (1 : Nat) ≤ max (List.length l) (1 : Nat) ∧ mayT (List.take (t + (1 : Nat)) (List.map ow l))) ∧ True) ∧ ∀ (t : Nat), t + (1 : Nat) ≤ max (List.length l) (1 : Nat) ∧ mayT (List.take (t + (1 : Nat)) (List.map ow l)) → brP (decide ((↑(t + (1 : Nat)) : Int) < (↑(List.length l) : Int))) (((0 : Int) ≤ IntKind.wrap IntKind.i64 ((↑(t + (1 : Nat)) : Int) - (1 : Int)) ∧ IntKind.wrap IntKind.i64 ((↑(t + (1 : Nat)) : Int) - (1 : Int)) < (↑(List.length l) : Int)) ∧ ((0 : Int) ≤ (↑(t + (1 : Nat)) : Int) ∧ (↑(t + (1 : Nat)) : Int) < (↑(List.length l) : Int)) ∧ brP (!Op.bytesLess (ByteArray.toList (strOfNums (cutL (Prod.fst (List.getD l (Int.toNat (IntKind.wrap IntKind.i64 ((↑(t + (1 : Nat)) : Int) - (1 : Int)))) rZ)) none none))) (ByteArray.toList (strOfNums (cutL (Prod.fst (List.getD l (Int.toNat (↑(t + (1 : Nat)) : Int)) rZ)) none none)))) (false = decide (mayT (List.map ow l)) ∧ True) (∃ (t_1 : Nat), List.length l = List.length l ∧ (∀ (i : Nat), i < List.length l → lC rE rZ l i = lC rE rZ l i) ∧ IntKind.wrap IntKind.i64 ((↑(t + (1 : Nat)) : Int) + (1 : Int)) = (↑(t_1 + (1 : Nat)) : Int) ∧ (t_1 + (1 : Nat) ≤ max (List.length l) (1 : Nat) ∧ mayT (List.take (t_1 + (1 : Nat)) (List.map ow l))) ∧ List.length l - t_1 < List.length l - t ∧ True)) (true = decide (mayT (List.map ow l)) ∧ True)) (by kernel_rfl) (by
    obtain ⟨ho, hl, _⟩ := hp
    have lm : (l.map ow).length = l.length := List.length_map _
    refine ⟨⟨0, rfl, fun _ _ => rfl, rfl, ⟨by omega, may_one (by rw [List.length_take]; omega)⟩, trivial⟩, fun t ht => ?_⟩
    obtain ⟨h1, h2⟩ := ht
    refine brI (fun hc => ?_) (fun hc => ?_)
    · have hc : t + 1 < l.length := by have := of_decide_eq_true hc; omega
      have hc' : t + 1 < (l.map ow).length := by omega
      have e1 : IntKind.wrap .i64 (((t + 1 : Nat) : Int) - 1) = (t : Int) := by rw [wi _ (by omega) (by omega)]; omega
      obtain ⟨a1, a2, _⟩ := ho l[t] (List.getElem_mem _)
      obtain ⟨b1, b2, _⟩ := ho l[t + 1] (List.getElem_mem _)
      rw [e1, Int.toNat_natCast, Int.toNat_natCast, cutA, cutA, gR hc, gR (show t < l.length by omega), str_less a2 b2 (a1.trans b1.symm)]
      have g1 : (l.map ow)[t].1 = l[t].1 := by rw [List.getElem_map]; rfl
      have g2 : (l.map ow)[t + 1].1 = l[t + 1].1 := by rw [List.getElem_map]; rfl
      refine ⟨⟨by omega, by omega⟩, ⟨by omega, by omega⟩, brI (fun hx => ⟨?_, trivial⟩) (fun hx => ?_)⟩
      · have : ¬ kv (l.map ow)[t].1 < kv (l.map ow)[t + 1].1 := by rw [g1, g2]; simpa using hx
        exact (decide_eq_false (may_not hc' this)).symm
      · have : kv (l.map ow)[t].1 < kv (l.map ow)[t + 1].1 := by rw [g1, g2]; simpa using hx
        refine ⟨t + 1, rfl, fun _ _ => rfl, by rw [wi _ (by omega) (by omega)]; rfl, ⟨by omega, (may_step h2 hc').2 this⟩, by omega, trivial⟩
    · have hc : l.length ≤ t + 1 := by have := of_decide_eq_false hc; omega
      rw [List.take_of_length_le (by omega)] at h2
      exact ⟨(decide_eq_true h2).symm, trivial⟩))
noncomputable def gR04May : Con := fun args H => match args, H with
  | [.a (.d (.sl 33 m c))], [] => (fun (l : List SE) => conC args H [.a (.d (.sl 33 (l).length (lC rE rZ (l))))] [] ⟨[OkR l, l.length < 1099511627776], eB (decide (mayT (l.map ow))), []⟩) (lL rG m c)
  | _, _ => none
theorem vR04May : Valid Tryd.prog Gs 12 gR04May := by
  intro args H r h hp
  unfold gR04May at h
  split at h
  · rename_i m c
    exact conC_ok h hp fun hp => okR04May (lL rG m c) hp
  · cases h
noncomputable def ct_R04May : List (Nat × Ct) := (12, ⟨[], false, gR04May, none⟩) :: ct_L04list
theorem ctok_R04May : CtsOk Tryd.prog Gs ct_R04May := CtsOk.cons vR04May (by kernel_rfl) ctok_L04list
noncomputable def anR04Bit (k : List Int) (i : Int) : Nat → List Nat → List Ann := fun bk_ gs_ => match bk_, gs_ with
    | 0, _ => [{ τ := Nat, t0 := (default : Nat), J := fun j => (i % 8).toNat + j ≤ 7, m := fun j => 7 - j, l := fun j => [(5, eI .u8 (((k.getD (i.toNat / 8) 0).toNat / 2 ^ j : Nat) : Int)), (6, eI .i64 (((i % 8).toNat + j : Nat) : Int))], H := fun j => [] }]
    | _, _ => []
theorem okR04Bit (k : List Int) (i : Int) (hp : allP [OkB k, k.length = 32, 0 ≤ i ∧ i < 256]) : CallsOk Tryd.prog Gs 31 [.agg [.ints .u8 32 k], .a (.d (.v (.int .i64 i)))] [] (eI .i64 (bt k i.toNat : Int)) [] :=
  ok_of (ann := anR04Bit k i) ctok_R04May mixed Tryd.func31 (by kernel_rfl) (of_nf (p := (8 : Int) ≠ (0 : Int) ∧ ((0 : Int) ≤ IntKind.wrap IntKind.i64 (Int.tdiv i (8 : Int)) ∧ IntKind.wrap IntKind.i64 (Int.tdiv i (8 : Int)) < (↑(32 : Nat) : Int)) ∧ (8 : Int) ≠ (0 : Int) ∧ (∃ (t : Nat), List.getD k (Int.toNat (IntKind.wrap IntKind.i64 (Int.tdiv i (8 : Int)))) (0 : Int) = (↑(Int.toNat (List.getD k (Int.toNat i / (8 : Nat)) (0 : Int)) / (2 : Nat) ^ t) : Int) ∧ Int.tmod i (8 : Int) = (↑(Int.toNat (i % (8 : Int)) + t) : Int) ∧ Int.toNat (i % (8 : Int)) + t ≤ (7 : Nat) ∧ True) ∧ ∀ (t : Nat), Int.toNat (i % (8 : Int)) + t ≤ (7 : Nat) → brP (decide ((↑(Int.toNat (i % (8 : Int)) + t) : Int) < (7 : Int))) ((2 : Int) ≠ (0 : Int) ∧ ∃ (t_1 : Nat), IntKind.wrap IntKind.u8 (Int.tdiv (↑(Int.toNat (List.getD k (Int.toNat i / (8 : Nat)) (0 : Int)) / (2 : Nat) ^ t) : Int) (2 : Int)) = (↑(Int.toNat (List.getD k (Int.toNat i / (8 : Nat)) (0 : Int)) / (2 : Nat) ^ t_1) : Int) ∧ IntKind.wrap IntKind.i64 ((↑(Int.toNat (i % (8 : Int)) + t) : Int) + (1 : Int)) = (↑(Int.toNat (i % (8 : Int)) + t_1) : Int) ∧ Int.toNat (i % (8 : Int)) + t_1 ≤ (7 : Nat) ∧ (7 : Nat) - t_1 < (7 : Nat) - t ∧ True) ((2 : Int) ≠ (0 : Int) ∧ IntKind.wrap IntKind.i64 (Int.tmod (↑(Int.toNat (List.getD k (Int.toNat i / (8 : Nat)) (0 : Int)) / (2 : Nat) ^ t) : Int) (2 : Int)) = (↑(bt k (Int.toNat i)) : Int) ∧ True)) (by kernel_rfl) (by
    obtain ⟨hk, hl, ⟨h0, h1⟩, _⟩ := hp
    obtain ⟨n, rfl⟩ : ∃ n : Nat, i = n := ⟨i.toNat, by omega⟩
    have e1 : Int.tdiv (n : Int) 8 = ((n / 8 : Nat) : Int) := tdiv_nat n 8
    have e2 : Int.tmod (n : Int) 8 = ((n % 8 : Nat) : Int) := tmod_nat n 8
    have e3 : Int.toNat ((n : Int) % 8) = n % 8 := by omega
    obtain ⟨g0, g1⟩ := gd_ok hk (n / 8)
    rw [e1, e2, e3, wi ((n / 8 : Nat) : Int) (by omega) (by omega), Int.toNat_natCast, Int.toNat_natCast, bt_byte hk hl (by omega)]
    obtain ⟨x, hx⟩ : ∃ x : Nat, k.getD (n / 8) 0 = (x : Int) := ⟨(k.getD (n / 8) 0).toNat, by omega⟩
    rw [hx] at g1 ⊢
    rw [Int.toNat_natCast]
    refine ⟨by decide, ⟨by omega, by omega⟩, by decide, ⟨0, by rw [Nat.pow_zero, Nat.div_one], rfl, by omega, trivial⟩, fun t ht => ?_⟩
    have hle : x / 2 ^ t ≤ x := Nat.div_le_self _ _
    refine brI (fun hc => ?_) (fun hc => ?_)
    · have hc := of_decide_eq_true hc
      refine ⟨by decide, t + 1, ?_, ?_, by omega, by omega, trivial⟩
      · have e4 : Int.tdiv ((x / 2 ^ t : Nat) : Int) 2 = ((x / 2 ^ t / 2 : Nat) : Int) := tdiv_nat _ 2
        rw [e4, Nat.pow_succ, ← Nat.div_div_eq_div_mul]
        generalize x / 2 ^ t = y at hle ⊢
        rw [IntKind.wrap_u8]; omega
      · rw [wi _ (by omega) (by omega)]; omega
    · have hc := of_decide_eq_false hc
      have ht7 : t = 7 - n % 8 := by omega
      subst ht7
      have e4 : Int.tmod ((x / 2 ^ (7 - n % 8) : Nat) : Int) 2 = ((x / 2 ^ (7 - n % 8) % 2 : Nat) : Int) := tmod_nat _ 2
      rw [e4]
      refine ⟨by decide, wi _ (by omega) (by omega), trivial⟩))
noncomputable def gR04Bit : Con := fun args H => match args, H with
  | [.agg [.ints .u8 32 k], .a (.d (.v (.int .i64 i)))], [] => some ⟨[OkB k, k.length = 32, 0 ≤ i ∧ i < 256], eI .i64 (bt k i.toNat : Int), []⟩
  | _, _ => none
theorem vR04Bit : Valid Tryd.prog Gs 31 gR04Bit := by
  intro args H r h hp
  unfold gR04Bit at h
  split at h
  · simp only [Option.some.injEq] at h; subst h; exact okR04Bit _ _ hp
  · cases h
noncomputable def ct_R04Bit : List (Nat × Ct) := (31, ⟨[], false, gR04Bit, none⟩) :: ct_R04May
theorem ctok_R04Bit : CtsOk Tryd.prog Gs ct_R04Bit := CtsOk.cons vR04Bit (by kernel_rfl) ctok_R04May
noncomputable def anR04Side (l : List SE) (deep b : Int) : Nat → List Nat → List Ann := fun bk_ gs_ => match bk_, gs_ with
    | 0, _ => [{ τ := Nat, t0 := (default : Nat), J := fun i => i ≤ l.length, m := fun i => l.length - i, l := fun i => [(0, .s (.a (.d (.sl 33 (l).length (lC rE rZ (l)))))), (1, eI .i64 deep), (2, eI .i64 b), (7, .s (.a (.rw 207))), (8, eI .i64 (i : Int))], H := fun i => [(207, .row (.st 33 (((l.take i).filter fun e => bt e.1 deep.toNat == b.toNat)).length (lC rE rZ (((l.take i).filter fun e => bt e.1 deep.toNat == b.toNat)))) 36)] }]
    | _, _ => []
theorem okR04Side (l : List SE) (deep b : Int) (hp : allP [OkR l, l.length < 1073741824, 0 ≤ deep ∧ deep < 256, 0 ≤ b ∧ b < 2]) : CallsOk Tryd.prog Gs 30 [.a (.d (.sl 33 (l).length (lC rE rZ (l)))), .a (.d (.v (.int .i64 deep))), .a (.d (.v (.int .i64 b)))] [] (.s (.a (.rw 0))) [(0, .row (.st 33 ((l.filter fun e => bt e.1 deep.toNat == b.toNat)).length (lC rE rZ ((l.filter fun e => bt e.1 deep.toNat == b.toNat)))) 36)] :=
  ok_of (ann := anR04Side l deep b) ctok_R04Bit mixed Tryd.func30 (by kernel_rfl) (of_nf (p := (∃ (t : Nat), List.length l = List.length l ∧ (∀ (i : Nat), i < List.length l → lC rE rZ l i = lC rE rZ l i) ∧ deep = deep ∧ b = b ∧ (0 : Int) = (↑t : Int) ∧ (0 : Nat) = List.length (List.filter (fun (e : SE) => bt (Prod.fst e) (Int.toNat deep) == Int.toNat b) (List.take t l)) ∧ (∀ (i : Nat), i < List.length (List.filter (fun (e : SE) => bt (Prod.fst e) (Int.toNat deep) == Int.toNat b) (List.take t l)) → List.getD [] i [] = lC rE rZ (List.filter (fun (e : SE) => bt (Prod.fst e) (Int.toNat deep) == Int.toNat b) (List.take t l)) i) ∧ t ≤ List.length l ∧ True) ∧ ∀ (t : Nat), t ≤ List.length l → brP (decide ((↑t : Int) < (↑(List.length l) : Int))) (((0 : Int) ≤ (↑t : Int) ∧ (↑t : Int) < (↑(List.length l) : Int)) ∧ OkB (Prod.fst (List.getD l (Int.toNat (↑t : Int)) rZ)) ∧ List.length (Prod.fst (List.getD l (Int.toNat (↑t : Int)) rZ)) = (32 : Nat) ∧ ((0 : Int) ≤ deep ∧ deep < (256 : Int)) ∧ brP ((↑(bt (Prod.fst (List.getD l (Int.toNat (↑t : Int)) rZ)) (Int.toNat deep)) : Int) == b) (((0 : Int) ≤ (↑t : Int) ∧ (↑t : Int) < (↑(List.length l) : Int)) ∧ Cont.len (Cont.st (33 : Nat) (List.length (List.filter (fun (e : SE) => bt (Prod.fst e) (Int.toNat deep) == Int.toNat b) (List.take t l))) (lC rE rZ (List.filter (fun (e : SE) => bt (Prod.fst e) (Int.toNat deep) == Int.toNat b) (List.take t l)))) + Cont.len (Cont.st (33 : Nat) (1 : Nat) fun (i : Nat) => List.getD [[DC.ints IntKind.u8 (32 : Nat) (Prod.fst (List.getD l (Int.toNat (↑t : Int)) rZ)), DC.one (D.v (Value.string (Prod.snd (List.getD l (Int.toNat (↑t : Int)) rZ))))]] i []) ≤ lim ∧ ∃ (t_1 : Nat), List.length l = List.length l ∧ (∀ (i : Nat), i < List.length l → lC rE rZ l i = lC rE rZ l i) ∧ deep = deep ∧ b = b ∧ IntKind.wrap IntKind.i64 ((↑t : Int) + (1 : Int)) = (↑t_1 : Int) ∧ List.length (List.filter (fun (e : SE) => bt (Prod.fst e) (Int.toNat deep) == Int.toNat b) (List.take t l)) + (1 : Nat) = List.length (List.filter (fun (e : SE) => bt (Prod.fst e) (Int.toNat deep) == Int.toNat b) (List.take t_1 l)) ∧ (∀ (i : Nat), i < List.length (List.filter (fun (e : SE) => bt (Prod.fst e) (Int.toNat deep) == Int.toNat b) (List.take t_1 l)) → catF (List.length (List.filter (fun (e : SE) => bt (Prod.fst e) (Int.toNat deep) == Int.toNat b) (List.take t l))) (lC rE rZ (List.filter (fun (e : SE) => bt (Prod.fst e) (Int.toNat deep) == Int.toNat b) (List.take t l))) (fun (i : Nat) => List.getD [[DC.ints IntKind.u8 (32 : Nat) (Prod.fst (List.getD l (Int.toNat (↑t : Int)) rZ)), DC.one (D.v (Value.string (Prod.snd (List.getD l (Int.toNat (↑t : Int)) rZ))))]] i []) i = lC rE rZ (List.filter (fun (e : SE) => bt (Prod.fst e) (Int.toNat deep) == Int.toNat b) (List.take t_1 l)) i) ∧ t_1 ≤ List.length l ∧ List.length l - t_1 < List.length l - t ∧ True) (∃ (t_1 : Nat), List.length l = List.length l ∧ (∀ (i : Nat), i < List.length l → lC rE rZ l i = lC rE rZ l i) ∧ deep = deep ∧ b = b ∧ IntKind.wrap IntKind.i64 ((↑t : Int) + (1 : Int)) = (↑t_1 : Int) ∧ List.length (List.filter (fun (e : SE) => bt (Prod.fst e) (Int.toNat deep) == Int.toNat b) (List.take t l)) = List.length (List.filter (fun (e : SE) => bt (Prod.fst e) (Int.toNat deep) == Int.toNat b) (List.take t_1 l)) ∧ (∀ (i : Nat), i < List.length (List.filter (fun (e : SE) => bt (Prod.fst e) (Int.toNat deep) == Int.toNat b) (List.take t_1 l)) → lC rE rZ (List.filter (fun (e : SE) => bt (Prod.fst e) (Int.toNat deep) == Int.toNat b) (List.take t l)) i = lC rE rZ (List.filter (fun (e : SE) => bt (Prod.fst e) (Int.toNat deep) == Int.toNat b) (List.take t_1 l)) i) ∧ t_1 ≤ List.length l ∧ List.length l - t_1 < List.length l - t ∧ True)) (List.length (List.filter (fun (e : SE) => bt (Prod.fst e) (Int.toNat deep) == Int.toNat b) (List.take t l)) = List.length (List.filter (fun (e : SE) => bt (Prod.fst e) (Int.toNat deep) == Int.toNat b) l) ∧ (∀ (i : Nat), i < List.length (List.filter (fun (e : SE) => bt (Prod.fst e) (Int.toNat deep) == Int.toNat b) l) → lC rE rZ (List.filter (fun (e : SE) => bt (Prod.fst e) (Int.toNat deep) == Int.toNat b) (List.take t l)) i = lC rE rZ (List.filter (fun (e : SE) => bt (Prod.fst e) (Int.toNat deep) == Int.toNat b) l) i) ∧ True)) (by kernel_rfl) (by
    obtain ⟨ho, hl, ⟨hd0, hd1⟩, ⟨hb0, hb1⟩, _⟩ := hp
    have hlim : lim = 68719476736 := rfl
    refine ⟨⟨0, rfl, fun _ _ => rfl, rfl, rfl, rfl, rfl, fun i hi => absurd hi (Nat.not_lt_zero i), Nat.zero_le _, trivial⟩, fun t ht => brI (fun hc => ?_) (fun hc => ?_)⟩
    · have hc : t < l.length := by have := of_decide_eq_true hc; omega
      have e : l.take (t + 1) = l.take t ++ [l[t]] := List.take_succ_eq_append_getElem hc
      obtain ⟨a1, a2, _⟩ := ho l[t] (List.getElem_mem _)
      have hfl := List.length_filter_le (fun e : SE => bt e.1 deep.toNat == b.toNat) (l.take t)
      have htl : (l.take t).length ≤ t := by rw [List.length_take]; omega
      rw [Int.toNat_natCast, gR hc]
      refine ⟨⟨by omega, by omega⟩, a2, a1, ⟨hd0, hd1⟩, brI (fun hx => ?_) (fun hx => ?_)⟩
      · have hx : (bt l[t].1 deep.toNat == b.toNat) = true := by have := beq_iff_eq.1 hx; rw [beq_iff_eq]; omega
        have ef : (l.take (t + 1)).filter (fun e : SE => bt e.1 deep.toNat == b.toNat) = (l.take t).filter (fun e : SE => bt e.1 deep.toNat == b.toNat) ++ [l[t]] := by
          rw [e, List.filter_append, List.filter_cons_of_pos (p := fun e : SE => bt e.1 deep.toNat == b.toNat) hx]; rfl
        refine ⟨⟨by omega, by omega⟩, (show ((l.take t).filter _).length + 1 ≤ lim by omega), t + 1, rfl, fun _ _ => rfl, rfl, rfl, by rw [wi _ (by omega) (by omega)]; rfl, ?_, ?_, by omega, by omega, trivial⟩
        · rw [ef, List.length_append]; rfl
        · rw [ef]; exact rSn _ _ _
      · have hx : ¬ (bt l[t].1 deep.toNat == b.toNat) = true := by have := beq_eq_false_iff_ne.1 hx; rw [beq_iff_eq]; omega
        have ef : (l.take (t + 1)).filter (fun e : SE => bt e.1 deep.toNat == b.toNat) = (l.take t).filter (fun e : SE => bt e.1 deep.toNat == b.toNat) := by
          rw [e, List.filter_append, List.filter_cons_of_neg (p := fun e : SE => bt e.1 deep.toNat == b.toNat) hx, List.filter_nil, List.append_nil]
        refine ⟨t + 1, rfl, fun _ _ => rfl, rfl, rfl, by rw [wi _ (by omega) (by omega)]; rfl, by rw [ef], fun i hi => by rw [ef], by omega, by omega, trivial⟩
    · have hc : t = l.length := by have := of_decide_eq_false hc; omega
      subst hc
      rw [List.take_length]
      exact ⟨rfl, fun _ _ => rfl, trivial⟩))
noncomputable def gR04Side : Con := fun args H => match args, H with
  | [.a (.d (.sl 33 m c)), .a (.d (.v (.int .i64 deep))), .a (.d (.v (.int .i64 b)))], [] => (fun (l : List SE) (deep b : Int) => conC args H [.a (.d (.sl 33 (l).length (lC rE rZ (l)))), .a (.d (.v (.int .i64 deep))), .a (.d (.v (.int .i64 b)))] [] ⟨[OkR l, l.length < 1073741824, 0 ≤ deep ∧ deep < 256, 0 ≤ b ∧ b < 2], .s (.a (.rw 0)), [(0, .row (.st 33 ((l.filter fun e => bt e.1 deep.toNat == b.toNat)).length (lC rE rZ ((l.filter fun e => bt e.1 deep.toNat == b.toNat)))) 36)]⟩) (lL rG m c) (deep) (b)
  | _, _ => none
theorem vR04Side : Valid Tryd.prog Gs 30 gR04Side := by
  intro args H r h hp
  unfold gR04Side at h
  split at h
  · rename_i m c deep b
    exact conC_ok h hp fun hp => okR04Side (lL rG m c) (deep) (b) hp
  · cases h
noncomputable def ct_R04Side : List (Nat × Ct) := (30, ⟨[], true, gR04Side, none⟩) :: ct_R04Bit
theorem ctok_R04Side : CtsOk Tryd.prog Gs ct_R04Side := CtsOk.cons vR04Side (by kernel_rfl) ctok_R04Bit
noncomputable def anR04Empty  : Nat → List Nat → List Ann := fun _ _ => []
theorem okR04Empty  : CallsOk Tryd.prog Gs 53 [] [] (.s (.a (.rw 0))) [(0, .row (.ints .u8 emT) 5)] :=
  ok_of (ann := anR04Empty ) ctok_R04Side mixed Tryd.func53 (by kernel_rfl) (of_nf (p := (0 : Nat) < List.length (List.set (List.set (List.set (List.set (List.set (List.replicate ((4 : Nat) + (1 : Nat)) (0 : Int)) ((0 : Nat) * (1 : Nat)) (101 : Int)) ((1 : Nat) * (1 : Nat)) (109 : Int)) ((2 : Nat) * (1 : Nat)) (112 : Int)) ((3 : Nat) * (1 : Nat)) (116 : Int)) ((4 : Nat) * (1 : Nat)) (121 : Int)) ∧ List.length (joinB [List.set (List.set (List.set (List.set (List.set (List.replicate ((4 : Nat) + (1 : Nat)) (0 : Int)) ((0 : Nat) * (1 : Nat)) (101 : Int)) ((1 : Nat) * (1 : Nat)) (109 : Int)) ((2 : Nat) * (1 : Nat)) (112 : Int)) ((3 : Nat) * (1 : Nat)) (116 : Int)) ((4 : Nat) * (1 : Nat)) (121 : Int)]) + (100 : Nat) ≤ lim ∧ joinB [List.set (List.set (List.set (List.set (List.set (List.replicate ((4 : Nat) + (1 : Nat)) (0 : Int)) ((0 : Nat) * (1 : Nat)) (101 : Int)) ((1 : Nat) * (1 : Nat)) (109 : Int)) ((2 : Nat) * (1 : Nat)) (112 : Int)) ((3 : Nat) * (1 : Nat)) (116 : Int)) ((4 : Nat) * (1 : Nat)) (121 : Int)] = emT ∧ True) (by kernel_rfl) (by
    have hlim : lim = 68719476736 := rfl
    refine ⟨by decide, ?_, rfl, trivial⟩
    rw [joinB_bulkT]
    simp only [List.flatten_cons, List.flatten_nil, List.length_append, List.length_set, List.length_replicate, List.length_cons, List.length_nil, nl2]
    omega))
noncomputable def gR04Empty : Con := fun args H => match args, H with
  | [], [] => some ⟨[], .s (.a (.rw 0)), [(0, .row (.ints .u8 emT) 5)]⟩
  | _, _ => none
theorem vR04Empty : Valid Tryd.prog Gs 53 gR04Empty := by
  intro args H r h hp
  unfold gR04Empty at h
  split at h
  · simp only [Option.some.injEq] at h; subst h; exact okR04Empty 
  · cases h
noncomputable def ct_R04Empty : List (Nat × Ct) := (53, ⟨[], false, gR04Empty, none⟩) :: ct_R04Side
theorem ctok_R04Empty : CtsOk Tryd.prog Gs ct_R04Empty := CtsOk.cons vR04Empty (by kernel_rfl) ctok_R04Side
noncomputable def anR04Leaf (k : List Int) (s : ByteArray) : Nat → List Nat → List Ann := fun _ _ => []
theorem okR04Leaf (k : List Int) (s : ByteArray) (hp : allP [k.length = 32, OkB k, s.size + 300 ≤ lim]) : CallsOk Tryd.prog Gs 54 [.agg [.ints .u8 32 k], .a (.d (.v (.string s)))] [] (.s (.a (.rw 0))) [(0, .row (.ints .u8 (leafT (k, numsOf s))) 5)] :=
  ok_of (ann := anR04Leaf k s) ctok_R04Empty mixed Tryd.func54 (by kernel_rfl) (of_nf (p := (0 : Nat) < List.length (List.set (List.set (List.set (List.set (List.replicate ((3 : Nat) + (1 : Nat)) (0 : Int)) ((0 : Nat) * (1 : Nat)) (108 : Int)) ((1 : Nat) * (1 : Nat)) (101 : Int)) ((2 : Nat) * (1 : Nat)) (97 : Int)) ((3 : Nat) * (1 : Nat)) (102 : Int)) ∧ List.length (joinB [List.set (List.set (List.set (List.set (List.replicate ((3 : Nat) + (1 : Nat)) (0 : Int)) ((0 : Nat) * (1 : Nat)) (108 : Int)) ((1 : Nat) * (1 : Nat)) (101 : Int)) ((2 : Nat) * (1 : Nat)) (97 : Int)) ((3 : Nat) * (1 : Nat)) (102 : Int), List.take (lenN (32 : Nat) none none) (List.drop (startN (0 : Nat) none) k), numsOf s]) + (100 : Nat) ≤ lim ∧ joinB [List.set (List.set (List.set (List.set (List.replicate ((3 : Nat) + (1 : Nat)) (0 : Int)) ((0 : Nat) * (1 : Nat)) (108 : Int)) ((1 : Nat) * (1 : Nat)) (101 : Int)) ((2 : Nat) * (1 : Nat)) (97 : Int)) ((3 : Nat) * (1 : Nat)) (102 : Int), List.take (lenN (32 : Nat) none none) (List.drop (startN (0 : Nat) none) k), numsOf s] = leafT (k, numsOf s) ∧ True) (by kernel_rfl) (by
    obtain ⟨hl, hk, hs, _⟩ := hp
    rw [t32 hl]
    have hlim : lim = 68719476736 := rfl
    refine ⟨by decide, ?_, rfl, trivial⟩
    rw [joinB_bulkT]
    simp only [List.flatten_cons, List.flatten_nil, List.length_append, List.length_set, List.length_replicate, List.length_cons, List.length_nil, nl2]
    omega))
noncomputable def gR04Leaf : Con := fun args H => match args, H with
  | [.agg [.ints .u8 32 k], .a (.d (.v (.string s)))], [] => some ⟨[k.length = 32, OkB k, s.size + 300 ≤ lim], .s (.a (.rw 0)), [(0, .row (.ints .u8 (leafT (k, numsOf s))) 5)]⟩
  | _, _ => none
theorem vR04Leaf : Valid Tryd.prog Gs 54 gR04Leaf := by
  intro args H r h hp
  unfold gR04Leaf at h
  split at h
  · simp only [Option.some.injEq] at h; subst h; exact okR04Leaf _ _ hp
  · cases h
noncomputable def ct_R04Leaf : List (Nat × Ct) := (54, ⟨[], false, gR04Leaf, none⟩) :: ct_R04Empty
theorem ctok_R04Leaf : CtsOk Tryd.prog Gs ct_R04Leaf := CtsOk.cons vR04Leaf (by kernel_rfl) ctok_R04Empty
noncomputable def anR04Branch (a c : List Int) : Nat → List Nat → List Ann := fun _ _ => []
theorem okR04Branch (a c : List Int) (hp : allP [a.length = 32, OkB a, c.length = 32, OkB c]) : CallsOk Tryd.prog Gs 55 [.agg [.ints .u8 32 a], .agg [.ints .u8 32 c]] [] (.s (.a (.rw 0))) [(0, .row (.ints .u8 (brT a c)) 5)] :=
  ok_of (ann := anR04Branch a c) ctok_R04Leaf mixed Tryd.func55 (by kernel_rfl) (of_nf (p := (0 : Nat) < List.length (List.set (List.set (List.set (List.set (List.set (List.set (List.replicate ((5 : Nat) + (1 : Nat)) (0 : Int)) ((0 : Nat) * (1 : Nat)) (98 : Int)) ((1 : Nat) * (1 : Nat)) (114 : Int)) ((2 : Nat) * (1 : Nat)) (97 : Int)) ((3 : Nat) * (1 : Nat)) (110 : Int)) ((4 : Nat) * (1 : Nat)) (99 : Int)) ((5 : Nat) * (1 : Nat)) (104 : Int)) ∧ List.length (joinB [List.set (List.set (List.set (List.set (List.set (List.set (List.replicate ((5 : Nat) + (1 : Nat)) (0 : Int)) ((0 : Nat) * (1 : Nat)) (98 : Int)) ((1 : Nat) * (1 : Nat)) (114 : Int)) ((2 : Nat) * (1 : Nat)) (97 : Int)) ((3 : Nat) * (1 : Nat)) (110 : Int)) ((4 : Nat) * (1 : Nat)) (99 : Int)) ((5 : Nat) * (1 : Nat)) (104 : Int), List.take (lenN (32 : Nat) none none) (List.drop (startN (0 : Nat) none) a), List.take (lenN (32 : Nat) none none) (List.drop (startN (0 : Nat) none) c)]) + (100 : Nat) ≤ lim ∧ joinB [List.set (List.set (List.set (List.set (List.set (List.set (List.replicate ((5 : Nat) + (1 : Nat)) (0 : Int)) ((0 : Nat) * (1 : Nat)) (98 : Int)) ((1 : Nat) * (1 : Nat)) (114 : Int)) ((2 : Nat) * (1 : Nat)) (97 : Int)) ((3 : Nat) * (1 : Nat)) (110 : Int)) ((4 : Nat) * (1 : Nat)) (99 : Int)) ((5 : Nat) * (1 : Nat)) (104 : Int), List.take (lenN (32 : Nat) none none) (List.drop (startN (0 : Nat) none) a), List.take (lenN (32 : Nat) none none) (List.drop (startN (0 : Nat) none) c)] = brT a c ∧ True) (by kernel_rfl) (by
    obtain ⟨ha, _, hc, _, _⟩ := hp
    rw [t32 ha, t32 hc]
    have hlim : lim = 68719476736 := rfl
    refine ⟨by decide, ?_, rfl, trivial⟩
    rw [joinB_bulkT]
    simp only [List.flatten_cons, List.flatten_nil, List.length_append, List.length_set, List.length_replicate, List.length_cons, List.length_nil, nl2]
    omega))
noncomputable def gR04Branch : Con := fun args H => match args, H with
  | [.agg [.ints .u8 32 a], .agg [.ints .u8 32 c]], [] => some ⟨[a.length = 32, OkB a, c.length = 32, OkB c], .s (.a (.rw 0)), [(0, .row (.ints .u8 (brT a c)) 5)]⟩
  | _, _ => none
theorem vR04Branch : Valid Tryd.prog Gs 55 gR04Branch := by
  intro args H r h hp
  unfold gR04Branch at h
  split at h
  · simp only [Option.some.injEq] at h; subst h; exact okR04Branch _ _ hp
  · cases h
noncomputable def ct_R04Branch : List (Nat × Ct) := (55, ⟨[], false, gR04Branch, none⟩) :: ct_R04Leaf
theorem ctok_R04Branch : CtsOk Tryd.prog Gs ct_R04Branch := CtsOk.cons vR04Branch (by kernel_rfl) ctok_R04Leaf
theorem side_map (l : List SE) (d v : Nat) : (l.filter fun e => bt e.1 d == v).map ow = sideT (l.map ow) d v := by
  unfold sideT; rw [List.filter_map]; rfl
theorem OkR.filter {l : List SE} (h : OkR l) (p : SE → Bool) : OkR (l.filter p) := fun e he => h e (List.mem_filter.1 he).1
theorem emT_len : emT.length = 21 := by unfold emT; rw [joinB_bulkT]; rfl
theorem brT_len {a c : List Int} (ha : a.length = 32) (hc : c.length = 32) : (brT a c).length = 102 := by
  unfold brT; rw [joinB_bulkT]; simp [ha, hc]
theorem leafT_len {k v : List Int} (hk : k.length = 32) : (leafT (k, v)).length = 68 + v.length := by
  unfold leafT; rw [joinB_bulkT]; simp [hk]; omega
theorem srtR {l : List SE} (ho : OkR l) (h : mayT (l.map ow)) : Srt 256 (l.map ow) := may_srt h fun e he => ⟨(ho.own e he).1, (ho.own e he).2.1⟩
noncomputable def anR04Digest (l : List SE) (deep : Int) : Nat → List Nat → List Ann := fun _ _ => []
noncomputable def grR04Digest (n_ : Nat) : Con := fun args H => match args, H with
  | [.a (.d (.sl 33 m c)), .a (.d (.v (.int .i64 deep)))], [] => (fun (l : List SE) (deep : Int) => conC args H [.a (.d (.sl 33 (l).length (lC rE rZ (l)))), .a (.d (.v (.int .i64 deep)))] [] ⟨(256 - deep.toNat < n_) :: [OkR l, l.length < 1073741824, 0 ≤ deep ∧ deep ≤ 256, Srt (256 - deep.toNat) (l.map ow)], .s (.agg [.ints .u8 32 (sumB shaK (txT (256 - deep.toNat) (l.map ow)))]), []⟩) (lL rG m c) (deep)
  | _, _ => none
noncomputable def ctr_R04Digest (n_ : Nat) : List (Nat × Ct) := (29, ⟨[], false, grR04Digest n_, none⟩) :: ct_R04Branch
theorem okrR04Digest (l : List SE) (deep : Int) (n_ : Nat) (hv_ : Valid Tryd.prog Gs 29 (grR04Digest n_)) (hm_ : 256 - deep.toNat < n_ + 1) (hp : allP [OkR l, l.length < 1073741824, 0 ≤ deep ∧ deep ≤ 256, Srt (256 - deep.toNat) (l.map ow)]) : CallsOk Tryd.prog Gs 29 [.a (.d (.sl 33 (l).length (lC rE rZ (l)))), .a (.d (.v (.int .i64 deep)))] [] (.s (.agg [.ints .u8 32 (sumB shaK (txT (256 - deep.toNat) (l.map ow)))])) [] :=
  ok_of (ann := anR04Digest l deep) (CtsOk.cons (c := ⟨[], false, grR04Digest n_, none⟩) hv_ (by kernel_rfl) ctok_R04Branch) mixed Tryd.func29 (by kernel_rfl) (of_nf (p := brP ((↑(List.length l) : Int) == (0 : Int)) (OkB emT ∧ List.length emT + (100 : Nat) ≤ lim ∧ sumB shaK emT = sumB shaK (txT ((256 : Nat) - Int.toNat deep) (List.map ow l)) ∧ True) (brP ((↑(List.length l) : Int) == (1 : Int)) (((0 : Int) ≤ (0 : Int) ∧ (0 : Int) < (↑(List.length l) : Int)) ∧ ((0 : Int) ≤ (0 : Int) ∧ (0 : Int) < (↑(List.length l) : Int)) ∧ List.length (Prod.fst (List.getD l (Int.toNat (0 : Int)) rZ)) = (32 : Nat) ∧ OkB (Prod.fst (List.getD l (Int.toNat (0 : Int)) rZ)) ∧ ByteArray.size (Prod.snd (List.getD l (Int.toNat (0 : Int)) rZ)) + (300 : Nat) ≤ lim ∧ OkB (leafT (Prod.fst (List.getD l (Int.toNat (0 : Int)) rZ), numsOf (Prod.snd (List.getD l (Int.toNat (0 : Int)) rZ)))) ∧ List.length (leafT (Prod.fst (List.getD l (Int.toNat (0 : Int)) rZ), numsOf (Prod.snd (List.getD l (Int.toNat (0 : Int)) rZ)))) + (100 : Nat) ≤ lim ∧ sumB shaK (leafT (Prod.fst (List.getD l (Int.toNat (0 : Int)) rZ), numsOf (Prod.snd (List.getD l (Int.toNat (0 : Int)) rZ)))) = sumB shaK (txT ((256 : Nat) - Int.toNat deep) (List.map ow l)) ∧ True) (List.length l = List.length (lL rG (List.length l) (lC rE rZ l)) ∧ (∀ (i : Nat), i < List.length (lL rG (List.length l) (lC rE rZ l)) → lC rE rZ l i = lC rE rZ (lL rG (List.length l) (lC rE rZ l)) i) ∧ deep = deep ∧ (0 : Int) = (0 : Int) ∧ OkR (lL rG (List.length l) (lC rE rZ l)) ∧ List.length (lL rG (List.length l) (lC rE rZ l)) < (1073741824 : Nat) ∧ ((0 : Int) ≤ deep ∧ deep < (256 : Int)) ∧ ((0 : Int) ≤ (0 : Int) ∧ (0 : Int) < (2 : Int)) ∧ List.length (List.filter (fun (e : SE) => bt (Prod.fst e) (Int.toNat deep) == Int.toNat (0 : Int)) (lL rG (List.length l) (lC rE rZ l))) = List.length (lL rG (List.length (List.filter (fun (e : SE) => bt (Prod.fst e) (Int.toNat deep) == Int.toNat (0 : Int)) (lL rG (List.length l) (lC rE rZ l)))) (lC rE rZ (List.filter (fun (e : SE) => bt (Prod.fst e) (Int.toNat deep) == Int.toNat (0 : Int)) (lL rG (List.length l) (lC rE rZ l))))) ∧ (∀ (i : Nat), i < List.length (lL rG (List.length (List.filter (fun (e : SE) => bt (Prod.fst e) (Int.toNat deep) == Int.toNat (0 : Int)) (lL rG (List.length l) (lC rE rZ l)))) (lC rE rZ (List.filter (fun (e : SE) => bt (Prod.fst e) (Int.toNat deep) == Int.toNat (0 : Int)) (lL rG (List.length l) (lC rE rZ l))))) → lC rE rZ (List.filter (fun (e : SE) => bt (Prod.fst e) (Int.toNat deep) == Int.toNat (0 : Int)) (lL rG (List.length l) (lC rE rZ l))) i = lC rE rZ (lL rG (List.length (List.filter (fun (e : SE) => bt (Prod.fst e) (Int.toNat deep) == Int.toNat (0 : Int)) (lL rG (List.length l) (lC rE rZ l)))) (lC rE rZ (List.filter (fun (e : SE) => bt (Prod.fst e) (Int.toNat deep) == Int.toNat (0 : Int)) (lL rG (List.length l) (lC rE rZ l))))) i) ∧ IntKind.wrap IntKind.i64 (deep + (1 : Int)) = IntKind.wrap IntKind.i64 (deep + (1 : Int)) ∧ (256 : Nat) - Int.toNat (IntKind.wrap IntKind.i64 (deep + (1 : Int))) < n_ ∧ OkR (lL rG (List.length (List.filter (fun (e : SE) => bt (Prod.fst e) (Int.toNat deep) == Int.toNat (0 : Int)) (lL rG (List.length l) (lC rE rZ l)))) (lC rE rZ (List.filter (fun (e : SE) => bt (Prod.fst e) (Int.toNat deep) == Int.toNat (0 : Int)) (lL rG (List.length l) (lC rE rZ l))))) ∧ List.length (lL rG (List.length (List.filter (fun (e : SE) => bt (Prod.fst e) (Int.toNat deep) == Int.toNat (0 : Int)) (lL rG (List.length l) (lC rE rZ l)))) (lC rE rZ (List.filter (fun (e : SE) => bt (Prod.fst e) (Int.toNat deep) == Int.toNat (0 : Int)) (lL rG (List.length l) (lC rE rZ l))))) < (1073741824 : Nat) ∧ ((0 : Int) ≤ IntKind.wrap IntKind.i64 (deep + (1 : Int)) ∧ IntKind.wrap IntKind.i64 (deep + (1 : Int)) ≤ (256 : Int)) ∧ Srt ((256 : Nat) - Int.toNat (IntKind.wrap IntKind.i64 (deep + (1 : Int)))) (List.map ow (lL rG (List.length (List.filter (fun (e : SE) => bt (Prod.fst e) (Int.toNat deep) == Int.toNat (0 : Int)) (lL rG (List.length l) (lC rE rZ l)))) (lC rE rZ (List.filter (fun (e : SE) => bt (Prod.fst e) (Int.toNat deep) == Int.toNat (0 : Int)) (lL rG (List.length l) (lC rE rZ l)))))) ∧ List.length l = List.length (lL rG (List.length l) (lC rE rZ l)) ∧ (∀ (i : Nat), i < List.length (lL rG (List.length l) (lC rE rZ l)) → lC rE rZ l i = lC rE rZ (lL rG (List.length l) (lC rE rZ l)) i) ∧ deep = deep ∧ (1 : Int) = (1 : Int) ∧ OkR (lL rG (List.length l) (lC rE rZ l)) ∧ List.length (lL rG (List.length l) (lC rE rZ l)) < (1073741824 : Nat) ∧ ((0 : Int) ≤ deep ∧ deep < (256 : Int)) ∧ ((0 : Int) ≤ (1 : Int) ∧ (1 : Int) < (2 : Int)) ∧ List.length (List.filter (fun (e : SE) => bt (Prod.fst e) (Int.toNat deep) == Int.toNat (1 : Int)) (lL rG (List.length l) (lC rE rZ l))) = List.length (lL rG (List.length (List.filter (fun (e : SE) => bt (Prod.fst e) (Int.toNat deep) == Int.toNat (1 : Int)) (lL rG (List.length l) (lC rE rZ l)))) (lC rE rZ (List.filter (fun (e : SE) => bt (Prod.fst e) (Int.toNat deep) == Int.toNat (1 : Int)) (lL rG (List.length l) (lC rE rZ l))))) ∧ (∀ (i : Nat), i < List.length (lL rG (List.length (List.filter (fun (e : SE) => bt (Prod.fst e) (Int.toNat deep) == Int.toNat (1 : Int)) (lL rG (List.length l) (lC rE rZ l)))) (lC rE rZ (List.filter (fun (e : SE) => bt (Prod.fst e) (Int.toNat deep) == Int.toNat (1 : Int)) (lL rG (List.length l) (lC rE rZ l))))) → lC rE rZ (List.filter (fun (e : SE) => bt (Prod.fst e) (Int.toNat deep) == Int.toNat (1 : Int)) (lL rG (List.length l) (lC rE rZ l))) i = lC rE rZ (lL rG (List.length (List.filter (fun (e : SE) => bt (Prod.fst e) (Int.toNat deep) == Int.toNat (1 : Int)) (lL rG (List.length l) (lC rE rZ l)))) (lC rE rZ (List.filter (fun (e : SE) => bt (Prod.fst e) (Int.toNat deep) == Int.toNat (1 : Int)) (lL rG (List.length l) (lC rE rZ l))))) i) ∧ IntKind.wrap IntKind.i64 (deep + (1 : Int)) = IntKind.wrap IntKind.i64 (deep + (1 : Int)) ∧ (256 : Nat) - Int.toNat (IntKind.wrap IntKind.i64 (deep + (1 : Int))) < n_ ∧ OkR (lL rG (List.length (List.filter (fun (e : SE) => bt (Prod.fst e) (Int.toNat deep) == Int.toNat (1 : Int)) (lL rG (List.length l) (lC rE rZ l)))) (lC rE rZ (List.filter (fun (e : SE) => bt (Prod.fst e) (Int.toNat deep) == Int.toNat (1 : Int)) (lL rG (List.length l) (lC rE rZ l))))) ∧ List.length (lL rG (List.length (List.filter (fun (e : SE) => bt (Prod.fst e) (Int.toNat deep) == Int.toNat (1 : Int)) (lL rG (List.length l) (lC rE rZ l)))) (lC rE rZ (List.filter (fun (e : SE) => bt (Prod.fst e) (Int.toNat deep) == Int.toNat (1 : Int)) (lL rG (List.length l) (lC rE rZ l))))) < (1073741824 : Nat) ∧ ((0 : Int) ≤ IntKind.wrap IntKind.i64 (deep + (1 : Int)) ∧ IntKind.wrap IntKind.i64 (deep + (1 : Int)) ≤ (256 : Int)) ∧ Srt ((256 : Nat) - Int.toNat (IntKind.wrap IntKind.i64 (deep + (1 : Int)))) (List.map ow (lL rG (List.length (List.filter (fun (e : SE) => bt (Prod.fst e) (Int.toNat deep) == Int.toNat (1 : Int)) (lL rG (List.length l) (lC rE rZ l)))) (lC rE rZ (List.filter (fun (e : SE) => bt (Prod.fst e) (Int.toNat deep) == Int.toNat (1 : Int)) (lL rG (List.length l) (lC rE rZ l)))))) ∧ List.length (sumB shaK (txT ((256 : Nat) - Int.toNat (IntKind.wrap IntKind.i64 (deep + (1 : Int)))) (List.map ow (lL rG (List.length (List.filter (fun (e : SE) => bt (Prod.fst e) (Int.toNat deep) == Int.toNat (0 : Int)) (lL rG (List.length l) (lC rE rZ l)))) (lC rE rZ (List.filter (fun (e : SE) => bt (Prod.fst e) (Int.toNat deep) == Int.toNat (0 : Int)) (lL rG (List.length l) (lC rE rZ l)))))))) = (32 : Nat) ∧ OkB (sumB shaK (txT ((256 : Nat) - Int.toNat (IntKind.wrap IntKind.i64 (deep + (1 : Int)))) (List.map ow (lL rG (List.length (List.filter (fun (e : SE) => bt (Prod.fst e) (Int.toNat deep) == Int.toNat (0 : Int)) (lL rG (List.length l) (lC rE rZ l)))) (lC rE rZ (List.filter (fun (e : SE) => bt (Prod.fst e) (Int.toNat deep) == Int.toNat (0 : Int)) (lL rG (List.length l) (lC rE rZ l)))))))) ∧ List.length (sumB shaK (txT ((256 : Nat) - Int.toNat (IntKind.wrap IntKind.i64 (deep + (1 : Int)))) (List.map ow (lL rG (List.length (List.filter (fun (e : SE) => bt (Prod.fst e) (Int.toNat deep) == Int.toNat (1 : Int)) (lL rG (List.length l) (lC rE rZ l)))) (lC rE rZ (List.filter (fun (e : SE) => bt (Prod.fst e) (Int.toNat deep) == Int.toNat (1 : Int)) (lL rG (List.length l) (lC rE rZ l)))))))) = (32 : Nat) ∧ OkB (sumB shaK (txT ((256 : Nat) - Int.toNat (IntKind.wrap IntKind.i64 (deep + (1 : Int)))) (List.map ow (lL rG (List.length (List.filter (fun (e : SE) => bt (Prod.fst e) (Int.toNat deep) == Int.toNat (1 : Int)) (lL rG (List.length l) (lC rE rZ l)))) (lC rE rZ (List.filter (fun (e : SE) => bt (Prod.fst e) (Int.toNat deep) == Int.toNat (1 : Int)) (lL rG (List.length l) (lC rE rZ l)))))))) ∧ OkB (brT (sumB shaK (txT ((256 : Nat) - Int.toNat (IntKind.wrap IntKind.i64 (deep + (1 : Int)))) (List.map ow (lL rG (List.length (List.filter (fun (e : SE) => bt (Prod.fst e) (Int.toNat deep) == Int.toNat (0 : Int)) (lL rG (List.length l) (lC rE rZ l)))) (lC rE rZ (List.filter (fun (e : SE) => bt (Prod.fst e) (Int.toNat deep) == Int.toNat (0 : Int)) (lL rG (List.length l) (lC rE rZ l)))))))) (sumB shaK (txT ((256 : Nat) - Int.toNat (IntKind.wrap IntKind.i64 (deep + (1 : Int)))) (List.map ow (lL rG (List.length (List.filter (fun (e : SE) => bt (Prod.fst e) (Int.toNat deep) == Int.toNat (1 : Int)) (lL rG (List.length l) (lC rE rZ l)))) (lC rE rZ (List.filter (fun (e : SE) => bt (Prod.fst e) (Int.toNat deep) == Int.toNat (1 : Int)) (lL rG (List.length l) (lC rE rZ l))))))))) ∧ List.length (brT (sumB shaK (txT ((256 : Nat) - Int.toNat (IntKind.wrap IntKind.i64 (deep + (1 : Int)))) (List.map ow (lL rG (List.length (List.filter (fun (e : SE) => bt (Prod.fst e) (Int.toNat deep) == Int.toNat (0 : Int)) (lL rG (List.length l) (lC rE rZ l)))) (lC rE rZ (List.filter (fun (e : SE) => bt (Prod.fst e) (Int.toNat deep) == Int.toNat (0 : Int)) (lL rG (List.length l) (lC rE rZ l)))))))) (sumB shaK (txT ((256 : Nat) - Int.toNat (IntKind.wrap IntKind.i64 (deep + (1 : Int)))) (List.map ow (lL rG (List.length (List.filter (fun (e : SE) => bt (Prod.fst e) (Int.toNat deep) == Int.toNat (1 : Int)) (lL rG (List.length l) (lC rE rZ l)))) (lC rE rZ (List.filter (fun (e : SE) => bt (Prod.fst e) (Int.toNat deep) == Int.toNat (1 : Int)) (lL rG (List.length l) (lC rE rZ l))))))))) + (100 : Nat) ≤ lim ∧ sumB shaK (brT (sumB shaK (txT ((256 : Nat) - Int.toNat (IntKind.wrap IntKind.i64 (deep + (1 : Int)))) (List.map ow (lL rG (List.length (List.filter (fun (e : SE) => bt (Prod.fst e) (Int.toNat deep) == Int.toNat (0 : Int)) (lL rG (List.length l) (lC rE rZ l)))) (lC rE rZ (List.filter (fun (e : SE) => bt (Prod.fst e) (Int.toNat deep) == Int.toNat (0 : Int)) (lL rG (List.length l) (lC rE rZ l)))))))) (sumB shaK (txT ((256 : Nat) - Int.toNat (IntKind.wrap IntKind.i64 (deep + (1 : Int)))) (List.map ow (lL rG (List.length (List.filter (fun (e : SE) => bt (Prod.fst e) (Int.toNat deep) == Int.toNat (1 : Int)) (lL rG (List.length l) (lC rE rZ l)))) (lC rE rZ (List.filter (fun (e : SE) => bt (Prod.fst e) (Int.toNat deep) == Int.toNat (1 : Int)) (lL rG (List.length l) (lC rE rZ l))))))))) = sumB shaK (txT ((256 : Nat) - Int.toNat deep) (List.map ow l)) ∧ True))) (by kernel_rfl) (by
    obtain ⟨ho, hl, ⟨hd0, hd1⟩, hs, _⟩ := hp
    have hlim : lim = 68719476736 := rfl
    obtain ⟨d, rfl⟩ : ∃ d : Nat, deep = d := ⟨deep.toNat, by omega⟩
    simp only [lL_self rG_rE, Int.toNat_natCast]
    rw [Int.toNat_natCast] at hs hm_
    have lm : (l.map ow).length = l.length := List.length_map _
    refine brI (fun h0 => ?_) (fun h0 => brI (fun h1 => ?_) (fun h1 => ?_))
    · have h0 : l.length = 0 := by have := beq_iff_eq.1 h0; omega
      have h0 := List.length_eq_zero_iff.1 h0
      subst h0
      exact ⟨emT_ok, by rw [emT_len]; decide, by rw [tx_le (l := List.map ow []) (Nat.zero_le _)]; rfl, trivial⟩
    · have h1 : l.length = 1 := by have := beq_iff_eq.1 h1; omega
      match l, h1, ho with
      | [e], _, ho =>
        obtain ⟨e1, e2, e3⟩ := ho e (by simp)
        have eg : ([e] : List SE).getD (Int.toNat 0) rZ = e := rfl
        rw [eg, tx_le (l := List.map ow [e]) (Nat.le_refl 1)]
        exact ⟨⟨Int.le_refl 0, Int.zero_lt_one⟩, ⟨Int.le_refl 0, Int.zero_lt_one⟩, e1, e2, by omega, leafT_ok (e := (e.1, numsOf e.2)) (ho.own (ow e) (by simp)), by rw [leafT_len e1, nl2]; omega, rfl, trivial⟩
    · have hn : ¬ (l.map ow).length ≤ 1 := by
        have a := beq_eq_false_iff_ne.1 h0; have b := beq_eq_false_iff_ne.1 h1
        omega
      have hd : d < 256 := Classical.byContradiction fun h => hn (by
        rw [show 256 - d = 0 by omega] at hs; exact hs.len0)
      obtain ⟨f, hf⟩ : ∃ f : Nat, 256 - d = f + 1 := ⟨255 - d, by omega⟩
      have ed : 255 - f = d := by omega
      rw [wi _ (by omega) (by omega), show ((d : Int) + 1) = ((d + 1 : Nat) : Int) by omega, Int.toNat_natCast, show 256 - (d + 1) = f by omega]
      rw [hf] at hs hm_ ⊢
      have t0 : Int.toNat 0 = 0 := rfl
      have t1 : Int.toNat 1 = 1 := rfl
      simp only [t0, t1, side_map]
      have s0 := hs.side (by omega) 0
      have s1 := hs.side (by omega) 1
      rw [ed] at s0 s1
      have l0 := List.length_filter_le (fun e : SE => bt e.1 d == 0) l
      have l1 := List.length_filter_le (fun e : SE => bt e.1 d == 1) l
      have ob := brT_ok (sumB_ok2 (txT f (sideT (l.map ow) d 0))) (sumB_ok2 (txT f (sideT (l.map ow) d 1)))
      have lb : (brT (sumB shaK (txT f (sideT (l.map ow) d 0))) (sumB shaK (txT f (sideT (l.map ow) d 1)))).length = 102 := brT_len (sumB_len _ _) (sumB_len _ _)
      have o0 := ho.filter (fun e : SE => bt e.1 d == 0)
      have o1 := ho.filter (fun e : SE => bt e.1 d == 1)
      have fin : sumB shaK (brT (sumB shaK (txT f (sideT (l.map ow) d 0))) (sumB shaK (txT f (sideT (l.map ow) d 1)))) = sumB shaK (txT (f + 1) (l.map ow)) := by rw [tx_s, if_neg hn, ed]
      repeat' first | with_reducible apply And.intro | with_reducible trivial | assumption | exact fun _ _ => trivial | with_reducible rfl | exact sumB_len _ _ | exact sumB_ok2 _
      all_goals omega))
theorem vrR04Digest : ∀ n_, Valid Tryd.prog Gs 29 (grR04Digest n_)
  | 0 => by
    intro args H r h hp
    unfold grR04Digest at h
    split at h
    · rename_i m c deep
      exact conC_ok h hp fun hp => absurd hp.1 (Nat.not_lt_zero _)
    · cases h
  | n_ + 1 => by
    intro args H r h hp
    unfold grR04Digest at h
    split at h
    · rename_i m c deep
      exact conC_ok h hp fun hp => okrR04Digest (lL rG m c) (deep) n_ (vrR04Digest n_) hp.1 hp.2
    · cases h
theorem okR04Digest (l : List SE) (deep : Int) (hp : allP [OkR l, l.length < 1073741824, 0 ≤ deep ∧ deep ≤ 256, Srt (256 - deep.toNat) (l.map ow)]) : CallsOk Tryd.prog Gs 29 [.a (.d (.sl 33 (l).length (lC rE rZ (l)))), .a (.d (.v (.int .i64 deep)))] [] (.s (.agg [.ints .u8 32 (sumB shaK (txT (256 - deep.toNat) (l.map ow)))])) [] := okrR04Digest l deep (256 - deep.toNat) (vrR04Digest _) (Nat.lt_succ_self _) hp
noncomputable def gR04Digest : Con := fun args H => match args, H with
  | [.a (.d (.sl 33 m c)), .a (.d (.v (.int .i64 deep)))], [] => (fun (l : List SE) (deep : Int) => conC args H [.a (.d (.sl 33 (l).length (lC rE rZ (l)))), .a (.d (.v (.int .i64 deep)))] [] ⟨[OkR l, l.length < 1073741824, 0 ≤ deep ∧ deep ≤ 256, Srt (256 - deep.toNat) (l.map ow)], .s (.agg [.ints .u8 32 (sumB shaK (txT (256 - deep.toNat) (l.map ow)))]), []⟩) (lL rG m c) (deep)
  | _, _ => none
theorem vR04Digest : Valid Tryd.prog Gs 29 gR04Digest := by
  intro args H r h hp
  unfold gR04Digest at h
  split at h
  · rename_i m c deep
    exact conC_ok h hp fun hp => okR04Digest (lL rG m c) (deep) hp
  · cases h
noncomputable def ct_R04Digest : List (Nat × Ct) := (29, ⟨[], false, gR04Digest, none⟩) :: ct_R04Branch
theorem ctok_R04Digest : CtsOk Tryd.prog Gs ct_R04Digest := CtsOk.cons vR04Digest (by kernel_rfl) ctok_R04Branch
noncomputable def anR04Root (l : List SE) : Nat → List Nat → List Ann := fun _ _ => []
theorem okR04Root (l : List SE) (hp : allP [OkR l, l.length < 1073741824, mayT (l.map ow)]) : CallsOk Tryd.prog Gs 16 [.a (.d (.sl 33 (l).length (lC rE rZ (l))))] [] (.s (.agg [.ints .u8 32 (rootT (l.map ow))])) [] :=
  ok_of (ann := anR04Root l) ctok_R04Digest mixed Tryd.func16 (by kernel_rfl) (of_nf (p := List.length l = List.length (lL rG (List.length l) (lC rE rZ l)) ∧ (∀ (i : Nat), i < List.length (lL rG (List.length l) (lC rE rZ l)) → lC rE rZ l i = lC rE rZ (lL rG (List.length l) (lC rE rZ l)) i) ∧ (0 : Int) = (0 : Int) ∧ OkR (lL rG (List.length l) (lC rE rZ l)) ∧ List.length (lL rG (List.length l) (lC rE rZ l)) < (1073741824 : Nat) ∧ ((0 : Int) ≤ (0 : Int) ∧ (0 : Int) ≤ (256 : Int)) ∧ Srt ((256 : Nat) - Int.toNat (0 : Int)) (List.map ow (lL rG (List.length l) (lC rE rZ l))) ∧ sumB shaK (txT ((256 : Nat) - Int.toNat (0 : Int)) (List.map ow (lL rG (List.length l) (lC rE rZ l)))) = rootT (List.map ow l) ∧ True) (by kernel_rfl) (by
    obtain ⟨ho, hl, hm, _⟩ := hp
    simp only [lL_self rG_rE]
    exact ⟨trivial, fun _ _ => trivial, trivial, ho, hl, by decide, srtR ho hm, rfl, trivial⟩))
noncomputable def gR04Root : Con := fun args H => match args, H with
  | [.a (.d (.sl 33 m c))], [] => (fun (l : List SE) => conC args H [.a (.d (.sl 33 (l).length (lC rE rZ (l))))] [] ⟨[OkR l, l.length < 1073741824, mayT (l.map ow)], .s (.agg [.ints .u8 32 (rootT (l.map ow))]), []⟩) (lL rG m c)
  | _, _ => none
theorem vR04Root : Valid Tryd.prog Gs 16 gR04Root := by
  intro args H r h hp
  unfold gR04Root at h
  split at h
  · rename_i m c
    exact conC_ok h hp fun hp => okR04Root (lL rG m c) hp
  · cases h
noncomputable def ct_R04Root : List (Nat × Ct) := (16, ⟨[], false, gR04Root, none⟩) :: ct_R04Digest
theorem ctok_R04Root : CtsOk Tryd.prog Gs ct_R04Root := CtsOk.cons vR04Root (by kernel_rfl) ctok_R04Digest
def pJ (k : List Int) (l : List SE) (g : Nat × List SE × List (List Int)) : Prop := g.1 ≤ 256 ∧ Srt (256 - g.1) (g.2.1.map ow) ∧ (∀ e ∈ g.2.1, e ∈ l) ∧ g.2.1.length ≤ l.length ∧ g.2.2.length ≤ g.1 ∧
  (g.2.2 ++ (wayT (256 - g.1) (g.2.1.map ow) k).1, (wayT (256 - g.1) (g.2.1.map ow) k).2) = wayT 256 (l.map ow) k ∧ ∀ x ∈ g.2.2, x.length = 32
noncomputable def anR04Prove (l : List SE) (k : List Int) : Nat → List Nat → List Ann := fun bk_ gs_ => match bk_, gs_ with
    | 0, _ => [{ τ := Nat × List SE × List (List Int), t0 := (default : Nat × List SE × List (List Int)), J := pJ k l, m := fun g => 256 - g.1, l := fun g => [(0, .s (.a (.d (.sl 33 (g.2.1).length (lC rE rZ (g.2.1)))))), (3, .s (.a (.lp 203 0))), (5, .s (.a (.rw 205))), (6, eI .i64 (g.1 : Int))], H := fun g => [(203, .cells [.ints .u8 32 k] 24), (205, .row (.ints .u8 g.2.2.flatten) 5)] }]
    | _, _ => []
theorem okR04Prove (l : List SE) (k : List Int) (hp : allP [OkR l, l.length < 1073741824, mayT (l.map ow), OkB k, k.length = 32]) : CallsOk Tryd.prog Gs 17 [.a (.d (.sl 33 (l).length (lC rE rZ (l)))), .agg [.ints .u8 32 k]] [] (.s (.a (.rw 0))) [(0, .row (.ints .u8 (proveT (l.map ow) k)) 5)] :=
  ok_of (ann := anR04Prove l k) ctok_R04Root mixed Tryd.func17 (by kernel_rfl) (of_nf (p := (∃ (t : Nat × List SE × List (List Int)), List.length l = List.length (Prod.fst (Prod.snd t)) ∧ (∀ (i : Nat), i < List.length (Prod.fst (Prod.snd t)) → lC rE rZ l i = lC rE rZ (Prod.fst (Prod.snd t)) i) ∧ (0 : Int) = (↑(Prod.fst t) : Int) ∧ k = k ∧ [] = List.flatten (Prod.snd (Prod.snd t)) ∧ pJ k l t ∧ True) ∧ ∀ (t : Nat × List SE × List (List Int)), pJ k l t → brP (decide ((↑(List.length (Prod.fst (Prod.snd t))) : Int) > (1 : Int))) (OkB k ∧ List.length k = (32 : Nat) ∧ ((0 : Int) ≤ (↑(Prod.fst t) : Int) ∧ (↑(Prod.fst t) : Int) < (256 : Int)) ∧ List.length (Prod.fst (Prod.snd t)) = List.length (lL rG (List.length (Prod.fst (Prod.snd t))) (lC rE rZ (Prod.fst (Prod.snd t)))) ∧ (∀ (i : Nat), i < List.length (lL rG (List.length (Prod.fst (Prod.snd t))) (lC rE rZ (Prod.fst (Prod.snd t)))) → lC rE rZ (Prod.fst (Prod.snd t)) i = lC rE rZ (lL rG (List.length (Prod.fst (Prod.snd t))) (lC rE rZ (Prod.fst (Prod.snd t)))) i) ∧ (↑(Prod.fst t) : Int) = (↑(Prod.fst t) : Int) ∧ IntKind.wrap IntKind.i64 ((1 : Int) - (↑(bt k (Int.toNat (↑(Prod.fst t) : Int))) : Int)) = IntKind.wrap IntKind.i64 ((1 : Int) - (↑(bt k (Int.toNat (↑(Prod.fst t) : Int))) : Int)) ∧ OkR (lL rG (List.length (Prod.fst (Prod.snd t))) (lC rE rZ (Prod.fst (Prod.snd t)))) ∧ List.length (lL rG (List.length (Prod.fst (Prod.snd t))) (lC rE rZ (Prod.fst (Prod.snd t)))) < (1073741824 : Nat) ∧ ((0 : Int) ≤ (↑(Prod.fst t) : Int) ∧ (↑(Prod.fst t) : Int) < (256 : Int)) ∧ ((0 : Int) ≤ IntKind.wrap IntKind.i64 ((1 : Int) - (↑(bt k (Int.toNat (↑(Prod.fst t) : Int))) : Int)) ∧ IntKind.wrap IntKind.i64 ((1 : Int) - (↑(bt k (Int.toNat (↑(Prod.fst t) : Int))) : Int)) < (2 : Int)) ∧ List.length (List.filter (fun (e : SE) => bt (Prod.fst e) (Int.toNat (↑(Prod.fst t) : Int)) == Int.toNat (IntKind.wrap IntKind.i64 ((1 : Int) - (↑(bt k (Int.toNat (↑(Prod.fst t) : Int))) : Int)))) (lL rG (List.length (Prod.fst (Prod.snd t))) (lC rE rZ (Prod.fst (Prod.snd t))))) = List.length (lL rG (List.length (List.filter (fun (e : SE) => bt (Prod.fst e) (Int.toNat (↑(Prod.fst t) : Int)) == Int.toNat (IntKind.wrap IntKind.i64 ((1 : Int) - (↑(bt k (Int.toNat (↑(Prod.fst t) : Int))) : Int)))) (lL rG (List.length (Prod.fst (Prod.snd t))) (lC rE rZ (Prod.fst (Prod.snd t)))))) (lC rE rZ (List.filter (fun (e : SE) => bt (Prod.fst e) (Int.toNat (↑(Prod.fst t) : Int)) == Int.toNat (IntKind.wrap IntKind.i64 ((1 : Int) - (↑(bt k (Int.toNat (↑(Prod.fst t) : Int))) : Int)))) (lL rG (List.length (Prod.fst (Prod.snd t))) (lC rE rZ (Prod.fst (Prod.snd t))))))) ∧ (∀ (i : Nat), i < List.length (lL rG (List.length (List.filter (fun (e : SE) => bt (Prod.fst e) (Int.toNat (↑(Prod.fst t) : Int)) == Int.toNat (IntKind.wrap IntKind.i64 ((1 : Int) - (↑(bt k (Int.toNat (↑(Prod.fst t) : Int))) : Int)))) (lL rG (List.length (Prod.fst (Prod.snd t))) (lC rE rZ (Prod.fst (Prod.snd t)))))) (lC rE rZ (List.filter (fun (e : SE) => bt (Prod.fst e) (Int.toNat (↑(Prod.fst t) : Int)) == Int.toNat (IntKind.wrap IntKind.i64 ((1 : Int) - (↑(bt k (Int.toNat (↑(Prod.fst t) : Int))) : Int)))) (lL rG (List.length (Prod.fst (Prod.snd t))) (lC rE rZ (Prod.fst (Prod.snd t))))))) → lC rE rZ (List.filter (fun (e : SE) => bt (Prod.fst e) (Int.toNat (↑(Prod.fst t) : Int)) == Int.toNat (IntKind.wrap IntKind.i64 ((1 : Int) - (↑(bt k (Int.toNat (↑(Prod.fst t) : Int))) : Int)))) (lL rG (List.length (Prod.fst (Prod.snd t))) (lC rE rZ (Prod.fst (Prod.snd t))))) i = lC rE rZ (lL rG (List.length (List.filter (fun (e : SE) => bt (Prod.fst e) (Int.toNat (↑(Prod.fst t) : Int)) == Int.toNat (IntKind.wrap IntKind.i64 ((1 : Int) - (↑(bt k (Int.toNat (↑(Prod.fst t) : Int))) : Int)))) (lL rG (List.length (Prod.fst (Prod.snd t))) (lC rE rZ (Prod.fst (Prod.snd t)))))) (lC rE rZ (List.filter (fun (e : SE) => bt (Prod.fst e) (Int.toNat (↑(Prod.fst t) : Int)) == Int.toNat (IntKind.wrap IntKind.i64 ((1 : Int) - (↑(bt k (Int.toNat (↑(Prod.fst t) : Int))) : Int)))) (lL rG (List.length (Prod.fst (Prod.snd t))) (lC rE rZ (Prod.fst (Prod.snd t))))))) i) ∧ IntKind.wrap IntKind.i64 ((↑(Prod.fst t) : Int) + (1 : Int)) = IntKind.wrap IntKind.i64 ((↑(Prod.fst t) : Int) + (1 : Int)) ∧ OkR (lL rG (List.length (List.filter (fun (e : SE) => bt (Prod.fst e) (Int.toNat (↑(Prod.fst t) : Int)) == Int.toNat (IntKind.wrap IntKind.i64 ((1 : Int) - (↑(bt k (Int.toNat (↑(Prod.fst t) : Int))) : Int)))) (lL rG (List.length (Prod.fst (Prod.snd t))) (lC rE rZ (Prod.fst (Prod.snd t)))))) (lC rE rZ (List.filter (fun (e : SE) => bt (Prod.fst e) (Int.toNat (↑(Prod.fst t) : Int)) == Int.toNat (IntKind.wrap IntKind.i64 ((1 : Int) - (↑(bt k (Int.toNat (↑(Prod.fst t) : Int))) : Int)))) (lL rG (List.length (Prod.fst (Prod.snd t))) (lC rE rZ (Prod.fst (Prod.snd t))))))) ∧ List.length (lL rG (List.length (List.filter (fun (e : SE) => bt (Prod.fst e) (Int.toNat (↑(Prod.fst t) : Int)) == Int.toNat (IntKind.wrap IntKind.i64 ((1 : Int) - (↑(bt k (Int.toNat (↑(Prod.fst t) : Int))) : Int)))) (lL rG (List.length (Prod.fst (Prod.snd t))) (lC rE rZ (Prod.fst (Prod.snd t)))))) (lC rE rZ (List.filter (fun (e : SE) => bt (Prod.fst e) (Int.toNat (↑(Prod.fst t) : Int)) == Int.toNat (IntKind.wrap IntKind.i64 ((1 : Int) - (↑(bt k (Int.toNat (↑(Prod.fst t) : Int))) : Int)))) (lL rG (List.length (Prod.fst (Prod.snd t))) (lC rE rZ (Prod.fst (Prod.snd t))))))) < (1073741824 : Nat) ∧ ((0 : Int) ≤ IntKind.wrap IntKind.i64 ((↑(Prod.fst t) : Int) + (1 : Int)) ∧ IntKind.wrap IntKind.i64 ((↑(Prod.fst t) : Int) + (1 : Int)) ≤ (256 : Int)) ∧ Srt ((256 : Nat) - Int.toNat (IntKind.wrap IntKind.i64 ((↑(Prod.fst t) : Int) + (1 : Int)))) (List.map ow (lL rG (List.length (List.filter (fun (e : SE) => bt (Prod.fst e) (Int.toNat (↑(Prod.fst t) : Int)) == Int.toNat (IntKind.wrap IntKind.i64 ((1 : Int) - (↑(bt k (Int.toNat (↑(Prod.fst t) : Int))) : Int)))) (lL rG (List.length (Prod.fst (Prod.snd t))) (lC rE rZ (Prod.fst (Prod.snd t)))))) (lC rE rZ (List.filter (fun (e : SE) => bt (Prod.fst e) (Int.toNat (↑(Prod.fst t) : Int)) == Int.toNat (IntKind.wrap IntKind.i64 ((1 : Int) - (↑(bt k (Int.toNat (↑(Prod.fst t) : Int))) : Int)))) (lL rG (List.length (Prod.fst (Prod.snd t))) (lC rE rZ (Prod.fst (Prod.snd t)))))))) ∧ Cont.len (Cont.ints IntKind.u8 (List.flatten (Prod.snd (Prod.snd t)))) + Cont.len (Cont.ints IntKind.u8 (List.take (lenN (32 : Nat) none none) (List.drop (startN (0 : Nat) none) (sumB shaK (txT ((256 : Nat) - Int.toNat (IntKind.wrap IntKind.i64 ((↑(Prod.fst t) : Int) + (1 : Int)))) (List.map ow (lL rG (List.length (List.filter (fun (e : SE) => bt (Prod.fst e) (Int.toNat (↑(Prod.fst t) : Int)) == Int.toNat (IntKind.wrap IntKind.i64 ((1 : Int) - (↑(bt k (Int.toNat (↑(Prod.fst t) : Int))) : Int)))) (lL rG (List.length (Prod.fst (Prod.snd t))) (lC rE rZ (Prod.fst (Prod.snd t)))))) (lC rE rZ (List.filter (fun (e : SE) => bt (Prod.fst e) (Int.toNat (↑(Prod.fst t) : Int)) == Int.toNat (IntKind.wrap IntKind.i64 ((1 : Int) - (↑(bt k (Int.toNat (↑(Prod.fst t) : Int))) : Int)))) (lL rG (List.length (Prod.fst (Prod.snd t))) (lC rE rZ (Prod.fst (Prod.snd t))))))))))))) ≤ lim ∧ OkB k ∧ List.length k = (32 : Nat) ∧ ((0 : Int) ≤ (↑(Prod.fst t) : Int) ∧ (↑(Prod.fst t) : Int) < (256 : Int)) ∧ List.length (Prod.fst (Prod.snd t)) = List.length (lL rG (List.length (Prod.fst (Prod.snd t))) (lC rE rZ (Prod.fst (Prod.snd t)))) ∧ (∀ (i : Nat), i < List.length (lL rG (List.length (Prod.fst (Prod.snd t))) (lC rE rZ (Prod.fst (Prod.snd t)))) → lC rE rZ (Prod.fst (Prod.snd t)) i = lC rE rZ (lL rG (List.length (Prod.fst (Prod.snd t))) (lC rE rZ (Prod.fst (Prod.snd t)))) i) ∧ (↑(Prod.fst t) : Int) = (↑(Prod.fst t) : Int) ∧ (↑(bt k (Int.toNat (↑(Prod.fst t) : Int))) : Int) = (↑(bt k (Int.toNat (↑(Prod.fst t) : Int))) : Int) ∧ OkR (lL rG (List.length (Prod.fst (Prod.snd t))) (lC rE rZ (Prod.fst (Prod.snd t)))) ∧ List.length (lL rG (List.length (Prod.fst (Prod.snd t))) (lC rE rZ (Prod.fst (Prod.snd t)))) < (1073741824 : Nat) ∧ ((0 : Int) ≤ (↑(Prod.fst t) : Int) ∧ (↑(Prod.fst t) : Int) < (256 : Int)) ∧ ((0 : Int) ≤ (↑(bt k (Int.toNat (↑(Prod.fst t) : Int))) : Int) ∧ (↑(bt k (Int.toNat (↑(Prod.fst t) : Int))) : Int) < (2 : Int)) ∧ ∃ (t_1 : Nat × List SE × List (List Int)), List.length (List.filter (fun (e : SE) => bt (Prod.fst e) (Int.toNat (↑(Prod.fst t) : Int)) == Int.toNat (↑(bt k (Int.toNat (↑(Prod.fst t) : Int))) : Int)) (lL rG (List.length (Prod.fst (Prod.snd t))) (lC rE rZ (Prod.fst (Prod.snd t))))) = List.length (Prod.fst (Prod.snd t_1)) ∧ (∀ (i : Nat), i < List.length (Prod.fst (Prod.snd t_1)) → lC rE rZ (List.filter (fun (e : SE) => bt (Prod.fst e) (Int.toNat (↑(Prod.fst t) : Int)) == Int.toNat (↑(bt k (Int.toNat (↑(Prod.fst t) : Int))) : Int)) (lL rG (List.length (Prod.fst (Prod.snd t))) (lC rE rZ (Prod.fst (Prod.snd t))))) i = lC rE rZ (Prod.fst (Prod.snd t_1)) i) ∧ IntKind.wrap IntKind.i64 ((↑(Prod.fst t) : Int) + (1 : Int)) = (↑(Prod.fst t_1) : Int) ∧ k = k ∧ List.flatten (Prod.snd (Prod.snd t)) ++ List.take (lenN (32 : Nat) none none) (List.drop (startN (0 : Nat) none) (sumB shaK (txT ((256 : Nat) - Int.toNat (IntKind.wrap IntKind.i64 ((↑(Prod.fst t) : Int) + (1 : Int)))) (List.map ow (lL rG (List.length (List.filter (fun (e : SE) => bt (Prod.fst e) (Int.toNat (↑(Prod.fst t) : Int)) == Int.toNat (IntKind.wrap IntKind.i64 ((1 : Int) - (↑(bt k (Int.toNat (↑(Prod.fst t) : Int))) : Int)))) (lL rG (List.length (Prod.fst (Prod.snd t))) (lC rE rZ (Prod.fst (Prod.snd t)))))) (lC rE rZ (List.filter (fun (e : SE) => bt (Prod.fst e) (Int.toNat (↑(Prod.fst t) : Int)) == Int.toNat (IntKind.wrap IntKind.i64 ((1 : Int) - (↑(bt k (Int.toNat (↑(Prod.fst t) : Int))) : Int)))) (lL rG (List.length (Prod.fst (Prod.snd t))) (lC rE rZ (Prod.fst (Prod.snd t))))))))))) = List.flatten (Prod.snd (Prod.snd t_1)) ∧ pJ k l t_1 ∧ (256 : Nat) - Prod.fst t_1 < (256 : Nat) - Prod.fst t ∧ True) (List.length (joinB []) + (100 : Nat) ≤ lim ∧ brP ((↑(List.length (Prod.fst (Prod.snd t))) : Int) == (1 : Int)) (((0 : Int) ≤ (0 : Int) ∧ (0 : Int) < (↑(List.length (Prod.fst (Prod.snd t))) : Int)) ∧ ((0 : Int) ≤ (0 : Int) ∧ (0 : Int) < (↑(List.length (Prod.fst (Prod.snd t))) : Int)) ∧ List.length (joinB [cutL (Prod.fst (List.getD (Prod.fst (Prod.snd t)) (Int.toNat (0 : Int)) rZ)) none none, numsOf (Prod.snd (List.getD (Prod.fst (Prod.snd t)) (Int.toNat (0 : Int)) rZ))]) + (100 : Nat) ≤ lim ∧ List.length (joinB [List.flatten (Prod.snd (Prod.snd t)), joinB [cutL (Prod.fst (List.getD (Prod.fst (Prod.snd t)) (Int.toNat (0 : Int)) rZ)) none none, numsOf (Prod.snd (List.getD (Prod.fst (Prod.snd t)) (Int.toNat (0 : Int)) rZ))]]) + (100 : Nat) ≤ lim ∧ joinB [List.flatten (Prod.snd (Prod.snd t)), joinB [cutL (Prod.fst (List.getD (Prod.fst (Prod.snd t)) (Int.toNat (0 : Int)) rZ)) none none, numsOf (Prod.snd (List.getD (Prod.fst (Prod.snd t)) (Int.toNat (0 : Int)) rZ))]] = proveT (List.map ow l) k ∧ True) (List.length (joinB [List.flatten (Prod.snd (Prod.snd t)), joinB []]) + (100 : Nat) ≤ lim ∧ joinB [List.flatten (Prod.snd (Prod.snd t)), joinB []] = proveT (List.map ow l) k ∧ True))) (by kernel_rfl) (by
    obtain ⟨ho, hl, hm, hk, hkl, _⟩ := hp
    simp only [lL_self rG_rE]
    have hlim : lim = 68719476736 := rfl
    have hs := srtR ho hm
    have we := way_end k hs (Nat.le_refl _)
    have hw : proveT (l.map ow) k = joinB [(wayT 256 (l.map ow) k).1.flatten, joinB (endL (wayT 256 (l.map ow) k).2)] := rfl
    refine ⟨⟨(0, l, []), rfl, fun _ _ => rfl, rfl, trivial, rfl, ⟨Nat.zero_le _, hs, fun e he => he, Nat.le_refl _, Nat.le_refl _, rfl, by simp⟩, trivial⟩, ?_⟩
    rintro ⟨d, m, s⟩ ⟨h1, h2, h3, h4, h5, h6, h7⟩
    dsimp only at h1 h2 h3 h4 h5 h6 h7 ⊢
    have om : OkR m := fun e he => ho e (h3 e he)
    have lm : (m.map ow).length = m.length := List.length_map _
    have hfl := flat_len h7
    refine brI (fun hc => ?_) (fun hc => ?_)
    · have hn : ¬ (m.map ow).length ≤ 1 := by have := of_decide_eq_true hc; omega
      have hd : d < 256 := Classical.byContradiction fun h => hn (by
        rw [show 256 - d = 0 by omega] at h2; exact h2.len0)
      obtain ⟨f, hf⟩ : ∃ f : Nat, 256 - d = f + 1 := ⟨255 - d, by omega⟩
      have ed : 255 - f = d := by omega
      have hb := bt_lt k d
      have sv := (hf ▸ h2 : Srt (f + 1) (m.map ow)).side (by omega) (bt k d)
      have sw := (hf ▸ h2 : Srt (f + 1) (m.map ow)).side (by omega) (1 - bt k d)
      rw [ed] at sv sw
      rw [hf, way_s, if_neg hn, ed] at h6
      have hdd : 256 - (d + 1) = f := by omega
      have e1 : IntKind.wrap .i64 (1 - ((bt k d : Nat) : Int)) = ((1 - bt k d : Nat) : Int) := by rw [wi _ (by omega) (by omega)]; omega
      have lv := List.length_filter_le (fun e : SE => bt e.1 d == bt k d) m
      have lw := List.length_filter_le (fun e : SE => bt e.1 d == 1 - bt k d) m
      have ow1 := om.filter (fun e : SE => bt e.1 d == 1 - bt k d)
      rw [wi ((d : Int) + 1) (by omega) (by omega), show ((d : Int) + 1) = ((d + 1 : Nat) : Int) by omega]
      simp only [Int.toNat_natCast, e1, side_map, hdd, t32 (sumB_len _ _)]
      have g : ∃ t_1 : Nat × List SE × List (List Int), (m.filter fun e => bt e.1 d == bt k d).length = t_1.2.1.length ∧ (∀ (i : Nat), i < t_1.2.1.length → lC rE rZ (m.filter fun e => bt e.1 d == bt k d) i = lC rE rZ t_1.2.1 i) ∧ ((d + 1 : Nat) : Int) = (t_1.1 : Int) ∧ True ∧ s.flatten ++ sumB shaK (txT f (sideT (m.map ow) d (1 - bt k d))) = t_1.2.2.flatten ∧ pJ k l t_1 ∧ 256 - t_1.1 < 256 - d ∧ True := by
        refine ⟨(d + 1, m.filter (fun e => bt e.1 d == bt k d), s ++ [sumB shaK (txT f (sideT (m.map ow) d (1 - bt k d)))]), rfl, fun _ _ => rfl, rfl, trivial, by simp, ⟨by dsimp only; omega, ?_, fun e he => h3 e (List.mem_filter.1 he).1, by dsimp only; omega, by simp; omega, ?_, fun y hy => ?_⟩, by dsimp only; omega, trivial⟩
        · dsimp only; rw [hdd, side_map]; exact sv
        · dsimp only; rw [hdd, side_map, ← h6, List.append_assoc]; rfl
        · rcases List.mem_append.1 hy with hy | hy
          · exact h7 y hy
          · rw [List.mem_singleton.1 hy]; exact sumB_len _ _
      have g2 : (Cont.ints IntKind.u8 s.flatten).len + (Cont.ints IntKind.u8 (sumB shaK (txT f (sideT (m.map ow) d (1 - bt k d))))).len ≤ lim := by
        show s.flatten.length + (sumB shaK _).length ≤ lim
        rw [sumB_len, hfl]; omega
      repeat' first | with_reducible apply And.intro | with_reducible trivial | assumption | exact fun _ _ => trivial | with_reducible rfl
      all_goals omega
    · have hn : (m.map ow).length ≤ 1 := by have := of_decide_eq_false hc; omega
      rw [way_le hn, List.append_nil] at h6
      rw [hw, ← h6]
      dsimp only
      have l1 : (joinB []).length = 8 := by rw [joinB_bulkT]; rfl
      refine ⟨by omega, ?_⟩
      match m, hn, om with
      | [], _, _ =>
        refine brI (fun h => by simp at h) (fun _ => ⟨?_, rfl, trivial⟩)
        rw [joinB_bulkT]
        simp only [List.flatten_cons, List.flatten_nil, List.length_append, List.length_cons, List.length_nil]
        omega
      | [x], _, om =>
        refine brI (fun _ => ?_) (fun h => by simp at h)
        obtain ⟨x1, x2, x3⟩ := om x (by simp)
        have eg : ([x] : List SE).getD (Int.toNat 0) rZ = x := rfl
        have l2 : (joinB [x.1, numsOf x.2]).length = 8 + 8 * 2 + (x.1.length + x.2.size) := by
          rw [joinB_bulkT]; simp only [List.flatten_cons, List.flatten_nil, List.length_append, List.length_cons, List.length_nil, nl2]; omega
        rw [eg, cutA]
        refine ⟨⟨Int.le_refl 0, Int.zero_lt_one⟩, ⟨Int.le_refl 0, Int.zero_lt_one⟩, by omega, ?_, rfl, trivial⟩
        rw [joinB_bulkT]
        simp only [List.flatten_cons, List.flatten_nil, List.length_append, List.length_cons, List.length_nil]
        omega
      | _ :: _ :: _, hn, _ => simp at hn))
noncomputable def gR04Prove : Con := fun args H => match args, H with
  | [.a (.d (.sl 33 m c)), .agg [.ints .u8 32 k]], [] => (fun (l : List SE) (k : List Int) => conC args H [.a (.d (.sl 33 (l).length (lC rE rZ (l)))), .agg [.ints .u8 32 k]] [] ⟨[OkR l, l.length < 1073741824, mayT (l.map ow), OkB k, k.length = 32], .s (.a (.rw 0)), [(0, .row (.ints .u8 (proveT (l.map ow) k)) 5)]⟩) (lL rG m c) (k)
  | _, _ => none
theorem vR04Prove : Valid Tryd.prog Gs 17 gR04Prove := by
  intro args H r h hp
  unfold gR04Prove at h
  split at h
  · rename_i m c k
    exact conC_ok h hp fun hp => okR04Prove (lL rG m c) (k) hp
  · cases h
noncomputable def ct_R04Prove : List (Nat × Ct) := (17, ⟨[], false, gR04Prove, none⟩) :: ct_R04Root
theorem ctok_R04Prove : CtsOk Tryd.prog Gs ct_R04Prove := CtsOk.cons vR04Prove (by kernel_rfl) ctok_R04Root
noncomputable def anR04Get (l : List SE) (k : List Int) : Nat → List Nat → List Ann := fun bk_ gs_ => match bk_, gs_ with
    | 0, _ => [{ τ := Nat, t0 := (default : Nat), J := fun i => i ≤ l.length ∧ (l.drop i).find? (fun e => decide (e.1 = k)) = l.find? (fun e => decide (e.1 = k)), m := fun i => l.length - i, l := fun i => [(0, .s (.a (.d (.sl 33 (l).length (lC rE rZ (l)))))), (3, .s (.a (.lp 203 0))), (6, eI .i64 (i : Int))], H := fun i => [(203, .cells [.ints .u8 32 k] 24)] }]
    | _, _ => []
theorem okR04Get (l : List SE) (k : List Int) (hp : allP [l.length < 1073741824]) : CallsOk Tryd.prog Gs 20 [.a (.d (.sl 33 (l).length (lC rE rZ (l)))), .agg [.ints .u8 32 k]] [] (.t [.a (.d (.v (.string (((l.find? fun e => decide (e.1 = k)).map (·.2)).getD ⟨#[]⟩)))), .a (.d (.v (.bool ((l.find? fun e => decide (e.1 = k)).isSome))))]) [] :=
  ok_of (ann := anR04Get l k) ctok_R04Prove mixed Tryd.func20 (by kernel_rfl) (of_nf (p := (∃ (t : Nat), List.length l = List.length l ∧ (∀ (i : Nat), i < List.length l → lC rE rZ l i = lC rE rZ l i) ∧ (0 : Int) = (↑t : Int) ∧ k = k ∧ (t ≤ List.length l ∧ List.find? (fun (e : SE) => decide (Prod.fst e = k)) (List.drop t l) = List.find? (fun (e : SE) => decide (Prod.fst e = k)) l) ∧ True) ∧ ∀ (t : Nat), t ≤ List.length l ∧ List.find? (fun (e : SE) => decide (Prod.fst e = k)) (List.drop t l) = List.find? (fun (e : SE) => decide (Prod.fst e = k)) l → brP (decide ((↑t : Int) < (↑(List.length l) : Int))) (((0 : Int) ≤ (↑t : Int) ∧ (↑t : Int) < (↑(List.length l) : Int)) ∧ brP (Prod.fst (List.getD l (Int.toNat (↑t : Int)) rZ) == k) (((0 : Int) ≤ (↑t : Int) ∧ (↑t : Int) < (↑(List.length l) : Int)) ∧ Prod.snd (List.getD l (Int.toNat (↑t : Int)) rZ) = Option.getD (Option.map (fun (x : SE) => Prod.snd x) (List.find? (fun (e : SE) => decide (Prod.fst e = k)) l)) { data := #[] } ∧ true = Option.isSome (List.find? (fun (e : SE) => decide (Prod.fst e = k)) l) ∧ True) (∃ (t_1 : Nat), List.length l = List.length l ∧ (∀ (i : Nat), i < List.length l → lC rE rZ l i = lC rE rZ l i) ∧ IntKind.wrap IntKind.i64 ((↑t : Int) + (1 : Int)) = (↑t_1 : Int) ∧ k = k ∧ (t_1 ≤ List.length l ∧ List.find? (fun (e : SE) => decide (Prod.fst e = k)) (List.drop t_1 l) = List.find? (fun (e : SE) => decide (Prod.fst e = k)) l) ∧ List.length l - t_1 < List.length l - t ∧ True)) ({ data := #[] } = Option.getD (Option.map (fun (x : SE) => Prod.snd x) (List.find? (fun (e : SE) => decide (Prod.fst e = k)) l)) { data := #[] } ∧ false = Option.isSome (List.find? (fun (e : SE) => decide (Prod.fst e = k)) l) ∧ True)) (by kernel_rfl) (by
    obtain ⟨hl, _⟩ := hp
    refine ⟨⟨0, rfl, fun _ _ => rfl, rfl, rfl, ⟨Nat.zero_le _, rfl⟩, trivial⟩, fun t ht => ?_⟩
    obtain ⟨h1, h2⟩ := ht
    refine brI (fun hc => ?_) (fun hc => ?_)
    · have hc : t < l.length := by have := of_decide_eq_true hc; omega
      rw [List.drop_eq_getElem_cons hc, List.find?_cons] at h2
      rw [Int.toNat_natCast, gR hc]
      refine ⟨⟨by omega, by omega⟩, brI (fun hx => ?_) (fun hx => ?_)⟩
      · have hx : l[t].1 = k := by simpa using hx
        rw [decide_eq_true hx] at h2
        rw [← h2]
        exact ⟨⟨by omega, by omega⟩, rfl, rfl, trivial⟩
      · have hx : ¬ l[t].1 = k := by simpa using hx
        rw [decide_eq_false hx] at h2
        exact ⟨t + 1, rfl, fun _ _ => rfl, by rw [wi _ (by omega) (by omega)]; rfl, rfl, ⟨by omega, h2⟩, by omega, trivial⟩
    · have hc : l.length ≤ t := by have := of_decide_eq_false hc; omega
      rw [List.drop_eq_nil_of_le hc] at h2
      rw [← h2]
      exact ⟨rfl, rfl, trivial⟩))
noncomputable def gR04Get : Con := fun args H => match args, H with
  | [.a (.d (.sl 33 m c)), .agg [.ints .u8 32 k]], [] => (fun (l : List SE) (k : List Int) => conC args H [.a (.d (.sl 33 (l).length (lC rE rZ (l)))), .agg [.ints .u8 32 k]] [] ⟨[l.length < 1073741824], .t [.a (.d (.v (.string (((l.find? fun e => decide (e.1 = k)).map (·.2)).getD ⟨#[]⟩)))), .a (.d (.v (.bool ((l.find? fun e => decide (e.1 = k)).isSome))))], []⟩) (lL rG m c) (k)
  | _, _ => none
theorem vR04Get : Valid Tryd.prog Gs 20 gR04Get := by
  intro args H r h hp
  unfold gR04Get at h
  split at h
  · rename_i m c k
    exact conC_ok h hp fun hp => okR04Get (lL rG m c) (k) hp
  · cases h
noncomputable def ct_R04Get : List (Nat × Ct) := (20, ⟨[], false, gR04Get, none⟩) :: ct_R04Prove
theorem ctok_R04Get : CtsOk Tryd.prog Gs ct_R04Get := CtsOk.cons vR04Get (by kernel_rfl) ctok_R04Prove
end Go.Proofs.YtfobhaodflfedaaDoor
