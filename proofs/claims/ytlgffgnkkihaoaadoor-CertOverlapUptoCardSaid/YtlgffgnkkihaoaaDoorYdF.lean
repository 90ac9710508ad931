/- Votes and certificates: the document's texts and checks. -/
import Derived.Test.YtlgffgnkkihaoaaDoorYdE
namespace Go.Proofs.YtlgffgnkkihaoaaDoor
open Go.Dx Go.RowKit
set_option linter.unusedVariables false
set_option linter.unusedSimpArgs false
set_option maxRecDepth 100000
attribute [local irreducible] wpS
attribute [local irreducible] sumB joinB
theorem flat8 (l : List Int) : ((l.map n8).flatten).length = 8 * l.length := by
  induction l with
  | nil => rfl
  | cons x r ih => rw [List.map_cons, List.flatten_cons, List.length_append, ih, n8_len, List.length_cons]; omega
theorem numsB_len (l : List Int) : (numsB l).length = 8 + 16 * l.length := by
  unfold numsB; rw [joinB_bulk, List.length_map, flat8]; omega
theorem sigB_len {s : SI} (h : s.2.length = 32) : (sigB s).length = 64 := by
  unfold sigB; rw [joinB_bulk]
  simp only [List.flatten_cons, List.flatten_nil, List.length_append, List.length_set, List.length_replicate, List.length_cons, List.length_nil, n8_len, h]
theorem flatS : ∀ {l : List SI}, (∀ s ∈ l, s.2.length = 32) → ((l.map sigB).flatten).length = 64 * l.length
  | [], _ => rfl
  | x :: r, h => by rw [List.map_cons, List.flatten_cons, List.length_append, flatS fun s hs => h s (by simp [hs]), sigB_len (h x (by simp)), List.length_cons]; omega
theorem siZ_get {l : List SI} (h : ∀ s ∈ l, s.2.length = 32) {t : Nat} (ht : t < l.length) : (l.getD t siZ).2.length = 32 := by
  rw [List.getD_eq_getElem?_getD, List.getElem?_eq_getElem ht]; exact h _ (List.getElem_mem ht)
theorem take_i {l : List Int} {t : Nat} (h : t < l.length) : l.take (t + 1) = l.take t ++ [l.getD t 0] := by
  rw [List.take_succ_eq_append_getElem h, List.getD_eq_getElem?_getD, List.getElem?_eq_getElem h]; rfl
theorem take_s {l : List SI} {t : Nat} (h : t < l.length) : l.take (t + 1) = l.take t ++ [l.getD t siZ] := by
  rw [List.take_succ_eq_append_getElem h, List.getD_eq_getElem?_getD, List.getElem?_eq_getElem h]; rfl
structure OkQC (q : QC) : Prop where
  blk : OkD q.blk
  who : q.who.length < 67108864
  sigs : q.sigs.length < 67108864
  tags : ∀ s ∈ q.sigs, s.2.length = 32
theorem clB (Ls : List (List Int)) : Cont.len (.bts Ls) = Ls.length := rfl
noncomputable def anR02Sig (s : SI) : Nat → List Nat → List Ann := fun _ _ => []
theorem okR02Sig (s : SI) (hp : allP [s.2.length = 32]) : CallsOk Tryd.prog Gs 31 [.agg [.one (.d (.v (.int .i64 s.1))), .ints .u8 32 s.2]] [] (.s (.a (.rw 0))) [(0, .row (.ints .u8 (sigB s)) 5)] :=
  ok_of (ann := anR02Sig s) ctok_R06Make mixed Tryd.func31 (by kernel_rfl) (of_nf (p := List.length (joinB [be8 (IntKind.wrap IntKind.u64 (Prod.fst s)), List.take (lenN (32 : Nat) none none) (List.drop (startN (0 : Nat) none) (Prod.snd s))]) + (100 : Nat) ≤ lim ∧ joinB [be8 (IntKind.wrap IntKind.u64 (Prod.fst s)), List.take (lenN (32 : Nat) none none) (List.drop (startN (0 : Nat) none) (Prod.snd s))] = sigB s ∧ True) (by kernel_rfl) (by
    obtain ⟨h, _⟩ := hp
    have hlim : lim = 68719476736 := rfl
    have hl := sigB_len h
    unfold sigB at hl ⊢
    rw [all32D h]
    exact ⟨by show (joinB [n8 s.1, s.2]).length + 100 ≤ lim; omega, rfl, trivial⟩))
noncomputable def gR02Sig : Con := fun args H => match args, H with
  | [.agg [.one (.d (.v (.int .i64 a))), .ints .u8 32 b]], [] => (fun (s : SI) => conC args H [.agg [.one (.d (.v (.int .i64 s.1))), .ints .u8 32 s.2]] [] ⟨[s.2.length = 32], .s (.a (.rw 0)), [(0, .row (.ints .u8 (sigB s)) 5)]⟩) ((a, b))
  | _, _ => none
theorem vR02Sig : Valid Tryd.prog Gs 31 gR02Sig := by
  intro args H r h hp
  unfold gR02Sig at h
  split at h
  · rename_i a b
    exact conC_ok h hp fun hp => okR02Sig ((a, b)) hp
  · cases h
noncomputable def ct_R02Sig : List (Nat × Ct) := (31, ⟨[], false, gR02Sig, none⟩) :: ct_R06Make
theorem ctok_R02Sig : CtsOk Tryd.prog Gs ct_R02Sig := CtsOk.cons vR02Sig (by kernel_rfl) ctok_R06Make
noncomputable def anR02Nums (l : List Int) : Nat → List Nat → List Ann := fun bk_ gs_ => match bk_, gs_ with
    | 0, _ => [{ τ := Nat, t0 := (default : Nat), J := fun i => i ≤ l.length, m := fun i => l.length - i, l := fun i => [(0, .s (.a (.d (.si .i64 l)))), (3, .s (.a (.rw 203))), (4, eI .i64 (i : Int))], H := fun i => [(203, .row (.bts ((l.take i).map n8)) 37)] }]
    | _, _ => []
theorem okR02Nums (l : List Int) (hp : allP [l.length < 1073741824]) : CallsOk Tryd.prog Gs 34 [.a (.d (.si .i64 l))] [] (.s (.a (.rw 0))) [(0, .row (.ints .u8 (numsB l)) 5)] :=
  ok_of (ann := anR02Nums l) ctok_R02Sig mixed Tryd.func34 (by kernel_rfl) (of_nf (p := (∃ (t : Nat), l = l ∧ (0 : Int) = (↑t : Int) ∧ [] = List.map n8 (List.take t l) ∧ t ≤ List.length l ∧ True) ∧ ∀ (t : Nat), t ≤ List.length l → brP (decide ((↑t : Int) < (↑(List.length l) : Int))) (((0 : Int) ≤ (↑t : Int) ∧ (↑t : Int) < (↑(List.length l) : Int)) ∧ Cont.len (Cont.bts (List.map n8 (List.take t l))) + Cont.len (Cont.bts [be8 (IntKind.wrap IntKind.u64 (List.getD l (Int.toNat (↑t : Int)) (0 : Int)))]) ≤ lim ∧ ∃ (t_1 : Nat), l = l ∧ IntKind.wrap IntKind.i64 ((↑t : Int) + (1 : Int)) = (↑t_1 : Int) ∧ List.map n8 (List.take t l) ++ [be8 (IntKind.wrap IntKind.u64 (List.getD l (Int.toNat (↑t : Int)) (0 : Int)))] = List.map n8 (List.take t_1 l) ∧ t_1 ≤ List.length l ∧ List.length l - t_1 < List.length l - t ∧ True) (List.length (joinB (List.map n8 (List.take t l))) + (100 : Nat) ≤ lim ∧ joinB (List.map n8 (List.take t l)) = numsB l ∧ True)) (by kernel_rfl) (by
    obtain ⟨h, _⟩ := hp
    have hlim : lim = 68719476736 := rfl
    simp only [Int.toNat_natCast, true_and, and_true, implies_true, lL_self nuG_nuE, lL_self siG_siE, rcEta, qcEta, vtEta, siEta, clB]
    refine ⟨⟨0, rfl, rfl, Nat.zero_le _⟩, fun t ht => ?_⟩
    refine brI (fun hc => ?_) (fun hc => ?_)
    · have hc : t < l.length := by have := of_decide_eq_true hc; omega
      have hl : ((l.take t).map n8).length = t := by rw [List.length_map, List.length_take]; omega
      refine ⟨⟨by omega, by omega⟩, ?_, t + 1, by rw [wi _ (by omega) (by omega)]; rfl, ?_, hc, by omega⟩
      · rw [hl]; simp; omega
      · rw [take_i hc, List.map_append]; rfl
    · have hc : t = l.length := by have := of_decide_eq_false hc; omega
      rw [hc, List.take_of_length_le (Nat.le_refl _)]
      have := numsB_len l
      exact ⟨by show (numsB l).length + 100 ≤ lim; omega, rfl⟩))
noncomputable def gR02Nums : Con := fun args H => match args, H with
  | [.a (.d (.si .i64 l))], [] => some ⟨[l.length < 1073741824], .s (.a (.rw 0)), [(0, .row (.ints .u8 (numsB l)) 5)]⟩
  | _, _ => none
theorem vR02Nums : Valid Tryd.prog Gs 34 gR02Nums := by
  intro args H r h hp
  unfold gR02Nums at h
  split at h
  · simp only [Option.some.injEq] at h; subst h; exact okR02Nums _ hp
  · cases h
noncomputable def ct_R02Nums : List (Nat × Ct) := (34, ⟨[], false, gR02Nums, none⟩) :: ct_R02Sig
theorem ctok_R02Nums : CtsOk Tryd.prog Gs ct_R02Nums := CtsOk.cons vR02Nums (by kernel_rfl) ctok_R02Sig
noncomputable def anR02QC (q : QC) : Nat → List Nat → List Ann := fun bk_ gs_ => match bk_, gs_ with
    | 0, _ => [{ τ := Nat, t0 := (default : Nat), J := fun i => i ≤ q.sigs.length, m := fun i => q.sigs.length - i, l := fun i => [(1, .s (.a (.lp 201 0))), (3, .s (.a (.rw 203))), (4, eI .i64 (i : Int))], H := fun i => [(201, .cells [.one (.d (.v (.int .i64 (q).ch))), .one (.d (.v (.int .i64 (q).ep))), .one (.d (.v (.int .i64 (q).vw))), .ints .u8 32 (q).blk, .one (.d (.si .i64 (q).who)), .one (.d (.sl 33 ((q).sigs).length (lC siE siZ ((q).sigs))))] 31), (203, .row (.bts ((q.sigs.take i).map sigB)) 37)] }]
    | _, _ => []
theorem okR02QC (q : QC) (hp : allP [OkQC q]) : CallsOk Tryd.prog Gs 11 [.agg [.one (.d (.v (.int .i64 (q).ch))), .one (.d (.v (.int .i64 (q).ep))), .one (.d (.v (.int .i64 (q).vw))), .ints .u8 32 (q).blk, .one (.d (.si .i64 (q).who)), .one (.d (.sl 33 ((q).sigs).length (lC siE siZ ((q).sigs))))]] [] (.s (.a (.rw 0))) [(0, .row (.ints .u8 (qcB q)) 5)] :=
  ok_of (ann := anR02QC q) ctok_R02Nums mixed Tryd.func11 (by kernel_rfl) (of_nf (p := (∃ (t : Nat), (0 : Int) = (↑t : Int) ∧ QC.ch q = QC.ch q ∧ QC.ep q = QC.ep q ∧ QC.vw q = QC.vw q ∧ QC.blk q = QC.blk q ∧ QC.who q = QC.who q ∧ List.length (QC.sigs q) = List.length (QC.sigs q) ∧ (∀ (i : Nat), i < List.length (QC.sigs q) → lC siE siZ (QC.sigs q) i = lC siE siZ (QC.sigs q) i) ∧ [] = List.map sigB (List.take t (QC.sigs q)) ∧ t ≤ List.length (QC.sigs q) ∧ True) ∧ ∀ (t : Nat), let l1 := (List.map sigB (List.take t (QC.sigs q))); let l0 := (List.getD (QC.sigs q) (Int.toNat (↑t : Int)) siZ); t ≤ List.length (QC.sigs q) → brP (decide ((↑t : Int) < (↑(List.length (QC.sigs q)) : Int))) (((0 : Int) ≤ (↑t : Int) ∧ (↑t : Int) < (↑(List.length (QC.sigs q)) : Int)) ∧ Prod.fst l0 = Prod.fst l0 ∧ Prod.snd l0 = Prod.snd l0 ∧ List.length (Prod.snd l0) = (32 : Nat) ∧ Cont.len (Cont.bts l1) + Cont.len (Cont.bts [sigB (Prod.fst l0, Prod.snd l0)]) ≤ lim ∧ ∃ (t_1 : Nat), IntKind.wrap IntKind.i64 ((↑t : Int) + (1 : Int)) = (↑t_1 : Int) ∧ QC.ch q = QC.ch q ∧ QC.ep q = QC.ep q ∧ QC.vw q = QC.vw q ∧ QC.blk q = QC.blk q ∧ QC.who q = QC.who q ∧ List.length (QC.sigs q) = List.length (QC.sigs q) ∧ (∀ (i : Nat), i < List.length (QC.sigs q) → lC siE siZ (QC.sigs q) i = lC siE siZ (QC.sigs q) i) ∧ List.map sigB (List.take t (QC.sigs q)) ++ [sigB (Prod.fst l0, Prod.snd l0)] = List.map sigB (List.take t_1 (QC.sigs q)) ∧ t_1 ≤ List.length (QC.sigs q) ∧ List.length (QC.sigs q) - t_1 < List.length (QC.sigs q) - t ∧ True) (List.length (QC.who q) < (1073741824 : Nat) ∧ List.length (joinB l1) + (100 : Nat) ≤ lim ∧ List.length (joinB [be8 (IntKind.wrap IntKind.u64 (QC.ch q)), be8 (IntKind.wrap IntKind.u64 (QC.ep q)), be8 (IntKind.wrap IntKind.u64 (QC.vw q)), List.take (lenN (32 : Nat) none none) (List.drop (startN (0 : Nat) none) (QC.blk q)), numsB (QC.who q), joinB l1]) + (100 : Nat) ≤ lim ∧ joinB [be8 (IntKind.wrap IntKind.u64 (QC.ch q)), be8 (IntKind.wrap IntKind.u64 (QC.ep q)), be8 (IntKind.wrap IntKind.u64 (QC.vw q)), List.take (lenN (32 : Nat) none none) (List.drop (startN (0 : Nat) none) (QC.blk q)), numsB (QC.who q), joinB l1] = qcB q ∧ True)) (by kernel_rfl) (by
    conv => zeta
    obtain ⟨o, _⟩ := hp
    have hlim : lim = 68719476736 := rfl
    have hw := o.who; have hs := o.sigs
    simp only [Int.toNat_natCast, true_and, and_true, implies_true, lL_self nuG_nuE, lL_self siG_siE, rcEta, qcEta, vtEta, siEta, clB]
    refine ⟨⟨0, rfl, rfl, Nat.zero_le _⟩, fun t ht => ?_⟩
    refine brI (fun hc => ?_) (fun hc => ?_)
    · have hc : t < q.sigs.length := by have := of_decide_eq_true hc; omega
      have hl : ((q.sigs.take t).map sigB).length = t := by rw [List.length_map, List.length_take]; omega
      refine ⟨⟨by omega, by omega⟩, siZ_get o.tags hc, ?_, t + 1, by rw [wi _ (by omega) (by omega)]; rfl, ?_, hc, by omega⟩
      · rw [hl]; simp; omega
      · rw [take_s hc, List.map_append]; rfl
    · have hc : t = q.sigs.length := by have := of_decide_eq_false hc; omega
      have f1 := flatS o.tags
      have f2 := numsB_len q.who
      have f3 : (joinB (q.sigs.map sigB)).length = 8 + 72 * q.sigs.length := by rw [joinB_bulk, List.length_map, f1]; omega
      rw [hc, List.take_of_length_le (Nat.le_refl _), all32D o.blk.len]
      refine ⟨by omega, by omega, ?_, rfl⟩
      show (qcB q).length + 100 ≤ lim
      unfold qcB
      rw [joinB_bulk]
      simp only [List.flatten_cons, List.flatten_nil, List.length_append, List.length_set, List.length_replicate, List.length_cons, List.length_nil, n8_len, f2, f3, o.blk.len]
      omega))
noncomputable def gR02QC : Con := fun args H => match args, H with
  | [.agg [.one (.d (.v (.int .i64 x1))), .one (.d (.v (.int .i64 x2))), .one (.d (.v (.int .i64 x3))), .ints .u8 32 x4, .one (.d (.si .i64 x5)), .one (.d (.sl 33 x6 x7))]], [] => (fun (q : QC) => conC args H [.agg [.one (.d (.v (.int .i64 (q).ch))), .one (.d (.v (.int .i64 (q).ep))), .one (.d (.v (.int .i64 (q).vw))), .ints .u8 32 (q).blk, .one (.d (.si .i64 (q).who)), .one (.d (.sl 33 ((q).sigs).length (lC siE siZ ((q).sigs))))]] [] ⟨[OkQC q], .s (.a (.rw 0)), [(0, .row (.ints .u8 (qcB q)) 5)]⟩) (⟨x1, x2, x3, x4, x5, lL siG x6 x7⟩)
  | _, _ => none
theorem vR02QC : Valid Tryd.prog Gs 11 gR02QC := by
  intro args H r h hp
  unfold gR02QC at h
  split at h
  · rename_i x1 x2 x3 x4 x5 x6 x7
    exact conC_ok h hp fun hp => okR02QC (⟨x1, x2, x3, x4, x5, lL siG x6 x7⟩) hp
  · cases h
noncomputable def ct_R02QC : List (Nat × Ct) := (11, ⟨[], false, gR02QC, none⟩) :: ct_R02Nums
theorem ctok_R02QC : CtsOk Tryd.prog Gs ct_R02QC := CtsOk.cons vR02QC (by kernel_rfl) ctok_R02Nums
noncomputable def anR06VoteText (v : VT) : Nat → List Nat → List Ann := fun _ _ => []
theorem okR06VoteText (v : VT) (hp : allP [OkD v.blk]) : CallsOk Tryd.prog Gs 19 [.agg [.one (.d (.v (.int .i64 (v).ch))), .one (.d (.v (.int .i64 (v).ep))), .one (.d (.v (.int .i64 (v).vw))), .ints .u8 32 (v).blk, .one (.d (.v (.int .i64 (v).who))), .one (.d (.v (.int .i64 (v).sig.1))), .ints .u8 32 (v).sig.2]] [] (.s (.a (.rw 0))) [(0, .row (.ints .u8 (voteB v.ch v.ep v.vw v.blk)) 5)] :=
  ok_of (ann := anR06VoteText v) ctok_R02QC mixed Tryd.func19 (by kernel_rfl) (of_nf (p := (0 : Nat) < List.length (List.set (List.set (List.set (List.set (List.replicate ((3 : Nat) + (1 : Nat)) (0 : Int)) ((0 : Nat) * (1 : Nat)) (118 : Int)) ((1 : Nat) * (1 : Nat)) (111 : Int)) ((2 : Nat) * (1 : Nat)) (116 : Int)) ((3 : Nat) * (1 : Nat)) (101 : Int)) ∧ List.length (joinB [List.set (List.set (List.set (List.set (List.replicate ((3 : Nat) + (1 : Nat)) (0 : Int)) ((0 : Nat) * (1 : Nat)) (118 : Int)) ((1 : Nat) * (1 : Nat)) (111 : Int)) ((2 : Nat) * (1 : Nat)) (116 : Int)) ((3 : Nat) * (1 : Nat)) (101 : Int), be8 (IntKind.wrap IntKind.u64 (VT.ch v)), be8 (IntKind.wrap IntKind.u64 (VT.ep v)), be8 (IntKind.wrap IntKind.u64 (VT.vw v)), List.take (lenN (32 : Nat) none none) (List.drop (startN (0 : Nat) none) (VT.blk v))]) + (100 : Nat) ≤ lim ∧ joinB [List.set (List.set (List.set (List.set (List.replicate ((3 : Nat) + (1 : Nat)) (0 : Int)) ((0 : Nat) * (1 : Nat)) (118 : Int)) ((1 : Nat) * (1 : Nat)) (111 : Int)) ((2 : Nat) * (1 : Nat)) (116 : Int)) ((3 : Nat) * (1 : Nat)) (101 : Int), be8 (IntKind.wrap IntKind.u64 (VT.ch v)), be8 (IntKind.wrap IntKind.u64 (VT.ep v)), be8 (IntKind.wrap IntKind.u64 (VT.vw v)), List.take (lenN (32 : Nat) none none) (List.drop (startN (0 : Nat) none) (VT.blk v))] = voteB (VT.ch v) (VT.ep v) (VT.vw v) (VT.blk v) ∧ True) (by kernel_rfl) (by
    obtain ⟨o, _⟩ := hp
    have hlim : lim = 68719476736 := rfl
    have hl := voteB_len (a := v.ch) (b := v.ep) (c := v.vw) o.len
    unfold voteB at hl
    rw [all32D o.len]
    exact ⟨by decide, (show (joinB [[118, 111, 116, 101], n8 v.ch, n8 v.ep, n8 v.vw, v.blk]).length + 100 ≤ lim by omega), rfl, trivial⟩))
noncomputable def gR06VoteText : Con := fun args H => match args, H with
  | [.agg [.one (.d (.v (.int .i64 x1))), .one (.d (.v (.int .i64 x2))), .one (.d (.v (.int .i64 x3))), .ints .u8 32 x4, .one (.d (.v (.int .i64 x5))), .one (.d (.v (.int .i64 x6))), .ints .u8 32 x7]], [] => (fun (v : VT) => conC args H [.agg [.one (.d (.v (.int .i64 (v).ch))), .one (.d (.v (.int .i64 (v).ep))), .one (.d (.v (.int .i64 (v).vw))), .ints .u8 32 (v).blk, .one (.d (.v (.int .i64 (v).who))), .one (.d (.v (.int .i64 (v).sig.1))), .ints .u8 32 (v).sig.2]] [] ⟨[OkD v.blk], .s (.a (.rw 0)), [(0, .row (.ints .u8 (voteB v.ch v.ep v.vw v.blk)) 5)]⟩) (⟨x1, x2, x3, x4, x5, (x6, x7)⟩)
  | _, _ => none
theorem vR06VoteText : Valid Tryd.prog Gs 19 gR06VoteText := by
  intro args H r h hp
  unfold gR06VoteText at h
  split at h
  · rename_i x1 x2 x3 x4 x5 x6 x7
    exact conC_ok h hp fun hp => okR06VoteText (⟨x1, x2, x3, x4, x5, (x6, x7)⟩) hp
  · cases h
noncomputable def ct_R06VoteText : List (Nat × Ct) := (19, ⟨[], false, gR06VoteText, none⟩) :: ct_R02QC
theorem ctok_R06VoteText : CtsOk Tryd.prog Gs ct_R06VoteText := CtsOk.cons vR06VoteText (by kernel_rfl) ctok_R02QC
noncomputable def anR06TimeoutText (x1 x2 x3 x4 x5 : Int) (x6 : List Int) (q : QC) : Nat → List Nat → List Ann := fun _ _ => []
theorem okR06TimeoutText (x1 x2 x3 x4 x5 : Int) (x6 : List Int) (q : QC) : CallsOk Tryd.prog Gs 53 [.agg [.one (.d (.v (.int .i64 x1))), .one (.d (.v (.int .i64 x2))), .one (.d (.v (.int .i64 x3))), .one (.d (.v (.int .i64 (q).ch))), .one (.d (.v (.int .i64 (q).ep))), .one (.d (.v (.int .i64 (q).vw))), .ints .u8 32 (q).blk, .one (.d (.si .i64 (q).who)), .one (.d (.sl 33 ((q).sigs).length (lC siE siZ ((q).sigs)))), .one (.d (.v (.int .i64 x4))), .one (.d (.v (.int .i64 x5))), .ints .u8 32 x6]] [] (.s (.a (.rw 0))) [(0, .row (.ints .u8 (tmoB x1 x2 x3 q.vw)) 5)] :=
  ok_of (ann := anR06TimeoutText x1 x2 x3 x4 x5 x6 q) ctok_R06VoteText mixed Tryd.func53 (by kernel_rfl) (of_nf (p := let l0 := (List.set (List.set (List.set (List.set (List.set (List.set (List.replicate ((6 : Nat) + (1 : Nat)) (0 : Int)) ((0 : Nat) * (1 : Nat)) (116 : Int)) ((1 : Nat) * (1 : Nat)) (105 : Int)) ((2 : Nat) * (1 : Nat)) (109 : Int)) ((3 : Nat) * (1 : Nat)) (101 : Int)) ((4 : Nat) * (1 : Nat)) (111 : Int)) ((5 : Nat) * (1 : Nat)) (117 : Int)); (0 : Nat) < List.length (List.set l0 ((6 : Nat) * (1 : Nat)) (116 : Int)) ∧ List.length (joinB [List.set l0 ((6 : Nat) * (1 : Nat)) (116 : Int), be8 (IntKind.wrap IntKind.u64 x1), be8 (IntKind.wrap IntKind.u64 x2), be8 (IntKind.wrap IntKind.u64 x3), be8 (IntKind.wrap IntKind.u64 (QC.vw q))]) + (100 : Nat) ≤ lim ∧ joinB [List.set l0 ((6 : Nat) * (1 : Nat)) (116 : Int), be8 (IntKind.wrap IntKind.u64 x1), be8 (IntKind.wrap IntKind.u64 x2), be8 (IntKind.wrap IntKind.u64 x3), be8 (IntKind.wrap IntKind.u64 (QC.vw q))] = tmoB x1 x2 x3 (QC.vw q) ∧ True) (by kernel_rfl) (by
    conv => zeta
    have hlim : lim = 68719476736 := rfl
    have hl := tmoB_len (a := x1) (b := x2) (c := x3) (d := q.vw)
    unfold tmoB at hl
    exact ⟨by decide, (show (joinB [[116, 105, 109, 101, 111, 117, 116], n8 x1, n8 x2, n8 x3, n8 q.vw]).length + 100 ≤ lim by omega), rfl, trivial⟩))
noncomputable def gR06TimeoutText : Con := fun args H => match args, H with
  | [.agg [.one (.d (.v (.int .i64 x1))), .one (.d (.v (.int .i64 x2))), .one (.d (.v (.int .i64 x3))), .one (.d (.v (.int .i64 y1))), .one (.d (.v (.int .i64 y2))), .one (.d (.v (.int .i64 y3))), .ints .u8 32 y4, .one (.d (.si .i64 y5)), .one (.d (.sl 33 y6 y7)), .one (.d (.v (.int .i64 x4))), .one (.d (.v (.int .i64 x5))), .ints .u8 32 x6]], [] => (fun (x1 x2 x3 x4 x5 : Int) (x6 : List Int) (q : QC) => conC args H [.agg [.one (.d (.v (.int .i64 x1))), .one (.d (.v (.int .i64 x2))), .one (.d (.v (.int .i64 x3))), .one (.d (.v (.int .i64 (q).ch))), .one (.d (.v (.int .i64 (q).ep))), .one (.d (.v (.int .i64 (q).vw))), .ints .u8 32 (q).blk, .one (.d (.si .i64 (q).who)), .one (.d (.sl 33 ((q).sigs).length (lC siE siZ ((q).sigs)))), .one (.d (.v (.int .i64 x4))), .one (.d (.v (.int .i64 x5))), .ints .u8 32 x6]] [] ⟨[], .s (.a (.rw 0)), [(0, .row (.ints .u8 (tmoB x1 x2 x3 q.vw)) 5)]⟩) (x1) (x2) (x3) (x4) (x5) (x6) (⟨y1, y2, y3, y4, y5, lL siG y6 y7⟩)
  | _, _ => none
theorem vR06TimeoutText : Valid Tryd.prog Gs 53 gR06TimeoutText := by
  intro args H r h hp
  unfold gR06TimeoutText at h
  split at h
  · rename_i x1 x2 x3 y1 y2 y3 y4 y5 y6 y7 x4 x5 x6
    exact conC_ok h hp fun hp => okR06TimeoutText (x1) (x2) (x3) (x4) (x5) (x6) (⟨y1, y2, y3, y4, y5, lL siG y6 y7⟩)
  · cases h
noncomputable def ct_R06TimeoutText : List (Nat × Ct) := (53, ⟨[], false, gR06TimeoutText, none⟩) :: ct_R06VoteText
theorem ctok_R06TimeoutText : CtsOk Tryd.prog Gs ct_R06TimeoutText := CtsOk.cons vR06TimeoutText (by kernel_rfl) ctok_R06VoteText
noncomputable def anR06Seats (c : RC) (n : Int) : Nat → List Nat → List Ann := fun _ _ => []
theorem okR06Seats (c : RC) (n : Int) : CallsOk Tryd.prog Gs 17 [.agg [.one (.d (.v (.int .i64 (c).ep))), .one (.d (.si .i64 (c).mem)), .one (.d (.sl 1 ((c).seats).length (lC nuE [] ((c).seats))))], .a (.d (.v (.int .i64 n)))] [] (.s (.a (.d (.si .i64 (seatsP c n))))) [] :=
  ok_of (ann := anR06Seats c n) ctok_R06TimeoutText mixed Tryd.func17 (by kernel_rfl) (of_nf (p := brP (decide (n < (0 : Int))) (seatsP c n = [] ∧ True) (brP (decide (n ≥ (↑(List.length (RC.seats c)) : Int))) (seatsP c n = [] ∧ True) (((0 : Int) ≤ n ∧ n < (↑(List.length (RC.seats c)) : Int)) ∧ List.getD (RC.seats c) (Int.toNat n) [] = seatsP c n ∧ True))) (by kernel_rfl) (by
    unfold seatsP
    refine brI (fun h => ?_) (fun h => brI (fun h2 => ?_) (fun h2 => ?_))
    · have h := of_decide_eq_true h
      rw [if_pos (.inl h)]; exact ⟨rfl, trivial⟩
    · have h2 := of_decide_eq_true h2
      rw [if_pos (.inr h2)]; exact ⟨rfl, trivial⟩
    · have h := of_decide_eq_false h
      have h2 := of_decide_eq_false h2
      rw [if_neg (by omega)]; exact ⟨by omega, rfl, trivial⟩))
noncomputable def gR06Seats : Con := fun args H => match args, H with
  | [.agg [.one (.d (.v (.int .i64 x1))), .one (.d (.si .i64 x2)), .one (.d (.sl 1 x3 x4))], .a (.d (.v (.int .i64 n)))], [] => (fun (c : RC) (n : Int) => conC args H [.agg [.one (.d (.v (.int .i64 (c).ep))), .one (.d (.si .i64 (c).mem)), .one (.d (.sl 1 ((c).seats).length (lC nuE [] ((c).seats))))], .a (.d (.v (.int .i64 n)))] [] ⟨[], .s (.a (.d (.si .i64 (seatsP c n)))), []⟩) (⟨x1, x2, lL nuG x3 x4⟩) (n)
  | _, _ => none
theorem vR06Seats : Valid Tryd.prog Gs 17 gR06Seats := by
  intro args H r h hp
  unfold gR06Seats at h
  split at h
  · rename_i x1 x2 x3 x4 n
    exact conC_ok h hp fun hp => okR06Seats (⟨x1, x2, lL nuG x3 x4⟩) (n)
  · cases h
noncomputable def ct_R06Seats : List (Nat × Ct) := (17, ⟨[], true, gR06Seats, none⟩) :: ct_R06TimeoutText
theorem ctok_R06Seats : CtsOk Tryd.prog Gs ct_R06Seats := CtsOk.cons vR06Seats (by kernel_rfl) ctok_R06TimeoutText
noncomputable def anR06In (l : List Int) (n : Int) : Nat → List Nat → List Ann := fun bk_ gs_ => match bk_, gs_ with
    | 0, _ => [{ τ := Nat, t0 := (default : Nat), J := fun i => i ≤ l.length ∧ ∀ j, j < i → l.getD j 0 ≠ n, m := fun i => l.length - i, l := fun i => [(0, .s (.a (.d (.si .i64 l)))), (1, eI .i64 n), (5, eI .i64 (i : Int))], H := fun i => [] }]
    | _, _ => []
theorem okR06In (l : List Int) (n : Int) (hp : allP [l.length < 1099511627776]) : CallsOk Tryd.prog Gs 41 [.a (.d (.si .i64 l)), .a (.d (.v (.int .i64 n)))] [] (eB (l.contains n)) [] :=
  ok_of (ann := anR06In l n) ctok_R06Seats mixed Tryd.func41 (by kernel_rfl) (of_nf (p := (∃ (t : Nat), l = l ∧ n = n ∧ (0 : Int) = (↑t : Int) ∧ (t ≤ List.length l ∧ ∀ (j : Nat), j < t → List.getD l j (0 : Int) ≠ n) ∧ True) ∧ ∀ (t : Nat), (t ≤ List.length l ∧ ∀ (j : Nat), j < t → List.getD l j (0 : Int) ≠ n) → brP (decide ((↑t : Int) < (↑(List.length l) : Int))) (((0 : Int) ≤ (↑t : Int) ∧ (↑t : Int) < (↑(List.length l) : Int)) ∧ brP (List.getD l (Int.toNat (↑t : Int)) (0 : Int) == n) (true = List.contains l n ∧ True) (∃ (t_1 : Nat), l = l ∧ n = n ∧ IntKind.wrap IntKind.i64 ((↑t : Int) + (1 : Int)) = (↑t_1 : Int) ∧ (t_1 ≤ List.length l ∧ ∀ (j : Nat), j < t_1 → List.getD l j (0 : Int) ≠ n) ∧ List.length l - t_1 < List.length l - t ∧ True)) (false = List.contains l n ∧ True)) (by kernel_rfl) (by
    obtain ⟨hl, _⟩ := hp
    simp only [Int.toNat_natCast, true_and, and_true, implies_true, lL_self nuG_nuE, lL_self siG_siE, rcEta, qcEta, vtEta, siEta]
    refine ⟨⟨0, rfl, Nat.zero_le _, fun j hj => absurd hj (Nat.not_lt_zero j)⟩, fun t ht => ?_⟩
    obtain ⟨h1, h2⟩ := ht
    refine brI (fun hc => ?_) (fun hc => ?_)
    · have hc : t < l.length := by have := of_decide_eq_true hc; omega
      refine ⟨⟨by omega, by omega⟩, brI (fun he => ?_) (fun he => ?_)⟩
      · symm
        rw [List.contains_iff_mem, ← beq_iff_eq.1 he, List.getD_eq_getElem?_getD, List.getElem?_eq_getElem hc]
        exact List.getElem_mem hc
      · refine ⟨t + 1, by rw [wi _ (by omega) (by omega)]; rfl, ⟨hc, fun j hj => ?_⟩, by omega⟩
        by_cases hjt : j < t
        · exact h2 j hjt
        · obtain rfl : j = t := by omega
          exact beq_eq_false_iff_ne.1 he
    · have hc : t = l.length := by have := of_decide_eq_false hc; omega
      symm
      rw [Bool.eq_false_iff]
      intro hm
      obtain ⟨j, hj, e⟩ := List.mem_iff_getElem.1 (List.contains_iff_mem.1 hm)
      exact h2 j (by omega) (by rw [List.getD_eq_getElem?_getD, List.getElem?_eq_getElem hj]; exact e)))
noncomputable def gR06In : Con := fun args H => match args, H with
  | [.a (.d (.si .i64 l)), .a (.d (.v (.int .i64 n)))], [] => some ⟨[l.length < 1099511627776], eB (l.contains n), []⟩
  | _, _ => none
theorem vR06In : Valid Tryd.prog Gs 41 gR06In := by
  intro args H r h hp
  unfold gR06In at h
  split at h
  · simp only [Option.some.injEq] at h; subst h; exact okR06In _ _ hp
  · cases h
noncomputable def ct_R06In : List (Nat × Ct) := (41, ⟨[], false, gR06In, none⟩) :: ct_R06Seats
theorem ctok_R06In : CtsOk Tryd.prog Gs ct_R06In := CtsOk.cons vR06In (by kernel_rfl) ctok_R06Seats
noncomputable def anR06frame (c : RC) (u v w : Int) : Nat → List Nat → List Ann := fun _ _ => []
theorem okR06frame (c : RC) (u v w : Int) : CallsOk Tryd.prog Gs 40 [.agg [.one (.d (.v (.int .i64 (c).ep))), .one (.d (.si .i64 (c).mem)), .one (.d (.sl 1 ((c).seats).length (lC nuE [] ((c).seats))))], .a (.d (.v (.int .i64 u))), .a (.d (.v (.int .i64 v))), .a (.d (.v (.int .i64 w)))] [] (eI .i64 (frameP c u v w)) [] :=
  ok_of (ann := anR06frame c u v w) ctok_R06In mixed Tryd.func40 (by kernel_rfl) (of_nf (p := brP (RC.ep c != v) ((10 : Int) = frameP c u v w ∧ True) (RC.ep c = RC.ep c ∧ RC.mem c = RC.mem c ∧ List.length (RC.seats c) = List.length (lL nuG (List.length (RC.seats c)) (lC nuE [] (RC.seats c))) ∧ (∀ (i : Nat), i < List.length (lL nuG (List.length (RC.seats c)) (lC nuE [] (RC.seats c))) → lC nuE [] (RC.seats c) i = lC nuE [] (lL nuG (List.length (RC.seats c)) (lC nuE [] (RC.seats c))) i) ∧ u = u ∧ brP ((↑(List.length (seatsP { ep := RC.ep c, mem := RC.mem c, seats := lL nuG (List.length (RC.seats c)) (lC nuE [] (RC.seats c)) } u)) : Int) == (0 : Int)) ((9 : Int) = frameP c u v w ∧ True) (brP (decide (w < (1 : Int))) ((11 : Int) = frameP c u v w ∧ True) ((0 : Int) = frameP c u v w ∧ True)))) (by kernel_rfl) (by
    simp only [Int.toNat_natCast, true_and, and_true, implies_true, lL_self nuG_nuE, lL_self siG_siE, rcEta, qcEta, vtEta, siEta]
    unfold frameP
    refine brI (fun h => ?_) (fun h => ?_)
    · rw [if_pos (bne_iff_ne.1 h)]
    have h : c.ep = v := by simpa using h
    rw [if_neg (by simpa using h)]
    refine brI (fun h2 => ?_) (fun h2 => ?_)
    · rw [if_pos (by have := beq_iff_eq.1 h2; omega)]
    have h2 : ¬ (seatsP c u).length = 0 := by have := beq_eq_false_iff_ne.1 h2; omega
    rw [if_neg h2]
    refine brI (fun h3 => ?_) (fun h3 => ?_)
    · rw [if_pos (of_decide_eq_true h3)]
    · rw [if_neg (of_decide_eq_false h3)]))
noncomputable def gR06frame : Con := fun args H => match args, H with
  | [.agg [.one (.d (.v (.int .i64 x1))), .one (.d (.si .i64 x2)), .one (.d (.sl 1 x3 x4))], .a (.d (.v (.int .i64 u))), .a (.d (.v (.int .i64 v))), .a (.d (.v (.int .i64 w)))], [] => (fun (c : RC) (u v w : Int) => conC args H [.agg [.one (.d (.v (.int .i64 (c).ep))), .one (.d (.si .i64 (c).mem)), .one (.d (.sl 1 ((c).seats).length (lC nuE [] ((c).seats))))], .a (.d (.v (.int .i64 u))), .a (.d (.v (.int .i64 v))), .a (.d (.v (.int .i64 w)))] [] ⟨[], eI .i64 (frameP c u v w), []⟩) (⟨x1, x2, lL nuG x3 x4⟩) (u) (v) (w)
  | _, _ => none
theorem vR06frame : Valid Tryd.prog Gs 40 gR06frame := by
  intro args H r h hp
  unfold gR06frame at h
  split at h
  · rename_i x1 x2 x3 x4 u v w
    exact conC_ok h hp fun hp => okR06frame (⟨x1, x2, lL nuG x3 x4⟩) (u) (v) (w)
  · cases h
noncomputable def ct_R06frame : List (Nat × Ct) := (40, ⟨[], false, gR06frame, none⟩) :: ct_R06In
theorem ctok_R06frame : CtsOk Tryd.prog Gs ct_R06frame := CtsOk.cons vR06frame (by kernel_rfl) ctok_R06In
theorem numStr {L : List Int} (h : OkB L) : numsOf (strOfNums L) = L := by
  show (((L.map fun n : Int => UInt8.ofNat n.toNat).toArray).toList.map fun b : UInt8 => (b.toNat : Int)) = L
  rw [List.map_map]
  refine (List.map_congr_left fun x hx => ?_).trans (List.map_id L)
  obtain ⟨h0, h1⟩ := h x hx
  simp only [Function.comp, UInt8.toNat_ofNat', id]
  omega
theorem strSz (L : List Int) : (strOfNums L).size = L.length := by
  show ((L.map fun n : Int => UInt8.ofNat n.toNat).toArray).size = _
  simp
theorem sig_eq {L : List SG} {k : Int} {t : List Int} {s : SI} (ht : OkB t) : (madB L (k, s.1, strOfNums t) && (s.2 == tagB k s.1 (numsOf (strOfNums t)))) = sigOk L k t s := by
  rw [numStr ht]; rfl
noncomputable def anR06CheckVote (n b : Int) (L : List SG) (c : RC) (v : VT) : Nat → List Nat → List Ann := fun _ _ => []
theorem okR06CheckVote (n b : Int) (L : List SG) (c : RC) (v : VT) (hp : allP [OkD v.blk, (seatsP c v.ch).length < 1099511627776, L.length < 1099511627776]) : CallsOk Tryd.prog Gs 21 [.a (.lp 100001 0), .agg [.one (.d (.v (.int .i64 (c).ep))), .one (.d (.si .i64 (c).mem)), .one (.d (.sl 1 ((c).seats).length (lC nuE [] ((c).seats))))], .agg [.one (.d (.v (.int .i64 (v).ch))), .one (.d (.v (.int .i64 (v).ep))), .one (.d (.v (.int .i64 (v).vw))), .ints .u8 32 (v).blk, .one (.d (.v (.int .i64 (v).who))), .one (.d (.v (.int .i64 (v).sig.1))), .ints .u8 32 (v).sig.2]] [(100000, .row (.st 3 (L).length (lC sgE sgZ (L))) 80), (100001, .cells [.one (.d (.v (.int .i64 n))), .one (.d (.v (.int .i64 b))), .one (.rw 100000)] 121)] (eI .i64 (voteP L c v)) [(100000, .row (.st 3 (L).length (lC sgE sgZ (L))) 80), (100001, .cells [.one (.d (.v (.int .i64 n))), .one (.d (.v (.int .i64 b))), .one (.rw 100000)] 121)] :=
  ok_of (ann := anR06CheckVote n b L c v) ctok_R06frame mixed Tryd.func21 (by kernel_rfl) (of_nf (p := let l5 := (lC nuE [] (RC.seats c)); let l4 := (List.length (RC.seats c)); let l3 := (seatsP { ep := RC.ep c, mem := RC.mem c, seats := lL nuG l4 l5 } (VT.ch v)); let l2 := (voteB (VT.ch v) (VT.ep v) (VT.vw v) (VT.blk v)); let l1 := (lL nuG l4 l5); let l0 := (lL sgD (List.length L) (lC sgE sgZ L)); RC.ep c = RC.ep c ∧ RC.mem c = RC.mem c ∧ List.length (RC.seats c) = List.length l1 ∧ (∀ (i : Nat), i < List.length l1 → lC nuE [] (RC.seats c) i = lC nuE [] l1 i) ∧ VT.ch v = VT.ch v ∧ VT.ep v = VT.ep v ∧ VT.vw v = VT.vw v ∧ brP (frameP { ep := RC.ep c, mem := RC.mem c, seats := lL nuG l4 l5 } (VT.ch v) (VT.ep v) (VT.vw v) != (0 : Int)) (frameP { ep := RC.ep c, mem := RC.mem c, seats := lL nuG l4 l5 } (VT.ch v) (VT.ep v) (VT.vw v) = voteP L c v ∧ List.length L = List.length L ∧ (∀ (i : Nat), i < List.length L → lC sgE sgZ L i = lC sgE sgZ L i) ∧ n = n ∧ b = b ∧ True) (RC.ep c = RC.ep c ∧ RC.mem c = RC.mem c ∧ List.length (RC.seats c) = List.length l1 ∧ (∀ (i : Nat), i < List.length l1 → lC nuE [] (RC.seats c) i = lC nuE [] l1 i) ∧ VT.ch v = VT.ch v ∧ List.length l3 < (1099511627776 : Nat) ∧ brP (!List.contains l3 (VT.who v)) ((14 : Int) = voteP L c v ∧ List.length L = List.length L ∧ (∀ (i : Nat), i < List.length L → lC sgE sgZ L i = lC sgE sgZ L i) ∧ n = n ∧ b = b ∧ True) (VT.ch v = VT.ch v ∧ VT.ep v = VT.ep v ∧ VT.vw v = VT.vw v ∧ VT.blk v = VT.blk v ∧ VT.who v = VT.who v ∧ Prod.fst (VT.sig v) = Prod.fst (VT.sig v) ∧ Prod.snd (VT.sig v) = Prod.snd (VT.sig v) ∧ OkD (VT.blk v) ∧ VT.who v = VT.who v ∧ strOfNums l2 = strOfNums l2 ∧ Prod.fst (VT.sig v) = Prod.fst (VT.sig v) ∧ Prod.snd (VT.sig v) = Prod.snd (VT.sig v) ∧ List.length L = List.length l0 ∧ (∀ (i : Nat), i < List.length l0 → lC sgE sgZ L i = lC sgE sgZ l0 i) ∧ n = n ∧ b = b ∧ ByteArray.size (strOfNums l2) + (300 : Nat) ≤ lim ∧ List.length l0 < (1099511627776 : Nat) ∧ brP (!(madB l0 (VT.who v, Prod.fst (VT.sig v), strOfNums l2) && Prod.snd (VT.sig v) == tagB (VT.who v) (Prod.fst (VT.sig v)) (numsOf (strOfNums l2)))) ((16 : Int) = voteP L c v ∧ List.length l0 = List.length L ∧ (∀ (i : Nat), i < List.length L → lC sgE sgZ l0 i = lC sgE sgZ L i) ∧ n = n ∧ b = b ∧ True) ((0 : Int) = voteP L c v ∧ List.length l0 = List.length L ∧ (∀ (i : Nat), i < List.length L → lC sgE sgZ l0 i = lC sgE sgZ L i) ∧ n = n ∧ b = b ∧ True)))) (by kernel_rfl) (by
    conv => zeta
    obtain ⟨ob, hS, hL, _⟩ := hp
    have hlim : lim = 68719476736 := rfl
    have hl := voteB_len (a := v.ch) (b := v.ep) (c := v.vw) ob.len
    have ok := voteB_ok (a := v.ch) (b := v.ep) (c := v.vw) ob.ok
    simp only [numStr ok]
    simp only [Int.toNat_natCast, true_and, and_true, implies_true, lL_self nuG_nuE, lL_self siG_siE, rcEta, qcEta, vtEta, siEta, lL_self sgD_sgE]
    unfold voteP signP sigOk
    refine brI (fun h => ?_) (fun h => ?_)
    · rw [if_pos (bne_iff_ne.1 h)]
    rw [if_neg (by simpa using h)]
    refine ⟨hS, brI (fun h2 => ?_) (fun h2 => ?_)⟩
    · rw [if_pos (by simpa using h2)]
    rw [if_neg (by simpa using h2)]
    refine ⟨ob, by rw [strSz]; omega, hL, brI (fun h3 => ?_) (fun h3 => ?_)⟩
    · rw [if_pos (by rw [Bool.not_eq_true'] at h3; exact h3)]
    · rw [if_neg (by rw [Bool.not_eq_false'] at h3; rw [h3]; decide)]))
noncomputable def gR06CheckVote : Con := fun args H => match args, H with
  | [.a (.lp 100001 0), .agg [.one (.d (.v (.int .i64 x1))), .one (.d (.si .i64 x2)), .one (.d (.sl 1 x3 x4))], .agg [.one (.d (.v (.int .i64 y1))), .one (.d (.v (.int .i64 y2))), .one (.d (.v (.int .i64 y3))), .ints .u8 32 y4, .one (.d (.v (.int .i64 y5))), .one (.d (.v (.int .i64 y6))), .ints .u8 32 y7]], [(100000, .row (.st 3 m0 c0) t0), (100001, .cells (.one (.d (.v (.int .i64 n))) :: .one (.d (.v (.int .i64 b))) :: z) tz)] => (fun (n b : Int) (L : List SG) (c : RC) (v : VT) => conC args H [.a (.lp 100001 0), .agg [.one (.d (.v (.int .i64 (c).ep))), .one (.d (.si .i64 (c).mem)), .one (.d (.sl 1 ((c).seats).length (lC nuE [] ((c).seats))))], .agg [.one (.d (.v (.int .i64 (v).ch))), .one (.d (.v (.int .i64 (v).ep))), .one (.d (.v (.int .i64 (v).vw))), .ints .u8 32 (v).blk, .one (.d (.v (.int .i64 (v).who))), .one (.d (.v (.int .i64 (v).sig.1))), .ints .u8 32 (v).sig.2]] [(100000, .row (.st 3 (L).length (lC sgE sgZ (L))) 80), (100001, .cells [.one (.d (.v (.int .i64 n))), .one (.d (.v (.int .i64 b))), .one (.rw 100000)] 121)] ⟨[OkD v.blk, (seatsP c v.ch).length < 1099511627776, L.length < 1099511627776], eI .i64 (voteP L c v), [(100000, .row (.st 3 (L).length (lC sgE sgZ (L))) 80), (100001, .cells [.one (.d (.v (.int .i64 n))), .one (.d (.v (.int .i64 b))), .one (.rw 100000)] 121)]⟩) (n) (b) (lL sgD m0 c0) (⟨x1, x2, lL nuG x3 x4⟩) (⟨y1, y2, y3, y4, y5, (y6, y7)⟩)
  | _, _ => none
theorem vR06CheckVote : Valid Tryd.prog Gs 21 gR06CheckVote := by
  intro args H r h hp
  unfold gR06CheckVote at h
  split at h
  · rename_i x1 x2 x3 x4 y1 y2 y3 y4 y5 y6 y7 m0 c0 t0 n b z tz
    exact conC_ok h hp fun hp => okR06CheckVote (n) (b) (lL sgD m0 c0) (⟨x1, x2, lL nuG x3 x4⟩) (⟨y1, y2, y3, y4, y5, (y6, y7)⟩) hp
  · cases h
noncomputable def ct_R06CheckVote : List (Nat × Ct) := (21, ⟨[true], false, gR06CheckVote, none⟩) :: ct_R06frame
theorem ctok_R06CheckVote : CtsOk Tryd.prog Gs ct_R06CheckVote := CtsOk.cons vR06CheckVote (by kernel_rfl) ctok_R06frame
noncomputable def anR06CheckTimeout (n b : Int) (L : List SG) (c : RC) (x1 x2 x3 : Int) (q : QC) (x4 x5 : Int) (x6 : List Int) : Nat → List Nat → List Ann := fun _ _ => []
theorem okR06CheckTimeout (n b : Int) (L : List SG) (c : RC) (x1 x2 x3 : Int) (q : QC) (x4 x5 : Int) (x6 : List Int) (hp : allP [(seatsP c x1).length < 1099511627776, L.length < 1099511627776]) : CallsOk Tryd.prog Gs 23 [.a (.lp 100001 0), .agg [.one (.d (.v (.int .i64 (c).ep))), .one (.d (.si .i64 (c).mem)), .one (.d (.sl 1 ((c).seats).length (lC nuE [] ((c).seats))))], .agg [.one (.d (.v (.int .i64 x1))), .one (.d (.v (.int .i64 x2))), .one (.d (.v (.int .i64 x3))), .one (.d (.v (.int .i64 (q).ch))), .one (.d (.v (.int .i64 (q).ep))), .one (.d (.v (.int .i64 (q).vw))), .ints .u8 32 (q).blk, .one (.d (.si .i64 (q).who)), .one (.d (.sl 33 ((q).sigs).length (lC siE siZ ((q).sigs)))), .one (.d (.v (.int .i64 x4))), .one (.d (.v (.int .i64 x5))), .ints .u8 32 x6]] [(100000, .row (.st 3 (L).length (lC sgE sgZ (L))) 80), (100001, .cells [.one (.d (.v (.int .i64 n))), .one (.d (.v (.int .i64 b))), .one (.rw 100000)] 121)] (eI .i64 (tmoP L c x1 x2 x3 q.vw x4 (x5, x6))) [(100000, .row (.st 3 (L).length (lC sgE sgZ (L))) 80), (100001, .cells [.one (.d (.v (.int .i64 n))), .one (.d (.v (.int .i64 b))), .one (.rw 100000)] 121)] :=
  ok_of (ann := anR06CheckTimeout n b L c x1 x2 x3 q x4 x5 x6) ctok_R06CheckVote mixed Tryd.func23 (by kernel_rfl) (of_nf (p := let l6 := (lC nuE [] (RC.seats c)); let l5 := (List.length (RC.seats c)); let l4 := (tmoB x1 x2 x3 (QC.vw q)); let l3 := (lL siG (List.length (QC.sigs q)) (lC siE siZ (QC.sigs q))); let l2 := (seatsP { ep := RC.ep c, mem := RC.mem c, seats := lL nuG l5 l6 } x1); let l1 := (lL nuG l5 l6); let l0 := (lL sgD (List.length L) (lC sgE sgZ L)); RC.ep c = RC.ep c ∧ RC.mem c = RC.mem c ∧ List.length (RC.seats c) = List.length l1 ∧ (∀ (i : Nat), i < List.length l1 → lC nuE [] (RC.seats c) i = lC nuE [] l1 i) ∧ x1 = x1 ∧ x2 = x2 ∧ x3 = x3 ∧ brP (frameP { ep := RC.ep c, mem := RC.mem c, seats := lL nuG l5 l6 } x1 x2 x3 != (0 : Int)) (frameP { ep := RC.ep c, mem := RC.mem c, seats := lL nuG l5 l6 } x1 x2 x3 = tmoP L c x1 x2 x3 (QC.vw q) x4 (x5, x6) ∧ List.length L = List.length L ∧ (∀ (i : Nat), i < List.length L → lC sgE sgZ L i = lC sgE sgZ L i) ∧ n = n ∧ b = b ∧ True) (RC.ep c = RC.ep c ∧ RC.mem c = RC.mem c ∧ List.length (RC.seats c) = List.length l1 ∧ (∀ (i : Nat), i < List.length l1 → lC nuE [] (RC.seats c) i = lC nuE [] l1 i) ∧ x1 = x1 ∧ List.length l2 < (1099511627776 : Nat) ∧ brP (!List.contains l2 x4) ((14 : Int) = tmoP L c x1 x2 x3 (QC.vw q) x4 (x5, x6) ∧ List.length L = List.length L ∧ (∀ (i : Nat), i < List.length L → lC sgE sgZ L i = lC sgE sgZ L i) ∧ n = n ∧ b = b ∧ True) (x1 = x1 ∧ x2 = x2 ∧ x3 = x3 ∧ QC.ch q = QC.ch q ∧ QC.ep q = QC.ep q ∧ QC.vw q = QC.vw q ∧ QC.blk q = QC.blk q ∧ QC.who q = QC.who q ∧ List.length (QC.sigs q) = List.length l3 ∧ (∀ (i : Nat), i < List.length l3 → lC siE siZ (QC.sigs q) i = lC siE siZ l3 i) ∧ x4 = x4 ∧ x5 = x5 ∧ x6 = x6 ∧ x4 = x4 ∧ strOfNums l4 = strOfNums l4 ∧ x5 = x5 ∧ x6 = x6 ∧ List.length L = List.length l0 ∧ (∀ (i : Nat), i < List.length l0 → lC sgE sgZ L i = lC sgE sgZ l0 i) ∧ n = n ∧ b = b ∧ ByteArray.size (strOfNums l4) + (300 : Nat) ≤ lim ∧ List.length l0 < (1099511627776 : Nat) ∧ brP (!(madB l0 (x4, x5, strOfNums l4) && x6 == tagB x4 x5 (numsOf (strOfNums l4)))) ((16 : Int) = tmoP L c x1 x2 x3 (QC.vw q) x4 (x5, x6) ∧ List.length l0 = List.length L ∧ (∀ (i : Nat), i < List.length L → lC sgE sgZ l0 i = lC sgE sgZ L i) ∧ n = n ∧ b = b ∧ True) ((0 : Int) = tmoP L c x1 x2 x3 (QC.vw q) x4 (x5, x6) ∧ List.length l0 = List.length L ∧ (∀ (i : Nat), i < List.length L → lC sgE sgZ l0 i = lC sgE sgZ L i) ∧ n = n ∧ b = b ∧ True)))) (by kernel_rfl) (by
    conv => zeta
    obtain ⟨hS, hL, _⟩ := hp
    have hlim : lim = 68719476736 := rfl
    have hl := tmoB_len (a := x1) (b := x2) (c := x3) (d := q.vw)
    have ok := tmoB_ok (a := x1) (b := x2) (c := x3) (d := q.vw)
    simp only [numStr ok]
    simp only [Int.toNat_natCast, true_and, and_true, implies_true, lL_self nuG_nuE, lL_self siG_siE, rcEta, qcEta, vtEta, siEta, lL_self sgD_sgE]
    unfold tmoP signP sigOk
    refine brI (fun h => ?_) (fun h => ?_)
    · rw [if_pos (bne_iff_ne.1 h)]
    rw [if_neg (by simpa using h)]
    refine ⟨hS, brI (fun h2 => ?_) (fun h2 => ?_)⟩
    · rw [if_pos (by simpa using h2)]
    rw [if_neg (by simpa using h2)]
    refine ⟨by rw [strSz]; omega, hL, brI (fun h3 => ?_) (fun h3 => ?_)⟩
    · rw [if_pos (by rw [Bool.not_eq_true'] at h3; exact h3)]
    · rw [if_neg (by rw [Bool.not_eq_false'] at h3; rw [h3]; decide)]))
noncomputable def gR06CheckTimeout : Con := fun args H => match args, H with
  | [.a (.lp 100001 0), .agg [.one (.d (.v (.int .i64 x1))), .one (.d (.si .i64 x2)), .one (.d (.sl 1 x3 x4))], .agg [.one (.d (.v (.int .i64 z1))), .one (.d (.v (.int .i64 z2))), .one (.d (.v (.int .i64 z3))), .one (.d (.v (.int .i64 y1))), .one (.d (.v (.int .i64 y2))), .one (.d (.v (.int .i64 y3))), .ints .u8 32 y4, .one (.d (.si .i64 y5)), .one (.d (.sl 33 y6 y7)), .one (.d (.v (.int .i64 z4))), .one (.d (.v (.int .i64 z5))), .ints .u8 32 z6]], [(100000, .row (.st 3 m0 c0) t0), (100001, .cells (.one (.d (.v (.int .i64 n))) :: .one (.d (.v (.int .i64 b))) :: z) tz)] => (fun (n b : Int) (L : List SG) (c : RC) (x1 x2 x3 : Int) (q : QC) (x4 x5 : Int) (x6 : List Int) => conC args H [.a (.lp 100001 0), .agg [.one (.d (.v (.int .i64 (c).ep))), .one (.d (.si .i64 (c).mem)), .one (.d (.sl 1 ((c).seats).length (lC nuE [] ((c).seats))))], .agg [.one (.d (.v (.int .i64 x1))), .one (.d (.v (.int .i64 x2))), .one (.d (.v (.int .i64 x3))), .one (.d (.v (.int .i64 (q).ch))), .one (.d (.v (.int .i64 (q).ep))), .one (.d (.v (.int .i64 (q).vw))), .ints .u8 32 (q).blk, .one (.d (.si .i64 (q).who)), .one (.d (.sl 33 ((q).sigs).length (lC siE siZ ((q).sigs)))), .one (.d (.v (.int .i64 x4))), .one (.d (.v (.int .i64 x5))), .ints .u8 32 x6]] [(100000, .row (.st 3 (L).length (lC sgE sgZ (L))) 80), (100001, .cells [.one (.d (.v (.int .i64 n))), .one (.d (.v (.int .i64 b))), .one (.rw 100000)] 121)] ⟨[(seatsP c x1).length < 1099511627776, L.length < 1099511627776], eI .i64 (tmoP L c x1 x2 x3 q.vw x4 (x5, x6)), [(100000, .row (.st 3 (L).length (lC sgE sgZ (L))) 80), (100001, .cells [.one (.d (.v (.int .i64 n))), .one (.d (.v (.int .i64 b))), .one (.rw 100000)] 121)]⟩) (n) (b) (lL sgD m0 c0) (⟨x1, x2, lL nuG x3 x4⟩) (z1) (z2) (z3) (⟨y1, y2, y3, y4, y5, lL siG y6 y7⟩) (z4) (z5) (z6)
  | _, _ => none
theorem vR06CheckTimeout : Valid Tryd.prog Gs 23 gR06CheckTimeout := by
  intro args H r h hp
  unfold gR06CheckTimeout at h
  split at h
  · rename_i x1 x2 x3 x4 z1 z2 z3 y1 y2 y3 y4 y5 y6 y7 z4 z5 z6 m0 c0 t0 n b z tz
    exact conC_ok h hp fun hp => okR06CheckTimeout (n) (b) (lL sgD m0 c0) (⟨x1, x2, lL nuG x3 x4⟩) (z1) (z2) (z3) (⟨y1, y2, y3, y4, y5, lL siG y6 y7⟩) (z4) (z5) (z6) hp
  · cases h
noncomputable def ct_R06CheckTimeout : List (Nat × Ct) := (23, ⟨[true], false, gR06CheckTimeout, none⟩) :: ct_R06CheckVote
theorem ctok_R06CheckTimeout : CtsOk Tryd.prog Gs ct_R06CheckTimeout := CtsOk.cons vR06CheckTimeout (by kernel_rfl) ctok_R06CheckVote
def vtOf (q : QC) (i : Nat) : VT := ⟨q.ch, q.ep, q.vw, q.blk, q.who.getD i 0, q.sigs.getD i siZ⟩
theorem vote_in {L : List SG} {c : RC} {q : QC} (hf : frameP c q.ch q.ep q.vw = 0) (i : Nat) : voteP L c (vtOf q i) = signP L (seatsP c q.ch) (q.who.getD i 0) (voteB q.ch q.ep q.vw q.blk) (q.sigs.getD i siZ) := by
  unfold voteP
  show (if frameP c q.ch q.ep q.vw ≠ 0 then frameP c q.ch q.ep q.vw else _) = _
  rw [if_neg (by rw [hf]; decide)]; rfl
noncomputable def anR06CheckQC (n b : Int) (L : List SG) (c : RC) (q : QC) : Nat → List Nat → List Ann := fun bk_ gs_ => match bk_, gs_ with
    | 0, _ => [{ τ := Nat, t0 := (default : Nat), J := fun i => i ≤ q.who.length ∧ ∀ j, j < i → whoE (seatsP c q.ch) q.who j = 0, m := fun i => q.who.length - i, l := fun i => [(0, .s (.a (.lp 100001 0))), (4, .s (.a (.lp 204 0))), (5, .s (.a (.lp 205 0))), (8, eI .i64 (i : Int))], H := fun i => [(204, .cells [.one (.d (.v (.int .i64 (c).ep))), .one (.d (.si .i64 (c).mem)), .one (.d (.sl 1 ((c).seats).length (lC nuE [] ((c).seats))))] 26), (205, .cells [.one (.d (.v (.int .i64 (q).ch))), .one (.d (.v (.int .i64 (q).ep))), .one (.d (.v (.int .i64 (q).vw))), .ints .u8 32 (q).blk, .one (.d (.si .i64 (q).who)), .one (.d (.sl 33 ((q).sigs).length (lC siE siZ ((q).sigs))))] 31), (100000, .row (.st 3 (L).length (lC sgE sgZ (L))) 80), (100001, .cells [.one (.d (.v (.int .i64 n))), .one (.d (.v (.int .i64 b))), .one (.rw 100000)] 121)] }]
    | 2, _ => [{ τ := Nat, t0 := (default : Nat), J := fun i => i ≤ q.who.length ∧ ∀ j, j < i → voteP L c (vtOf q j) = 0, m := fun i => q.who.length - i, l := fun i => [(0, .s (.a (.lp 100001 0))), (4, .s (.a (.lp 204 0))), (5, .s (.a (.lp 205 0))), (9, eI .i64 (i : Int))], H := fun i => [(204, .cells [.one (.d (.v (.int .i64 (c).ep))), .one (.d (.si .i64 (c).mem)), .one (.d (.sl 1 ((c).seats).length (lC nuE [] ((c).seats))))] 26), (205, .cells [.one (.d (.v (.int .i64 (q).ch))), .one (.d (.v (.int .i64 (q).ep))), .one (.d (.v (.int .i64 (q).vw))), .ints .u8 32 (q).blk, .one (.d (.si .i64 (q).who)), .one (.d (.sl 33 ((q).sigs).length (lC siE siZ ((q).sigs))))] 31), (100000, .row (.st 3 (L).length (lC sgE sgZ (L))) 80), (100001, .cells [.one (.d (.v (.int .i64 n))), .one (.d (.v (.int .i64 b))), .one (.rw 100000)] 121)] }]
    | _, _ => []
theorem okR06CheckQC (n b : Int) (L : List SG) (c : RC) (q : QC) (hp : allP [OkD q.blk, (seatsP c q.ch).length < 1099511627776, L.length < 1099511627776, q.who.length < 1099511627776, q.sigs.length < 1099511627776]) : CallsOk Tryd.prog Gs 13 [.a (.lp 100001 0), .agg [.one (.d (.v (.int .i64 (c).ep))), .one (.d (.si .i64 (c).mem)), .one (.d (.sl 1 ((c).seats).length (lC nuE [] ((c).seats))))], .agg [.one (.d (.v (.int .i64 (q).ch))), .one (.d (.v (.int .i64 (q).ep))), .one (.d (.v (.int .i64 (q).vw))), .ints .u8 32 (q).blk, .one (.d (.si .i64 (q).who)), .one (.d (.sl 33 ((q).sigs).length (lC siE siZ ((q).sigs))))]] [(100000, .row (.st 3 (L).length (lC sgE sgZ (L))) 80), (100001, .cells [.one (.d (.v (.int .i64 n))), .one (.d (.v (.int .i64 b))), .one (.rw 100000)] 121)] (eI .i64 (qcP L c q)) [(100000, .row (.st 3 (L).length (lC sgE sgZ (L))) 80), (100001, .cells [.one (.d (.v (.int .i64 n))), .one (.d (.v (.int .i64 b))), .one (.rw 100000)] 121)] :=
  ok_of (ann := anR06CheckQC n b L c q) ctok_R06CheckTimeout mixed Tryd.func13 (by kernel_rfl) (of_nf (p := let l6 := (lC nuE [] (RC.seats c)); let l5 := (List.length (RC.seats c)); let l4 := (↑(List.length (QC.who q)) : Int); let l3 := (lL sgD (List.length L) (lC sgE sgZ L)); let l1 := (seatsP { ep := RC.ep c, mem := RC.mem c, seats := lL nuG l5 l6 } (QC.ch q)); let l0 := (lL nuG l5 l6); RC.ep c = RC.ep c ∧ RC.mem c = RC.mem c ∧ List.length (RC.seats c) = List.length l0 ∧ (∀ (i : Nat), i < List.length l0 → lC nuE [] (RC.seats c) i = lC nuE [] l0 i) ∧ QC.ch q = QC.ch q ∧ QC.ep q = QC.ep q ∧ QC.vw q = QC.vw q ∧ brP (frameP { ep := RC.ep c, mem := RC.mem c, seats := lL nuG l5 l6 } (QC.ch q) (QC.ep q) (QC.vw q) != (0 : Int)) (frameP { ep := RC.ep c, mem := RC.mem c, seats := lL nuG l5 l6 } (QC.ch q) (QC.ep q) (QC.vw q) = qcP L c q ∧ List.length L = List.length L ∧ (∀ (i : Nat), i < List.length L → lC sgE sgZ L i = lC sgE sgZ L i) ∧ n = n ∧ b = b ∧ True) (brP (l4 != (↑(List.length (QC.sigs q)) : Int)) ((14 : Int) = qcP L c q ∧ List.length L = List.length L ∧ (∀ (i : Nat), i < List.length L → lC sgE sgZ L i = lC sgE sgZ L i) ∧ n = n ∧ b = b ∧ True) ((∃ (t : Nat), (0 : Int) = (↑t : Int) ∧ RC.ep c = RC.ep c ∧ RC.mem c = RC.mem c ∧ List.length (RC.seats c) = List.length (RC.seats c) ∧ (∀ (i : Nat), i < List.length (RC.seats c) → lC nuE [] (RC.seats c) i = lC nuE [] (RC.seats c) i) ∧ QC.ch q = QC.ch q ∧ QC.ep q = QC.ep q ∧ QC.vw q = QC.vw q ∧ QC.blk q = QC.blk q ∧ QC.who q = QC.who q ∧ List.length (QC.sigs q) = List.length (QC.sigs q) ∧ (∀ (i : Nat), i < List.length (QC.sigs q) → lC siE siZ (QC.sigs q) i = lC siE siZ (QC.sigs q) i) ∧ List.length L = List.length L ∧ (∀ (i : Nat), i < List.length L → lC sgE sgZ L i = lC sgE sgZ L i) ∧ n = n ∧ b = b ∧ (t ≤ List.length (QC.who q) ∧ ∀ (j : Nat), j < t → whoE (seatsP c (QC.ch q)) (QC.who q) j = (0 : Int)) ∧ True) ∧ ∀ (t : Nat), let l8 := (!List.contains l1 (List.getD (QC.who q) (Int.toNat (↑t : Int)) (0 : Int))); let l7 := ((0 : Int) ≤ (↑t : Int) ∧ (↑t : Int) < l4); (t ≤ List.length (QC.who q) ∧ ∀ (j : Nat), j < t → whoE (seatsP c (QC.ch q)) (QC.who q) j = (0 : Int)) → brP (decide ((↑t : Int) < l4)) (brP (decide ((↑t : Int) > (0 : Int))) (((0 : Int) ≤ IntKind.wrap IntKind.i64 ((↑t : Int) - (1 : Int)) ∧ IntKind.wrap IntKind.i64 ((↑t : Int) - (1 : Int)) < l4) ∧ l7 ∧ brP (decide (List.getD (QC.who q) (Int.toNat (IntKind.wrap IntKind.i64 ((↑t : Int) - (1 : Int)))) (0 : Int) ≥ List.getD (QC.who q) (Int.toNat (↑t : Int)) (0 : Int))) ((14 : Int) = qcP L c q ∧ List.length L = List.length L ∧ (∀ (i : Nat), i < List.length L → lC sgE sgZ L i = lC sgE sgZ L i) ∧ n = n ∧ b = b ∧ True) (RC.ep c = RC.ep c ∧ RC.mem c = RC.mem c ∧ List.length (RC.seats c) = List.length l0 ∧ (∀ (i : Nat), i < List.length l0 → lC nuE [] (RC.seats c) i = lC nuE [] l0 i) ∧ QC.ch q = QC.ch q ∧ l7 ∧ List.length l1 < (1099511627776 : Nat) ∧ brP l8 ((14 : Int) = qcP L c q ∧ List.length L = List.length L ∧ (∀ (i : Nat), i < List.length L → lC sgE sgZ L i = lC sgE sgZ L i) ∧ n = n ∧ b = b ∧ True) (∃ (t_1 : Nat), IntKind.wrap IntKind.i64 ((↑t : Int) + (1 : Int)) = (↑t_1 : Int) ∧ RC.ep c = RC.ep c ∧ RC.mem c = RC.mem c ∧ List.length (RC.seats c) = List.length (RC.seats c) ∧ (∀ (i : Nat), i < List.length (RC.seats c) → lC nuE [] (RC.seats c) i = lC nuE [] (RC.seats c) i) ∧ QC.ch q = QC.ch q ∧ QC.ep q = QC.ep q ∧ QC.vw q = QC.vw q ∧ QC.blk q = QC.blk q ∧ QC.who q = QC.who q ∧ List.length (QC.sigs q) = List.length (QC.sigs q) ∧ (∀ (i : Nat), i < List.length (QC.sigs q) → lC siE siZ (QC.sigs q) i = lC siE siZ (QC.sigs q) i) ∧ List.length L = List.length L ∧ (∀ (i : Nat), i < List.length L → lC sgE sgZ L i = lC sgE sgZ L i) ∧ n = n ∧ b = b ∧ (t_1 ≤ List.length (QC.who q) ∧ ∀ (j : Nat), j < t_1 → whoE (seatsP c (QC.ch q)) (QC.who q) j = (0 : Int)) ∧ List.length (QC.who q) - t_1 < List.length (QC.who q) - t ∧ True))) (RC.ep c = RC.ep c ∧ RC.mem c = RC.mem c ∧ List.length (RC.seats c) = List.length l0 ∧ (∀ (i : Nat), i < List.length l0 → lC nuE [] (RC.seats c) i = lC nuE [] l0 i) ∧ QC.ch q = QC.ch q ∧ l7 ∧ List.length l1 < (1099511627776 : Nat) ∧ brP l8 ((14 : Int) = qcP L c q ∧ List.length L = List.length L ∧ (∀ (i : Nat), i < List.length L → lC sgE sgZ L i = lC sgE sgZ L i) ∧ n = n ∧ b = b ∧ True) (∃ (t_1 : Nat), IntKind.wrap IntKind.i64 ((↑t : Int) + (1 : Int)) = (↑t_1 : Int) ∧ RC.ep c = RC.ep c ∧ RC.mem c = RC.mem c ∧ List.length (RC.seats c) = List.length (RC.seats c) ∧ (∀ (i : Nat), i < List.length (RC.seats c) → lC nuE [] (RC.seats c) i = lC nuE [] (RC.seats c) i) ∧ QC.ch q = QC.ch q ∧ QC.ep q = QC.ep q ∧ QC.vw q = QC.vw q ∧ QC.blk q = QC.blk q ∧ QC.who q = QC.who q ∧ List.length (QC.sigs q) = List.length (QC.sigs q) ∧ (∀ (i : Nat), i < List.length (QC.sigs q) → lC siE siZ (QC.sigs q) i = lC siE siZ (QC.sigs q) i) ∧ List.length L = List.length L ∧ (∀ (i : Nat), i < List.length L → lC sgE sgZ L i = lC sgE sgZ L i) ∧ n = n ∧ b = b ∧ (t_1 ≤ List.length (QC.who q) ∧ ∀ (j : Nat), j < t_1 → whoE (seatsP c (QC.ch q)) (QC.who q) j = (0 : Int)) ∧ List.length (QC.who q) - t_1 < List.length (QC.who q) - t ∧ True))) (brP (decide (l4 < (3 : Int))) ((15 : Int) = qcP L c q ∧ List.length L = List.length L ∧ (∀ (i : Nat), i < List.length L → lC sgE sgZ L i = lC sgE sgZ L i) ∧ n = n ∧ b = b ∧ True) ((∃ (t : Nat), (0 : Int) = (↑t : Int) ∧ RC.ep c = RC.ep c ∧ RC.mem c = RC.mem c ∧ List.length (RC.seats c) = List.length (RC.seats c) ∧ (∀ (i : Nat), i < List.length (RC.seats c) → lC nuE [] (RC.seats c) i = lC nuE [] (RC.seats c) i) ∧ QC.ch q = QC.ch q ∧ QC.ep q = QC.ep q ∧ QC.vw q = QC.vw q ∧ QC.blk q = QC.blk q ∧ QC.who q = QC.who q ∧ List.length (QC.sigs q) = List.length (QC.sigs q) ∧ (∀ (i : Nat), i < List.length (QC.sigs q) → lC siE siZ (QC.sigs q) i = lC siE siZ (QC.sigs q) i) ∧ List.length L = List.length L ∧ (∀ (i : Nat), i < List.length L → lC sgE sgZ L i = lC sgE sgZ L i) ∧ n = n ∧ b = b ∧ (t ≤ List.length (QC.who q) ∧ ∀ (j : Nat), j < t → voteP L c (vtOf q j) = (0 : Int)) ∧ True) ∧ ∀ (t : Nat), let l2 := (List.getD (QC.sigs q) (Int.toNat (↑t : Int)) siZ); (t ≤ List.length (QC.who q) ∧ ∀ (j : Nat), j < t → voteP L c (vtOf q j) = (0 : Int)) → brP (decide ((↑t : Int) < l4)) (((0 : Int) ≤ (↑t : Int) ∧ (↑t : Int) < l4) ∧ ((0 : Int) ≤ (↑t : Int) ∧ (↑t : Int) < (↑(List.length (QC.sigs q)) : Int)) ∧ RC.ep c = RC.ep c ∧ RC.mem c = RC.mem c ∧ List.length (RC.seats c) = List.length l0 ∧ (∀ (i : Nat), i < List.length l0 → lC nuE [] (RC.seats c) i = lC nuE [] l0 i) ∧ QC.ch q = QC.ch q ∧ QC.ep q = QC.ep q ∧ QC.vw q = QC.vw q ∧ QC.blk q = QC.blk q ∧ List.getD (QC.who q) (Int.toNat (↑t : Int)) (0 : Int) = List.getD (QC.who q) (Int.toNat (↑t : Int)) (0 : Int) ∧ Prod.fst l2 = Prod.fst l2 ∧ Prod.snd l2 = Prod.snd l2 ∧ List.length L = List.length l3 ∧ (∀ (i : Nat), i < List.length l3 → lC sgE sgZ L i = lC sgE sgZ l3 i) ∧ n = n ∧ b = b ∧ OkD (QC.blk q) ∧ List.length l1 < (1099511627776 : Nat) ∧ List.length l3 < (1099511627776 : Nat) ∧ brP (voteP l3 { ep := RC.ep c, mem := RC.mem c, seats := lL nuG l5 l6 } { ch := QC.ch q, ep := QC.ep q, vw := QC.vw q, blk := QC.blk q, who := List.getD (QC.who q) (Int.toNat (↑t : Int)) (0 : Int), sig := (Prod.fst l2, Prod.snd l2) } != (0 : Int)) (voteP l3 { ep := RC.ep c, mem := RC.mem c, seats := lL nuG l5 l6 } { ch := QC.ch q, ep := QC.ep q, vw := QC.vw q, blk := QC.blk q, who := List.getD (QC.who q) (Int.toNat (↑t : Int)) (0 : Int), sig := (Prod.fst l2, Prod.snd l2) } = qcP L c q ∧ List.length l3 = List.length L ∧ (∀ (i : Nat), i < List.length L → lC sgE sgZ l3 i = lC sgE sgZ L i) ∧ n = n ∧ b = b ∧ True) (∃ (t_1 : Nat), IntKind.wrap IntKind.i64 ((↑t : Int) + (1 : Int)) = (↑t_1 : Int) ∧ RC.ep c = RC.ep c ∧ RC.mem c = RC.mem c ∧ List.length (RC.seats c) = List.length (RC.seats c) ∧ (∀ (i : Nat), i < List.length (RC.seats c) → lC nuE [] (RC.seats c) i = lC nuE [] (RC.seats c) i) ∧ QC.ch q = QC.ch q ∧ QC.ep q = QC.ep q ∧ QC.vw q = QC.vw q ∧ QC.blk q = QC.blk q ∧ QC.who q = QC.who q ∧ List.length (QC.sigs q) = List.length (QC.sigs q) ∧ (∀ (i : Nat), i < List.length (QC.sigs q) → lC siE siZ (QC.sigs q) i = lC siE siZ (QC.sigs q) i) ∧ List.length l3 = List.length L ∧ (∀ (i : Nat), i < List.length L → lC sgE sgZ l3 i = lC sgE sgZ L i) ∧ n = n ∧ b = b ∧ (t_1 ≤ List.length (QC.who q) ∧ ∀ (j : Nat), j < t_1 → voteP L c (vtOf q j) = (0 : Int)) ∧ List.length (QC.who q) - t_1 < List.length (QC.who q) - t ∧ True)) ((0 : Int) = qcP L c q ∧ List.length L = List.length L ∧ (∀ (i : Nat), i < List.length L → lC sgE sgZ L i = lC sgE sgZ L i) ∧ n = n ∧ b = b ∧ True)))))) (by kernel_rfl) (by
    conv => zeta
    obtain ⟨ob, hS, hL, hw, hs, _⟩ := hp
    simp only [Int.toNat_natCast, true_and, and_true, implies_true, lL_self nuG_nuE, lL_self siG_siE, rcEta, qcEta, vtEta, siEta, lL_self sgD_sgE]
    refine brI (fun h => ?_) (fun h => ?_)
    · unfold qcP; rw [if_pos (bne_iff_ne.1 h)]
    have h : frameP c q.ch q.ep q.vw = 0 := by simpa using h
    refine brI (fun h2 => ?_) (fun h2 => ?_)
    · unfold qcP; rw [if_neg (by rw [h]; decide), if_pos (by have := bne_iff_ne.1 h2; omega)]
    have h2 : q.who.length = q.sigs.length := by have : ((q.who.length : Int) != (q.sigs.length : Int)) = false := h2; simp only [bne_eq_false_iff_eq] at this; omega
    have h' : ¬ frameP c q.ch q.ep q.vw ≠ 0 := by rw [h]; decide
    have h2' : ¬ q.who.length ≠ q.sigs.length := by omega
    refine ⟨⟨0, rfl, Nat.zero_le _, fun j hj => absurd hj (Nat.not_lt_zero j)⟩, fun t ht => ?_⟩
    obtain ⟨g1, g4⟩ := ht
    have bad : t < q.who.length → whoE (seatsP c q.ch) q.who t ≠ 0 → 14 = qcP L c q := fun ht he => by
      unfold qcP; rw [if_neg h', if_neg h2', if_pos (by rw [scan_hit g4 ht he]; exact he)]
    have nx : IntKind.wrap .i64 ((t : Int) + 1) = ((t + 1 : Nat) : Int) := by rw [wi _ (by omega) (by omega)]; rfl
    rw [nx]
    refine brI (fun hc => ?_) (fun hc => ?_)
    · have hc : t < q.who.length := by have := of_decide_eq_true hc; omega
      have good : whoE (seatsP c q.ch) q.who t = 0 → ∃ t_1 : Nat, ((t + 1 : Nat) : Int) = (t_1 : Int) ∧ (t_1 ≤ q.who.length ∧ ∀ j, j < t_1 → whoE (seatsP c q.ch) q.who j = 0) ∧ q.who.length - t_1 < q.who.length - t := fun he => ⟨t + 1, rfl, ⟨by omega, fun j hj => by
        by_cases hjt : j < t
        · exact g4 j hjt
        · obtain rfl : j = t := by omega
          exact he⟩, by omega⟩
      refine brI (fun h0 => ?_) (fun h0 => ?_)
      · have h0 : 0 < t := by have := of_decide_eq_true h0; omega
        have e1 : IntKind.wrap .i64 ((t : Int) - 1) = ((t - 1 : Nat) : Int) := by rw [wi _ (by omega) (by omega)]; omega
        rw [e1]
        simp only [Int.toNat_natCast]
        refine ⟨⟨by omega, by omega⟩, ⟨by omega, by omega⟩, brI (fun h5 => ?_) (fun h5 => ⟨⟨by omega, by omega⟩, hS, brI (fun h6 => ?_) (fun h6 => ?_)⟩)⟩
        · exact bad hc (by rw [whoE_hit (.inl ⟨h0, of_decide_eq_true h5⟩)]; decide)
        · exact bad hc (by rw [whoE_hit (.inr (by simpa using h6))]; decide)
        · have h5 := of_decide_eq_false h5
          exact good (whoE_no (fun h => h5 h.2) (by simpa using h6))
      · have h0 : t = 0 := by have := of_decide_eq_false h0; omega
        refine ⟨⟨by omega, by omega⟩, hS, brI (fun h6 => ?_) (fun h6 => ?_)⟩
        · exact bad hc (by rw [whoE_hit (.inr (by simpa using h6))]; decide)
        · exact good (whoE_no (fun h => by omega) (by simpa using h6))
    · have hc : t = q.who.length := by have := of_decide_eq_false hc; omega
      subst hc
      have h5 : ¬ scan (whoE (seatsP c q.ch) q.who) q.who.length ≠ 0 := by rw [scan_all g4]; simp
      refine brI (fun h6 => ?_) (fun h6 => ?_)
      · have h6 : q.who.length < 3 := by have := of_decide_eq_true h6; omega
        unfold qcP; rw [if_neg h', if_neg h2', if_neg h5, if_pos h6]
      have h6 : ¬ q.who.length < 3 := by have := of_decide_eq_false h6; omega
      have eq : qcP L c q = scan (fun i => voteP L c (vtOf q i)) q.who.length := by
        unfold qcP; rw [if_neg h', if_neg h2', if_neg h5, if_neg h6]
        exact scan_congr fun i _ => (vote_in h i).symm
      refine ⟨⟨0, rfl, Nat.zero_le _, fun j hj => absurd hj (Nat.not_lt_zero j)⟩, ?_⟩
      rintro u ⟨h7, h8⟩
      have nx : IntKind.wrap .i64 ((u : Int) + 1) = ((u + 1 : Nat) : Int) := by rw [wi _ (by omega) (by omega)]; rfl
      rw [nx]
      refine brI (fun hd => ?_) (fun hd => ?_)
      · have hd : u < q.who.length := by have := of_decide_eq_true hd; omega
        refine ⟨⟨by omega, by omega⟩, ⟨by omega, by omega⟩, ob, hS, hL, brI (fun he => ?_) (fun he => ?_)⟩
        · rw [eq, scan_hit h8 hd (bne_iff_ne.1 he)]; rfl
        · refine ⟨u + 1, rfl, ⟨by omega, fun j hj => ?_⟩, by omega⟩
          by_cases hjt : j < u
          · exact h8 j hjt
          · obtain rfl : j = u := by omega
            have : (voteP L c (vtOf q j) != 0) = false := he
            simpa using this
      · have hd : u = q.who.length := by have := of_decide_eq_false hd; omega
        subst hd
        rw [eq, scan_all h8]))
noncomputable def gR06CheckQC : Con := fun args H => match args, H with
  | [.a (.lp 100001 0), .agg [.one (.d (.v (.int .i64 x1))), .one (.d (.si .i64 x2)), .one (.d (.sl 1 x3 x4))], .agg [.one (.d (.v (.int .i64 y1))), .one (.d (.v (.int .i64 y2))), .one (.d (.v (.int .i64 y3))), .ints .u8 32 y4, .one (.d (.si .i64 y5)), .one (.d (.sl 33 y6 y7))]], [(100000, .row (.st 3 m0 c0) t0), (100001, .cells (.one (.d (.v (.int .i64 n))) :: .one (.d (.v (.int .i64 b))) :: z) tz)] => (fun (n b : Int) (L : List SG) (c : RC) (q : QC) => conC args H [.a (.lp 100001 0), .agg [.one (.d (.v (.int .i64 (c).ep))), .one (.d (.si .i64 (c).mem)), .one (.d (.sl 1 ((c).seats).length (lC nuE [] ((c).seats))))], .agg [.one (.d (.v (.int .i64 (q).ch))), .one (.d (.v (.int .i64 (q).ep))), .one (.d (.v (.int .i64 (q).vw))), .ints .u8 32 (q).blk, .one (.d (.si .i64 (q).who)), .one (.d (.sl 33 ((q).sigs).length (lC siE siZ ((q).sigs))))]] [(100000, .row (.st 3 (L).length (lC sgE sgZ (L))) 80), (100001, .cells [.one (.d (.v (.int .i64 n))), .one (.d (.v (.int .i64 b))), .one (.rw 100000)] 121)] ⟨[OkD q.blk, (seatsP c q.ch).length < 1099511627776, L.length < 1099511627776, q.who.length < 1099511627776, q.sigs.length < 1099511627776], eI .i64 (qcP L c q), [(100000, .row (.st 3 (L).length (lC sgE sgZ (L))) 80), (100001, .cells [.one (.d (.v (.int .i64 n))), .one (.d (.v (.int .i64 b))), .one (.rw 100000)] 121)]⟩) (n) (b) (lL sgD m0 c0) (⟨x1, x2, lL nuG x3 x4⟩) (⟨y1, y2, y3, y4, y5, lL siG y6 y7⟩)
  | _, _ => none
theorem vR06CheckQC : Valid Tryd.prog Gs 13 gR06CheckQC := by
  intro args H r h hp
  unfold gR06CheckQC at h
  split at h
  · rename_i x1 x2 x3 x4 y1 y2 y3 y4 y5 y6 y7 m0 c0 t0 n b z tz
    exact conC_ok h hp fun hp => okR06CheckQC (n) (b) (lL sgD m0 c0) (⟨x1, x2, lL nuG x3 x4⟩) (⟨y1, y2, y3, y4, y5, lL siG y6 y7⟩) hp
  · cases h
noncomputable def ct_R06CheckQC : List (Nat × Ct) := (13, ⟨[true], false, gR06CheckQC, none⟩) :: ct_R06CheckTimeout
theorem ctok_R06CheckQC : CtsOk Tryd.prog Gs ct_R06CheckQC := CtsOk.cons vR06CheckQC (by kernel_rfl) ctok_R06CheckTimeout
end Go.Proofs.YtlgffgnkkihaoaaDoor
