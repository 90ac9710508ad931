/- Rings of keys: signers; the document's ring. -/
import Derived.Test.YtlgffgnkkihaoaaDoorGbA
namespace Go.Proofs.YtlgffgnkkihaoaaDoor
open Go.Dx Go.RowKit
set_option linter.unusedVariables false
set_option linter.unusedSimpArgs false
set_option maxRecDepth 100000
attribute [local irreducible] wpS
attribute [local irreducible] sumB joinB
def sgE (x : SG) : List DC := [.one (.v (.int .i64 x.1)), .one (.v (.int .i64 x.2.1)), .one (.v (.string x.2.2))]
def sgD : List DC → SG
  | [.one (.v (.int _ a)), .one (.v (.int _ b)), .one (.v (.string s))] => (a, b, s)
  | _ => (0, 0, ⟨#[]⟩)
theorem sgD_sgE (x : SG) : sgD (sgE x) = x := rfl
abbrev sgZ : SG := (0, 0, ⟨#[]⟩)
def pairC (L : List SG) (a : Int) (i k : Nat) : Bool := decide ((L.getD i sgZ).1 = a) && (decide ((L.getD k sgZ).1 = a) && decide ((L.getD i sgZ).2.1 = (L.getD k sgZ).2.1))
def rePre (L : List SG) (a : Int) (i : Nat) : Bool := (List.range i).any fun i => (List.range i).any fun k => pairC L a i k
def refRe (L : List SG) (a : Int) : Bool := rePre L a L.length
theorem maxI (i : Int) : (if (0 : Int) > i then 0 else i) = max i 0 := by split <;> omega
theorem nums_ok (s : ByteArray) : OkB (numsOf s) := fun x hx => by
  obtain ⟨y, _, rfl⟩ := List.mem_map.1 hx
  have := y.toNat_lt; omega
theorem sgsOk (L : List SG) : ∀ j, j < (lL sgD L.length (lC sgE sgZ L)).length → lC sgE sgZ L j = lC sgE sgZ (lL sgD L.length (lC sgE sgZ L)) j := fun j _ => by rw [lL_self sgD_sgE]
noncomputable def an22 (Ls : List (List Int)) : Nat → List Nat → List Ann := fun _ _ => []
theorem ok22 (Ls : List (List Int)) (hp : allP [∀ L ∈ Ls, OkB L, (joinB Ls).length + 100 ≤ lim]) : CallsOk Tryd.prog Gs 68 [.a (.d (.sb Ls))] [] (.s (.agg [.ints .u8 32 (sumB shaK (joinB Ls))])) [] :=
  ok_of (ann := an22 Ls) ctok_signRingCheck mixed Tryd.func68 (by kernel_rfl) (of_nf (p := List.length (joinB Ls) + (100 : Nat) ≤ lim ∧ OkB (joinB Ls) ∧ List.length (joinB Ls) + (100 : Nat) ≤ lim ∧ sumB shaK (joinB Ls) = sumB shaK (joinB Ls) ∧ True) (by kernel_rfl) (by
    exact ⟨hp.2.1, joinB_okB hp.1, hp.2.1, rfl, trivial⟩))
noncomputable def g22 : Con := fun args H => match args, H with
  | [.a (.d (.sb Ls))], [] => some ⟨[∀ L ∈ Ls, OkB L, (joinB Ls).length + 100 ≤ lim], .s (.agg [.ints .u8 32 (sumB shaK (joinB Ls))]), []⟩
  | _, _ => none
theorem v22 : Valid Tryd.prog Gs 68 g22 := by
  intro args H r h hp
  unfold g22 at h
  split at h
  · simp only [Option.some.injEq] at h; subst h; exact ok22 _ hp
  · cases h
noncomputable def ct_22 : List (Nat × Ct) := (68, ⟨[], false, g22, none⟩) :: ct_signRingCheck
theorem ctok_22 : CtsOk Tryd.prog Gs ct_22 := CtsOk.cons v22 (by kernel_rfl) ctok_signRingCheck
noncomputable def anR02Num (n : Int) : Nat → List Nat → List Ann := fun bk_ gs_ => match bk_, gs_ with
    | 0, _ => [{ τ := Nat, t0 := (default : Nat), J := fun j => j ≤ 8, m := fun j => 8 - j, l := fun j => [(0, eI .u64 n), (3, .s (.a (.rw 3))), (4, eI .i64 j)], H := fun j => [(3, .row (.ints .u8 ((be8 n).take j)) 5)] }]
    | _, _ => []
theorem okR02Num (n : Int) : CallsOk Tryd.prog Gs 33 [.a (.d (.v (.int .u64 n)))] [] (.s (.a (.rw 0))) [(0, .row (.ints .u8 (be8 n)) 5)] :=
  ok_of (ann := anR02Num n) ctok_22 mixed Tryd.func33 (by kernel_rfl) (of_nf (p := (∃ (t : Nat), n = n ∧ (0 : Int) = (↑t : Int) ∧ [] = List.take t (be8 n) ∧ t ≤ (8 : Nat) ∧ True) ∧ ∀ (t : Nat), t ≤ (8 : Nat) → brP (decide ((↑t : Int) < (8 : Int))) ((0 : Int) ≤ IntKind.wrap IntKind.i64 ((56 : Int) - IntKind.wrap IntKind.i64 ((8 : Int) * (↑t : Int))) ∧ Cont.len (Cont.ints IntKind.u8 (List.take t (be8 n))) + Cont.len (Cont.ints IntKind.u8 [IntKind.wrap IntKind.u8 (Int.fdiv n ((2 : Int) ^ min (Int.toNat (IntKind.wrap IntKind.i64 ((56 : Int) - IntKind.wrap IntKind.i64 ((8 : Int) * (↑t : Int))))) (IntKind.bits IntKind.u64)))]) ≤ lim ∧ ∃ (t_1 : Nat), n = n ∧ IntKind.wrap IntKind.i64 ((↑t : Int) + (1 : Int)) = (↑t_1 : Int) ∧ List.take t (be8 n) ++ [IntKind.wrap IntKind.u8 (Int.fdiv n ((2 : Int) ^ min (Int.toNat (IntKind.wrap IntKind.i64 ((56 : Int) - IntKind.wrap IntKind.i64 ((8 : Int) * (↑t : Int))))) (IntKind.bits IntKind.u64)))] = List.take t_1 (be8 n) ∧ t_1 ≤ (8 : Nat) ∧ (8 : Nat) - t_1 < (8 : Nat) - t ∧ True) (List.take t (be8 n) = be8 n ∧ True)) (by kernel_rfl) (by
    have l1 : (65 : Nat) ≤ lim := by unfold lim; omega
    refine ⟨⟨0, rfl, rfl, rfl, by omega, trivial⟩, fun t ht => brI (fun hc => ?_) (fun hc => ?_)⟩
    · have hc : t < 8 := by have := of_decide_eq_true hc; omega
      have hl : ((be8 n).take t).length ≤ 8 := by simp [be8]; omega
      have e0 : IntKind.wrap .i64 (56 - IntKind.wrap .i64 (8 * (t : Int))) = ((56 - 8 * t : Nat) : Int) := by rw [wi (8 * (t : Int)) (by omega) (by omega), wi _ (by omega) (by omega)]; omega
      rw [e0]
      refine ⟨by omega, (show ((be8 n).take t).length + 1 ≤ lim by omega), t + 1, rfl, by rw [wi _ (by omega) (by omega)]; rfl, ?_, by omega, by omega, trivial⟩
      have e : min (Int.toNat ((56 - 8 * t : Nat) : Int)) (IntKind.bits .u64) = 56 - 8 * t := by
        have : IntKind.bits .u64 = 64 := rfl
        rw [this]; omega
      rw [e]
      have : t = 0 ∨ t = 1 ∨ t = 2 ∨ t = 3 ∨ t = 4 ∨ t = 5 ∨ t = 6 ∨ t = 7 := by omega
      rcases this with rfl | rfl | rfl | rfl | rfl | rfl | rfl | rfl <;> first | rfl | (show _ ++ [IntKind.wrap .u8 (Int.fdiv n (2 ^ (0 : Nat)))] = _; rw [fdiv_one]; rfl)
    · have hc : ¬ (t : Int) < 8 := of_decide_eq_false hc
      obtain rfl : t = 8 := by omega
      exact ⟨rfl, trivial⟩))
noncomputable def gR02Num : Con := fun args H => match args, H with
  | [.a (.d (.v (.int .u64 n)))], [] => some ⟨[], .s (.a (.rw 0)), [(0, .row (.ints .u8 (be8 n)) 5)]⟩
  | _, _ => none
theorem vR02Num : Valid Tryd.prog Gs 33 gR02Num := by
  intro args H r h hp
  unfold gR02Num at h
  split at h
  · simp only [Option.some.injEq] at h; subst h; exact okR02Num _
  · cases h
noncomputable def ct_R02Num : List (Nat × Ct) := (33, ⟨[], false, gR02Num, none⟩) :: ct_22
theorem ctok_R02Num : CtsOk Tryd.prog Gs ct_R02Num := CtsOk.cons vR02Num (by kernel_rfl) ctok_22
noncomputable def anR05Newy (n b : Int) : Nat → List Nat → List Ann := fun _ _ => []
theorem okR05Newy (n b : Int) (hp : allP [1 ≤ n ∧ n ≤ 12 ∧ 1 ≤ b ∧ b ≤ 65536]) : CallsOk Tryd.prog Gs 28 [.a (.d (.v (.int .i64 n))), .a (.d (.v (.int .i64 b)))] [] (.s (.a (.lp 1 0))) [(0, .row (.st 3 (([] : List SG)).length (lC sgE sgZ (([] : List SG)))) 80), (1, .cells [.one (.d (.v (.int .i64 n))), .one (.d (.v (.int .i64 b))), .one (.rw 0)] 121)] :=
  ok_of (ann := anR05Newy n b) ctok_R02Num mixed Tryd.func28 (by kernel_rfl) (of_nf (p := brP (decide (n < (1 : Int))) (BadM [(800004 : Nat), (0 : Nat), (800005 : Nat), (0 : Nat), (1 : Nat)]) (brP (decide (n > (12 : Int))) (BadM [(800004 : Nat), (0 : Nat), (800005 : Nat), (0 : Nat), (1 : Nat)]) (brP (decide (b < (1 : Int))) (BadM [(800004 : Nat), (0 : Nat), (800005 : Nat), (0 : Nat), (1 : Nat)]) (brP (decide (b > (65536 : Int))) (BadM [(800004 : Nat), (0 : Nat), (800005 : Nat), (0 : Nat), (1 : Nat)]) ((0 : Nat) = List.length ([] : List SG) ∧ (∀ (i : Nat), i < List.length ([] : List SG) → lC sgE sgZ [] i = lC sgE sgZ [] i) ∧ n = n ∧ b = b ∧ True))))) (by kernel_rfl) (by
    obtain ⟨h, _⟩ := hp
    exact brI (fun hc => by have := of_decide_eq_true hc; omega) (fun _ => brI (fun hc => by have := of_decide_eq_true hc; omega) (fun _ => brI (fun hc => by have := of_decide_eq_true hc; omega) (fun _ => brI (fun hc => by have := of_decide_eq_true hc; omega) (fun _ => ⟨rfl, (fun i hi => rfl), rfl, rfl, trivial⟩))))))
noncomputable def anR05Newn (n b : Int) : Nat → List Nat → List Ann := fun _ _ => []
theorem okR05Newn (n b : Int) (hp : allP [¬ (1 ≤ n ∧ n ≤ 12 ∧ 1 ≤ b ∧ b ≤ 65536)]) : CallsOk Tryd.prog Gs 28 [.a (.d (.v (.int .i64 n))), .a (.d (.v (.int .i64 b)))] [] (.s (.a (.d (.v (.pointer none))))) [] :=
  ok_of (ann := anR05Newn n b) ctok_R02Num mixed Tryd.func28 (by kernel_rfl) (of_nf (p := brP (decide (n < (1 : Int))) True (brP (decide (n > (12 : Int))) True (brP (decide (b < (1 : Int))) True (brP (decide (b > (65536 : Int))) True (BadM [(800004 : Nat), (0 : Nat), (800005 : Nat)]))))) (by kernel_rfl) (by
    obtain ⟨h, _⟩ := hp
    refine brI (fun _ => trivial) (fun h1 => brI (fun _ => trivial) (fun h2 => brI (fun _ => trivial) (fun h3 => brI (fun _ => trivial) (fun h4 => ?_))))
    have := of_decide_eq_false h1; have := of_decide_eq_false h2; have := of_decide_eq_false h3; have := of_decide_eq_false h4
    omega))
noncomputable def gR05New : Con := fun args H => match args, H with
  | [.a (.d (.v (.int .i64 n))), .a (.d (.v (.int .i64 b)))], [] => some ⟨[1 ≤ n ∧ n ≤ 12 ∧ 1 ≤ b ∧ b ≤ 65536], .s (.a (.lp 1 0)), [(0, .row (.st 3 (([] : List SG)).length (lC sgE sgZ (([] : List SG)))) 80), (1, .cells [.one (.d (.v (.int .i64 n))), .one (.d (.v (.int .i64 b))), .one (.rw 0)] 121)]⟩
  | _, _ => none
theorem vR05New : Valid Tryd.prog Gs 28 gR05New := by
  intro args H r h hp
  unfold gR05New at h
  split at h
  · simp only [Option.some.injEq] at h; subst h; exact okR05Newy _ _ hp
  · cases h
noncomputable def gR05NewF : Con := fun args H => match args, H with
  | [.a (.d (.v (.int .i64 n))), .a (.d (.v (.int .i64 b)))], [] => some ⟨[¬ (1 ≤ n ∧ n ≤ 12 ∧ 1 ≤ b ∧ b ≤ 65536)], .s (.a (.d (.v (.pointer none)))), []⟩
  | _, _ => none
theorem vR05NewF : Valid Tryd.prog Gs 28 gR05NewF := by
  intro args H r h hp
  unfold gR05NewF at h
  split at h
  · simp only [Option.some.injEq] at h; subst h; exact okR05Newn _ _ hp
  · cases h
noncomputable def spR05New : List SV → Heap → Option Bool := fun args H => match args, H with
  | [.a (.d (.v (.int .i64 n))), .a (.d (.v (.int .i64 b)))], _ => some (decide (1 ≤ n ∧ n ≤ 12 ∧ 1 ≤ b ∧ b ≤ 65536))
  | _, _ => none
noncomputable def ct_R05New : List (Nat × Ct) := (28, ⟨[], false, gR05New, some (spR05New, gR05NewF)⟩) :: ct_R02Num
theorem ctok_R05New : CtsOk Tryd.prog Gs ct_R05New := CtsOk.cons vR05New (by kernel_rfl) ctok_R02Num (by intro s h; simp only [Option.some.injEq] at h; subst h; exact vR05NewF)
noncomputable def anR05Tag (k i : Int) (s : ByteArray) : Nat → List Nat → List Ann := fun _ _ => []
theorem okR05Tag (k i : Int) (s : ByteArray) (hp : allP [s.size + 300 ≤ lim]) : CallsOk Tryd.prog Gs 51 [.agg [.one (.d (.v (.int .i64 k))), .one (.d (.v (.int .i64 i))), .one (.d (.v (.string s)))]] [] (.s (.agg [.ints .u8 32 (tagB k i (numsOf s))])) [] :=
  ok_of (ann := anR05Tag k i s) ctok_R05New mixed Tryd.func51 (by kernel_rfl) (of_nf (p := (0 : Nat) < List.length (List.set (List.set (List.set (List.set (List.replicate ((3 : Nat) + (1 : Nat)) (0 : Int)) ((0 : Nat) * (1 : Nat)) (115 : Int)) ((1 : Nat) * (1 : Nat)) (105 : Int)) ((2 : Nat) * (1 : Nat)) (103 : Int)) ((3 : Nat) * (1 : Nat)) (110 : Int)) ∧ (∀ (L : List Int), L ∈ [List.set (List.set (List.set (List.set (List.replicate ((3 : Nat) + (1 : Nat)) (0 : Int)) ((0 : Nat) * (1 : Nat)) (115 : Int)) ((1 : Nat) * (1 : Nat)) (105 : Int)) ((2 : Nat) * (1 : Nat)) (103 : Int)) ((3 : Nat) * (1 : Nat)) (110 : Int), be8 (IntKind.wrap IntKind.u64 k), be8 (IntKind.wrap IntKind.u64 i), numsOf s] → OkB L) ∧ List.length (joinB [List.set (List.set (List.set (List.set (List.replicate ((3 : Nat) + (1 : Nat)) (0 : Int)) ((0 : Nat) * (1 : Nat)) (115 : Int)) ((1 : Nat) * (1 : Nat)) (105 : Int)) ((2 : Nat) * (1 : Nat)) (103 : Int)) ((3 : Nat) * (1 : Nat)) (110 : Int), be8 (IntKind.wrap IntKind.u64 k), be8 (IntKind.wrap IntKind.u64 i), numsOf s]) + (100 : Nat) ≤ lim ∧ sumB shaK (joinB [List.set (List.set (List.set (List.set (List.replicate ((3 : Nat) + (1 : Nat)) (0 : Int)) ((0 : Nat) * (1 : Nat)) (115 : Int)) ((1 : Nat) * (1 : Nat)) (105 : Int)) ((2 : Nat) * (1 : Nat)) (103 : Int)) ((3 : Nat) * (1 : Nat)) (110 : Int), be8 (IntKind.wrap IntKind.u64 k), be8 (IntKind.wrap IntKind.u64 i), numsOf s]) = tagB k i (numsOf s) ∧ True) (by kernel_rfl) (by
    obtain ⟨hs, _⟩ := hp
    have hlim : lim = 68719476736 := rfl
    have hl : (numsOf s).length = s.size := by simp [numsOf]
    refine ⟨by decide, fun L hL => ?_, ?_, rfl, trivial⟩
    · simp only [List.mem_cons, List.not_mem_nil, or_false] at hL
      rcases hL with rfl | rfl | rfl | rfl
      · exact lit_ok (by decide)
      · exact be8_ok _
      · exact be8_ok _
      · exact nums_ok s
    · rw [joinB_bulk]
      simp only [List.flatten_cons, List.flatten_nil, List.length_append, List.length_set, List.length_replicate, List.length_cons, List.length_nil, be8_len, hl]
      omega))
noncomputable def gR05Tag : Con := fun args H => match args, H with
  | [.agg [.one (.d (.v (.int .i64 k))), .one (.d (.v (.int .i64 i))), .one (.d (.v (.string s)))]], [] => some ⟨[s.size + 300 ≤ lim], .s (.agg [.ints .u8 32 (tagB k i (numsOf s))]), []⟩
  | _, _ => none
theorem vR05Tag : Valid Tryd.prog Gs 51 gR05Tag := by
  intro args H r h hp
  unfold gR05Tag at h
  split at h
  · simp only [Option.some.injEq] at h; subst h; exact okR05Tag _ _ _ hp
  · cases h
noncomputable def ct_R05Tag : List (Nat × Ct) := (51, ⟨[], false, gR05Tag, none⟩) :: ct_R05New
theorem ctok_R05Tag : CtsOk Tryd.prog Gs ct_R05Tag := CtsOk.cons vR05Tag (by kernel_rfl) ctok_R05New
noncomputable def anR05Ringhas (n b : Int) (L : List SG) (k i : Int) (s : ByteArray) : Nat → List Nat → List Ann := fun bk_ gs_ => match bk_, gs_ with
    | 0, _ => [{ τ := Nat, t0 := (default : Nat), J := fun t => t ≤ L.length ∧ madB (L.take t) (k, i, s) = false, m := fun t => L.length - t, l := fun t => [(0, .s (.a (.lp 100001 0))), (3, .s (.a (.lp 3 0))), (5, eI .i64 (t : Int))], H := fun t => [(100000, .row (.st 3 (L).length (lC sgE sgZ (L))) 80), (100001, .cells [.one (.d (.v (.int .i64 n))), .one (.d (.v (.int .i64 b))), .one (.rw 100000)] 121), (3, .cells [.one (.d (.v (.int .i64 k))), .one (.d (.v (.int .i64 i))), .one (.d (.v (.string s)))] 80)] }]
    | _, _ => []
theorem okR05Ringhas (n b : Int) (L : List SG) (k i : Int) (s : ByteArray) (hp : allP [L.length < 1099511627776]) : CallsOk Tryd.prog Gs 50 [.a (.lp 100001 0), .agg [.one (.d (.v (.int .i64 k))), .one (.d (.v (.int .i64 i))), .one (.d (.v (.string s)))]] [(100000, .row (.st 3 (L).length (lC sgE sgZ (L))) 80), (100001, .cells [.one (.d (.v (.int .i64 n))), .one (.d (.v (.int .i64 b))), .one (.rw 100000)] 121)] (eB (madB L (k, i, s))) [(100000, .row (.st 3 (L).length (lC sgE sgZ (L))) 80), (100001, .cells [.one (.d (.v (.int .i64 n))), .one (.d (.v (.int .i64 b))), .one (.rw 100000)] 121)] :=
  ok_of (ann := anR05Ringhas n b L k i s) ctok_R05Tag mixed Tryd.func50 (by kernel_rfl) (of_nf (p := (∃ (t : Nat), (0 : Int) = (↑t : Int) ∧ List.length L = List.length L ∧ (∀ (i : Nat), i < List.length L → lC sgE sgZ L i = lC sgE sgZ L i) ∧ n = n ∧ b = b ∧ k = k ∧ i = i ∧ s = s ∧ (t ≤ List.length L ∧ madB (List.take t L) (k, i, s) = false) ∧ True) ∧ ∀ (t : Nat), t ≤ List.length L ∧ madB (List.take t L) (k, i, s) = false → brP (decide ((↑t : Int) < (↑(Cont.len (Cont.st (3 : Nat) (List.length L) (lC sgE sgZ L))) : Int))) (((0 : Int) ≤ (↑t : Int) ∧ (↑t : Int) < (↑(Cont.len (Cont.st (3 : Nat) (List.length L) (lC sgE sgZ L))) : Int)) ∧ brP (Prod.fst (List.getD L (Int.toNat (↑t : Int)) sgZ) == k && (Prod.fst (Prod.snd (List.getD L (Int.toNat (↑t : Int)) sgZ)) == i && (ByteArray.toList (Prod.snd (Prod.snd (List.getD L (Int.toNat (↑t : Int)) sgZ))) == ByteArray.toList s && true))) (true = madB L (k, i, s) ∧ List.length L = List.length L ∧ (∀ (i : Nat), i < List.length L → lC sgE sgZ L i = lC sgE sgZ L i) ∧ n = n ∧ b = b ∧ True) (∃ (t_1 : Nat), IntKind.wrap IntKind.i64 ((↑t : Int) + (1 : Int)) = (↑t_1 : Int) ∧ List.length L = List.length L ∧ (∀ (i : Nat), i < List.length L → lC sgE sgZ L i = lC sgE sgZ L i) ∧ n = n ∧ b = b ∧ k = k ∧ i = i ∧ s = s ∧ (t_1 ≤ List.length L ∧ madB (List.take t_1 L) (k, i, s) = false) ∧ List.length L - t_1 < List.length L - t ∧ True)) (false = madB L (k, i, s) ∧ List.length L = List.length L ∧ (∀ (i : Nat), i < List.length L → lC sgE sgZ L i = lC sgE sgZ L i) ∧ n = n ∧ b = b ∧ True)) (by kernel_rfl) (by
    obtain ⟨hn, _⟩ := hp
    have l1 : (Cont.st 3 L.length (lC sgE sgZ L)).len = L.length := rfl
    refine ⟨⟨0, rfl, rfl, fun j hj => rfl, rfl, rfl, rfl, rfl, rfl, ⟨Nat.zero_le _, rfl⟩, trivial⟩, fun t ht => ?_⟩
    obtain ⟨h1, h2⟩ := ht
    rw [l1, Int.toNat_natCast]
    refine brI (fun hc => ?_) (fun hc => ?_)
    · have hc : t < L.length := by have := of_decide_eq_true hc; omega
      have hg : L.getD t sgZ ∈ L := by rw [List.getD_eq_getElem?_getD, List.getElem?_eq_getElem hc]; exact List.getElem_mem hc
      refine ⟨by omega, brI (fun hx => ?_) (fun hx => ?_)⟩
      · rw [str_dec] at hx
        simp only [Bool.and_eq_true, beq_iff_eq, decide_eq_true_eq, and_true] at hx
        refine ⟨?_, rfl, fun j hj => rfl, rfl, rfl, trivial⟩
        refine (madB_iff.2 ?_).symm
        have e : L.getD t sgZ = (k, i, s) := Prod.ext hx.1 (Prod.ext hx.2.1 hx.2.2)
        rw [← e]; exact hg
      · refine ⟨t + 1, by rw [wi _ (by omega) (by omega)]; rfl, rfl, fun j hj => rfl, rfl, rfl, rfl, rfl, rfl, ⟨by omega, ?_⟩, by omega, trivial⟩
        rw [List.take_succ_eq_append_getElem hc, mad_snoc, h2, Bool.false_or]
        rw [str_dec] at hx
        refine decide_eq_false fun e => ?_
        have e' : L.getD t sgZ = (k, i, s) := by rw [List.getD_eq_getElem?_getD, List.getElem?_eq_getElem hc]; exact e
        rw [e'] at hx
        simp at hx
    · have hc : t = L.length := by have := of_decide_eq_false hc; omega
      subst hc
      rw [List.take_of_length_le (Nat.le_refl _)] at h2
      exact ⟨h2.symm, rfl, fun j hj => rfl, rfl, rfl, trivial⟩))
noncomputable def gR05Ringhas : Con := fun args H => match args, H with
  | [.a (.lp 100001 0), .agg [.one (.d (.v (.int .i64 k))), .one (.d (.v (.int .i64 i))), .one (.d (.v (.string s)))]], [(100000, .row (.st 3 m c) ty), (100001, .cells (.one (.d (.v (.int .i64 n))) :: .one (.d (.v (.int .i64 b))) :: z) tz)] => (fun (n b : Int) (L : List SG) (k i : Int) (s : ByteArray) => conC args H [.a (.lp 100001 0), .agg [.one (.d (.v (.int .i64 k))), .one (.d (.v (.int .i64 i))), .one (.d (.v (.string s)))]] [(100000, .row (.st 3 (L).length (lC sgE sgZ (L))) 80), (100001, .cells [.one (.d (.v (.int .i64 n))), .one (.d (.v (.int .i64 b))), .one (.rw 100000)] 121)] ⟨[L.length < 1099511627776], eB (madB L (k, i, s)), [(100000, .row (.st 3 (L).length (lC sgE sgZ (L))) 80), (100001, .cells [.one (.d (.v (.int .i64 n))), .one (.d (.v (.int .i64 b))), .one (.rw 100000)] 121)]⟩) (n) (b) (lL sgD m c) (k) (i) (s)
  | _, _ => none
theorem vR05Ringhas : Valid Tryd.prog Gs 50 gR05Ringhas := by
  intro args H r h hp
  unfold gR05Ringhas at h
  split at h
  · rename_i k i s m c ty n b z tz
    exact conC_ok h hp fun hp => okR05Ringhas (n) (b) (lL sgD m c) (k) (i) (s) hp
  · cases h
noncomputable def ct_R05Ringhas : List (Nat × Ct) := (50, ⟨[true], false, gR05Ringhas, none⟩) :: ct_R05Tag
theorem ctok_R05Ringhas : CtsOk Tryd.prog Gs ct_R05Ringhas := CtsOk.cons vR05Ringhas (by kernel_rfl) ctok_R05Tag
noncomputable def anR05RingSign (n b : Int) (L : List SG) (k i : Int) (s : ByteArray) : Nat → List Nat → List Ann := fun _ _ => []
theorem okR05RingSign (n b : Int) (L : List SG) (k i : Int) (s : ByteArray) (hp : allP [s.size + 300 ≤ lim, L.length < 1073741824]) : CallsOk Tryd.prog Gs 30 [.a (.lp 100001 0), .a (.d (.v (.int .i64 k))), .a (.d (.v (.int .i64 i))), .a (.d (.v (.string s)))] [(100000, .row (.st 3 (L).length (lC sgE sgZ (L))) 80), (100001, .cells [.one (.d (.v (.int .i64 n))), .one (.d (.v (.int .i64 b))), .one (.rw 100000)] 121)] (.t [.agg [.one (.d (.v (.int .i64 (sigI n b k i)))), .ints .u8 32 (sigT n b k i (numsOf s))], .a (.d (.v (.int .i64 (okKey n b k i))))]) [(0, .row (.st 3 ((sgn n b L k i s)).length (lC sgE sgZ ((sgn n b L k i s)))) 80), (100001, .cells [.one (.d (.v (.int .i64 n))), .one (.d (.v (.int .i64 b))), .one (.rw 0)] 121)] :=
  ok_of (ann := anR05RingSign n b L k i s) ctok_R05Ringhas mixed Tryd.func30 (by kernel_rfl) (of_nf (p := let l0 := (lL sgD (List.length L) (lC sgE sgZ L)); brP (decide (k < (0 : Int))) ((0 : Int) = sigI n b k i ∧ List.replicate (32 : Nat) (0 : Int) = sigT n b k i (numsOf s) ∧ (2 : Int) = okKey n b k i ∧ List.length L = List.length (sgn n b L k i s) ∧ (∀ (i_1 : Nat), i_1 < List.length (sgn n b L k i s) → lC sgE sgZ L i_1 = lC sgE sgZ (sgn n b L k i s) i_1) ∧ n = n ∧ b = b ∧ True) (brP (decide (k ≥ n)) ((0 : Int) = sigI n b k i ∧ List.replicate (32 : Nat) (0 : Int) = sigT n b k i (numsOf s) ∧ (2 : Int) = okKey n b k i ∧ List.length L = List.length (sgn n b L k i s) ∧ (∀ (i_1 : Nat), i_1 < List.length (sgn n b L k i s) → lC sgE sgZ L i_1 = lC sgE sgZ (sgn n b L k i s) i_1) ∧ n = n ∧ b = b ∧ True) (brP (decide (i < (0 : Int))) ((0 : Int) = sigI n b k i ∧ List.replicate (32 : Nat) (0 : Int) = sigT n b k i (numsOf s) ∧ (17 : Int) = okKey n b k i ∧ List.length L = List.length (sgn n b L k i s) ∧ (∀ (i_1 : Nat), i_1 < List.length (sgn n b L k i s) → lC sgE sgZ L i_1 = lC sgE sgZ (sgn n b L k i s) i_1) ∧ n = n ∧ b = b ∧ True) (brP (decide (i ≥ b)) ((0 : Int) = sigI n b k i ∧ List.replicate (32 : Nat) (0 : Int) = sigT n b k i (numsOf s) ∧ (17 : Int) = okKey n b k i ∧ List.length L = List.length (sgn n b L k i s) ∧ (∀ (i_1 : Nat), i_1 < List.length (sgn n b L k i s) → lC sgE sgZ L i_1 = lC sgE sgZ (sgn n b L k i s) i_1) ∧ n = n ∧ b = b ∧ True) (k = k ∧ i = i ∧ s = s ∧ List.length L = List.length l0 ∧ (∀ (i : Nat), i < List.length l0 → lC sgE sgZ L i = lC sgE sgZ l0 i) ∧ n = n ∧ b = b ∧ List.length l0 < (1099511627776 : Nat) ∧ brP (!madB l0 (k, i, s)) (Cont.len (Cont.st (3 : Nat) (List.length l0) (lC sgE sgZ l0)) + Cont.len (Cont.st (3 : Nat) (1 : Nat) fun (i_1 : Nat) => List.getD [[DC.one (D.v (Value.int IntKind.i64 k)), DC.one (D.v (Value.int IntKind.i64 i)), DC.one (D.v (Value.string s))]] i_1 []) ≤ lim ∧ ByteArray.size s + (300 : Nat) ≤ lim ∧ i = sigI n b k i ∧ tagB k i (numsOf s) = sigT n b k i (numsOf s) ∧ (0 : Int) = okKey n b k i ∧ List.length l0 + (1 : Nat) = List.length (sgn n b L k i s) ∧ (∀ (i_1 : Nat), i_1 < List.length (sgn n b L k i s) → catF (List.length l0) (lC sgE sgZ l0) (fun (i_2 : Nat) => List.getD [[DC.one (D.v (Value.int IntKind.i64 k)), DC.one (D.v (Value.int IntKind.i64 i)), DC.one (D.v (Value.string s))]] i_2 []) i_1 = lC sgE sgZ (sgn n b L k i s) i_1) ∧ n = n ∧ b = b ∧ True) (ByteArray.size s + (300 : Nat) ≤ lim ∧ i = sigI n b k i ∧ tagB k i (numsOf s) = sigT n b k i (numsOf s) ∧ (0 : Int) = okKey n b k i ∧ List.length l0 = List.length (sgn n b L k i s) ∧ (∀ (i_1 : Nat), i_1 < List.length (sgn n b L k i s) → lC sgE sgZ l0 i_1 = lC sgE sgZ (sgn n b L k i s) i_1) ∧ n = n ∧ b = b ∧ True)))))) (by kernel_rfl) (by
    conv => zeta
    obtain ⟨hs, hn, _⟩ := hp
    have hlim : lim = 68719476736 := rfl
    rw [lL_self sgD_sgE]
    have no : okKey n b k i ≠ 0 → sgn n b L k i s = L ∧ sigI n b k i = 0 ∧ sigT n b k i (numsOf s) = List.replicate 32 0 := fun h => by
      unfold sgn sigI sigT; rw [if_neg h, if_neg h, if_neg h]; exact ⟨rfl, rfl, rfl⟩
    refine brI (fun h1 => ?_) (fun h1 => brI (fun h2 => ?_) (fun h2 => brI (fun h3 => ?_) (fun h3 => brI (fun h4 => ?_) (fun h4 => ?_))))
    · have e : okKey n b k i = 2 := by
        unfold okKey; rw [if_pos (.inl (of_decide_eq_true h1))]
      obtain ⟨e1, e2, e3⟩ := no (by rw [e]; decide)
      rw [e1, e2, e3, e]
      exact ⟨rfl, rfl, rfl, rfl, fun j hj => rfl, rfl, rfl, trivial⟩
    · have e : okKey n b k i = 2 := by
        unfold okKey; rw [if_pos (.inr (of_decide_eq_true h2))]
      obtain ⟨e1, e2, e3⟩ := no (by rw [e]; decide)
      rw [e1, e2, e3, e]
      exact ⟨rfl, rfl, rfl, rfl, fun j hj => rfl, rfl, rfl, trivial⟩
    · have e : okKey n b k i = 17 := by
        have := of_decide_eq_false h1; have := of_decide_eq_false h2
        unfold okKey; rw [if_neg (by omega), if_pos (.inl (of_decide_eq_true h3))]
      obtain ⟨e1, e2, e3⟩ := no (by rw [e]; decide)
      rw [e1, e2, e3, e]
      exact ⟨rfl, rfl, rfl, rfl, fun j hj => rfl, rfl, rfl, trivial⟩
    · have e : okKey n b k i = 17 := by
        have := of_decide_eq_false h1; have := of_decide_eq_false h2
        unfold okKey; rw [if_neg (by omega), if_pos (.inr (of_decide_eq_true h4))]
      obtain ⟨e1, e2, e3⟩ := no (by rw [e]; decide)
      rw [e1, e2, e3, e]
      exact ⟨rfl, rfl, rfl, rfl, fun j hj => rfl, rfl, rfl, trivial⟩
    · have e : okKey n b k i = 0 := by
        have := of_decide_eq_false h1; have := of_decide_eq_false h2; have := of_decide_eq_false h3; have := of_decide_eq_false h4
        unfold okKey; rw [if_neg (by omega), if_neg (by omega)]
      have e2 : sigI n b k i = i := by unfold sigI; rw [if_pos e]
      have e3 : sigT n b k i (numsOf s) = tagB k i (numsOf s) := by unfold sigT; rw [if_pos e]
      have e1 : sgn n b L k i s = addS L (k, i, s) := by unfold sgn; rw [if_pos e]
      rw [e1, e2, e3, e]
      refine ⟨rfl, rfl, rfl, rfl, fun j hj => rfl, rfl, rfl, by omega, brI (fun hx => ?_) (fun hx => ?_)⟩
      · have hx : madB L (k, i, s) = false := by simpa using hx
        have ea : addS L (k, i, s) = L ++ [(k, i, s)] := by unfold addS; rw [hx]; rfl
        rw [ea]
        refine ⟨(show L.length + 1 ≤ lim by omega), hs, rfl, rfl, rfl, by simp, fun j hj => ?_, rfl, rfl, trivial⟩
        exact lC_snoc L (k, i, s) rfl j (by simpa using hj)
      · have hx : madB L (k, i, s) = true := by simpa using hx
        have ea : addS L (k, i, s) = L := by unfold addS; rw [hx]; rfl
        rw [ea]
        exact ⟨hs, rfl, rfl, rfl, rfl, fun j hj => rfl, rfl, rfl, trivial⟩))
noncomputable def gR05RingSign : Con := fun args H => match args, H with
  | [.a (.lp 100001 0), .a (.d (.v (.int .i64 k))), .a (.d (.v (.int .i64 i))), .a (.d (.v (.string s)))], [(100000, .row (.st 3 m c) ty), (100001, .cells (.one (.d (.v (.int .i64 n))) :: .one (.d (.v (.int .i64 b))) :: z) tz)] => (fun (n b : Int) (L : List SG) (k i : Int) (s : ByteArray) => conC args H [.a (.lp 100001 0), .a (.d (.v (.int .i64 k))), .a (.d (.v (.int .i64 i))), .a (.d (.v (.string s)))] [(100000, .row (.st 3 (L).length (lC sgE sgZ (L))) 80), (100001, .cells [.one (.d (.v (.int .i64 n))), .one (.d (.v (.int .i64 b))), .one (.rw 100000)] 121)] ⟨[s.size + 300 ≤ lim, L.length < 1073741824], .t [.agg [.one (.d (.v (.int .i64 (sigI n b k i)))), .ints .u8 32 (sigT n b k i (numsOf s))], .a (.d (.v (.int .i64 (okKey n b k i))))], [(0, .row (.st 3 ((sgn n b L k i s)).length (lC sgE sgZ ((sgn n b L k i s)))) 80), (100001, .cells [.one (.d (.v (.int .i64 n))), .one (.d (.v (.int .i64 b))), .one (.rw 0)] 121)]⟩) (n) (b) (lL sgD m c) (k) (i) (s)
  | _, _ => none
theorem vR05RingSign : Valid Tryd.prog Gs 30 gR05RingSign := by
  intro args H r h hp
  unfold gR05RingSign at h
  split at h
  · rename_i k i s m c ty n b z tz
    exact conC_ok h hp fun hp => okR05RingSign (n) (b) (lL sgD m c) (k) (i) (s) hp
  · cases h
noncomputable def ct_R05RingSign : List (Nat × Ct) := (30, ⟨[true], false, gR05RingSign, none⟩) :: ct_R05Ringhas
theorem ctok_R05RingSign : CtsOk Tryd.prog Gs ct_R05RingSign := CtsOk.cons vR05RingSign (by kernel_rfl) ctok_R05Ringhas
noncomputable def anR05RingCheck (n b : Int) (L : List SG) (k : Int) (s : ByteArray) (i : Int) (g : List Int) : Nat → List Nat → List Ann := fun _ _ => []
theorem okR05RingCheck (n b : Int) (L : List SG) (k : Int) (s : ByteArray) (i : Int) (g : List Int) (hp : allP [s.size + 300 ≤ lim, L.length < 1099511627776]) : CallsOk Tryd.prog Gs 18 [.a (.lp 100001 0), .a (.d (.v (.int .i64 k))), .a (.d (.v (.string s))), .agg [.one (.d (.v (.int .i64 i))), .ints .u8 32 g]] [(100000, .row (.st 3 (L).length (lC sgE sgZ (L))) 80), (100001, .cells [.one (.d (.v (.int .i64 n))), .one (.d (.v (.int .i64 b))), .one (.rw 100000)] 121)] (eB (madB L (k, i, s) && (g == tagB k i (numsOf s)))) [(100000, .row (.st 3 (L).length (lC sgE sgZ (L))) 80), (100001, .cells [.one (.d (.v (.int .i64 n))), .one (.d (.v (.int .i64 b))), .one (.rw 100000)] 121)] :=
  ok_of (ann := anR05RingCheck n b L k s i g) ctok_R05RingSign mixed Tryd.func18 (by kernel_rfl) (of_nf (p := k = k ∧ i = i ∧ s = s ∧ List.length L = List.length (lL sgD (List.length L) (lC sgE sgZ L)) ∧ (∀ (i : Nat), i < List.length (lL sgD (List.length L) (lC sgE sgZ L)) → lC sgE sgZ L i = lC sgE sgZ (lL sgD (List.length L) (lC sgE sgZ L)) i) ∧ n = n ∧ b = b ∧ List.length (lL sgD (List.length L) (lC sgE sgZ L)) < (1099511627776 : Nat) ∧ brP (madB (lL sgD (List.length L) (lC sgE sgZ L)) (k, i, s)) (ByteArray.size s + (300 : Nat) ≤ lim ∧ (tagB k i (numsOf s) == g) = (madB L (k, i, s) && g == tagB k i (numsOf s)) ∧ List.length (lL sgD (List.length L) (lC sgE sgZ L)) = List.length L ∧ (∀ (i : Nat), i < List.length L → lC sgE sgZ (lL sgD (List.length L) (lC sgE sgZ L)) i = lC sgE sgZ L i) ∧ n = n ∧ b = b ∧ True) (false = (madB L (k, i, s) && g == tagB k i (numsOf s)) ∧ List.length (lL sgD (List.length L) (lC sgE sgZ L)) = List.length L ∧ (∀ (i : Nat), i < List.length L → lC sgE sgZ (lL sgD (List.length L) (lC sgE sgZ L)) i = lC sgE sgZ L i) ∧ n = n ∧ b = b ∧ True)) (by kernel_rfl) (by
    obtain ⟨hs, hn, _⟩ := hp
    rw [lL_self sgD_sgE]
    refine ⟨rfl, rfl, rfl, rfl, fun j hj => rfl, rfl, rfl, hn, brI (fun h => ?_) (fun h => ?_)⟩
    · rw [h, Bool.true_and]
      exact ⟨hs, Bool.beq_comm, rfl, fun j hj => rfl, rfl, rfl, trivial⟩
    · rw [h, Bool.false_and]
      exact ⟨rfl, rfl, fun j hj => rfl, rfl, rfl, trivial⟩))
noncomputable def gR05RingCheck : Con := fun args H => match args, H with
  | [.a (.lp 100001 0), .a (.d (.v (.int .i64 k))), .a (.d (.v (.string s))), .agg [.one (.d (.v (.int .i64 i))), .ints .u8 32 g]], [(100000, .row (.st 3 m c) ty), (100001, .cells (.one (.d (.v (.int .i64 n))) :: .one (.d (.v (.int .i64 b))) :: z) tz)] => (fun (n b : Int) (L : List SG) (k : Int) (s : ByteArray) (i : Int) (g : List Int) => conC args H [.a (.lp 100001 0), .a (.d (.v (.int .i64 k))), .a (.d (.v (.string s))), .agg [.one (.d (.v (.int .i64 i))), .ints .u8 32 g]] [(100000, .row (.st 3 (L).length (lC sgE sgZ (L))) 80), (100001, .cells [.one (.d (.v (.int .i64 n))), .one (.d (.v (.int .i64 b))), .one (.rw 100000)] 121)] ⟨[s.size + 300 ≤ lim, L.length < 1099511627776], eB (madB L (k, i, s) && (g == tagB k i (numsOf s))), [(100000, .row (.st 3 (L).length (lC sgE sgZ (L))) 80), (100001, .cells [.one (.d (.v (.int .i64 n))), .one (.d (.v (.int .i64 b))), .one (.rw 100000)] 121)]⟩) (n) (b) (lL sgD m c) (k) (s) (i) (g)
  | _, _ => none
theorem vR05RingCheck : Valid Tryd.prog Gs 18 gR05RingCheck := by
  intro args H r h hp
  unfold gR05RingCheck at h
  split at h
  · rename_i k s i g m c ty n b z tz
    exact conC_ok h hp fun hp => okR05RingCheck (n) (b) (lL sgD m c) (k) (s) (i) (g) hp
  · cases h
noncomputable def ct_R05RingCheck : List (Nat × Ct) := (18, ⟨[true], false, gR05RingCheck, none⟩) :: ct_R05RingSign
theorem ctok_R05RingCheck : CtsOk Tryd.prog Gs ct_R05RingCheck := CtsOk.cons vR05RingCheck (by kernel_rfl) ctok_R05RingSign
end Go.Proofs.YtlgffgnkkihaoaaDoor
