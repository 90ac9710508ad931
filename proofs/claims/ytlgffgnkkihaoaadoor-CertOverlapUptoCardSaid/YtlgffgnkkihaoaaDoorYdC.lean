/- Votes in order: the stable sort. -/
import Derived.Test.YtlgffgnkkihaoaaDoorYdB
import Derived.Test.YtlgffgnkkihaoaaDoorYdS
namespace Go.Proofs.YtlgffgnkkihaoaaDoor
open Go.Dx Go.RowKit
set_option linter.unusedVariables false
set_option linter.unusedSimpArgs false
set_option maxRecDepth 100000
attribute [local irreducible] wpS
attribute [local irreducible] sumB joinB
/-- Where the halves are crossed. -/
structure Cross (B : Nat → VT) (a m b s : Nat) : Prop where
  h0 : a ≤ s
  h1 : s ≤ m
  h2 : s ≤ (a + b) / 2
  h3 : m ≤ (a + b) / 2 + m - s
  h4 : (a + b) / 2 + m - s ≤ b
  p1 : ∀ i j, a ≤ i → i < s → (a + b) / 2 + m - s ≤ j → j < b → VT.who (B i) ≤ VT.who (B j)
  p2 : ∀ i j, m ≤ i → i < (a + b) / 2 + m - s → s ≤ j → j < m → VT.who (B i) < VT.who (B j)
def vtE (x : VT) : List DC := [.one (.v (.int .i64 x.ch)), .one (.v (.int .i64 x.ep)), .one (.v (.int .i64 x.vw)), .ints .u8 32 x.blk, .one (.v (.int .i64 x.who)), .one (.v (.int .i64 x.sig.1)), .ints .u8 32 x.sig.2]
abbrev vtZ : VT := ⟨0, 0, 0, [], 0, (0, [])⟩
def vtG : List DC → VT
  | [.one (.v (.int _ a)), .one (.v (.int _ b)), .one (.v (.int _ c)), .ints _ _ d, .one (.v (.int _ e)), .one (.v (.int _ i)), .ints _ _ g] => ⟨a, b, c, d, e, (i, g)⟩
  | _ => vtZ
abbrev wK (x : VT) : Int := x.who
theorem fdivN (x m : Nat) : Int.fdiv (x : Int) (2 ^ m) = ((x / 2 ^ m : Nat) : Int) := by
  rw [Int.fdiv_eq_ediv_of_nonneg _ (Int.le_of_lt (Int.pow_pos (by decide))), Int.natCast_ediv, Int.natCast_pow]; rfl
theorem midN {i j : Nat} (hi : i < 1099511627776) (hj : j < 1099511627776) : IntKind.wrap .i64 (Int.fdiv (IntKind.wrap .u64 (IntKind.wrap .i64 ((i : Int) + (j : Int)))) (2 ^ min (Int.toNat 1) (IntKind.bits .u64))) = (((i + j) / 2 : Nat) : Int) := by
  have e1 : min (Int.toNat 1) (IntKind.bits .u64) = 1 := by decide
  rw [e1, wi ((i : Int) + (j : Int)) (by omega) (by omega), wu ((i : Int) + (j : Int)) (by omega) (by omega), show ((i : Int) + (j : Int)) = ((i + j : Nat) : Int) by omega, fdivN]
  rw [show (2 : Nat) ^ 1 = 2 by decide]
  exact wi _ (by omega) (by omega)
/-- What the comparison says. -/
theorem cmp_lt {x y : VT} : decide ((if x.who < y.who then (-1 : Int) else if x.who > y.who then (1 : Int) else (0 : Int)) < (0 : Int)) = decide (wK x < wK y) := by
  show decide ((if x.who < y.who then (-1 : Int) else if x.who > y.who then (1 : Int) else (0 : Int)) < (0 : Int)) = decide (x.who < y.who)
  by_cases h : x.who < y.who
  · simp [h]
  · by_cases h2 : x.who > y.who <;> simp [h, h2]
theorem vtG_vtE (x : VT) : vtG (vtE x) = x := rfl
instance : Inhabited VT := ⟨vtZ⟩
theorem sw_fc (C : Nat → VT) (p q : Nat) : bumpF (bumpF (fC vtE C) p (vtE (C q))) q (vtE (C p)) = fC vtE (swF C p q) := by rw [fC_set, fC_set]; rfl
theorem fC_vt (B : Nat → VT) : (fun i => vtG (fC vtE B i)) = B := rfl
noncomputable def ancertMake5 (v u : VT) : Nat → List Nat → List Ann := fun _ _ => []
theorem okcertMake5 (v u : VT) : CallsOk Tryd.prog Gs 49 [.agg [.one (.d (.v (.int .i64 (v).ch))), .one (.d (.v (.int .i64 (v).ep))), .one (.d (.v (.int .i64 (v).vw))), .ints .u8 32 (v).blk, .one (.d (.v (.int .i64 (v).who))), .one (.d (.v (.int .i64 (v).sig.1))), .ints .u8 32 (v).sig.2], .agg [.one (.d (.v (.int .i64 (u).ch))), .one (.d (.v (.int .i64 (u).ep))), .one (.d (.v (.int .i64 (u).vw))), .ints .u8 32 (u).blk, .one (.d (.v (.int .i64 (u).who))), .one (.d (.v (.int .i64 (u).sig.1))), .ints .u8 32 (u).sig.2]] [] (eI .i64 (if v.who < u.who then -1 else if v.who > u.who then 1 else 0)) [] :=
  ok_of (ann := ancertMake5 v u) ctok_certCheckQC mixed Tryd.func49 (by kernel_rfl) (of_nf (p := brP (decide (VT.who v < VT.who u)) (((-1 : Int) = if VT.who v < VT.who u then (-1 : Int) else if VT.who v > VT.who u then (1 : Int) else (0 : Int)) ∧ True) (brP (decide (VT.who v > VT.who u)) (((1 : Int) = if VT.who v < VT.who u then (-1 : Int) else if VT.who v > VT.who u then (1 : Int) else (0 : Int)) ∧ True) (((0 : Int) = if VT.who v < VT.who u then (-1 : Int) else if VT.who v > VT.who u then (1 : Int) else (0 : Int)) ∧ True))) (by kernel_rfl) (by
    refine brI (fun h => ?_) (fun h => brI (fun h2 => ?_) (fun h2 => ?_))
    · rw [if_pos (of_decide_eq_true h)]; exact ⟨rfl, trivial⟩
    · rw [if_neg (of_decide_eq_false h), if_pos (of_decide_eq_true h2)]; exact ⟨rfl, trivial⟩
    · rw [if_neg (of_decide_eq_false h), if_neg (of_decide_eq_false h2)]; exact ⟨rfl, trivial⟩))
noncomputable def gcertMake5 : Con := fun args H => match args, H with
  | [.agg [.one (.d (.v (.int .i64 x1))), .one (.d (.v (.int .i64 x2))), .one (.d (.v (.int .i64 x3))), .ints .u8 32 x4, .one (.d (.v (.int .i64 x5))), .one (.d (.v (.int .i64 x6))), .ints .u8 32 x7], .agg [.one (.d (.v (.int .i64 y1))), .one (.d (.v (.int .i64 y2))), .one (.d (.v (.int .i64 y3))), .ints .u8 32 y4, .one (.d (.v (.int .i64 y5))), .one (.d (.v (.int .i64 y6))), .ints .u8 32 y7]], [] => (fun (v u : VT) => conC args H [.agg [.one (.d (.v (.int .i64 (v).ch))), .one (.d (.v (.int .i64 (v).ep))), .one (.d (.v (.int .i64 (v).vw))), .ints .u8 32 (v).blk, .one (.d (.v (.int .i64 (v).who))), .one (.d (.v (.int .i64 (v).sig.1))), .ints .u8 32 (v).sig.2], .agg [.one (.d (.v (.int .i64 (u).ch))), .one (.d (.v (.int .i64 (u).ep))), .one (.d (.v (.int .i64 (u).vw))), .ints .u8 32 (u).blk, .one (.d (.v (.int .i64 (u).who))), .one (.d (.v (.int .i64 (u).sig.1))), .ints .u8 32 (u).sig.2]] [] ⟨[], eI .i64 (if v.who < u.who then -1 else if v.who > u.who then 1 else 0), []⟩) (⟨x1, x2, x3, x4, x5, (x6, x7)⟩) (⟨y1, y2, y3, y4, y5, (y6, y7)⟩)
  | _, _ => none
theorem vcertMake5 : Valid Tryd.prog Gs 49 gcertMake5 := by
  intro args H r h hp
  unfold gcertMake5 at h
  split at h
  · rename_i x1 x2 x3 x4 x5 x6 x7 y1 y2 y3 y4 y5 y6 y7
    exact conC_ok h hp fun hp => okcertMake5 (⟨x1, x2, x3, x4, x5, (x6, x7)⟩) (⟨y1, y2, y3, y4, y5, (y6, y7)⟩)
  · cases h
noncomputable def ct_certMake5 : List (Nat × Ct) := (49, ⟨[], false, gcertMake5, none⟩) :: ct_certCheckQC
theorem ctok_certMake5 : CtsOk Tryd.prog Gs ct_certMake5 := CtsOk.cons vcertMake5 (by kernel_rfl) ctok_certCheckQC
noncomputable def anslicesswapRangeCmpFuncapiVote (n : Nat) (B : Nat → VT) (p q k : Int) : Nat → List Nat → List Ann := fun bk_ gs_ => match bk_, gs_ with
    | 0, _ => [{ τ := Nat, t0 := (default : Nat), J := fun i => (i : Int) ≤ k, m := fun i => k.toNat - i, l := fun i => [(0, .s (.a (.rw 100000))), (1, eI .i64 p), (2, eI .i64 q), (3, eI .i64 k), (4, .s (.a (.d (.v (.func (.func 49) #[] #[]))))), (10, eI .i64 (i : Int))], H := fun i => [(100000, .row (.st 69 n (fC vtE (swR B p.toNat q.toNat i))) 49)] }]
    | _, _ => []
theorem okslicesswapRangeCmpFuncapiVote (n : Nat) (B : Nat → VT) (p q k : Int) (hp : allP [0 ≤ p, 0 ≤ k, p + k ≤ q, q + k ≤ n, n < 1099511627776]) : CallsOk Tryd.prog Gs 102 [.a (.rw 100000), .a (.d (.v (.int .i64 p))), .a (.d (.v (.int .i64 q))), .a (.d (.v (.int .i64 k))), .a (.d (.v (.func (.func 49) #[] #[])))] [(100000, .row (.st 69 n (fC vtE B)) 49)] (.t []) [(100000, .row (.st 69 n (fC vtE (swR B p.toNat q.toNat k.toNat))) 49)] :=
  ok_of (ann := anslicesswapRangeCmpFuncapiVote n B p q k) ctok_certMake5 mixed Tryd.func102 (by kernel_rfl) (of_nf (p := (∃ (t : Nat), p = p ∧ q = q ∧ k = k ∧ Value.func (Fn.func (49 : FuncId)) #[] #[] = Value.func (Fn.func (49 : FuncId)) #[] #[] ∧ (0 : Int) = (↑t : Int) ∧ n = n ∧ (∀ (i : Nat), i < n → fC vtE B i = fC vtE (swR B (Int.toNat p) (Int.toNat q) t) i) ∧ (↑t : Int) ≤ k ∧ True) ∧ ∀ (t : Nat), let l3 := (Int.toNat (IntKind.wrap IntKind.i64 (q + (↑t : Int)))); let l2 := (Int.toNat (IntKind.wrap IntKind.i64 (p + (↑t : Int)))); let l1 := ((0 : Int) ≤ IntKind.wrap IntKind.i64 (p + (↑t : Int)) ∧ IntKind.wrap IntKind.i64 (p + (↑t : Int)) < (↑(n) : Int)); let l0 := ((0 : Int) ≤ IntKind.wrap IntKind.i64 (q + (↑t : Int)) ∧ IntKind.wrap IntKind.i64 (q + (↑t : Int)) < (↑(n) : Int)); (↑t : Int) ≤ k → brP (decide ((↑t : Int) < k)) (l0 ∧ l1 ∧ l1 ∧ l0 ∧ ∃ (t_1 : Nat), p = p ∧ q = q ∧ k = k ∧ Value.func (Fn.func (49 : FuncId)) #[] #[] = Value.func (Fn.func (49 : FuncId)) #[] #[] ∧ IntKind.wrap IntKind.i64 ((↑t : Int) + (1 : Int)) = (↑t_1 : Int) ∧ n = n ∧ (∀ (i : Nat), i < n → bumpF (bumpF (fC vtE (swR B (Int.toNat p) (Int.toNat q) t)) l2 (vtE (swR B (Int.toNat p) (Int.toNat q) t l3))) l3 (vtE (swR B (Int.toNat p) (Int.toNat q) t l2)) i = fC vtE (swR B (Int.toNat p) (Int.toNat q) t_1) i) ∧ (↑t_1 : Int) ≤ k ∧ Int.toNat k - t_1 < Int.toNat k - t ∧ True) (n = n ∧ (∀ (i : Nat), i < n → fC vtE (swR B (Int.toNat p) (Int.toNat q) t) i = fC vtE (swR B (Int.toNat p) (Int.toNat q) (Int.toNat k)) i) ∧ True)) (by kernel_rfl) (by
    conv => zeta
    obtain ⟨h1, h2, h3, h4, h5, _⟩ := hp
    obtain ⟨P, rfl⟩ := Int.eq_ofNat_of_zero_le h1
    obtain ⟨Q, rfl⟩ := Int.eq_ofNat_of_zero_le (show 0 ≤ q by omega)
    obtain ⟨K, rfl⟩ := Int.eq_ofNat_of_zero_le h2
    refine ⟨⟨0, rfl, rfl, rfl, rfl, rfl, rfl, fun i hi => by rw [swR_zero], h2, trivial⟩, fun t ht => ?_⟩
    have e1 : t ≤ K → IntKind.wrap .i64 ((Q : Int) + t) = ((Q + t : Nat) : Int) := fun h => by rw [wi _ (by omega) (by omega)]; rfl
    have e2 : t ≤ K → IntKind.wrap .i64 ((P : Int) + t) = ((P + t : Nat) : Int) := fun h => by rw [wi _ (by omega) (by omega)]; rfl
    rw [e1 (by omega), e2 (by omega)]
    simp only [Int.toNat_natCast, true_and, and_true, implies_true]
    refine brI (fun hc => ?_) (fun hc => ?_)
    · have hc : t < K := by have := of_decide_eq_true hc; omega
      refine ⟨⟨by omega, by omega⟩, ⟨by omega, by omega⟩, ⟨by omega, by omega⟩, ⟨by omega, by omega⟩, t + 1, by rw [wi _ (by omega) (by omega)]; rfl, fun i hi => ?_, by omega, by omega⟩
      rw [sw_fc, swR_succ _ (by omega)]
    · obtain rfl : t = K := by have := of_decide_eq_false hc; omega
      exact fun i hi => rfl))
noncomputable def gslicesswapRangeCmpFuncapiVote : Con := fun args H => match args, H with
  | [.a (.rw 100000), .a (.d (.v (.int .i64 p))), .a (.d (.v (.int .i64 q))), .a (.d (.v (.int .i64 k))), .a (.d (.v (.func f1 f2 f3)))], [(100000, .row (.st 69 n c) ty)] => (fun (n : Nat) (B : Nat → VT) (p q k : Int) => conC args H [.a (.rw 100000), .a (.d (.v (.int .i64 p))), .a (.d (.v (.int .i64 q))), .a (.d (.v (.int .i64 k))), .a (.d (.v (.func (.func 49) #[] #[])))] [(100000, .row (.st 69 n (fC vtE B)) 49)] ⟨[0 ≤ p, 0 ≤ k, p + k ≤ q, q + k ≤ n, n < 1099511627776], .t [], [(100000, .row (.st 69 n (fC vtE (swR B p.toNat q.toNat k.toNat))) 49)]⟩) (n) ((fun i => vtG (c i))) (p) (q) (k)
  | _, _ => none
theorem vslicesswapRangeCmpFuncapiVote : Valid Tryd.prog Gs 102 gslicesswapRangeCmpFuncapiVote := by
  intro args H r h hp
  unfold gslicesswapRangeCmpFuncapiVote at h
  split at h
  · rename_i p q k f1 f2 f3 n c ty
    exact conC_ok h hp fun hp => okslicesswapRangeCmpFuncapiVote (n) ((fun i => vtG (c i))) (p) (q) (k) hp
  · cases h
noncomputable def ct_slicesswapRangeCmpFuncapiVote : List (Nat × Ct) := (102, ⟨[true], false, gslicesswapRangeCmpFuncapiVote, none⟩) :: ct_certMake5
theorem ctok_slicesswapRangeCmpFuncapiVote : CtsOk Tryd.prog Gs ct_slicesswapRangeCmpFuncapiVote := CtsOk.cons vslicesswapRangeCmpFuncapiVote (by kernel_rfl) ctok_certMake5
noncomputable def anslicesrotateCmpFuncapiVote (n : Nat) (B : Nat → VT) (a m b : Int) : Nat → List Nat → List Ann := fun bk_ gs_ => match bk_, gs_ with
    | 0, _ => [{ τ := Nat × Nat × (Nat → VT), t0 := (default : Nat × Nat × (Nat → VT)), J := fun g => 0 < g.1 ∧ 0 < g.2.1 ∧ a.toNat + g.1 ≤ m.toNat ∧ m.toNat + g.2.1 ≤ b.toNat ∧ rotP g.2.2 (m.toNat - g.1) m.toNat (m.toNat + g.2.1) = rotP B a.toNat m.toNat b.toNat, m := fun g => g.1 + g.2.1, l := fun g => [(0, .s (.a (.rw 100000))), (1, eI .i64 a), (2, eI .i64 m), (3, eI .i64 b), (4, .s (.a (.d (.v (.func (.func 49) #[] #[]))))), (10, eI .i64 (g.1 : Int)), (11, eI .i64 (g.2.1 : Int))], H := fun g => [(100000, .row (.st 69 n (fC vtE g.2.2)) 49)] }]
    | _, _ => []
theorem okslicesrotateCmpFuncapiVote (n : Nat) (B : Nat → VT) (a m b : Int) (hp : allP [0 ≤ a, a < m, m < b, b ≤ n, n < 1099511627776]) : CallsOk Tryd.prog Gs 92 [.a (.rw 100000), .a (.d (.v (.int .i64 a))), .a (.d (.v (.int .i64 m))), .a (.d (.v (.int .i64 b))), .a (.d (.v (.func (.func 49) #[] #[])))] [(100000, .row (.st 69 n (fC vtE B)) 49)] (.t []) [(100000, .row (.st 69 n (fC vtE (rotP B a.toNat m.toNat b.toNat))) 49)] :=
  ok_of (ann := anslicesrotateCmpFuncapiVote n B a m b) ctok_slicesswapRangeCmpFuncapiVote mixed Tryd.func92 (by kernel_rfl) (of_nf (p := (∃ (t : Nat × Nat × (Nat → VT)), a = a ∧ m = m ∧ b = b ∧ Value.func (Fn.func (49 : FuncId)) #[] #[] = Value.func (Fn.func (49 : FuncId)) #[] #[] ∧ IntKind.wrap IntKind.i64 (m - a) = (↑(Prod.fst t) : Int) ∧ IntKind.wrap IntKind.i64 (b - m) = (↑(Prod.fst (Prod.snd t)) : Int) ∧ n = n ∧ (∀ (i : Nat), i < n → fC vtE B i = fC vtE (Prod.snd (Prod.snd t)) i) ∧ ((0 : Nat) < Prod.fst t ∧ (0 : Nat) < Prod.fst (Prod.snd t) ∧ Int.toNat a + Prod.fst t ≤ Int.toNat m ∧ Int.toNat m + Prod.fst (Prod.snd t) ≤ Int.toNat b ∧ rotP (Prod.snd (Prod.snd t)) (Int.toNat m - Prod.fst t) (Int.toNat m) (Int.toNat m + Prod.fst (Prod.snd t)) = rotP B (Int.toNat a) (Int.toNat m) (Int.toNat b)) ∧ True) ∧ ∀ (t : Nat × Nat × (Nat → VT)), let l1 := (m - (↑(Prod.fst t) : Int)); let l3 := (Int.toNat (IntKind.wrap IntKind.i64 l1)); let l0 := (↑(Prod.fst (Prod.snd t)) : Int); let l2 := (IntKind.wrap IntKind.i64 (m + l0) - (↑(Prod.fst t) : Int)); (0 : Nat) < Prod.fst t ∧ (0 : Nat) < Prod.fst (Prod.snd t) ∧ Int.toNat a + Prod.fst t ≤ Int.toNat m ∧ Int.toNat m + Prod.fst (Prod.snd t) ≤ Int.toNat b ∧ rotP (Prod.snd (Prod.snd t)) (Int.toNat m - Prod.fst t) (Int.toNat m) (Int.toNat m + Prod.fst (Prod.snd t)) = rotP B (Int.toNat a) (Int.toNat m) (Int.toNat b) → brP ((↑(Prod.fst t) : Int) != l0) (brP (decide ((↑(Prod.fst t) : Int) > l0)) (IntKind.wrap IntKind.i64 l1 = IntKind.wrap IntKind.i64 l1 ∧ m = m ∧ l0 = l0 ∧ Value.func (Fn.func (49 : FuncId)) #[] #[] = Value.func (Fn.func (49 : FuncId)) #[] #[] ∧ n = n ∧ (∀ (i : Nat), i < n → fC vtE (Prod.snd (Prod.snd t)) i = fC vtE (fun (i : Nat) => vtG (fC vtE (Prod.snd (Prod.snd t)) i)) i) ∧ (0 : Int) ≤ IntKind.wrap IntKind.i64 l1 ∧ (0 : Int) ≤ l0 ∧ IntKind.wrap IntKind.i64 l1 + l0 ≤ m ∧ m + l0 ≤ (↑n : Int) ∧ n < (1099511627776 : Nat) ∧ ∃ (t_1 : Nat × Nat × (Nat → VT)), a = a ∧ m = m ∧ b = b ∧ Value.func (Fn.func (49 : FuncId)) #[] #[] = Value.func (Fn.func (49 : FuncId)) #[] #[] ∧ IntKind.wrap IntKind.i64 ((↑(Prod.fst t) : Int) - l0) = (↑(Prod.fst t_1) : Int) ∧ l0 = (↑(Prod.fst (Prod.snd t_1)) : Int) ∧ n = n ∧ (∀ (i : Nat), i < n → fC vtE (swR (fun (i : Nat) => vtG (fC vtE (Prod.snd (Prod.snd t)) i)) l3 (Int.toNat m) (Int.toNat l0)) i = fC vtE (Prod.snd (Prod.snd t_1)) i) ∧ ((0 : Nat) < Prod.fst t_1 ∧ (0 : Nat) < Prod.fst (Prod.snd t_1) ∧ Int.toNat a + Prod.fst t_1 ≤ Int.toNat m ∧ Int.toNat m + Prod.fst (Prod.snd t_1) ≤ Int.toNat b ∧ rotP (Prod.snd (Prod.snd t_1)) (Int.toNat m - Prod.fst t_1) (Int.toNat m) (Int.toNat m + Prod.fst (Prod.snd t_1)) = rotP B (Int.toNat a) (Int.toNat m) (Int.toNat b)) ∧ Prod.fst t_1 + Prod.fst (Prod.snd t_1) < Prod.fst t + Prod.fst (Prod.snd t) ∧ True) (IntKind.wrap IntKind.i64 l1 = IntKind.wrap IntKind.i64 l1 ∧ IntKind.wrap IntKind.i64 l2 = IntKind.wrap IntKind.i64 l2 ∧ (↑(Prod.fst t) : Int) = (↑(Prod.fst t) : Int) ∧ Value.func (Fn.func (49 : FuncId)) #[] #[] = Value.func (Fn.func (49 : FuncId)) #[] #[] ∧ n = n ∧ (∀ (i : Nat), i < n → fC vtE (Prod.snd (Prod.snd t)) i = fC vtE (fun (i : Nat) => vtG (fC vtE (Prod.snd (Prod.snd t)) i)) i) ∧ (0 : Int) ≤ IntKind.wrap IntKind.i64 l1 ∧ (0 : Int) ≤ (↑(Prod.fst t) : Int) ∧ IntKind.wrap IntKind.i64 l1 + (↑(Prod.fst t) : Int) ≤ IntKind.wrap IntKind.i64 l2 ∧ IntKind.wrap IntKind.i64 l2 + (↑(Prod.fst t) : Int) ≤ (↑n : Int) ∧ n < (1099511627776 : Nat) ∧ ∃ (t_1 : Nat × Nat × (Nat → VT)), a = a ∧ m = m ∧ b = b ∧ Value.func (Fn.func (49 : FuncId)) #[] #[] = Value.func (Fn.func (49 : FuncId)) #[] #[] ∧ (↑(Prod.fst t) : Int) = (↑(Prod.fst t_1) : Int) ∧ IntKind.wrap IntKind.i64 (l0 - (↑(Prod.fst t) : Int)) = (↑(Prod.fst (Prod.snd t_1)) : Int) ∧ n = n ∧ (∀ (i : Nat), i < n → fC vtE (swR (fun (i : Nat) => vtG (fC vtE (Prod.snd (Prod.snd t)) i)) l3 (Int.toNat (IntKind.wrap IntKind.i64 l2)) (Int.toNat (↑(Prod.fst t) : Int))) i = fC vtE (Prod.snd (Prod.snd t_1)) i) ∧ ((0 : Nat) < Prod.fst t_1 ∧ (0 : Nat) < Prod.fst (Prod.snd t_1) ∧ Int.toNat a + Prod.fst t_1 ≤ Int.toNat m ∧ Int.toNat m + Prod.fst (Prod.snd t_1) ≤ Int.toNat b ∧ rotP (Prod.snd (Prod.snd t_1)) (Int.toNat m - Prod.fst t_1) (Int.toNat m) (Int.toNat m + Prod.fst (Prod.snd t_1)) = rotP B (Int.toNat a) (Int.toNat m) (Int.toNat b)) ∧ Prod.fst t_1 + Prod.fst (Prod.snd t_1) < Prod.fst t + Prod.fst (Prod.snd t) ∧ True)) (IntKind.wrap IntKind.i64 l1 = IntKind.wrap IntKind.i64 l1 ∧ m = m ∧ (↑(Prod.fst t) : Int) = (↑(Prod.fst t) : Int) ∧ Value.func (Fn.func (49 : FuncId)) #[] #[] = Value.func (Fn.func (49 : FuncId)) #[] #[] ∧ n = n ∧ (∀ (i : Nat), i < n → fC vtE (Prod.snd (Prod.snd t)) i = fC vtE (fun (i : Nat) => vtG (fC vtE (Prod.snd (Prod.snd t)) i)) i) ∧ (0 : Int) ≤ IntKind.wrap IntKind.i64 l1 ∧ (0 : Int) ≤ (↑(Prod.fst t) : Int) ∧ IntKind.wrap IntKind.i64 l1 + (↑(Prod.fst t) : Int) ≤ m ∧ m + (↑(Prod.fst t) : Int) ≤ (↑n : Int) ∧ n < (1099511627776 : Nat) ∧ n = n ∧ (∀ (i : Nat), i < n → fC vtE (swR (fun (i : Nat) => vtG (fC vtE (Prod.snd (Prod.snd t)) i)) l3 (Int.toNat m) (Int.toNat (↑(Prod.fst t) : Int))) i = fC vtE (rotP B (Int.toNat a) (Int.toNat m) (Int.toNat b)) i) ∧ True)) (by kernel_rfl) (by
    conv => zeta
    obtain ⟨h1, h2, h3, h4, h5, _⟩ := hp
    obtain ⟨A, rfl⟩ := Int.eq_ofNat_of_zero_le h1
    obtain ⟨M, rfl⟩ := Int.eq_ofNat_of_zero_le (show 0 ≤ m by omega)
    obtain ⟨D, rfl⟩ := Int.eq_ofNat_of_zero_le (show 0 ≤ b by omega)
    simp only [Int.toNat_natCast, true_and, and_true, implies_true, fC_vt]
    have e1 : IntKind.wrap .i64 ((M : Int) - A) = ((M - A : Nat) : Int) := by rw [wi _ (by omega) (by omega)]; omega
    have e2 : IntKind.wrap .i64 ((D : Int) - M) = ((D - M : Nat) : Int) := by rw [wi _ (by omega) (by omega)]; omega
    rw [e1, e2]
    refine ⟨⟨(M - A, D - M, B), rfl, rfl, fun i hi => rfl, by dsimp only; omega, by dsimp only; omega, by dsimp only; omega, by dsimp only; omega, by
      dsimp only
      rw [show M - (M - A) = A by omega, show M + (D - M) = D by omega]⟩, ?_⟩
    rintro ⟨i, j, C⟩ ⟨g1, g2, g3, g4, g5⟩
    dsimp only at g1 g2 g3 g4 g5 ⊢
    have f1 : IntKind.wrap .i64 ((M : Int) - i) = ((M - i : Nat) : Int) := by rw [wi _ (by omega) (by omega)]; omega
    have f2 : IntKind.wrap .i64 (((M : Int) + j)) = ((M + j : Nat) : Int) := by rw [wi _ (by omega) (by omega)]; omega
    have f3 : i ≤ j → IntKind.wrap .i64 (((M + j : Nat) : Int) - i) = ((M + j - i : Nat) : Int) := fun h => by rw [wi _ (by omega) (by omega)]; omega
    rw [f1]
    simp only [Int.toNat_natCast, true_and, and_true, implies_true]
    refine brI (fun hc => ?_) (fun hc => ?_)
    · have hc : i ≠ j := by have := bne_iff_ne.1 hc; omega
      refine brI (fun hd => ?_) (fun hd => ?_)
      · have hd : j < i := by have := of_decide_eq_true hd; omega
        refine ⟨by omega, by omega, by omega, by omega, h5, (i - j, j, swR C (M - i) M j), by dsimp only; rw [wi _ (by omega) (by omega)]; omega, rfl, fun i hi => rfl, ⟨by dsimp only; omega, g2, by dsimp only; omega, by dsimp only; omega, ?_⟩, by dsimp only; omega⟩
        dsimp only
        rw [rot_gt C hd (by omega)]; exact g5
      · have hd : i < j := by have := of_decide_eq_false hd; omega
        rw [f2, f3 (by omega)]
        simp only [Int.toNat_natCast, true_and, and_true, implies_true]
        refine ⟨by omega, by omega, by omega, by omega, h5, (i, j - i, swR C (M - i) (M + j - i) i), rfl, by dsimp only; rw [wi _ (by omega) (by omega)]; omega, fun i hi => rfl, ⟨g1, by dsimp only; omega, g3, by dsimp only; omega, ?_⟩, by dsimp only; omega⟩
        dsimp only
        rw [rot_lt C hd (by omega)]; exact g5
    · obtain rfl : i = j := by
        have : ((i : Int) != j) = false := hc
        simp only [bne_eq_false_iff_eq] at this; omega
      refine ⟨by omega, by omega, by omega, by omega, h5, fun x hx => ?_⟩
      rw [rot_eq C (by omega), g5]))
noncomputable def gslicesrotateCmpFuncapiVote : Con := fun args H => match args, H with
  | [.a (.rw 100000), .a (.d (.v (.int .i64 a))), .a (.d (.v (.int .i64 m))), .a (.d (.v (.int .i64 b))), .a (.d (.v (.func f1 f2 f3)))], [(100000, .row (.st 69 n c) ty)] => (fun (n : Nat) (B : Nat → VT) (a m b : Int) => conC args H [.a (.rw 100000), .a (.d (.v (.int .i64 a))), .a (.d (.v (.int .i64 m))), .a (.d (.v (.int .i64 b))), .a (.d (.v (.func (.func 49) #[] #[])))] [(100000, .row (.st 69 n (fC vtE B)) 49)] ⟨[0 ≤ a, a < m, m < b, b ≤ n, n < 1099511627776], .t [], [(100000, .row (.st 69 n (fC vtE (rotP B a.toNat m.toNat b.toNat))) 49)]⟩) (n) ((fun i => vtG (c i))) (a) (m) (b)
  | _, _ => none
theorem vslicesrotateCmpFuncapiVote : Valid Tryd.prog Gs 92 gslicesrotateCmpFuncapiVote := by
  intro args H r h hp
  unfold gslicesrotateCmpFuncapiVote at h
  split at h
  · rename_i a m b f1 f2 f3 n c ty
    exact conC_ok h hp fun hp => okslicesrotateCmpFuncapiVote (n) ((fun i => vtG (c i))) (a) (m) (b) hp
  · cases h
noncomputable def ct_slicesrotateCmpFuncapiVote : List (Nat × Ct) := (92, ⟨[true], false, gslicesrotateCmpFuncapiVote, none⟩) :: ct_slicesswapRangeCmpFuncapiVote
theorem ctok_slicesrotateCmpFuncapiVote : CtsOk Tryd.prog Gs ct_slicesrotateCmpFuncapiVote := CtsOk.cons vslicesrotateCmpFuncapiVote (by kernel_rfl) ctok_slicesswapRangeCmpFuncapiVote
noncomputable def anslicesinsertionSortCmpFuncapiVote (n : Nat) (B : Nat → VT) (a b : Int) : Nat → List Nat → List Ann := fun bk_ gs_ => match bk_, gs_ with
    | 0, _ => [{ τ := Nat, t0 := (default : Nat), J := fun i => a.toNat + 1 ≤ i ∧ i ≤ b.toNat + 1 ∧ (i ≤ b.toNat ∨ i = a.toNat + 1), m := fun i => b.toNat + 1 - i, l := fun i => [(0, .s (.a (.rw 100000))), (1, eI .i64 a), (2, eI .i64 b), (3, .s (.a (.d (.v (.func (.func 49) #[] #[]))))), (8, eI .i64 (i : Int))], H := fun i => [(100000, .row (.st 69 n (fC vtE (sgF wK B a.toNat i))) 49)] }]
    | 2, m :: _ => [{ τ := Nat, t0 := (default : Nat), J := fun j => a.toNat ≤ j ∧ j ≤ b.toNat + 1 - m ∧ ∀ y ∈ (stb wK (seg B a.toNat (b.toNat + 1 - m))).drop (j - a.toNat), (B (b.toNat + 1 - m)).who < y.who, m := fun j => j, l := fun j => [(0, .s (.a (.rw 100000))), (1, eI .i64 a), (2, eI .i64 b), (3, .s (.a (.d (.v (.func (.func 49) #[] #[]))))), (8, eI .i64 ((b.toNat + 1 - m : Nat) : Int)), (9, eI .i64 (j : Int))], H := fun j => [(100000, .row (.st 69 n (fC vtE (pf B a.toNat ((stb wK (seg B a.toNat (b.toNat + 1 - m))).take (j - a.toNat) ++ B (b.toNat + 1 - m) :: (stb wK (seg B a.toNat (b.toNat + 1 - m))).drop (j - a.toNat))))) 49)] }]
    | _, _ => []
theorem okslicesinsertionSortCmpFuncapiVote (n : Nat) (B : Nat → VT) (a b : Int) (hp : allP [0 ≤ a, a ≤ b, b ≤ n, n < 1099511627776]) : CallsOk Tryd.prog Gs 77 [.a (.rw 100000), .a (.d (.v (.int .i64 a))), .a (.d (.v (.int .i64 b))), .a (.d (.v (.func (.func 49) #[] #[])))] [(100000, .row (.st 69 n (fC vtE B)) 49)] (.t []) [(100000, .row (.st 69 n (fC vtE (sgF wK B a.toNat b.toNat))) 49)] :=
  ok_of (ann := anslicesinsertionSortCmpFuncapiVote n B a b) ctok_slicesrotateCmpFuncapiVote mixed Tryd.func77 (by kernel_rfl) (of_nf (p := (∃ (t : Nat), a = a ∧ b = b ∧ Value.func (Fn.func (49 : FuncId)) #[] #[] = Value.func (Fn.func (49 : FuncId)) #[] #[] ∧ IntKind.wrap IntKind.i64 (a + (1 : Int)) = (↑t : Int) ∧ n = n ∧ (∀ (i : Nat), i < n → fC vtE B i = fC vtE (sgF wK B (Int.toNat a) t) i) ∧ (Int.toNat a + (1 : Nat) ≤ t ∧ t ≤ Int.toNat b + (1 : Nat) ∧ (t ≤ Int.toNat b ∨ t = Int.toNat a + (1 : Nat))) ∧ True) ∧ ∀ (t : Nat), let l8 := (Int.toNat b + (1 : Nat) - t); let l2 := (Int.toNat b + (1 : Nat) - l8); let l5 := (stb wK (seg B (Int.toNat a) l2)); Int.toNat a + (1 : Nat) ≤ t ∧ t ≤ Int.toNat b + (1 : Nat) ∧ (t ≤ Int.toNat b ∨ t = Int.toNat a + (1 : Nat)) → brP (decide ((↑t : Int) < b)) ((∃ (t_1 : Nat), a = a ∧ b = b ∧ Value.func (Fn.func (49 : FuncId)) #[] #[] = Value.func (Fn.func (49 : FuncId)) #[] #[] ∧ (↑t : Int) = (↑l2 : Int) ∧ (↑t : Int) = (↑t_1 : Int) ∧ n = n ∧ (∀ (i : Nat), i < n → fC vtE (sgF wK B (Int.toNat a) t) i = fC vtE (pf B (Int.toNat a) (List.take (t_1 - Int.toNat a) l5 ++ B l2 :: List.drop (t_1 - Int.toNat a) l5)) i) ∧ (Int.toNat a ≤ t_1 ∧ t_1 ≤ Int.toNat b + (1 : Nat) - l8 ∧ ∀ (y : VT), y ∈ List.drop (t_1 - Int.toNat a) l5 → VT.who (B l2) < VT.who y) ∧ True) ∧ ∀ (t_1 : Nat), let l7 := ((↑t_1 : Int) - (1 : Int)); let l6 := ((0 : Int) ≤ (↑t_1 : Int) ∧ (↑t_1 : Int) < (↑(n) : Int)); let l4 := ((0 : Int) ≤ IntKind.wrap IntKind.i64 l7 ∧ IntKind.wrap IntKind.i64 l7 < (↑(n) : Int)); let l0 := (List.take (t_1 - Int.toNat a) l5 ++ B l2 :: List.drop (t_1 - Int.toNat a) l5); let l3 := (pf B (Int.toNat a) l0 (Int.toNat (↑t_1 : Int))); let l1 := (pf B (Int.toNat a) l0 (Int.toNat (IntKind.wrap IntKind.i64 l7))); (Int.toNat a ≤ t_1 ∧ t_1 ≤ Int.toNat b + (1 : Nat) - l8 ∧ ∀ (y : VT), y ∈ List.drop (t_1 - Int.toNat a) l5 → VT.who (B l2) < VT.who y) → brP (decide ((↑t_1 : Int) > a)) (l6 ∧ l4 ∧ VT.ch l3 = VT.ch l3 ∧ VT.ep l3 = VT.ep l3 ∧ VT.vw l3 = VT.vw l3 ∧ VT.blk l3 = VT.blk l3 ∧ VT.who l3 = VT.who l3 ∧ Prod.fst (VT.sig l3) = Prod.fst (VT.sig l3) ∧ Prod.snd (VT.sig l3) = Prod.snd (VT.sig l3) ∧ VT.ch l1 = VT.ch l1 ∧ VT.ep l1 = VT.ep l1 ∧ VT.vw l1 = VT.vw l1 ∧ VT.blk l1 = VT.blk l1 ∧ VT.who l1 = VT.who l1 ∧ Prod.fst (VT.sig l1) = Prod.fst (VT.sig l1) ∧ Prod.snd (VT.sig l1) = Prod.snd (VT.sig l1) ∧ brP (decide ((if VT.who l3 < VT.who l1 then (-1 : Int) else if VT.who l3 > VT.who l1 then (1 : Int) else (0 : Int)) < (0 : Int))) (l4 ∧ l6 ∧ l6 ∧ l4 ∧ ∃ (t_2 : Nat), a = a ∧ b = b ∧ Value.func (Fn.func (49 : FuncId)) #[] #[] = Value.func (Fn.func (49 : FuncId)) #[] #[] ∧ (↑l2 : Int) = (↑l2 : Int) ∧ IntKind.wrap IntKind.i64 l7 = (↑t_2 : Int) ∧ n = n ∧ (∀ (i : Nat), i < n → bumpF (bumpF (fC vtE (pf B (Int.toNat a) l0)) (Int.toNat (↑t_1 : Int)) (vtE l1)) (Int.toNat (IntKind.wrap IntKind.i64 l7)) (vtE l3) i = fC vtE (pf B (Int.toNat a) (List.take (t_2 - Int.toNat a) l5 ++ B l2 :: List.drop (t_2 - Int.toNat a) l5)) i) ∧ (Int.toNat a ≤ t_2 ∧ t_2 ≤ Int.toNat b + (1 : Nat) - l8 ∧ ∀ (y : VT), y ∈ List.drop (t_2 - Int.toNat a) l5 → VT.who (B l2) < VT.who y) ∧ t_2 < t_1 ∧ True) (∃ (t_2 : Nat), a = a ∧ b = b ∧ Value.func (Fn.func (49 : FuncId)) #[] #[] = Value.func (Fn.func (49 : FuncId)) #[] #[] ∧ IntKind.wrap IntKind.i64 ((↑l2 : Int) + (1 : Int)) = (↑t_2 : Int) ∧ n = n ∧ (∀ (i : Nat), i < n → fC vtE (pf B (Int.toNat a) l0) i = fC vtE (sgF wK B (Int.toNat a) t_2) i) ∧ (Int.toNat a + (1 : Nat) ≤ t_2 ∧ t_2 ≤ Int.toNat b + (1 : Nat) ∧ (t_2 ≤ Int.toNat b ∨ t_2 = Int.toNat a + (1 : Nat))) ∧ Int.toNat b + (1 : Nat) - t_2 < Int.toNat b + (1 : Nat) - t ∧ True)) (∃ (t_2 : Nat), a = a ∧ b = b ∧ Value.func (Fn.func (49 : FuncId)) #[] #[] = Value.func (Fn.func (49 : FuncId)) #[] #[] ∧ IntKind.wrap IntKind.i64 ((↑l2 : Int) + (1 : Int)) = (↑t_2 : Int) ∧ n = n ∧ (∀ (i : Nat), i < n → fC vtE (pf B (Int.toNat a) l0) i = fC vtE (sgF wK B (Int.toNat a) t_2) i) ∧ (Int.toNat a + (1 : Nat) ≤ t_2 ∧ t_2 ≤ Int.toNat b + (1 : Nat) ∧ (t_2 ≤ Int.toNat b ∨ t_2 = Int.toNat a + (1 : Nat))) ∧ Int.toNat b + (1 : Nat) - t_2 < Int.toNat b + (1 : Nat) - t ∧ True)) (n = n ∧ (∀ (i : Nat), i < n → fC vtE (sgF wK B (Int.toNat a) t) i = fC vtE (sgF wK B (Int.toNat a) (Int.toNat b)) i) ∧ True)) (by kernel_rfl) (by
    conv => zeta
    obtain ⟨h1, h2, h3, h4, _⟩ := hp
    obtain ⟨A, rfl⟩ := Int.eq_ofNat_of_zero_le h1
    obtain ⟨D, rfl⟩ := Int.eq_ofNat_of_zero_le (show 0 ≤ b by omega)
    simp only [Int.toNat_natCast, true_and, and_true, implies_true, fC_vt]
    have e1 : IntKind.wrap .i64 ((A : Int) + 1) = ((A + 1 : Nat) : Int) := by rw [wi _ (by omega) (by omega)]; rfl
    refine ⟨⟨A + 1, e1, fun i hi => by rw [sgF_triv _ (by omega)], by omega, by omega, by omega⟩, fun t ht => ?_⟩
    refine brI (fun hc => ?_) (fun hc => ?_)
    · have hc : t < D := by have := of_decide_eq_true hc; omega
      have em : D + 1 - (D + 1 - t) = t := by omega
      simp only [em, true_and]
      have hl : (stb wK (seg B A t)).length = t - A := by rw [stb_len, seg_len]
      refine ⟨⟨t, rfl, fun i hi => by rw [ins_start _ (by omega)], by omega, by omega, fun y hy => by rw [List.drop_of_length_le (by omega)] at hy; cases hy⟩, fun j hj => ?_⟩
      obtain ⟨j1, j2, j3⟩ := hj
      have eo : IntKind.wrap .i64 ((t : Int) + 1) = ((t + 1 : Nat) : Int) := by rw [wi _ (by omega) (by omega)]; rfl
      have ej : 0 < j → IntKind.wrap .i64 ((j : Int) - 1) = ((j - 1 : Nat) : Int) := fun h => by rw [wi _ (by omega) (by omega)]; omega
      refine brI (fun hd => ?_) (fun hd => ?_)
      · have hd : A < j := by have := of_decide_eq_true hd; omega
        rw [ej (by omega), eo]
        simp only [Int.toNat_natCast, true_and]
        have at1 := ins_at B (a := A) (i := t) (j := j) (by omega) j2 _ hl
        have at2 := ins_ahead B (a := A) (i := t) (j := j) hd j2 _ hl
        refine ⟨⟨by omega, by omega⟩, ⟨by omega, by omega⟩, brI (fun hk => ?_) (fun hk => ?_)⟩
        · have hk : (B t).who < (pf B A (List.take (j - A) (stb wK (seg B A t)) ++ B t :: List.drop (j - A) (stb wK (seg B A t))) (j - 1)).who := by
            have hk := of_decide_eq_true hk
            rw [at1] at hk
            split at hk
            · assumption
            · split at hk <;> omega
          refine ⟨⟨by omega, by omega⟩, ⟨by omega, by omega⟩, ⟨by omega, by omega⟩, ⟨by omega, by omega⟩, j - 1, rfl, fun i hi => ?_, ⟨by omega, by omega, fun y hy => ?_⟩, by omega⟩
          · rw [sw_fc, ins_step B hd j2 _ hl]
          · have hlt : j - 1 - A < (stb wK (seg B A t)).length := by omega
            rw [List.drop_eq_getElem_cons hlt, show j - 1 - A + 1 = j - A by omega] at hy
            rcases List.mem_cons.1 hy with rfl | hy
            · rw [List.getElem?_eq_getElem hlt] at at2
              rw [Option.some.inj at2]; exact hk
            · exact j3 y hy
        · have hk : wK (pf B A (List.take (j - A) (stb wK (seg B A t)) ++ B t :: List.drop (j - A) (stb wK (seg B A t))) (j - 1)) ≤ wK (B t) := by
            have hk := of_decide_eq_false hk
            rw [at1] at hk
            split at hk
            · omega
            · show VT.who _ ≤ VT.who _
              omega
          refine ⟨t + 1, rfl, fun i hi => ?_, ⟨by omega, by omega, by omega⟩, by omega⟩
          rw [ins_done B j1 j2 j3 fun _ => hk]
      · have hd : j = A := by have := of_decide_eq_false hd; omega
        rw [eo]
        refine ⟨t + 1, rfl, fun i hi => ?_, ⟨by omega, by omega, by omega⟩, by omega⟩
        rw [ins_done B j1 j2 j3 fun h => by omega]
    · have hc : D ≤ t := by have := of_decide_eq_false hc; omega
      intro i hi
      by_cases ht' : t ≤ D
      · rw [show t = D by omega]
      · rw [sgF_triv _ (show t ≤ A + 1 by omega), sgF_triv _ (show D ≤ A + 1 by omega)]))
noncomputable def gslicesinsertionSortCmpFuncapiVote : Con := fun args H => match args, H with
  | [.a (.rw 100000), .a (.d (.v (.int .i64 a))), .a (.d (.v (.int .i64 b))), .a (.d (.v (.func f1 f2 f3)))], [(100000, .row (.st 69 n c) ty)] => (fun (n : Nat) (B : Nat → VT) (a b : Int) => conC args H [.a (.rw 100000), .a (.d (.v (.int .i64 a))), .a (.d (.v (.int .i64 b))), .a (.d (.v (.func (.func 49) #[] #[])))] [(100000, .row (.st 69 n (fC vtE B)) 49)] ⟨[0 ≤ a, a ≤ b, b ≤ n, n < 1099511627776], .t [], [(100000, .row (.st 69 n (fC vtE (sgF wK B a.toNat b.toNat))) 49)]⟩) (n) ((fun i => vtG (c i))) (a) (b)
  | _, _ => none
theorem vslicesinsertionSortCmpFuncapiVote : Valid Tryd.prog Gs 77 gslicesinsertionSortCmpFuncapiVote := by
  intro args H r h hp
  unfold gslicesinsertionSortCmpFuncapiVote at h
  split at h
  · rename_i a b f1 f2 f3 n c ty
    exact conC_ok h hp fun hp => okslicesinsertionSortCmpFuncapiVote (n) ((fun i => vtG (c i))) (a) (b) hp
  · cases h
noncomputable def ct_slicesinsertionSortCmpFuncapiVote : List (Nat × Ct) := (77, ⟨[true], false, gslicesinsertionSortCmpFuncapiVote, none⟩) :: ct_slicesrotateCmpFuncapiVote
theorem ctok_slicesinsertionSortCmpFuncapiVote : CtsOk Tryd.prog Gs ct_slicesinsertionSortCmpFuncapiVote := CtsOk.cons vslicesinsertionSortCmpFuncapiVote (by kernel_rfl) ctok_slicesrotateCmpFuncapiVote
noncomputable def anslicessymMergeCmpFuncapiVote (n : Nat) (B : Nat → VT) (a m b : Int) : Nat → List Nat → List Ann := fun bk_ gs_ => match bk_, gs_ with
    | 0, _ => [{ τ := Nat × Nat, t0 := (default : Nat × Nat), J := fun g => m.toNat ≤ g.1 ∧ g.1 ≤ g.2 ∧ g.2 ≤ b.toNat ∧ (∀ t, m.toNat ≤ t → t < g.1 → wK (B t) < wK (B a.toNat)) ∧ ∀ t, g.2 ≤ t → t < b.toNat → wK (B a.toNat) ≤ wK (B t), m := fun g => g.2 - g.1, l := fun g => [(0, .s (.a (.rw 100000))), (1, eI .i64 a), (2, eI .i64 m), (3, eI .i64 b), (4, .s (.a (.d (.v (.func (.func 49) #[] #[]))))), (10, eI .i64 ((g.1 : Nat) : Int)), (11, eI .i64 ((g.2 : Nat) : Int))], H := fun g => [(100000, .row (.st 69 n (fC vtE B)) 49)] }]
    | 2, _ => [{ τ := Nat × Nat, t0 := (default : Nat × Nat), J := fun g => m.toNat ≤ g.1 ∧ g.1 ≤ b.toNat ∧ (∀ t, m.toNat ≤ t → t < g.1 → wK (B t) < wK (B a.toNat)) ∧ (∀ t, g.1 ≤ t → t < b.toNat → wK (B a.toNat) ≤ wK (B t)) ∧ a.toNat ≤ g.2 ∧ g.2 + 1 ≤ g.1, m := fun g => g.1 - g.2, l := fun g => [(0, .s (.a (.rw 100000))), (1, eI .i64 a), (2, eI .i64 m), (3, eI .i64 b), (4, .s (.a (.d (.v (.func (.func 49) #[] #[]))))), (10, eI .i64 ((g.1 : Nat) : Int)), (13, eI .i64 ((g.2 : Nat) : Int))], H := fun g => [(100000, .row (.st 69 n (fC vtE (pf B a.toNat (seg B (a.toNat + 1) (g.2 + 1) ++ [B a.toNat])))) 49)] }]
    | 4, _ => [{ τ := Nat × Nat, t0 := (default : Nat × Nat), J := fun g => a.toNat ≤ g.1 ∧ g.1 ≤ g.2 ∧ g.2 ≤ m.toNat ∧ (∀ t, a.toNat ≤ t → t < g.1 → wK (B t) ≤ wK (B m.toNat)) ∧ ∀ t, g.2 ≤ t → t < m.toNat → wK (B m.toNat) < wK (B t), m := fun g => g.2 - g.1, l := fun g => [(0, .s (.a (.rw 100000))), (1, eI .i64 a), (2, eI .i64 m), (3, eI .i64 b), (4, .s (.a (.d (.v (.func (.func 49) #[] #[]))))), (14, eI .i64 ((g.1 : Nat) : Int)), (15, eI .i64 ((g.2 : Nat) : Int))], H := fun g => [(100000, .row (.st 69 n (fC vtE B)) 49)] }]
    | 6, _ => [{ τ := Nat × Nat, t0 := (default : Nat × Nat), J := fun g => a.toNat ≤ g.1 ∧ g.1 ≤ m.toNat ∧ (∀ t, a.toNat ≤ t → t < g.1 → wK (B t) ≤ wK (B m.toNat)) ∧ (∀ t, g.1 ≤ t → t < m.toNat → wK (B m.toNat) < wK (B t)) ∧ g.1 ≤ g.2 ∧ g.2 ≤ m.toNat, m := fun g => g.2, l := fun g => [(0, .s (.a (.rw 100000))), (1, eI .i64 a), (2, eI .i64 m), (3, eI .i64 b), (4, .s (.a (.d (.v (.func (.func 49) #[] #[]))))), (14, eI .i64 ((g.1 : Nat) : Int)), (17, eI .i64 ((g.2 : Nat) : Int))], H := fun g => [(100000, .row (.st 69 n (fC vtE (pf B g.2 (B m.toNat :: seg B g.2 m.toNat)))) 49)] }]
    | 1032, _ => [{ τ := Nat, t0 := (default : Nat), J := fun _ => True, m := fun _ => 0, l := fun _ => [(0, .s (.a (.rw 100000))), (1, eI .i64 a), (2, eI .i64 m), (3, eI .i64 b), (4, .s (.a (.d (.v (.func (.func 49) #[] #[]))))), (18, eI .i64 ((((a.toNat + b.toNat) / 2) : Nat) : Int)), (19, eI .i64 ((((a.toNat + b.toNat) / 2) + m.toNat : Nat) : Int)), (20, eI .i64 (((if ((a.toNat + b.toNat) / 2) < m.toNat then ((a.toNat + b.toNat) / 2) + m.toNat - b.toNat else a.toNat) : Nat) : Int)), (21, eI .i64 (((if ((a.toNat + b.toNat) / 2) < m.toNat then ((a.toNat + b.toNat) / 2) else m.toNat) : Nat) : Int))], H := fun _ => [(100000, .row (.st 69 n (fC vtE B)) 49)] }]
    | 8, _ => [{ τ := Nat × Nat, t0 := (default : Nat × Nat), J := fun g => ((if ((a.toNat + b.toNat) / 2) < m.toNat then ((a.toNat + b.toNat) / 2) + m.toNat - b.toNat else a.toNat) ≤ g.1 ∧ g.1 ≤ g.2 ∧ g.2 ≤ (if ((a.toNat + b.toNat) / 2) < m.toNat then ((a.toNat + b.toNat) / 2) else m.toNat) ∧ (g.1 = (if ((a.toNat + b.toNat) / 2) < m.toNat then ((a.toNat + b.toNat) / 2) + m.toNat - b.toNat else a.toNat) ∨ wK (B (g.1 - 1)) ≤ wK (B (((a.toNat + b.toNat) / 2) + m.toNat - g.1))) ∧ (g.2 = (if ((a.toNat + b.toNat) / 2) < m.toNat then ((a.toNat + b.toNat) / 2) else m.toNat) ∨ wK (B (((a.toNat + b.toNat) / 2) + m.toNat - 1 - g.2)) < wK (B g.2))), m := fun g => g.2 - g.1, l := fun g => [(0, .s (.a (.rw 100000))), (1, eI .i64 a), (2, eI .i64 m), (3, eI .i64 b), (4, .s (.a (.d (.v (.func (.func 49) #[] #[]))))), (18, eI .i64 ((((a.toNat + b.toNat) / 2) : Nat) : Int)), (19, eI .i64 ((((a.toNat + b.toNat) / 2) + m.toNat : Nat) : Int)), (20, eI .i64 ((g.1 : Nat) : Int)), (21, eI .i64 ((g.2 : Nat) : Int)), (22, eI .i64 ((((a.toNat + b.toNat) / 2) + m.toNat - 1 : Nat) : Int))], H := fun g => [(100000, .row (.st 69 n (fC vtE B)) 49)] }]
    | 1039, _ => [{ τ := Nat, t0 := (default : Nat), J := fun s => Cross B a.toNat m.toNat b.toNat s, m := fun _ => 0, l := fun s => [(0, .s (.a (.rw 100000))), (1, eI .i64 a), (2, eI .i64 m), (3, eI .i64 b), (4, .s (.a (.d (.v (.func (.func 49) #[] #[]))))), (18, eI .i64 ((((a.toNat + b.toNat) / 2) : Nat) : Int)), (20, eI .i64 ((s : Nat) : Int)), (24, eI .i64 ((((a.toNat + b.toNat) / 2) + m.toNat - s : Nat) : Int))], H := fun _ => [(100000, .row (.st 69 n (fC vtE B)) 49)] }]
    | 1041, _ => [{ τ := Nat, t0 := (default : Nat), J := fun s => Cross B a.toNat m.toNat b.toNat s, m := fun _ => 0, l := fun s => [(0, .s (.a (.rw 100000))), (1, eI .i64 a), (2, eI .i64 m), (3, eI .i64 b), (4, .s (.a (.d (.v (.func (.func 49) #[] #[]))))), (18, eI .i64 ((((a.toNat + b.toNat) / 2) : Nat) : Int)), (20, eI .i64 ((s : Nat) : Int)), (24, eI .i64 ((((a.toNat + b.toNat) / 2) + m.toNat - s : Nat) : Int))], H := fun s => [(100000, .row (.st 69 n (fC vtE (rotP B s m.toNat (((a.toNat + b.toNat) / 2) + m.toNat - s)))) 49)] }]
    | 1043, _ => [{ τ := Nat, t0 := (default : Nat), J := fun s => Cross B a.toNat m.toNat b.toNat s, m := fun _ => 0, l := fun s => [(0, .s (.a (.rw 100000))), (1, eI .i64 a), (2, eI .i64 m), (3, eI .i64 b), (4, .s (.a (.d (.v (.func (.func 49) #[] #[]))))), (18, eI .i64 ((((a.toNat + b.toNat) / 2) : Nat) : Int)), (20, eI .i64 ((s : Nat) : Int)), (24, eI .i64 ((((a.toNat + b.toNat) / 2) + m.toNat - s : Nat) : Int))], H := fun s => [(100000, .row (.st 69 n (fC vtE (sgF wK (rotP B s m.toNat (((a.toNat + b.toNat) / 2) + m.toNat - s)) a.toNat ((a.toNat + b.toNat) / 2)))) 49)] }]
    | _, _ => []
noncomputable def grslicessymMergeCmpFuncapiVote (n_ : Nat) : Con := fun args H => match args, H with
  | [.a (.rw 100000), .a (.d (.v (.int .i64 a))), .a (.d (.v (.int .i64 m))), .a (.d (.v (.int .i64 b))), .a (.d (.v (.func f1 f2 f3)))], [(100000, .row (.st 69 n c) ty)] => (fun (n : Nat) (B : Nat → VT) (a m b : Int) => conC args H [.a (.rw 100000), .a (.d (.v (.int .i64 a))), .a (.d (.v (.int .i64 m))), .a (.d (.v (.int .i64 b))), .a (.d (.v (.func (.func 49) #[] #[])))] [(100000, .row (.st 69 n (fC vtE B)) 49)] ⟨((b - a).toNat < n_) :: [0 ≤ a, a < m, m < b, b ≤ n, n < 1099511627776, KSrt wK (seg B a.toNat m.toNat), KSrt wK (seg B m.toNat b.toNat)], .t [], [(100000, .row (.st 69 n (fC vtE (sgF wK B a.toNat b.toNat))) 49)]⟩) (n) ((fun i => vtG (c i))) (a) (m) (b)
  | _, _ => none
noncomputable def ctr_slicessymMergeCmpFuncapiVote (n_ : Nat) : List (Nat × Ct) := (78, ⟨[true], false, grslicessymMergeCmpFuncapiVote n_, none⟩) :: ct_slicesinsertionSortCmpFuncapiVote
theorem okrslicessymMergeCmpFuncapiVote (n : Nat) (B : Nat → VT) (a m b : Int) (n_ : Nat) (hv_ : Valid Tryd.prog Gs 78 (grslicessymMergeCmpFuncapiVote n_)) (hm_ : (b - a).toNat < n_ + 1) (hp : allP [0 ≤ a, a < m, m < b, b ≤ n, n < 1099511627776, KSrt wK (seg B a.toNat m.toNat), KSrt wK (seg B m.toNat b.toNat)]) : CallsOk Tryd.prog Gs 78 [.a (.rw 100000), .a (.d (.v (.int .i64 a))), .a (.d (.v (.int .i64 m))), .a (.d (.v (.int .i64 b))), .a (.d (.v (.func (.func 49) #[] #[])))] [(100000, .row (.st 69 n (fC vtE B)) 49)] (.t []) [(100000, .row (.st 69 n (fC vtE (sgF wK B a.toNat b.toNat))) 49)] :=
  ok_of (ann := anslicessymMergeCmpFuncapiVote n B a m b) (CtsOk.cons (c := ⟨[true], false, grslicessymMergeCmpFuncapiVote n_, none⟩) hv_ (by kernel_rfl) ctok_slicesinsertionSortCmpFuncapiVote) mixed Tryd.func78 (by kernel_rfl) (of_nf (p := let l33 := (Int.toNat a + (1 : Nat)); let l30 := (VT.sig (B (Int.toNat m))); let l29 := (VT.sig (B (Int.toNat a))); let l23 := (sgF wK B (Int.toNat a) (Int.toNat b)); let l20 := ((2 : Int) ^ min (Int.toNat (1 : Int)) (IntKind.bits IntKind.u64)); let l5 := (Int.fdiv (IntKind.wrap IntKind.u64 (IntKind.wrap IntKind.i64 (a + b))) l20); let l32 := (IntKind.wrap IntKind.i64 l5 + m); let l1 := (Int.toNat a + Int.toNat b); let l21 := (↑(if l1 / (2 : Nat) < Int.toNat m then l1 / (2 : Nat) else Int.toNat m) : Int); let l14 := (↑(l1 / (2 : Nat) + Int.toNat m) : Int); let l12 := (↑(l1 / (2 : Nat) + Int.toNat m - (1 : Nat)) : Int); let l11 := (if l1 / (2 : Nat) < Int.toNat m then l1 / (2 : Nat) + Int.toNat m - Int.toNat b else Int.toNat a); let l6 := (↑(l1 / (2 : Nat)) : Int); brP (IntKind.wrap IntKind.i64 (m - a) == (1 : Int)) ((∃ (t : Nat × Nat), a = a ∧ m = m ∧ b = b ∧ Value.func (Fn.func (49 : FuncId)) #[] #[] = Value.func (Fn.func (49 : FuncId)) #[] #[] ∧ m = (↑(Prod.fst t) : Int) ∧ b = (↑(Prod.snd t) : Int) ∧ n = n ∧ (∀ (i : Nat), i < n → fC vtE B i = fC vtE B i) ∧ (Int.toNat m ≤ Prod.fst t ∧ Prod.fst t ≤ Prod.snd t ∧ Prod.snd t ≤ Int.toNat b ∧ (∀ (t_1 : Nat), Int.toNat m ≤ t_1 → t_1 < Prod.fst t → wK (B t_1) < wK (B (Int.toNat a))) ∧ ∀ (t_1 : Nat), Prod.snd t ≤ t_1 → t_1 < Int.toNat b → wK (B (Int.toNat a)) ≤ wK (B t_1)) ∧ True) ∧ ∀ (t : Nat × Nat), let l2 := (Int.fdiv (IntKind.wrap IntKind.u64 (IntKind.wrap IntKind.i64 ((↑(Prod.fst t) : Int) + (↑(Prod.snd t) : Int)))) l20); let l7 := (B (Int.toNat (IntKind.wrap IntKind.i64 l2))); (Int.toNat m ≤ Prod.fst t ∧ Prod.fst t ≤ Prod.snd t ∧ Prod.snd t ≤ Int.toNat b ∧ (∀ (t_1 : Nat), Int.toNat m ≤ t_1 → t_1 < Prod.fst t → wK (B t_1) < wK (B (Int.toNat a))) ∧ ∀ (t_1 : Nat), Prod.snd t ≤ t_1 → t_1 < Int.toNat b → wK (B (Int.toNat a)) ≤ wK (B t_1)) → brP (decide ((↑(Prod.fst t) : Int) < (↑(Prod.snd t) : Int))) ((0 : Int) ≤ (1 : Int) ∧ ((0 : Int) ≤ IntKind.wrap IntKind.i64 l2 ∧ IntKind.wrap IntKind.i64 l2 < (↑(n) : Int)) ∧ ((0 : Int) ≤ a ∧ a < (↑(n) : Int)) ∧ VT.ch l7 = VT.ch l7 ∧ VT.ep l7 = VT.ep l7 ∧ VT.vw l7 = VT.vw l7 ∧ VT.blk l7 = VT.blk l7 ∧ VT.who l7 = VT.who l7 ∧ Prod.fst (VT.sig l7) = Prod.fst (VT.sig l7) ∧ Prod.snd (VT.sig l7) = Prod.snd (VT.sig l7) ∧ VT.ch (B (Int.toNat a)) = VT.ch (B (Int.toNat a)) ∧ VT.ep (B (Int.toNat a)) = VT.ep (B (Int.toNat a)) ∧ VT.vw (B (Int.toNat a)) = VT.vw (B (Int.toNat a)) ∧ VT.blk (B (Int.toNat a)) = VT.blk (B (Int.toNat a)) ∧ VT.who (B (Int.toNat a)) = VT.who (B (Int.toNat a)) ∧ Prod.fst l29 = Prod.fst l29 ∧ Prod.snd l29 = Prod.snd l29 ∧ brP (decide ((if VT.who l7 < VT.who (B (Int.toNat a)) then (-1 : Int) else if VT.who l7 > VT.who (B (Int.toNat a)) then (1 : Int) else (0 : Int)) < (0 : Int))) (∃ (t_1 : Nat × Nat), a = a ∧ m = m ∧ b = b ∧ Value.func (Fn.func (49 : FuncId)) #[] #[] = Value.func (Fn.func (49 : FuncId)) #[] #[] ∧ IntKind.wrap IntKind.i64 (IntKind.wrap IntKind.i64 l2 + (1 : Int)) = (↑(Prod.fst t_1) : Int) ∧ (↑(Prod.snd t) : Int) = (↑(Prod.snd t_1) : Int) ∧ n = n ∧ (∀ (i : Nat), i < n → fC vtE B i = fC vtE B i) ∧ (Int.toNat m ≤ Prod.fst t_1 ∧ Prod.fst t_1 ≤ Prod.snd t_1 ∧ Prod.snd t_1 ≤ Int.toNat b ∧ (∀ (t : Nat), Int.toNat m ≤ t → t < Prod.fst t_1 → wK (B t) < wK (B (Int.toNat a))) ∧ ∀ (t : Nat), Prod.snd t_1 ≤ t → t < Int.toNat b → wK (B (Int.toNat a)) ≤ wK (B t)) ∧ Prod.snd t_1 - Prod.fst t_1 < Prod.snd t - Prod.fst t ∧ True) (∃ (t_1 : Nat × Nat), a = a ∧ m = m ∧ b = b ∧ Value.func (Fn.func (49 : FuncId)) #[] #[] = Value.func (Fn.func (49 : FuncId)) #[] #[] ∧ (↑(Prod.fst t) : Int) = (↑(Prod.fst t_1) : Int) ∧ IntKind.wrap IntKind.i64 l2 = (↑(Prod.snd t_1) : Int) ∧ n = n ∧ (∀ (i : Nat), i < n → fC vtE B i = fC vtE B i) ∧ (Int.toNat m ≤ Prod.fst t_1 ∧ Prod.fst t_1 ≤ Prod.snd t_1 ∧ Prod.snd t_1 ≤ Int.toNat b ∧ (∀ (t : Nat), Int.toNat m ≤ t → t < Prod.fst t_1 → wK (B t) < wK (B (Int.toNat a))) ∧ ∀ (t : Nat), Prod.snd t_1 ≤ t → t < Int.toNat b → wK (B (Int.toNat a)) ≤ wK (B t)) ∧ Prod.snd t_1 - Prod.fst t_1 < Prod.snd t - Prod.fst t ∧ True)) ((∃ (t_1 : Nat × Nat), a = a ∧ m = m ∧ b = b ∧ Value.func (Fn.func (49 : FuncId)) #[] #[] = Value.func (Fn.func (49 : FuncId)) #[] #[] ∧ (↑(Prod.fst t) : Int) = (↑(Prod.fst t_1) : Int) ∧ a = (↑(Prod.snd t_1) : Int) ∧ n = n ∧ (∀ (i : Nat), i < n → fC vtE B i = fC vtE (pf B (Int.toNat a) (seg B l33 (Prod.snd t_1 + (1 : Nat)) ++ [B (Int.toNat a)])) i) ∧ (Int.toNat m ≤ Prod.fst t_1 ∧ Prod.fst t_1 ≤ Int.toNat b ∧ (∀ (t : Nat), Int.toNat m ≤ t → t < Prod.fst t_1 → wK (B t) < wK (B (Int.toNat a))) ∧ (∀ (t : Nat), Prod.fst t_1 ≤ t → t < Int.toNat b → wK (B (Int.toNat a)) ≤ wK (B t)) ∧ Int.toNat a ≤ Prod.snd t_1 ∧ Prod.snd t_1 + (1 : Nat) ≤ Prod.fst t_1) ∧ True) ∧ ∀ (t : Nat × Nat), let l27 := ((0 : Int) ≤ (↑(Prod.snd t) : Int) ∧ (↑(Prod.snd t) : Int) < (↑(n) : Int)); let l18 := ((↑(Prod.snd t) : Int) + (1 : Int)); let l25 := ((0 : Int) ≤ IntKind.wrap IntKind.i64 l18 ∧ IntKind.wrap IntKind.i64 l18 < (↑(n) : Int)); let l17 := (seg B l33 (Prod.snd t + (1 : Nat)) ++ [B (Int.toNat a)]); Int.toNat m ≤ Prod.fst t ∧ Prod.fst t ≤ Int.toNat b ∧ (∀ (t_1 : Nat), Int.toNat m ≤ t_1 → t_1 < Prod.fst t → wK (B t_1) < wK (B (Int.toNat a))) ∧ (∀ (t_1 : Nat), Prod.fst t ≤ t_1 → t_1 < Int.toNat b → wK (B (Int.toNat a)) ≤ wK (B t_1)) ∧ Int.toNat a ≤ Prod.snd t ∧ Prod.snd t + (1 : Nat) ≤ Prod.fst t → brP (decide ((↑(Prod.snd t) : Int) < IntKind.wrap IntKind.i64 ((↑(Prod.fst t) : Int) - (1 : Int)))) (l25 ∧ l27 ∧ l27 ∧ l25 ∧ ∃ (t_1 : Nat × Nat), a = a ∧ m = m ∧ b = b ∧ Value.func (Fn.func (49 : FuncId)) #[] #[] = Value.func (Fn.func (49 : FuncId)) #[] #[] ∧ (↑(Prod.fst t) : Int) = (↑(Prod.fst t_1) : Int) ∧ IntKind.wrap IntKind.i64 l18 = (↑(Prod.snd t_1) : Int) ∧ n = n ∧ (∀ (i : Nat), i < n → bumpF (bumpF (fC vtE (pf B (Int.toNat a) l17)) (Int.toNat (↑(Prod.snd t) : Int)) (vtE (pf B (Int.toNat a) l17 (Int.toNat (IntKind.wrap IntKind.i64 l18))))) (Int.toNat (IntKind.wrap IntKind.i64 l18)) (vtE (pf B (Int.toNat a) l17 (Int.toNat (↑(Prod.snd t) : Int)))) i = fC vtE (pf B (Int.toNat a) (seg B l33 (Prod.snd t_1 + (1 : Nat)) ++ [B (Int.toNat a)])) i) ∧ (Int.toNat m ≤ Prod.fst t_1 ∧ Prod.fst t_1 ≤ Int.toNat b ∧ (∀ (t : Nat), Int.toNat m ≤ t → t < Prod.fst t_1 → wK (B t) < wK (B (Int.toNat a))) ∧ (∀ (t : Nat), Prod.fst t_1 ≤ t → t < Int.toNat b → wK (B (Int.toNat a)) ≤ wK (B t)) ∧ Int.toNat a ≤ Prod.snd t_1 ∧ Prod.snd t_1 + (1 : Nat) ≤ Prod.fst t_1) ∧ Prod.fst t_1 - Prod.snd t_1 < Prod.fst t - Prod.snd t ∧ True) (n = n ∧ (∀ (i : Nat), i < n → fC vtE (pf B (Int.toNat a) l17) i = fC vtE l23 i) ∧ True))) (brP (IntKind.wrap IntKind.i64 (b - m) == (1 : Int)) ((∃ (t : Nat × Nat), a = a ∧ m = m ∧ b = b ∧ Value.func (Fn.func (49 : FuncId)) #[] #[] = Value.func (Fn.func (49 : FuncId)) #[] #[] ∧ a = (↑(Prod.fst t) : Int) ∧ m = (↑(Prod.snd t) : Int) ∧ n = n ∧ (∀ (i : Nat), i < n → fC vtE B i = fC vtE B i) ∧ (Int.toNat a ≤ Prod.fst t ∧ Prod.fst t ≤ Prod.snd t ∧ Prod.snd t ≤ Int.toNat m ∧ (∀ (t_1 : Nat), Int.toNat a ≤ t_1 → t_1 < Prod.fst t → wK (B t_1) ≤ wK (B (Int.toNat m))) ∧ ∀ (t_1 : Nat), Prod.snd t ≤ t_1 → t_1 < Int.toNat m → wK (B (Int.toNat m)) < wK (B t_1)) ∧ True) ∧ ∀ (t : Nat × Nat), let l3 := (Int.fdiv (IntKind.wrap IntKind.u64 (IntKind.wrap IntKind.i64 ((↑(Prod.fst t) : Int) + (↑(Prod.snd t) : Int)))) l20); let l8 := (B (Int.toNat (IntKind.wrap IntKind.i64 l3))); (Int.toNat a ≤ Prod.fst t ∧ Prod.fst t ≤ Prod.snd t ∧ Prod.snd t ≤ Int.toNat m ∧ (∀ (t_1 : Nat), Int.toNat a ≤ t_1 → t_1 < Prod.fst t → wK (B t_1) ≤ wK (B (Int.toNat m))) ∧ ∀ (t_1 : Nat), Prod.snd t ≤ t_1 → t_1 < Int.toNat m → wK (B (Int.toNat m)) < wK (B t_1)) → brP (decide ((↑(Prod.fst t) : Int) < (↑(Prod.snd t) : Int))) ((0 : Int) ≤ (1 : Int) ∧ ((0 : Int) ≤ m ∧ m < (↑(n) : Int)) ∧ ((0 : Int) ≤ IntKind.wrap IntKind.i64 l3 ∧ IntKind.wrap IntKind.i64 l3 < (↑(n) : Int)) ∧ VT.ch (B (Int.toNat m)) = VT.ch (B (Int.toNat m)) ∧ VT.ep (B (Int.toNat m)) = VT.ep (B (Int.toNat m)) ∧ VT.vw (B (Int.toNat m)) = VT.vw (B (Int.toNat m)) ∧ VT.blk (B (Int.toNat m)) = VT.blk (B (Int.toNat m)) ∧ VT.who (B (Int.toNat m)) = VT.who (B (Int.toNat m)) ∧ Prod.fst l30 = Prod.fst l30 ∧ Prod.snd l30 = Prod.snd l30 ∧ VT.ch l8 = VT.ch l8 ∧ VT.ep l8 = VT.ep l8 ∧ VT.vw l8 = VT.vw l8 ∧ VT.blk l8 = VT.blk l8 ∧ VT.who l8 = VT.who l8 ∧ Prod.fst (VT.sig l8) = Prod.fst (VT.sig l8) ∧ Prod.snd (VT.sig l8) = Prod.snd (VT.sig l8) ∧ brP (!decide ((if VT.who (B (Int.toNat m)) < VT.who l8 then (-1 : Int) else if VT.who (B (Int.toNat m)) > VT.who l8 then (1 : Int) else (0 : Int)) < (0 : Int))) (∃ (t_1 : Nat × Nat), a = a ∧ m = m ∧ b = b ∧ Value.func (Fn.func (49 : FuncId)) #[] #[] = Value.func (Fn.func (49 : FuncId)) #[] #[] ∧ IntKind.wrap IntKind.i64 (IntKind.wrap IntKind.i64 l3 + (1 : Int)) = (↑(Prod.fst t_1) : Int) ∧ (↑(Prod.snd t) : Int) = (↑(Prod.snd t_1) : Int) ∧ n = n ∧ (∀ (i : Nat), i < n → fC vtE B i = fC vtE B i) ∧ (Int.toNat a ≤ Prod.fst t_1 ∧ Prod.fst t_1 ≤ Prod.snd t_1 ∧ Prod.snd t_1 ≤ Int.toNat m ∧ (∀ (t : Nat), Int.toNat a ≤ t → t < Prod.fst t_1 → wK (B t) ≤ wK (B (Int.toNat m))) ∧ ∀ (t : Nat), Prod.snd t_1 ≤ t → t < Int.toNat m → wK (B (Int.toNat m)) < wK (B t)) ∧ Prod.snd t_1 - Prod.fst t_1 < Prod.snd t - Prod.fst t ∧ True) (∃ (t_1 : Nat × Nat), a = a ∧ m = m ∧ b = b ∧ Value.func (Fn.func (49 : FuncId)) #[] #[] = Value.func (Fn.func (49 : FuncId)) #[] #[] ∧ (↑(Prod.fst t) : Int) = (↑(Prod.fst t_1) : Int) ∧ IntKind.wrap IntKind.i64 l3 = (↑(Prod.snd t_1) : Int) ∧ n = n ∧ (∀ (i : Nat), i < n → fC vtE B i = fC vtE B i) ∧ (Int.toNat a ≤ Prod.fst t_1 ∧ Prod.fst t_1 ≤ Prod.snd t_1 ∧ Prod.snd t_1 ≤ Int.toNat m ∧ (∀ (t : Nat), Int.toNat a ≤ t → t < Prod.fst t_1 → wK (B t) ≤ wK (B (Int.toNat m))) ∧ ∀ (t : Nat), Prod.snd t_1 ≤ t → t < Int.toNat m → wK (B (Int.toNat m)) < wK (B t)) ∧ Prod.snd t_1 - Prod.fst t_1 < Prod.snd t - Prod.fst t ∧ True)) ((∃ (t_1 : Nat × Nat), a = a ∧ m = m ∧ b = b ∧ Value.func (Fn.func (49 : FuncId)) #[] #[] = Value.func (Fn.func (49 : FuncId)) #[] #[] ∧ (↑(Prod.fst t) : Int) = (↑(Prod.fst t_1) : Int) ∧ m = (↑(Prod.snd t_1) : Int) ∧ n = n ∧ (∀ (i : Nat), i < n → fC vtE B i = fC vtE (pf B (Prod.snd t_1) (B (Int.toNat m) :: seg B (Prod.snd t_1) (Int.toNat m))) i) ∧ (Int.toNat a ≤ Prod.fst t_1 ∧ Prod.fst t_1 ≤ Int.toNat m ∧ (∀ (t : Nat), Int.toNat a ≤ t → t < Prod.fst t_1 → wK (B t) ≤ wK (B (Int.toNat m))) ∧ (∀ (t : Nat), Prod.fst t_1 ≤ t → t < Int.toNat m → wK (B (Int.toNat m)) < wK (B t)) ∧ Prod.fst t_1 ≤ Prod.snd t_1 ∧ Prod.snd t_1 ≤ Int.toNat m) ∧ True) ∧ ∀ (t : Nat × Nat), let l28 := ((0 : Int) ≤ (↑(Prod.snd t) : Int) ∧ (↑(Prod.snd t) : Int) < (↑(n) : Int)); let l22 := (B (Int.toNat m) :: seg B (Prod.snd t) (Int.toNat m)); let l19 := ((↑(Prod.snd t) : Int) - (1 : Int)); let l26 := ((0 : Int) ≤ IntKind.wrap IntKind.i64 l19 ∧ IntKind.wrap IntKind.i64 l19 < (↑(n) : Int)); Int.toNat a ≤ Prod.fst t ∧ Prod.fst t ≤ Int.toNat m ∧ (∀ (t_1 : Nat), Int.toNat a ≤ t_1 → t_1 < Prod.fst t → wK (B t_1) ≤ wK (B (Int.toNat m))) ∧ (∀ (t_1 : Nat), Prod.fst t ≤ t_1 → t_1 < Int.toNat m → wK (B (Int.toNat m)) < wK (B t_1)) ∧ Prod.fst t ≤ Prod.snd t ∧ Prod.snd t ≤ Int.toNat m → brP (decide ((↑(Prod.snd t) : Int) > (↑(Prod.fst t) : Int))) (l26 ∧ l28 ∧ l28 ∧ l26 ∧ ∃ (t_1 : Nat × Nat), a = a ∧ m = m ∧ b = b ∧ Value.func (Fn.func (49 : FuncId)) #[] #[] = Value.func (Fn.func (49 : FuncId)) #[] #[] ∧ (↑(Prod.fst t) : Int) = (↑(Prod.fst t_1) : Int) ∧ IntKind.wrap IntKind.i64 l19 = (↑(Prod.snd t_1) : Int) ∧ n = n ∧ (∀ (i : Nat), i < n → bumpF (bumpF (fC vtE (pf B (Prod.snd t) l22)) (Int.toNat (↑(Prod.snd t) : Int)) (vtE (pf B (Prod.snd t) l22 (Int.toNat (IntKind.wrap IntKind.i64 l19))))) (Int.toNat (IntKind.wrap IntKind.i64 l19)) (vtE (pf B (Prod.snd t) l22 (Int.toNat (↑(Prod.snd t) : Int)))) i = fC vtE (pf B (Prod.snd t_1) (B (Int.toNat m) :: seg B (Prod.snd t_1) (Int.toNat m))) i) ∧ (Int.toNat a ≤ Prod.fst t_1 ∧ Prod.fst t_1 ≤ Int.toNat m ∧ (∀ (t : Nat), Int.toNat a ≤ t → t < Prod.fst t_1 → wK (B t) ≤ wK (B (Int.toNat m))) ∧ (∀ (t : Nat), Prod.fst t_1 ≤ t → t < Int.toNat m → wK (B (Int.toNat m)) < wK (B t)) ∧ Prod.fst t_1 ≤ Prod.snd t_1 ∧ Prod.snd t_1 ≤ Int.toNat m) ∧ Prod.snd t_1 < Prod.snd t ∧ True) (n = n ∧ (∀ (i : Nat), i < n → fC vtE (pf B (Prod.snd t) l22) i = fC vtE l23 i) ∧ True))) ((0 : Int) ≤ (1 : Int) ∧ brP (decide (m > IntKind.wrap IntKind.i64 l5)) (∃ (t : Nat), a = a ∧ m = m ∧ b = b ∧ Value.func (Fn.func (49 : FuncId)) #[] #[] = Value.func (Fn.func (49 : FuncId)) #[] #[] ∧ IntKind.wrap IntKind.i64 l5 = l6 ∧ IntKind.wrap IntKind.i64 l32 = l14 ∧ IntKind.wrap IntKind.i64 (IntKind.wrap IntKind.i64 l32 - b) = (↑l11 : Int) ∧ IntKind.wrap IntKind.i64 l5 = l21 ∧ n = n ∧ (∀ (i : Nat), i < n → fC vtE B i = fC vtE B i) ∧ True ∧ True) (∃ (t : Nat), a = a ∧ m = m ∧ b = b ∧ Value.func (Fn.func (49 : FuncId)) #[] #[] = Value.func (Fn.func (49 : FuncId)) #[] #[] ∧ IntKind.wrap IntKind.i64 l5 = l6 ∧ IntKind.wrap IntKind.i64 l32 = l14 ∧ a = (↑l11 : Int) ∧ m = l21 ∧ n = n ∧ (∀ (i : Nat), i < n → fC vtE B i = fC vtE B i) ∧ True ∧ True) ∧ ∀ (t : Nat), True → (∃ (t : Nat × Nat), a = a ∧ m = m ∧ b = b ∧ Value.func (Fn.func (49 : FuncId)) #[] #[] = Value.func (Fn.func (49 : FuncId)) #[] #[] ∧ l6 = l6 ∧ l14 = l14 ∧ (↑l11 : Int) = (↑(Prod.fst t) : Int) ∧ l21 = (↑(Prod.snd t) : Int) ∧ IntKind.wrap IntKind.i64 (l14 - (1 : Int)) = l12 ∧ n = n ∧ (∀ (i : Nat), i < n → fC vtE B i = fC vtE B i) ∧ (l11 ≤ Prod.fst t ∧ Prod.fst t ≤ Prod.snd t ∧ (Prod.snd t ≤ if l1 / (2 : Nat) < Int.toNat m then l1 / (2 : Nat) else Int.toNat m) ∧ ((Prod.fst t = if l1 / (2 : Nat) < Int.toNat m then l1 / (2 : Nat) + Int.toNat m - Int.toNat b else Int.toNat a) ∨ wK (B (Prod.fst t - (1 : Nat))) ≤ wK (B (l1 / (2 : Nat) + Int.toNat m - Prod.fst t))) ∧ ((Prod.snd t = if l1 / (2 : Nat) < Int.toNat m then l1 / (2 : Nat) else Int.toNat m) ∨ wK (B (l1 / (2 : Nat) + Int.toNat m - (1 : Nat) - Prod.snd t)) < wK (B (Prod.snd t)))) ∧ True) ∧ ∀ (t : Nat × Nat), let l0 := (Int.fdiv (IntKind.wrap IntKind.u64 (IntKind.wrap IntKind.i64 ((↑(Prod.fst t) : Int) + (↑(Prod.snd t) : Int)))) l20); let l31 := (l12 - IntKind.wrap IntKind.i64 l0); let l9 := (B (Int.toNat (IntKind.wrap IntKind.i64 l0))); let l4 := (B (Int.toNat (IntKind.wrap IntKind.i64 l31))); l11 ≤ Prod.fst t ∧ Prod.fst t ≤ Prod.snd t ∧ (Prod.snd t ≤ if l1 / (2 : Nat) < Int.toNat m then l1 / (2 : Nat) else Int.toNat m) ∧ ((Prod.fst t = if l1 / (2 : Nat) < Int.toNat m then l1 / (2 : Nat) + Int.toNat m - Int.toNat b else Int.toNat a) ∨ wK (B (Prod.fst t - (1 : Nat))) ≤ wK (B (l1 / (2 : Nat) + Int.toNat m - Prod.fst t))) ∧ ((Prod.snd t = if l1 / (2 : Nat) < Int.toNat m then l1 / (2 : Nat) else Int.toNat m) ∨ wK (B (l1 / (2 : Nat) + Int.toNat m - (1 : Nat) - Prod.snd t)) < wK (B (Prod.snd t))) → brP (decide ((↑(Prod.fst t) : Int) < (↑(Prod.snd t) : Int))) ((0 : Int) ≤ (1 : Int) ∧ ((0 : Int) ≤ IntKind.wrap IntKind.i64 l31 ∧ IntKind.wrap IntKind.i64 l31 < (↑(n) : Int)) ∧ ((0 : Int) ≤ IntKind.wrap IntKind.i64 l0 ∧ IntKind.wrap IntKind.i64 l0 < (↑(n) : Int)) ∧ VT.ch l4 = VT.ch l4 ∧ VT.ep l4 = VT.ep l4 ∧ VT.vw l4 = VT.vw l4 ∧ VT.blk l4 = VT.blk l4 ∧ VT.who l4 = VT.who l4 ∧ Prod.fst (VT.sig l4) = Prod.fst (VT.sig l4) ∧ Prod.snd (VT.sig l4) = Prod.snd (VT.sig l4) ∧ VT.ch l9 = VT.ch l9 ∧ VT.ep l9 = VT.ep l9 ∧ VT.vw l9 = VT.vw l9 ∧ VT.blk l9 = VT.blk l9 ∧ VT.who l9 = VT.who l9 ∧ Prod.fst (VT.sig l9) = Prod.fst (VT.sig l9) ∧ Prod.snd (VT.sig l9) = Prod.snd (VT.sig l9) ∧ brP (!decide ((if VT.who l4 < VT.who l9 then (-1 : Int) else if VT.who l4 > VT.who l9 then (1 : Int) else (0 : Int)) < (0 : Int))) (∃ (t_1 : Nat × Nat), a = a ∧ m = m ∧ b = b ∧ Value.func (Fn.func (49 : FuncId)) #[] #[] = Value.func (Fn.func (49 : FuncId)) #[] #[] ∧ l6 = l6 ∧ l14 = l14 ∧ IntKind.wrap IntKind.i64 (IntKind.wrap IntKind.i64 l0 + (1 : Int)) = (↑(Prod.fst t_1) : Int) ∧ (↑(Prod.snd t) : Int) = (↑(Prod.snd t_1) : Int) ∧ l12 = l12 ∧ n = n ∧ (∀ (i : Nat), i < n → fC vtE B i = fC vtE B i) ∧ (l11 ≤ Prod.fst t_1 ∧ Prod.fst t_1 ≤ Prod.snd t_1 ∧ (Prod.snd t_1 ≤ if l1 / (2 : Nat) < Int.toNat m then l1 / (2 : Nat) else Int.toNat m) ∧ ((Prod.fst t_1 = if l1 / (2 : Nat) < Int.toNat m then l1 / (2 : Nat) + Int.toNat m - Int.toNat b else Int.toNat a) ∨ wK (B (Prod.fst t_1 - (1 : Nat))) ≤ wK (B (l1 / (2 : Nat) + Int.toNat m - Prod.fst t_1))) ∧ ((Prod.snd t_1 = if l1 / (2 : Nat) < Int.toNat m then l1 / (2 : Nat) else Int.toNat m) ∨ wK (B (l1 / (2 : Nat) + Int.toNat m - (1 : Nat) - Prod.snd t_1)) < wK (B (Prod.snd t_1)))) ∧ Prod.snd t_1 - Prod.fst t_1 < Prod.snd t - Prod.fst t ∧ True) (∃ (t_1 : Nat × Nat), a = a ∧ m = m ∧ b = b ∧ Value.func (Fn.func (49 : FuncId)) #[] #[] = Value.func (Fn.func (49 : FuncId)) #[] #[] ∧ l6 = l6 ∧ l14 = l14 ∧ (↑(Prod.fst t) : Int) = (↑(Prod.fst t_1) : Int) ∧ IntKind.wrap IntKind.i64 l0 = (↑(Prod.snd t_1) : Int) ∧ l12 = l12 ∧ n = n ∧ (∀ (i : Nat), i < n → fC vtE B i = fC vtE B i) ∧ (l11 ≤ Prod.fst t_1 ∧ Prod.fst t_1 ≤ Prod.snd t_1 ∧ (Prod.snd t_1 ≤ if l1 / (2 : Nat) < Int.toNat m then l1 / (2 : Nat) else Int.toNat m) ∧ ((Prod.fst t_1 = if l1 / (2 : Nat) < Int.toNat m then l1 / (2 : Nat) + Int.toNat m - Int.toNat b else Int.toNat a) ∨ wK (B (Prod.fst t_1 - (1 : Nat))) ≤ wK (B (l1 / (2 : Nat) + Int.toNat m - Prod.fst t_1))) ∧ ((Prod.snd t_1 = if l1 / (2 : Nat) < Int.toNat m then l1 / (2 : Nat) else Int.toNat m) ∨ wK (B (l1 / (2 : Nat) + Int.toNat m - (1 : Nat) - Prod.snd t_1)) < wK (B (Prod.snd t_1)))) ∧ Prod.snd t_1 - Prod.fst t_1 < Prod.snd t - Prod.fst t ∧ True)) ((∃ (t_1 : Nat), a = a ∧ m = m ∧ b = b ∧ Value.func (Fn.func (49 : FuncId)) #[] #[] = Value.func (Fn.func (49 : FuncId)) #[] #[] ∧ l6 = l6 ∧ (↑(Prod.fst t) : Int) = (↑t_1 : Int) ∧ IntKind.wrap IntKind.i64 (l14 - (↑(Prod.fst t) : Int)) = (↑(l1 / (2 : Nat) + Int.toNat m - t_1) : Int) ∧ n = n ∧ (∀ (i : Nat), i < n → fC vtE B i = fC vtE B i) ∧ Cross B (Int.toNat a) (Int.toNat m) (Int.toNat b) t_1 ∧ True) ∧ ∀ (t : Nat), let l15 := (↑(l1 / (2 : Nat) + Int.toNat m - t) : Int); Cross B (Int.toNat a) (Int.toNat m) (Int.toNat b) t → brP (decide ((↑t : Int) < m)) (brP (decide (m < l15)) ((↑t : Int) = (↑t : Int) ∧ m = m ∧ l15 = l15 ∧ Value.func (Fn.func (49 : FuncId)) #[] #[] = Value.func (Fn.func (49 : FuncId)) #[] #[] ∧ n = n ∧ (∀ (i : Nat), i < n → fC vtE B i = fC vtE (fun (i : Nat) => vtG (fC vtE B i)) i) ∧ (0 : Int) ≤ (↑t : Int) ∧ (↑t : Int) < m ∧ m < l15 ∧ l15 ≤ (↑n : Int) ∧ n < (1099511627776 : Nat) ∧ ∃ (t_1 : Nat), a = a ∧ m = m ∧ b = b ∧ Value.func (Fn.func (49 : FuncId)) #[] #[] = Value.func (Fn.func (49 : FuncId)) #[] #[] ∧ l6 = l6 ∧ (↑t : Int) = (↑t_1 : Int) ∧ l15 = (↑(l1 / (2 : Nat) + Int.toNat m - t_1) : Int) ∧ n = n ∧ (∀ (i : Nat), i < n → fC vtE (rotP (fun (i : Nat) => vtG (fC vtE B i)) (Int.toNat (↑t : Int)) (Int.toNat m) (Int.toNat l15)) i = fC vtE (rotP B t_1 (Int.toNat m) (l1 / (2 : Nat) + Int.toNat m - t_1)) i) ∧ Cross B (Int.toNat a) (Int.toNat m) (Int.toNat b) t_1 ∧ True) (∃ (t_1 : Nat), a = a ∧ m = m ∧ b = b ∧ Value.func (Fn.func (49 : FuncId)) #[] #[] = Value.func (Fn.func (49 : FuncId)) #[] #[] ∧ l6 = l6 ∧ (↑t : Int) = (↑t_1 : Int) ∧ l15 = (↑(l1 / (2 : Nat) + Int.toNat m - t_1) : Int) ∧ n = n ∧ (∀ (i : Nat), i < n → fC vtE B i = fC vtE (rotP B t_1 (Int.toNat m) (l1 / (2 : Nat) + Int.toNat m - t_1)) i) ∧ Cross B (Int.toNat a) (Int.toNat m) (Int.toNat b) t_1 ∧ True)) (∃ (t_1 : Nat), a = a ∧ m = m ∧ b = b ∧ Value.func (Fn.func (49 : FuncId)) #[] #[] = Value.func (Fn.func (49 : FuncId)) #[] #[] ∧ l6 = l6 ∧ (↑t : Int) = (↑t_1 : Int) ∧ l15 = (↑(l1 / (2 : Nat) + Int.toNat m - t_1) : Int) ∧ n = n ∧ (∀ (i : Nat), i < n → fC vtE B i = fC vtE (rotP B t_1 (Int.toNat m) (l1 / (2 : Nat) + Int.toNat m - t_1)) i) ∧ Cross B (Int.toNat a) (Int.toNat m) (Int.toNat b) t_1 ∧ True) ∧ ∀ (t : Nat), let l24 := (l1 / (2 : Nat) + Int.toNat m - t); let l13 := (rotP B t (Int.toNat m) l24); Cross B (Int.toNat a) (Int.toNat m) (Int.toNat b) t → brP (decide (a < (↑t : Int))) (brP (decide ((↑t : Int) < l6)) (a = a ∧ (↑t : Int) = (↑t : Int) ∧ l6 = l6 ∧ Value.func (Fn.func (49 : FuncId)) #[] #[] = Value.func (Fn.func (49 : FuncId)) #[] #[] ∧ n = n ∧ (∀ (i : Nat), i < n → fC vtE l13 i = fC vtE (fun (i : Nat) => vtG (fC vtE l13 i)) i) ∧ Int.toNat (l6 - a) < n_ ∧ (0 : Int) ≤ a ∧ a < (↑t : Int) ∧ (↑t : Int) < l6 ∧ l6 ≤ (↑n : Int) ∧ n < (1099511627776 : Nat) ∧ KSrt wK (seg (fun (i : Nat) => vtG (fC vtE l13 i)) (Int.toNat a) (Int.toNat (↑t : Int))) ∧ KSrt wK (seg (fun (i : Nat) => vtG (fC vtE l13 i)) (Int.toNat (↑t : Int)) (Int.toNat l6)) ∧ ∃ (t_1 : Nat), a = a ∧ m = m ∧ b = b ∧ Value.func (Fn.func (49 : FuncId)) #[] #[] = Value.func (Fn.func (49 : FuncId)) #[] #[] ∧ l6 = l6 ∧ (↑t : Int) = (↑t_1 : Int) ∧ (↑l24 : Int) = (↑(l1 / (2 : Nat) + Int.toNat m - t_1) : Int) ∧ n = n ∧ (∀ (i : Nat), i < n → fC vtE (sgF wK (fun (i : Nat) => vtG (fC vtE l13 i)) (Int.toNat a) (Int.toNat l6)) i = fC vtE (sgF wK (rotP B t_1 (Int.toNat m) (l1 / (2 : Nat) + Int.toNat m - t_1)) (Int.toNat a) (l1 / (2 : Nat))) i) ∧ Cross B (Int.toNat a) (Int.toNat m) (Int.toNat b) t_1 ∧ True) (∃ (t_1 : Nat), a = a ∧ m = m ∧ b = b ∧ Value.func (Fn.func (49 : FuncId)) #[] #[] = Value.func (Fn.func (49 : FuncId)) #[] #[] ∧ l6 = l6 ∧ (↑t : Int) = (↑t_1 : Int) ∧ (↑l24 : Int) = (↑(l1 / (2 : Nat) + Int.toNat m - t_1) : Int) ∧ n = n ∧ (∀ (i : Nat), i < n → fC vtE l13 i = fC vtE (sgF wK (rotP B t_1 (Int.toNat m) (l1 / (2 : Nat) + Int.toNat m - t_1)) (Int.toNat a) (l1 / (2 : Nat))) i) ∧ Cross B (Int.toNat a) (Int.toNat m) (Int.toNat b) t_1 ∧ True)) (∃ (t_1 : Nat), a = a ∧ m = m ∧ b = b ∧ Value.func (Fn.func (49 : FuncId)) #[] #[] = Value.func (Fn.func (49 : FuncId)) #[] #[] ∧ l6 = l6 ∧ (↑t : Int) = (↑t_1 : Int) ∧ (↑l24 : Int) = (↑(l1 / (2 : Nat) + Int.toNat m - t_1) : Int) ∧ n = n ∧ (∀ (i : Nat), i < n → fC vtE l13 i = fC vtE (sgF wK (rotP B t_1 (Int.toNat m) (l1 / (2 : Nat) + Int.toNat m - t_1)) (Int.toNat a) (l1 / (2 : Nat))) i) ∧ Cross B (Int.toNat a) (Int.toNat m) (Int.toNat b) t_1 ∧ True) ∧ ∀ (t : Nat), let l16 := (↑(l1 / (2 : Nat) + Int.toNat m - t) : Int); let l10 := (sgF wK (rotP B t (Int.toNat m) (l1 / (2 : Nat) + Int.toNat m - t)) (Int.toNat a) (l1 / (2 : Nat))); Cross B (Int.toNat a) (Int.toNat m) (Int.toNat b) t → brP (decide (l6 < l16)) (brP (decide (l16 < b)) (l6 = l6 ∧ l16 = l16 ∧ b = b ∧ Value.func (Fn.func (49 : FuncId)) #[] #[] = Value.func (Fn.func (49 : FuncId)) #[] #[] ∧ n = n ∧ (∀ (i : Nat), i < n → fC vtE l10 i = fC vtE (fun (i : Nat) => vtG (fC vtE l10 i)) i) ∧ Int.toNat (b - l6) < n_ ∧ (0 : Int) ≤ l6 ∧ l6 < l16 ∧ l16 < b ∧ b ≤ (↑n : Int) ∧ n < (1099511627776 : Nat) ∧ KSrt wK (seg (fun (i : Nat) => vtG (fC vtE l10 i)) (Int.toNat l6) (Int.toNat l16)) ∧ KSrt wK (seg (fun (i : Nat) => vtG (fC vtE l10 i)) (Int.toNat l16) (Int.toNat b)) ∧ n = n ∧ (∀ (i : Nat), i < n → fC vtE (sgF wK (fun (i : Nat) => vtG (fC vtE l10 i)) (Int.toNat l6) (Int.toNat b)) i = fC vtE l23 i) ∧ True) (n = n ∧ (∀ (i : Nat), i < n → fC vtE l10 i = fC vtE l23 i) ∧ True)) (n = n ∧ (∀ (i : Nat), i < n → fC vtE l10 i = fC vtE l23 i) ∧ True))))) (by kernel_rfl) (by
    conv => zeta
    obtain ⟨h1, h2, h3, h4, h5, hA, hB, _⟩ := hp
    obtain ⟨A, rfl⟩ := Int.eq_ofNat_of_zero_le h1
    obtain ⟨M, rfl⟩ := Int.eq_ofNat_of_zero_le (show 0 ≤ m by omega)
    obtain ⟨D, rfl⟩ := Int.eq_ofNat_of_zero_le (show 0 ≤ b by omega)
    simp only [Int.toNat_natCast, true_and, and_true, implies_true, fC_vt, cmp_lt, Int.zero_le_ofNat, show ((0 : Int) ≤ 1) = True from eq_true (by decide)] at hA hB ⊢
    have h2' : A < M := by omega
    have h3' : M < D := by omega
    have w1 : IntKind.wrap .i64 ((M : Int) - A) = ((M - A : Nat) : Int) := by rw [wi _ (by omega) (by omega)]; omega
    have w2 : IntKind.wrap .i64 ((D : Int) - M) = ((D - M : Nat) : Int) := by rw [wi _ (by omega) (by omega)]; omega
    rw [w1, w2]
    refine brI (fun hc => ?_) (fun hc => brI (fun hc2 => ?_) (fun hc2 => ?_))
    · have hc : M = A + 1 := by have := beq_iff_eq.1 hc; omega
      subst hc
      refine ⟨⟨(A + 1, D), rfl, rfl, Nat.le_refl _, by dsimp only; omega, Nat.le_refl _, fun t _ _ => by omega, fun t _ _ => by omega⟩, ?_⟩
      rintro ⟨i, j⟩ ⟨g1, g2, g3, g4, g5⟩
      dsimp only at g1 g2 g3 g4 g5 ⊢
      rw [midN (by omega) (by omega)]
      simp only [Int.toNat_natCast, true_and]
      refine brI (fun hd => ?_) (fun hd => ?_)
      · have hd : i < j := by have := of_decide_eq_true hd; omega
        refine ⟨⟨by omega, by omega⟩, ⟨by omega, by omega⟩, brI (fun hk => ?_) (fun hk => ?_)⟩
        · have hk := of_decide_eq_true hk
          refine ⟨((i + j) / 2 + 1, j), by rw [wi _ (by omega) (by omega)]; rfl, rfl, ⟨by dsimp only; omega, by dsimp only; omega, g3, fun t t1 t2 => ?_, g5⟩, by dsimp only; omega⟩
          exact Int.lt_of_le_of_lt (seg_mono hB t1 (by omega) (by omega)) hk
        · have hk := of_decide_eq_false hk
          refine ⟨(i, (i + j) / 2), rfl, rfl, ⟨g1, by dsimp only; omega, by dsimp only; omega, g4, fun t t1 t2 => ?_⟩, by dsimp only; omega⟩
          exact Int.le_trans (Int.not_lt.1 hk) (seg_mono hB (by dsimp only at t1; omega) t1 t2)
      · have hd : i = j := by have := of_decide_eq_false hd; omega
        subst hd
        refine ⟨⟨(i, A), rfl, rfl, fun t ht => ?_, g1, g3, g4, g5, Nat.le_refl _, by dsimp only; omega⟩, ?_⟩
        · rw [seg_nil _ (Nat.le_refl _), List.nil_append, ← seg_one, pf_self]
        rintro ⟨u, k⟩ ⟨q1, q2, q3, q4, q5, q6⟩
        dsimp only at q1 q2 q3 q4 q5 q6 ⊢
        have w3 : IntKind.wrap .i64 ((u : Int) - 1) = ((u - 1 : Nat) : Int) := by rw [wi _ (by omega) (by omega)]; omega
        have w4 : IntKind.wrap .i64 ((k : Int) + 1) = ((k + 1 : Nat) : Int) := by rw [wi _ (by omega) (by omega)]; rfl
        rw [w3, w4]
        simp only [Int.toNat_natCast]
        refine brI (fun he => ?_) (fun he => ?_)
        · have he : k < u - 1 := by have := of_decide_eq_true he; omega
          refine ⟨⟨by omega, by omega⟩, ⟨by omega, by omega⟩, ⟨by omega, by omega⟩, ⟨by omega, by omega⟩, (u, k + 1), rfl, rfl, fun t ht => ?_, ⟨q1, q2, q3, q4, by dsimp only; omega, by dsimp only; omega⟩, by dsimp only; omega⟩
          rw [sw_fc]
          have e1 : seg B (A + 1) (k + 1 + 1) = seg B (A + 1) (k + 1) ++ [B (k + 1)] := seg_succ B (by omega)
          have e2 : pf B A (seg B (A + 1) (k + 1) ++ [B A]) = pf B A (seg B (A + 1) (k + 1) ++ B A :: B (k + 1) :: []) := by
            rw [show seg B (A + 1) (k + 1) ++ B A :: B (k + 1) :: [] = (seg B (A + 1) (k + 1) ++ [B A]) ++ [B (k + 1)] by simp, ← pf_app _ _ (seg B (A + 1) (k + 1) ++ [B A])]
            have : A + (seg B (A + 1) (k + 1) ++ [B A]).length = k + 1 := by rw [List.length_append, seg_len]; simp; omega
            rw [this, show [B (k + 1)] = seg (pf B A (seg B (A + 1) (k + 1) ++ [B A])) (k + 1) (k + 1 + 1) by rw [seg_one, pf_out B (by omega)], pf_self]
          rw [e2, pf_swap B (by rw [seg_len]; omega), e1]
          simp
        · have he : k + 1 = u := by have := of_decide_eq_false he; omega
          intro t ht
          rw [he, ins_left (by omega) q2 hB q3 q4]
    · have hc2 : D = M + 1 := by have := beq_iff_eq.1 hc2; omega
      subst hc2
      refine ⟨⟨(A, M), rfl, rfl, Nat.le_refl _, by dsimp only; omega, Nat.le_refl _, fun t _ _ => by omega, fun t _ _ => by omega⟩, ?_⟩
      rintro ⟨i, j⟩ ⟨g1, g2, g3, g4, g5⟩
      dsimp only at g1 g2 g3 g4 g5 ⊢
      rw [midN (by omega) (by omega)]
      simp only [Int.toNat_natCast, true_and]
      refine brI (fun hd => ?_) (fun hd => ?_)
      · have hd : i < j := by have := of_decide_eq_true hd; omega
        refine ⟨by omega, ⟨by omega, by omega⟩, brI (fun hk => ?_) (fun hk => ?_)⟩
        · have hk : ¬ wK (B M) < wK (B ((i + j) / 2)) := by simpa using hk
          refine ⟨((i + j) / 2 + 1, j), by rw [wi _ (by omega) (by omega)]; rfl, rfl, ⟨by dsimp only; omega, by dsimp only; omega, g3, fun t t1 t2 => ?_, g5⟩, by dsimp only; omega⟩
          exact Int.le_trans (seg_mono hA t1 (by dsimp only at t2; omega) (by omega)) (Int.not_lt.1 hk)
        · have hk : wK (B M) < wK (B ((i + j) / 2)) := by simpa using hk
          refine ⟨(i, (i + j) / 2), rfl, rfl, ⟨g1, by dsimp only; omega, by dsimp only; omega, g4, fun t t1 t2 => ?_⟩, by dsimp only; omega⟩
          exact Int.lt_of_lt_of_le hk (seg_mono hA (by omega) t1 t2)
      · have hd : i = j := by have := of_decide_eq_false hd; omega
        subst hd
        refine ⟨⟨(i, M), rfl, rfl, fun t ht => ?_, g1, g3, g4, g5, g3, Nat.le_refl _⟩, ?_⟩
        · rw [seg_nil _ (Nat.le_refl _), ← seg_one, pf_self]
        rintro ⟨u, k⟩ ⟨q1, q2, q3, q4, q5, q6⟩
        dsimp only at q1 q2 q3 q4 q5 q6 ⊢
        refine brI (fun he => ?_) (fun he => ?_)
        · have he : u < k := by have := of_decide_eq_true he; omega
          have w4 : IntKind.wrap .i64 ((k : Int) - 1) = ((k - 1 : Nat) : Int) := by rw [wi _ (by omega) (by omega)]; omega
          rw [w4]
          simp only [Int.toNat_natCast]
          refine ⟨⟨by omega, by omega⟩, ⟨by omega, by omega⟩, ⟨by omega, by omega⟩, ⟨by omega, by omega⟩, (u, k - 1), rfl, rfl, fun t ht => ?_, ⟨q1, q2, q3, q4, by dsimp only; omega, by dsimp only; omega⟩, by dsimp only; omega⟩
          rw [sw_fc, swF_comm]
          have e1 : seg B (k - 1) M = B (k - 1) :: seg B k M := by
            have := Go.Dx.seg_cons B (show k - 1 < M by omega)
            rwa [show k - 1 + 1 = k by omega] at this
          have e2 : pf B k (B M :: seg B k M) = pf B (k - 1) ([] ++ B (k - 1) :: B M :: seg B k M) := by
            have := pf_app B (k - 1) [B (k - 1)] (B M :: seg B k M)
            rw [show k - 1 + [B (k - 1)].length = k by simp; omega, ← seg_one, pf_self, seg_one] at this
            rw [this]; rfl
          rw [e2]
          have := pf_swap B (a := k - 1) (p := k - 1) (P := []) (Q := seg B k M) (x := B (k - 1)) (y := B M) (by simp)
          rw [show k - 1 + 1 = k by omega] at this
          rw [this, e1]; rfl
        · have he : k = u := by have := of_decide_eq_false he; omega
          intro t ht
          rw [he, ins_right q1 q2 hA q3 q4]
    · have hc : M - A ≠ 1 := by have := beq_eq_false_iff_ne.1 hc; omega
      have hc2 : D - M ≠ 1 := by have := beq_eq_false_iff_ne.1 hc2; omega
      have l1 : A < (A + D) / 2 := by omega
      have l2 : (A + D) / 2 < D := by omega
      rw [midN (i := A) (j := D) (by omega) (by omega)]
      have m1 : IntKind.wrap .i64 ((((A + D) / 2 : Nat) : Int) + (M : Int)) = (((A + D) / 2 + M : Nat) : Int) := by rw [wi _ (by omega) (by omega)]; rfl
      rw [m1]
      simp only [true_and]
      refine ⟨brI (fun hm => ?_) (fun hm => ?_), fun _ _ => ⟨⟨(if (A + D) / 2 < M then (A + D) / 2 + M - D else A, if (A + D) / 2 < M then (A + D) / 2 else M), rfl, rfl, by rw [wi _ (by omega) (by omega)]; omega, Nat.le_refl _, by dsimp only; split <;> omega, Nat.le_refl _, .inl rfl, .inl rfl⟩, ?_⟩⟩
      · have hm : (A + D) / 2 < M := by have := of_decide_eq_true hm; omega
        exact ⟨0, by rw [if_pos hm, wi _ (by omega) (by omega)]; omega, by rw [if_pos hm]⟩
      · have hm : ¬ (A + D) / 2 < M := by have := of_decide_eq_false hm; omega
        exact ⟨0, by rw [if_neg hm], by rw [if_neg hm]⟩
      · rintro ⟨s, r⟩ ⟨g1, g2, g3, g4, g5⟩
        dsimp only at g1 g2 g3 g4 g5 ⊢
        have q1 : A ≤ s := by split at g1 <;> omega
        have q2 : r ≤ M := by split at g3 <;> omega
        have q3 : r ≤ (A + D) / 2 := by split at g3 <;> omega
        have q4 : (A + D) / 2 + M - D ≤ s := by split at g1 <;> omega
        rw [midN (by omega) (by omega)]
        have m2 : s < r → IntKind.wrap .i64 ((((A + D) / 2 + M - 1 : Nat) : Int) - (((s + r) / 2 : Nat) : Int)) = (((A + D) / 2 + M - 1 - (s + r) / 2 : Nat) : Int) := fun h => by rw [wi _ (by omega) (by omega)]; omega
        refine brI (fun hd => ?_) (fun hd => ?_)
        · have hd : s < r := by have := of_decide_eq_true hd; omega
          rw [m2 hd]
          simp only [Int.toNat_natCast]
          refine ⟨⟨by omega, by omega⟩, ⟨by omega, by omega⟩, brI (fun hk => ?_) (fun hk => ?_)⟩
          · have hk : ¬ wK (B ((A + D) / 2 + M - 1 - (s + r) / 2)) < wK (B ((s + r) / 2)) := by simpa using hk
            refine ⟨((s + r) / 2 + 1, r), by rw [wi _ (by omega) (by omega)]; rfl, rfl, ⟨Nat.le_trans g1 (by dsimp only; omega), by dsimp only; omega, g3, .inr ?_, g5⟩, by dsimp only; omega⟩
            show wK (B ((s + r) / 2 + 1 - 1)) ≤ wK (B ((A + D) / 2 + M - ((s + r) / 2 + 1)))
            rw [show (s + r) / 2 + 1 - 1 = (s + r) / 2 by omega, show (A + D) / 2 + M - ((s + r) / 2 + 1) = (A + D) / 2 + M - 1 - (s + r) / 2 by omega]
            exact Int.not_lt.1 hk
          · have hk : wK (B ((A + D) / 2 + M - 1 - (s + r) / 2)) < wK (B ((s + r) / 2)) := by simpa using hk
            refine ⟨(s, (s + r) / 2), rfl, rfl, ⟨g1, by dsimp only; omega, Nat.le_trans (show (s + r) / 2 ≤ r by omega) g3, g4, .inr hk⟩, by dsimp only; omega⟩
        · have hd : s = r := by have := of_decide_eq_false hd; omega
          subst hd
          refine ⟨⟨s, rfl, by rw [wi _ (by omega) (by omega)]; omega, q1, q2, q3, by omega, by omega, fun i j i1 i2 j1 j2 => ?_, fun i j i1 i2 j1 j2 => ?_⟩, fun t c => ⟨?_, fun t c => ⟨?_, fun t c => ?_⟩⟩⟩
          · rcases g4 with g4 | g4
            · exfalso; split at g4 <;> omega
            · exact Int.le_trans (seg_mono hA i1 (show i ≤ s - 1 by omega) (by omega)) (Int.le_trans g4 (seg_mono hB (by omega) j1 j2))
          · rcases g5 with g5 | g5
            · exfalso; split at g5 <;> omega
            · exact Int.lt_of_le_of_lt (seg_mono hB i1 (show i ≤ (A + D) / 2 + M - 1 - s by omega) (by omega)) (Int.lt_of_lt_of_le g5 (seg_mono hA q1 j1 j2))
          · have := c.h0; have := c.h1; have := c.h2; have := c.h3; have := c.h4
            refine brI (fun h => brI (fun h2 => ?_) (fun h2 => ?_)) (fun h => ?_)
            · exact ⟨by omega, of_decide_eq_true h, of_decide_eq_true h2, by omega, h5, t, rfl, rfl, fun i hi => rfl, c⟩
            · have h2 := of_decide_eq_false h2
              exact ⟨t, rfl, rfl, fun i hi => by rw [show (A + D) / 2 + M - t = M by omega, rotP_right], c⟩
            · have h := of_decide_eq_false h
              exact ⟨t, rfl, rfl, fun i hi => by rw [show t = M by omega, rotP_left], c⟩
          · have := c.h0; have := c.h1; have := c.h2; have := c.h3; have := c.h4
            obtain ⟨s1, s2, _, _⟩ := rot_segs B (b := D) (mid := (A + D) / 2) rfl c.h0 c.h1 c.h2 c.h3 (by omega)
            refine brI (fun h => brI (fun h2 => ?_) (fun h2 => ?_)) (fun h => ?_)
            · exact ⟨by omega, by omega, of_decide_eq_true h, of_decide_eq_true h2, by omega, h5, by rw [s1]; exact ksrt_sub hA (Nat.le_refl _) c.h1, by rw [s2]; exact ksrt_sub hB (Nat.le_refl _) c.h4, t, rfl, rfl, fun i hi => rfl, c⟩
            · have h2 := of_decide_eq_false h2
              refine ⟨t, rfl, rfl, fun i hi => ?_, c⟩
              have e : t = (A + D) / 2 := by omega
              rw [sgF_self]
              rw [← e] at s1 ⊢; rw [s1]; exact ksrt_sub hA (Nat.le_refl _) c.h1
            · have h := of_decide_eq_false h
              refine ⟨t, rfl, rfl, fun i hi => ?_, c⟩
              have e : t = A := by omega
              rw [sgF_self]
              subst e; rw [s2]; exact ksrt_sub hB (Nat.le_refl _) c.h4
          · have := c.h0; have := c.h1; have := c.h2; have := c.h3; have := c.h4
            obtain ⟨_, _, s3, s4⟩ := rot_segs B (b := D) (mid := (A + D) / 2) rfl c.h0 c.h1 c.h2 c.h3 (by omega)
            have fin := merge_cross (key := wK) (B := B) (mid := (A + D) / 2) rfl c.h0 c.h1 c.h2 c.h3 c.h4 (by omega) hA hB c.p1 c.p2
            have out : ∀ x y, (A + D) / 2 ≤ x → seg (sgF wK (rotP B t M ((A + D) / 2 + M - t)) A ((A + D) / 2)) x y = seg (rotP B t M ((A + D) / 2 + M - t)) x y := fun x y hx => seg_ext fun i _ _ => sgF_out _ (by omega)
            have k3 : KSrt wK (seg (sgF wK (rotP B t M ((A + D) / 2 + M - t)) A ((A + D) / 2)) ((A + D) / 2) ((A + D) / 2 + M - t)) := by rw [out _ _ (Nat.le_refl _), s3]; exact ksrt_sub hA c.h0 (Nat.le_refl _)
            have k4 : KSrt wK (seg (sgF wK (rotP B t M ((A + D) / 2 + M - t)) A ((A + D) / 2)) ((A + D) / 2 + M - t) D) := by rw [out _ _ (by omega), s4]; exact ksrt_sub hB c.h3 (Nat.le_refl _)
            refine brI (fun h => brI (fun h2 => ?_) (fun h2 => ?_)) (fun h => ?_)
            · exact ⟨by omega, by omega, of_decide_eq_true h, of_decide_eq_true h2, h4, h5, k3, k4, fun i hi => by rw [fin]⟩
            · have h2 := of_decide_eq_false h2
              intro i hi
              rw [← fin, sgF_self (a := (A + D) / 2) (b := D)]
              rw [show (A + D) / 2 + M - t = D by omega] at k3 ⊢
              exact k3
            · have h := of_decide_eq_false h
              intro i hi
              rw [← fin, sgF_self (a := (A + D) / 2) (b := D)]
              rw [show (A + D) / 2 + M - t = (A + D) / 2 by omega] at k4 ⊢
              exact k4))
theorem vrslicessymMergeCmpFuncapiVote : ∀ n_, Valid Tryd.prog Gs 78 (grslicessymMergeCmpFuncapiVote n_)
  | 0 => by
    intro args H r h hp
    unfold grslicessymMergeCmpFuncapiVote at h
    split at h
    · rename_i a m b f1 f2 f3 n c ty
      exact conC_ok h hp fun hp => absurd hp.1 (Nat.not_lt_zero _)
    · cases h
  | n_ + 1 => by
    intro args H r h hp
    unfold grslicessymMergeCmpFuncapiVote at h
    split at h
    · rename_i a m b f1 f2 f3 n c ty
      exact conC_ok h hp fun hp => okrslicessymMergeCmpFuncapiVote (n) ((fun i => vtG (c i))) (a) (m) (b) n_ (vrslicessymMergeCmpFuncapiVote n_) hp.1 hp.2
    · cases h
theorem okslicessymMergeCmpFuncapiVote (n : Nat) (B : Nat → VT) (a m b : Int) (hp : allP [0 ≤ a, a < m, m < b, b ≤ n, n < 1099511627776, KSrt wK (seg B a.toNat m.toNat), KSrt wK (seg B m.toNat b.toNat)]) : CallsOk Tryd.prog Gs 78 [.a (.rw 100000), .a (.d (.v (.int .i64 a))), .a (.d (.v (.int .i64 m))), .a (.d (.v (.int .i64 b))), .a (.d (.v (.func (.func 49) #[] #[])))] [(100000, .row (.st 69 n (fC vtE B)) 49)] (.t []) [(100000, .row (.st 69 n (fC vtE (sgF wK B a.toNat b.toNat))) 49)] := okrslicessymMergeCmpFuncapiVote n B a m b ((b - a).toNat) (vrslicessymMergeCmpFuncapiVote _) (Nat.lt_succ_self _) hp
noncomputable def gslicessymMergeCmpFuncapiVote : Con := fun args H => match args, H with
  | [.a (.rw 100000), .a (.d (.v (.int .i64 a))), .a (.d (.v (.int .i64 m))), .a (.d (.v (.int .i64 b))), .a (.d (.v (.func f1 f2 f3)))], [(100000, .row (.st 69 n c) ty)] => (fun (n : Nat) (B : Nat → VT) (a m b : Int) => conC args H [.a (.rw 100000), .a (.d (.v (.int .i64 a))), .a (.d (.v (.int .i64 m))), .a (.d (.v (.int .i64 b))), .a (.d (.v (.func (.func 49) #[] #[])))] [(100000, .row (.st 69 n (fC vtE B)) 49)] ⟨[0 ≤ a, a < m, m < b, b ≤ n, n < 1099511627776, KSrt wK (seg B a.toNat m.toNat), KSrt wK (seg B m.toNat b.toNat)], .t [], [(100000, .row (.st 69 n (fC vtE (sgF wK B a.toNat b.toNat))) 49)]⟩) (n) ((fun i => vtG (c i))) (a) (m) (b)
  | _, _ => none
theorem vslicessymMergeCmpFuncapiVote : Valid Tryd.prog Gs 78 gslicessymMergeCmpFuncapiVote := by
  intro args H r h hp
  unfold gslicessymMergeCmpFuncapiVote at h
  split at h
  · rename_i a m b f1 f2 f3 n c ty
    exact conC_ok h hp fun hp => okslicessymMergeCmpFuncapiVote (n) ((fun i => vtG (c i))) (a) (m) (b) hp
  · cases h
noncomputable def ct_slicessymMergeCmpFuncapiVote : List (Nat × Ct) := (78, ⟨[true], false, gslicessymMergeCmpFuncapiVote, none⟩) :: ct_slicesinsertionSortCmpFuncapiVote
theorem ctok_slicessymMergeCmpFuncapiVote : CtsOk Tryd.prog Gs ct_slicessymMergeCmpFuncapiVote := CtsOk.cons vslicessymMergeCmpFuncapiVote (by kernel_rfl) ctok_slicesinsertionSortCmpFuncapiVote
noncomputable def anslicesstableCmpFuncapiVote (n : Nat) (B : Nat → VT) : Nat → List Nat → List Ann := fun bk_ gs_ => match bk_, gs_ with
    | 0, _ => [{ τ := Nat × (Nat → VT), t0 := (default : Nat × (Nat → VT)), J := fun g => 20 ∣ g.1 ∧ g.1 ≤ n ∧ KSame wK (seg g.2 0 n) (seg B 0 n) ∧ SB wK 20 g.2 0 g.1 n, m := fun g => n - g.1, l := fun g => [(0, .s (.a (.rw 100000))), (1, eI .i64 (n : Int)), (2, .s (.a (.d (.v (.func (.func 49) #[] #[]))))), (6, eI .i64 20), (7, eI .i64 (g.1 : Int)), (8, eI .i64 ((g.1 + 20 : Nat) : Int))], H := fun g => [(100000, .row (.st 69 n (fC vtE g.2)) 49)] }]
    | 2, _ => [{ τ := Nat × (Nat → VT), t0 := (default : Nat × (Nat → VT)), J := fun g => 20 ≤ g.1 ∧ (g.1 = 20 ∨ g.1 < 2 * n) ∧ KSame wK (seg g.2 0 n) (seg B 0 n) ∧ SB wK g.1 g.2 0 n n, m := fun g => n - g.1, l := fun g => [(0, .s (.a (.rw 100000))), (1, eI .i64 (n : Int)), (2, .s (.a (.d (.v (.func (.func 49) #[] #[]))))), (6, eI .i64 (g.1 : Int))], H := fun g => [(100000, .row (.st 69 n (fC vtE g.2)) 49)] }]
    | 4, m :: _ => [{ τ := Nat × (Nat → VT), t0 := (default : Nat × (Nat → VT)), J := fun g => 2 * (n - m) ∣ g.1 ∧ g.1 ≤ n ∧ KSame wK (seg g.2 0 n) (seg B 0 n) ∧ SB wK (2 * (n - m)) g.2 0 g.1 n ∧ SB wK (n - m) g.2 g.1 n n, m := fun g => n - g.1, l := fun g => [(0, .s (.a (.rw 100000))), (1, eI .i64 (n : Int)), (2, .s (.a (.d (.v (.func (.func 49) #[] #[]))))), (6, eI .i64 ((n - m : Nat) : Int)), (7, eI .i64 (g.1 : Int)), (8, eI .i64 ((g.1 + 2 * (n - m) : Nat) : Int))], H := fun g => [(100000, .row (.st 69 n (fC vtE g.2)) 49)] }]
    | _, _ => []
theorem okslicesstableCmpFuncapiVote (n : Nat) (B : Nat → VT) (hp : allP [n < 1099511627776]) : CallsOk Tryd.prog Gs 67 [.a (.rw 100000), .a (.d (.v (.int .i64 (n : Int)))), .a (.d (.v (.func (.func 49) #[] #[])))] [(100000, .row (.st 69 n (fC vtE B)) 49)] (.t []) [(100000, .row (.st 69 n (fC vtE (sgF wK B 0 n))) 49)] :=
  ok_of (ann := anslicesstableCmpFuncapiVote n B) ctok_slicessymMergeCmpFuncapiVote mixed Tryd.func67 (by kernel_rfl) (of_nf (p := (∃ (t : Nat × (Nat → VT)), (↑n : Int) = (↑n : Int) ∧ Value.func (Fn.func (49 : FuncId)) #[] #[] = Value.func (Fn.func (49 : FuncId)) #[] #[] ∧ (20 : Int) = (20 : Int) ∧ (0 : Int) = (↑(Prod.fst t) : Int) ∧ (20 : Int) = (↑(Prod.fst t + (20 : Nat)) : Int) ∧ n = n ∧ (∀ (i : Nat), i < n → fC vtE B i = fC vtE (Prod.snd t) i) ∧ ((20 : Nat) ∣ Prod.fst t ∧ Prod.fst t ≤ n ∧ KSame wK (seg (Prod.snd t) (0 : Nat) n) (seg B (0 : Nat) n) ∧ SB wK (20 : Nat) (Prod.snd t) (0 : Nat) (Prod.fst t) n) ∧ True) ∧ ∀ (t : Nat × (Nat → VT)), let l2 := (↑(Prod.fst t + (20 : Nat)) : Int); (20 : Nat) ∣ Prod.fst t ∧ Prod.fst t ≤ n ∧ KSame wK (seg (Prod.snd t) (0 : Nat) n) (seg B (0 : Nat) n) ∧ SB wK (20 : Nat) (Prod.snd t) (0 : Nat) (Prod.fst t) n → brP (decide (l2 ≤ (↑n : Int))) ((↑(Prod.fst t) : Int) = (↑(Prod.fst t) : Int) ∧ l2 = l2 ∧ Value.func (Fn.func (49 : FuncId)) #[] #[] = Value.func (Fn.func (49 : FuncId)) #[] #[] ∧ n = n ∧ (∀ (i : Nat), i < n → fC vtE (Prod.snd t) i = fC vtE (fun (i : Nat) => vtG (fC vtE (Prod.snd t) i)) i) ∧ (0 : Int) ≤ (↑(Prod.fst t) : Int) ∧ (↑(Prod.fst t) : Int) ≤ l2 ∧ l2 ≤ (↑n : Int) ∧ n < (1099511627776 : Nat) ∧ ∃ (t_1 : Nat × (Nat → VT)), (↑n : Int) = (↑n : Int) ∧ Value.func (Fn.func (49 : FuncId)) #[] #[] = Value.func (Fn.func (49 : FuncId)) #[] #[] ∧ (20 : Int) = (20 : Int) ∧ l2 = (↑(Prod.fst t_1) : Int) ∧ IntKind.wrap IntKind.i64 (l2 + (20 : Int)) = (↑(Prod.fst t_1 + (20 : Nat)) : Int) ∧ n = n ∧ (∀ (i : Nat), i < n → fC vtE (sgF wK (fun (i : Nat) => vtG (fC vtE (Prod.snd t) i)) (Int.toNat (↑(Prod.fst t) : Int)) (Int.toNat l2)) i = fC vtE (Prod.snd t_1) i) ∧ ((20 : Nat) ∣ Prod.fst t_1 ∧ Prod.fst t_1 ≤ n ∧ KSame wK (seg (Prod.snd t_1) (0 : Nat) n) (seg B (0 : Nat) n) ∧ SB wK (20 : Nat) (Prod.snd t_1) (0 : Nat) (Prod.fst t_1) n) ∧ n - Prod.fst t_1 < n - Prod.fst t ∧ True) ((↑(Prod.fst t) : Int) = (↑(Prod.fst t) : Int) ∧ (↑n : Int) = (↑n : Int) ∧ Value.func (Fn.func (49 : FuncId)) #[] #[] = Value.func (Fn.func (49 : FuncId)) #[] #[] ∧ n = n ∧ (∀ (i : Nat), i < n → fC vtE (Prod.snd t) i = fC vtE (fun (i : Nat) => vtG (fC vtE (Prod.snd t) i)) i) ∧ (0 : Int) ≤ (↑(Prod.fst t) : Int) ∧ (↑(Prod.fst t) : Int) ≤ (↑n : Int) ∧ (↑n : Int) ≤ (↑n : Int) ∧ n < (1099511627776 : Nat) ∧ (∃ (t_1 : Nat × (Nat → VT)), (↑n : Int) = (↑n : Int) ∧ Value.func (Fn.func (49 : FuncId)) #[] #[] = Value.func (Fn.func (49 : FuncId)) #[] #[] ∧ (20 : Int) = (↑(Prod.fst t_1) : Int) ∧ n = n ∧ (∀ (i : Nat), i < n → fC vtE (sgF wK (fun (i : Nat) => vtG (fC vtE (Prod.snd t) i)) (Int.toNat (↑(Prod.fst t) : Int)) (Int.toNat (↑n : Int))) i = fC vtE (Prod.snd t_1) i) ∧ ((20 : Nat) ≤ Prod.fst t_1 ∧ (Prod.fst t_1 = (20 : Nat) ∨ Prod.fst t_1 < (2 : Nat) * n) ∧ KSame wK (seg (Prod.snd t_1) (0 : Nat) n) (seg B (0 : Nat) n) ∧ SB wK (Prod.fst t_1) (Prod.snd t_1) (0 : Nat) n n) ∧ True) ∧ ∀ (t : Nat × (Nat → VT)), let l6 := ((2 : Nat) * (n - (n - Prod.fst t))); let l3 := (↑(n - (n - Prod.fst t)) : Int); (20 : Nat) ≤ Prod.fst t ∧ (Prod.fst t = (20 : Nat) ∨ Prod.fst t < (2 : Nat) * n) ∧ KSame wK (seg (Prod.snd t) (0 : Nat) n) (seg B (0 : Nat) n) ∧ SB wK (Prod.fst t) (Prod.snd t) (0 : Nat) n n → brP (decide ((↑(Prod.fst t) : Int) < (↑n : Int))) ((∃ (t_1 : Nat × (Nat → VT)), (↑n : Int) = (↑n : Int) ∧ Value.func (Fn.func (49 : FuncId)) #[] #[] = Value.func (Fn.func (49 : FuncId)) #[] #[] ∧ (↑(Prod.fst t) : Int) = l3 ∧ (0 : Int) = (↑(Prod.fst t_1) : Int) ∧ IntKind.wrap IntKind.i64 ((2 : Int) * (↑(Prod.fst t) : Int)) = (↑(Prod.fst t_1 + (2 : Nat) * (n - (n - Prod.fst t))) : Int) ∧ n = n ∧ (∀ (i : Nat), i < n → fC vtE (Prod.snd t) i = fC vtE (Prod.snd t_1) i) ∧ ((2 : Nat) * (n - (n - Prod.fst t)) ∣ Prod.fst t_1 ∧ Prod.fst t_1 ≤ n ∧ KSame wK (seg (Prod.snd t_1) (0 : Nat) n) (seg B (0 : Nat) n) ∧ SB wK l6 (Prod.snd t_1) (0 : Nat) (Prod.fst t_1) n ∧ SB wK (n - (n - Prod.fst t)) (Prod.snd t_1) (Prod.fst t_1) n n) ∧ True) ∧ ∀ (t_1 : Nat × (Nat → VT)), let l5 := (Int.toNat (↑(Prod.fst t_1) : Int)); let l1 := (↑(Prod.fst t_1 + (2 : Nat) * (n - (n - Prod.fst t))) : Int); let l0 := ((↑(Prod.fst t_1) : Int) + l3); let l4 := (Int.toNat (IntKind.wrap IntKind.i64 l0)); (2 : Nat) * (n - (n - Prod.fst t)) ∣ Prod.fst t_1 ∧ Prod.fst t_1 ≤ n ∧ KSame wK (seg (Prod.snd t_1) (0 : Nat) n) (seg B (0 : Nat) n) ∧ SB wK l6 (Prod.snd t_1) (0 : Nat) (Prod.fst t_1) n ∧ SB wK (n - (n - Prod.fst t)) (Prod.snd t_1) (Prod.fst t_1) n n → brP (decide (l1 ≤ (↑n : Int))) ((↑(Prod.fst t_1) : Int) = (↑(Prod.fst t_1) : Int) ∧ IntKind.wrap IntKind.i64 l0 = IntKind.wrap IntKind.i64 l0 ∧ l1 = l1 ∧ Value.func (Fn.func (49 : FuncId)) #[] #[] = Value.func (Fn.func (49 : FuncId)) #[] #[] ∧ n = n ∧ (∀ (i : Nat), i < n → fC vtE (Prod.snd t_1) i = fC vtE (fun (i : Nat) => vtG (fC vtE (Prod.snd t_1) i)) i) ∧ (0 : Int) ≤ (↑(Prod.fst t_1) : Int) ∧ (↑(Prod.fst t_1) : Int) < IntKind.wrap IntKind.i64 l0 ∧ IntKind.wrap IntKind.i64 l0 < l1 ∧ l1 ≤ (↑n : Int) ∧ n < (1099511627776 : Nat) ∧ KSrt wK (seg (fun (i : Nat) => vtG (fC vtE (Prod.snd t_1) i)) l5 l4) ∧ KSrt wK (seg (fun (i : Nat) => vtG (fC vtE (Prod.snd t_1) i)) l4 (Int.toNat l1)) ∧ ∃ (t_2 : Nat × (Nat → VT)), (↑n : Int) = (↑n : Int) ∧ Value.func (Fn.func (49 : FuncId)) #[] #[] = Value.func (Fn.func (49 : FuncId)) #[] #[] ∧ l3 = l3 ∧ l1 = (↑(Prod.fst t_2) : Int) ∧ IntKind.wrap IntKind.i64 (l1 + IntKind.wrap IntKind.i64 ((2 : Int) * l3)) = (↑(Prod.fst t_2 + (2 : Nat) * (n - (n - Prod.fst t))) : Int) ∧ n = n ∧ (∀ (i : Nat), i < n → fC vtE (sgF wK (fun (i : Nat) => vtG (fC vtE (Prod.snd t_1) i)) l5 (Int.toNat l1)) i = fC vtE (Prod.snd t_2) i) ∧ ((2 : Nat) * (n - (n - Prod.fst t)) ∣ Prod.fst t_2 ∧ Prod.fst t_2 ≤ n ∧ KSame wK (seg (Prod.snd t_2) (0 : Nat) n) (seg B (0 : Nat) n) ∧ SB wK l6 (Prod.snd t_2) (0 : Nat) (Prod.fst t_2) n ∧ SB wK (n - (n - Prod.fst t)) (Prod.snd t_2) (Prod.fst t_2) n n) ∧ n - Prod.fst t_2 < n - Prod.fst t_1 ∧ True) (brP (decide (IntKind.wrap IntKind.i64 l0 < (↑n : Int))) ((↑(Prod.fst t_1) : Int) = (↑(Prod.fst t_1) : Int) ∧ IntKind.wrap IntKind.i64 l0 = IntKind.wrap IntKind.i64 l0 ∧ (↑n : Int) = (↑n : Int) ∧ Value.func (Fn.func (49 : FuncId)) #[] #[] = Value.func (Fn.func (49 : FuncId)) #[] #[] ∧ n = n ∧ (∀ (i : Nat), i < n → fC vtE (Prod.snd t_1) i = fC vtE (fun (i : Nat) => vtG (fC vtE (Prod.snd t_1) i)) i) ∧ (0 : Int) ≤ (↑(Prod.fst t_1) : Int) ∧ (↑(Prod.fst t_1) : Int) < IntKind.wrap IntKind.i64 l0 ∧ IntKind.wrap IntKind.i64 l0 < (↑n : Int) ∧ (↑n : Int) ≤ (↑n : Int) ∧ n < (1099511627776 : Nat) ∧ KSrt wK (seg (fun (i : Nat) => vtG (fC vtE (Prod.snd t_1) i)) l5 l4) ∧ KSrt wK (seg (fun (i : Nat) => vtG (fC vtE (Prod.snd t_1) i)) l4 (Int.toNat (↑n : Int))) ∧ ∃ (t_2 : Nat × (Nat → VT)), (↑n : Int) = (↑n : Int) ∧ Value.func (Fn.func (49 : FuncId)) #[] #[] = Value.func (Fn.func (49 : FuncId)) #[] #[] ∧ IntKind.wrap IntKind.i64 (l3 * (2 : Int)) = (↑(Prod.fst t_2) : Int) ∧ n = n ∧ (∀ (i : Nat), i < n → fC vtE (sgF wK (fun (i : Nat) => vtG (fC vtE (Prod.snd t_1) i)) l5 (Int.toNat (↑n : Int))) i = fC vtE (Prod.snd t_2) i) ∧ ((20 : Nat) ≤ Prod.fst t_2 ∧ (Prod.fst t_2 = (20 : Nat) ∨ Prod.fst t_2 < (2 : Nat) * n) ∧ KSame wK (seg (Prod.snd t_2) (0 : Nat) n) (seg B (0 : Nat) n) ∧ SB wK (Prod.fst t_2) (Prod.snd t_2) (0 : Nat) n n) ∧ n - Prod.fst t_2 < n - Prod.fst t ∧ True) (∃ (t_2 : Nat × (Nat → VT)), (↑n : Int) = (↑n : Int) ∧ Value.func (Fn.func (49 : FuncId)) #[] #[] = Value.func (Fn.func (49 : FuncId)) #[] #[] ∧ IntKind.wrap IntKind.i64 (l3 * (2 : Int)) = (↑(Prod.fst t_2) : Int) ∧ n = n ∧ (∀ (i : Nat), i < n → fC vtE (Prod.snd t_1) i = fC vtE (Prod.snd t_2) i) ∧ ((20 : Nat) ≤ Prod.fst t_2 ∧ (Prod.fst t_2 = (20 : Nat) ∨ Prod.fst t_2 < (2 : Nat) * n) ∧ KSame wK (seg (Prod.snd t_2) (0 : Nat) n) (seg B (0 : Nat) n) ∧ SB wK (Prod.fst t_2) (Prod.snd t_2) (0 : Nat) n n) ∧ n - Prod.fst t_2 < n - Prod.fst t ∧ True))) (n = n ∧ (∀ (i : Nat), i < n → fC vtE (Prod.snd t) i = fC vtE (sgF wK B (0 : Nat) n) i) ∧ True))) (by kernel_rfl) (by
    conv => zeta
    obtain ⟨h5, _⟩ := hp
    simp only [Int.toNat_natCast, true_and, and_true, implies_true, fC_vt]
    refine ⟨⟨(0, B), rfl, rfl, fun i hi => rfl, Nat.dvd_zero _, Nat.zero_le _, KSame.refl _, fun t _ _ h => absurd h (Nat.not_lt_zero _)⟩, ?_⟩
    rintro ⟨a, C⟩ ⟨d1, d2, d3, d4⟩
    dsimp only at d1 d2 d3 d4 ⊢
    refine brI (fun hc => ?_) (fun hc => ?_)
    · have hc : a + 20 ≤ n := by have := of_decide_eq_true hc; omega
      refine ⟨by omega, by omega, by omega, h5, (a + 20, sgF wK C a (a + 20)), rfl, by dsimp only; rw [wi _ (by omega) (by omega)]; rfl, fun i hi => rfl, ⟨Nat.dvd_add d1 (Nat.dvd_refl _), hc, (sgF_same C (by omega) hc).trans d3, SB_step d1 d4 (by omega)⟩, by dsimp only; omega⟩
    · have hc : n < a + 20 := by have := of_decide_eq_false hc; omega
      refine ⟨by omega, by omega, Int.le_refl _, h5, ⟨(20, sgF wK C a n), rfl, fun i hi => rfl, Nat.le_refl _, .inl rfl, (sgF_same C d2 (Nat.le_refl _)).trans d3, SB_less (SB_step d1 d4 (by omega)) (Nat.le_refl _) (by omega)⟩, ?_⟩
      rintro ⟨s, C⟩ ⟨c1, c2, c3, c4⟩
      dsimp only at c1 c2 c3 c4 ⊢
      refine brI (fun hd => ?_) (fun hd => ?_)
      · have hd : s < n := by have := of_decide_eq_true hd; omega
        have em : n - (n - s) = s := by omega
        simp only [em, true_and]
        have w2 : IntKind.wrap .i64 (2 * (s : Int)) = ((2 * s : Nat) : Int) := by rw [wi _ (by omega) (by omega)]; omega
        have w3 : IntKind.wrap .i64 ((s : Int) * 2) = ((2 * s : Nat) : Int) := by rw [wi _ (by omega) (by omega)]; omega
        rw [w2]
        refine ⟨⟨(0, C), rfl, by dsimp only; omega, fun i hi => rfl, Nat.dvd_zero _, Nat.zero_le _, c3, (fun t _ _ h => absurd h (Nat.not_lt_zero _)), c4⟩, ?_⟩
        rintro ⟨a, C⟩ ⟨e1, e2, e3, e4, e5⟩
        dsimp only at e1 e2 e3 e4 e5 ⊢
        have e1' : s ∣ a := Nat.dvd_trans (Nat.dvd_mul_left s 2) e1
        have w4 : IntKind.wrap .i64 ((a : Int) + s) = ((a + s : Nat) : Int) := by rw [wi _ (by omega) (by omega)]; rfl
        rw [w4]
        refine brI (fun he => ?_) (fun he => ?_)
        · have he : a + 2 * s ≤ n := by have := of_decide_eq_true he; omega
          have p1 := e5 a e1' (Nat.le_refl _) (by omega)
          have p2 := e5 (a + s) (Nat.dvd_add e1' (Nat.dvd_refl _)) (by omega) (by omega)
          rw [show min (a + s) n = a + s by omega] at p1
          rw [show min (a + s + s) n = a + 2 * s by omega] at p2
          simp only [Int.toNat_natCast]
          refine ⟨by omega, by omega, by omega, by omega, h5, p1, p2, (a + 2 * s, sgF wK C a (a + 2 * s)), rfl, by dsimp only; rw [wi _ (by omega) (by omega)]; omega, fun i hi => rfl, ⟨Nat.dvd_add e1 (Nat.dvd_refl _), he, (sgF_same C (by omega) he).trans e3, SB_step e1 e4 (by omega), SB_keep e5 (Nat.le_refl _) (by omega)⟩, by dsimp only; omega⟩
        · have he : n < a + 2 * s := by have := of_decide_eq_false he; omega
          have nx : SB wK (2 * s) (sgF wK C a n) 0 n n := SB_less (SB_step e1 e4 (show min (a + 2 * s) n = n by omega)) (Nat.le_refl _) (by omega)
          rw [w3]
          refine brI (fun hg => ?_) (fun hg => ?_)
          · have hg : a + s < n := by have := of_decide_eq_true hg; omega
            have p1 := e5 a e1' (Nat.le_refl _) (by omega)
            have p2 := e5 (a + s) (Nat.dvd_add e1' (Nat.dvd_refl _)) (by omega) (by omega)
            rw [show min (a + s) n = a + s by omega] at p1
            rw [show min (a + s + s) n = n by omega] at p2
            simp only [Int.toNat_natCast]
            refine ⟨by omega, by omega, by omega, Int.le_refl _, h5, p1, p2, (2 * s, sgF wK C a n), rfl, fun i hi => rfl, ⟨by dsimp only; omega, .inr (by dsimp only; omega), (sgF_same C e2 (Nat.le_refl _)).trans e3, nx⟩, by dsimp only; omega⟩
          · have hg : n ≤ a + s := by have := of_decide_eq_false hg; omega
            have self : sgF wK C a n = C := by
              rcases Nat.lt_or_ge a n with ha | ha
              · refine sgF_self C ?_
                have p1 := e5 a e1' (Nat.le_refl _) ha
                rwa [show min (a + s) n = n by omega] at p1
              · exact sgF_triv C (by omega)
            rw [self] at nx
            refine ⟨(2 * s, C), rfl, fun i hi => rfl, ⟨by dsimp only; omega, .inr (by dsimp only; omega), e3, nx⟩, by dsimp only; omega⟩
      · have hd : n ≤ s := by have := of_decide_eq_false hd; omega
        intro i hi
        have hs : KSrt wK (seg C 0 n) := by
          have := c4 0 (Nat.dvd_zero _) (Nat.le_refl _) (by omega)
          rwa [show min (0 + s) n = n by omega] at this
        show vtE (C i) = vtE _
        rw [sb_done c3 hs i hi]))
noncomputable def gslicesstableCmpFuncapiVote : Con := fun args H => match args, H with
  | [.a (.rw 100000), .a (.d (.v (.int .i64 x))), .a (.d (.v (.func f1 f2 f3)))], [(100000, .row (.st 69 n c) ty)] => (fun (n : Nat) (B : Nat → VT) => conC args H [.a (.rw 100000), .a (.d (.v (.int .i64 (n : Int)))), .a (.d (.v (.func (.func 49) #[] #[])))] [(100000, .row (.st 69 n (fC vtE B)) 49)] ⟨[n < 1099511627776], .t [], [(100000, .row (.st 69 n (fC vtE (sgF wK B 0 n))) 49)]⟩) (n) ((fun i => vtG (c i)))
  | _, _ => none
theorem vslicesstableCmpFuncapiVote : Valid Tryd.prog Gs 67 gslicesstableCmpFuncapiVote := by
  intro args H r h hp
  unfold gslicesstableCmpFuncapiVote at h
  split at h
  · rename_i x f1 f2 f3 n c ty
    exact conC_ok h hp fun hp => okslicesstableCmpFuncapiVote (n) ((fun i => vtG (c i))) hp
  · cases h
noncomputable def ct_slicesstableCmpFuncapiVote : List (Nat × Ct) := (67, ⟨[true], false, gslicesstableCmpFuncapiVote, none⟩) :: ct_slicessymMergeCmpFuncapiVote
theorem ctok_slicesstableCmpFuncapiVote : CtsOk Tryd.prog Gs ct_slicesstableCmpFuncapiVote := CtsOk.cons vslicesstableCmpFuncapiVote (by kernel_rfl) ctok_slicessymMergeCmpFuncapiVote
theorem seg_list (L : List VT) : seg (fun i => L.getD i vtZ) 0 L.length = L := by
  apply List.ext_getElem? fun i => ?_
  by_cases h : i < L.length
  · rw [seg_get _ (by omega), Nat.zero_add, List.getD_eq_getElem?_getD, List.getElem?_eq_getElem h]; rfl
  · rw [seg_get2 _ (by omega), List.getElem?_eq_none (by omega)]
theorem sgF_list (L : List VT) {i : Nat} (h : i < L.length) : sgF wK (fun i => L.getD i vtZ) 0 L.length i = (stb wK L).getD i vtZ := by
  unfold sgF
  rw [seg_list]
  have hl : i < (stb wK L).length := by rw [stb_len]; exact h
  have := pf_get (fun i => L.getD i vtZ) (a := 0) (List.getElem?_eq_getElem hl)
  rw [Nat.zero_add] at this
  rw [this, List.getD_eq_getElem?_getD, List.getElem?_eq_getElem hl]; rfl
noncomputable def anslicesSortStableFuncapiVoteapiVote (L : List VT) : Nat → List Nat → List Ann := fun _ _ => []
theorem okslicesSortStableFuncapiVoteapiVote (L : List VT) (hp : allP [L.length < 1099511627776]) : CallsOk Tryd.prog Gs 48 [.a (.rw 100000), .a (.d (.v (.func (.func 49) #[] #[])))] [(100000, .row (.st 69 L.length (lC vtE vtZ L)) 49)] (.t []) [(100000, .row (.st 69 (stb wK L).length (lC vtE vtZ (stb wK L))) 49)] :=
  ok_of (ann := anslicesSortStableFuncapiVoteapiVote L) ctok_slicesstableCmpFuncapiVote mixed Tryd.func48 (by kernel_rfl) (of_nf (p := (↑((List.length L)) : Int) = (↑(List.length L) : Int) ∧ Value.func (Fn.func (49 : FuncId)) #[] #[] = Value.func (Fn.func (49 : FuncId)) #[] #[] ∧ List.length L = List.length L ∧ (∀ (i : Nat), i < List.length L → lC vtE vtZ L i = fC vtE (fun (i : Nat) => vtG (lC vtE vtZ L i)) i) ∧ List.length L < (1099511627776 : Nat) ∧ List.length L = List.length (stb wK L) ∧ (∀ (i : Nat), i < List.length (stb wK L) → fC vtE (sgF wK (fun (i : Nat) => vtG (lC vtE vtZ L i)) (0 : Nat) (List.length L)) i = lC vtE vtZ (stb wK L) i) ∧ True) (by kernel_rfl) (by
    obtain ⟨h, _⟩ := hp
    rw [stb_len]
    simp only [Int.toNat_natCast, true_and, and_true, implies_true]
    exact ⟨fun i hi => rfl, h, fun i hi => by show vtE _ = vtE _; rw [← sgF_list L hi]; rfl⟩))
noncomputable def gslicesSortStableFuncapiVoteapiVote : Con := fun args H => match args, H with
  | [.a (.rw 100000), .a (.d (.v (.func f1 f2 f3)))], [(100000, .row (.st 69 n c) ty)] => (fun (L : List VT) => conC args H [.a (.rw 100000), .a (.d (.v (.func (.func 49) #[] #[])))] [(100000, .row (.st 69 L.length (lC vtE vtZ L)) 49)] ⟨[L.length < 1099511627776], .t [], [(100000, .row (.st 69 (stb wK L).length (lC vtE vtZ (stb wK L))) 49)]⟩) ((lL vtG n c))
  | _, _ => none
theorem vslicesSortStableFuncapiVoteapiVote : Valid Tryd.prog Gs 48 gslicesSortStableFuncapiVoteapiVote := by
  intro args H r h hp
  unfold gslicesSortStableFuncapiVoteapiVote at h
  split at h
  · rename_i f1 f2 f3 n c ty
    exact conC_ok h hp fun hp => okslicesSortStableFuncapiVoteapiVote ((lL vtG n c)) hp
  · cases h
noncomputable def ct_slicesSortStableFuncapiVoteapiVote : List (Nat × Ct) := (48, ⟨[true], false, gslicesSortStableFuncapiVoteapiVote, none⟩) :: ct_slicesstableCmpFuncapiVote
theorem ctok_slicesSortStableFuncapiVoteapiVote : CtsOk Tryd.prog Gs ct_slicesSortStableFuncapiVoteapiVote := CtsOk.cons vslicesSortStableFuncapiVoteapiVote (by kernel_rfl) ctok_slicesstableCmpFuncapiVote
noncomputable def anslicesCloneapiVoteapiVotec (m : Nat) (c : Nat → List DC) : Nat → List Nat → List Ann := fun _ _ => []
theorem okslicesCloneapiVoteapiVotec (m : Nat) (c : Nat → List DC) (hp : allP [m + 200 ≤ lim]) : CallsOk Tryd.prog Gs 47 [.a (.d (.sl 69 (m + 1) c))] [] (.s (.a (.rw 0))) [(0, .row (.st 69 (m + 1) c) 49)] :=
  ok_of (ann := anslicesCloneapiVoteapiVotec m c) ctok_slicesSortStableFuncapiVoteapiVote mixed Tryd.func47 (by kernel_rfl) (of_nf (p := Cont.len (Cont.st (69 : Nat) (0 : Nat) fun (i : Nat) => (List.getD ([] : List (List DC)) i [])) + Cont.len (Cont.st (69 : Nat) (m + (1 : Nat)) c) ≤ lim ∧ (0 : Nat) + (m + (1 : Nat)) = m + (1 : Nat) ∧ (∀ (i : Nat), i < m + (1 : Nat) → catF (0 : Nat) (fun (i : Nat) => (List.getD ([] : List (List DC)) i [])) c i = c i) ∧ True) (by kernel_rfl) (by
    exact ⟨by have := hp.1; show 0 + (m + 1) ≤ lim; omega, by omega, fun i hi => rfl, trivial⟩))
noncomputable def anslicesCloneapiVoteapiVoten (c : Nat → List DC) (cap : Nat) : Nat → List Nat → List Ann := fun _ _ => []
theorem okslicesCloneapiVoteapiVoten (c : Nat → List DC) (cap : Nat) : CallsOk Tryd.prog Gs 47 [.a (.d (.v (.slice none 0 cap)))] [] (.s (.a (.rw 0))) [(0, .row (.st 69 0 c) 49)] :=
  ok_of (ann := anslicesCloneapiVoteapiVoten c cap) ctok_slicesSortStableFuncapiVoteapiVote mixed Tryd.func47 (by kernel_rfl) (of_nf (p := (0 : Nat) = (0 : Nat) ∧ (∀ (i : Nat), i < (0 : Nat) → c i = c i) ∧ True) (by kernel_rfl) (by
    exact ⟨rfl, fun i hi => rfl, trivial⟩))
noncomputable def anslicesCloneapiVoteapiVotee (c : Nat → List DC) (ad : Addr) (cap : Nat) : Nat → List Nat → List Ann := fun _ _ => []
theorem okslicesCloneapiVoteapiVotee (c : Nat → List DC) (ad : Addr) (cap : Nat) : CallsOk Tryd.prog Gs 47 [.a (.d (.v (.slice (some ad) 0 cap)))] [] (.s (.a (.rw 0))) [(0, .row (.st 69 0 c) 49)] :=
  ok_of (ann := anslicesCloneapiVoteapiVotee c ad cap) ctok_slicesSortStableFuncapiVoteapiVote mixed Tryd.func47 (by kernel_rfl) (of_nf (p := Cont.len (Cont.st (69 : Nat) (0 : Nat) fun (i : Nat) => (List.getD ([] : List (List DC)) i [])) + Cont.len (emptyC (Cont.st (69 : Nat) (0 : Nat) fun (i : Nat) => (List.getD ([] : List (List DC)) i []))) ≤ lim ∧ (0 : Nat) + (0 : Nat) = (0 : Nat) ∧ (∀ (i : Nat), i < (0 : Nat) → catF (0 : Nat) (fun (i : Nat) => (List.getD ([] : List (List DC)) i [])) (fun (i : Nat) => (List.getD ([] : List (List DC)) i [])) i = c i) ∧ True) (by kernel_rfl) (by
    exact ⟨Nat.zero_le _, rfl, fun i hi => absurd hi (Nat.not_lt_zero _), trivial⟩))
noncomputable def anslicesCloneapiVoteapiVote (n : Nat) (c : Nat → List DC) : Nat → List Nat → List Ann := fun _ _ => []
theorem okslicesCloneapiVoteapiVote (n : Nat) (c : Nat → List DC) (hp : allP [n + 200 ≤ lim]) : CallsOk Tryd.prog Gs 47 [.a (.d (.sl 69 n c))] [] (.s (.a (.rw 0))) [(0, .row (.st 69 n c) 49)] := by
  cases n with
  | succ m => exact okslicesCloneapiVoteapiVotec m c ⟨by have := hp.1; omega, trivial⟩
  | zero =>
    intro w F ρ us hL hO hG
    obtain ⟨u, r, rfl, h1, h2⟩ := hL
    obtain ⟨a, cap, rfl, hc, _⟩ := h1
    cases a with
    | none =>
      exact okslicesCloneapiVoteapiVoten c cap w F ρ _ ⟨_, _, rfl, rfl, h2⟩ hO hG
    | some ad => exact okslicesCloneapiVoteapiVotee c ad cap w F ρ _ ⟨_, _, rfl, rfl, h2⟩ hO hG
noncomputable def gslicesCloneapiVoteapiVote : Con := fun args H => match args, H with
  | [.a (.d (.sl 69 n c))], [] => some ⟨[n + 200 ≤ lim], .s (.a (.rw 0)), [(0, .row (.st 69 n c) 49)]⟩
  | _, _ => none
theorem vslicesCloneapiVoteapiVote : Valid Tryd.prog Gs 47 gslicesCloneapiVoteapiVote := by
  intro args H r h hp
  unfold gslicesCloneapiVoteapiVote at h
  split at h
  · simp only [Option.some.injEq] at h; subst h; exact okslicesCloneapiVoteapiVote _ _ hp
  · cases h
noncomputable def ct_slicesCloneapiVoteapiVote : List (Nat × Ct) := (47, ⟨[], false, gslicesCloneapiVoteapiVote, none⟩) :: ct_slicesSortStableFuncapiVoteapiVote
theorem ctok_slicesCloneapiVoteapiVote : CtsOk Tryd.prog Gs ct_slicesCloneapiVoteapiVote := CtsOk.cons vslicesCloneapiVoteapiVote (by kernel_rfl) ctok_slicesSortStableFuncapiVoteapiVote
end Go.Proofs.YtlgffgnkkihaoaaDoor
