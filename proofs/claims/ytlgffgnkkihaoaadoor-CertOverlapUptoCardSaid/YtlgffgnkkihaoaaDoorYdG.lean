/- Certificates: rings, and what the laws begin with. -/
import Derived.Test.YtlgffgnkkihaoaaDoorYdF
namespace Go.Proofs.YtlgffgnkkihaoaaDoor
open Go.Dx Go.RowKit
set_option linter.unusedVariables false
set_option linter.unusedSimpArgs false
set_option maxRecDepth 100000
attribute [local irreducible] wpS
attribute [local irreducible] sumB joinB
theorem snD (s : ByteArray) : strOfNums (numsOf s) = s := by
  show ⟨((s.data.toList.map fun b : UInt8 => (b.toNat : Int)).map fun n : Int => UInt8.ofNat n.toNat).toArray⟩ = s
  rw [List.map_map]
  have : ((fun n : Int => UInt8.ofNat n.toNat) ∘ fun b : UInt8 => (b.toNat : Int)) = id := by
    funext b; simp
  rw [this, List.map_id]
theorem nlD (s : ByteArray) : (numsOf s).length = s.size := by simp [numsOf]
/-- The ring behind signings. -/
def rgs (l : List SG) : List SG := l.foldl (fun L x => sgn 12 65536 L x.1 x.2.1 x.2.2) []
theorem rgs_snoc (l : List SG) (x : SG) : rgs (l ++ [x]) = sgn 12 65536 (rgs l) x.1 x.2.1 x.2.2 := by unfold rgs; rw [List.foldl_append]; rfl
theorem addS_leD (L : List SG) (x : SG) : (addS L x).length ≤ L.length + 1 := by
  unfold addS; split <;> simp
theorem sgn_leD (n b : Int) (L : List SG) (k i : Int) (s : ByteArray) : (sgn n b L k i s).length ≤ L.length + 1 := by
  unfold sgn
  split
  · exact addS_leD _ _
  · omega
theorem rgs_le (l : List SG) : (rgs l).length ≤ l.length := by
  have : ∀ (l : List SG) (L : List SG), (l.foldl (fun L x => sgn 12 65536 L x.1 x.2.1 x.2.2) L).length ≤ L.length + l.length := fun l => by
    induction l with
    | nil => intro L; simp
    | cons x r ih =>
      intro L
      have h1 := ih (sgn 12 65536 L x.1 x.2.1 x.2.2)
      have h2 := sgn_leD 12 65536 L x.1 x.2.1 x.2.2
      simp only [List.foldl_cons, List.length_cons]
      omega
  have := this l []
  simpa [rgs] using this
theorem take_g {l : List SG} {t : Nat} (h : t < l.length) : l.take (t + 1) = l.take t ++ [l.getD t sgZ] := by
  rw [List.take_succ_eq_append_getElem h, List.getD_eq_getElem?_getD, List.getElem?_eq_getElem h]; rfl
noncomputable def anL06rings (l : List SG) : Nat → List Nat → List Ann := fun bk_ gs_ => match bk_, gs_ with
    | 0, _ => [{ τ := Nat, t0 := (default : Nat), J := fun i => i ≤ l.length, m := fun i => l.length - i, l := fun i => [(0, .s (.a (.d (.sl 3 l.length (lC sgE sgZ l))))), (4, .s (.a (.lp 304 0))), (5, .s (.a (.lp 306 0))), (6, eI .i64 (i : Int))], H := fun i => [(300, .mp 107 false [.i .i64] (hasC (rgs (l.take i))) (valC (rgs (l.take i))) [] (ghS (rgs (l.take i)))), (301, .mp 106 false [.i .i64] (hasR (rgs (l.take i))) (valR (rgs (l.take i))) [] (ghS (rgs (l.take i)))), (302, .mp 105 true [.i .i64, .i .i64] (hasF (rgs (l.take i))) (valF (rgs (l.take i))) [] (ghS (rgs (l.take i)))), (303, .mp 104 true [.i .i64, .i .i64, .s] (hasM (rgs (l.take i))) (valM (rgs (l.take i))) [] (ghS (rgs (l.take i)))), (304, .cells [.one (.d (.v (.int .i64 (12)))), .one (.d (.v (.int .i64 (65536)))), .one (.mp 303), .one (.mp 302), .one (.mp 301), .one (.mp 300)] 109), (305, .row (.st 3 ((rgs (l.take i))).length (lC sgE sgZ ((rgs (l.take i))))) 80), (306, .cells [.one (.d (.v (.int .i64 12))), .one (.d (.v (.int .i64 65536))), .one (.rw 305)] 121)] }]
    | _, _ => []
theorem okL06rings (l : List SG) (hp : allP [l.length < 1073741824, ∀ x ∈ l, x.2.2.size + 300 ≤ lim]) : CallsOk Tryd.prog Gs 10 [.a (.d (.sl 3 l.length (lC sgE sgZ l)))] [] (.t [.a (.lp 4 0), .a (.lp 6 0)]) [(0, .mp 107 false [.i .i64] (hasC (rgs l)) (valC (rgs l)) [] (ghS (rgs l))), (1, .mp 106 false [.i .i64] (hasR (rgs l)) (valR (rgs l)) [] (ghS (rgs l))), (2, .mp 105 true [.i .i64, .i .i64] (hasF (rgs l)) (valF (rgs l)) [] (ghS (rgs l))), (3, .mp 104 true [.i .i64, .i .i64, .s] (hasM (rgs l)) (valM (rgs l)) [] (ghS (rgs l))), (4, .cells [.one (.d (.v (.int .i64 (12)))), .one (.d (.v (.int .i64 (65536)))), .one (.mp 3), .one (.mp 2), .one (.mp 1), .one (.mp 0)] 109), (5, .row (.st 3 ((rgs l)).length (lC sgE sgZ ((rgs l)))) 80), (6, .cells [.one (.d (.v (.int .i64 12))), .one (.d (.v (.int .i64 65536))), .one (.rw 5)] 121)] :=
  ok_of (ann := anL06rings l) ctok_R06CheckQC mixed Tryd.func10 (by kernel_rfl) (of_nf (p := let l6 := ((1 : Int) ≤ (12 : Int) ∧ (12 : Int) ≤ (12 : Int) ∧ (1 : Int) ≤ (65536 : Int) ∧ (65536 : Int) ≤ (65536 : Int)); l6 ∧ l6 ∧ (∃ (t : Nat), List.length l = List.length l ∧ (∀ (i : Nat), i < List.length l → lC sgE sgZ l i = lC sgE sgZ l i) ∧ (0 : Int) = (↑t : Int) ∧ MpEq [AS.i IntKind.i64] (hasC []) (hasC (rgs (List.take t l))) (valC []) (valC (rgs (List.take t l))) [] ∧ MpEq [AS.i IntKind.i64] (hasR []) (hasR (rgs (List.take t l))) (valR []) (valR (rgs (List.take t l))) [] ∧ MpEq [AS.i IntKind.i64, AS.i IntKind.i64] (hasF []) (hasF (rgs (List.take t l))) (valF []) (valF (rgs (List.take t l))) [] ∧ MpEq [AS.i IntKind.i64, AS.i IntKind.i64, AS.s] (hasM []) (hasM (rgs (List.take t l))) (valM []) (valM (rgs (List.take t l))) [] ∧ (12 : Int) = (12 : Int) ∧ (65536 : Int) = (65536 : Int) ∧ List.length ([] : List SG) = List.length (rgs (List.take t l)) ∧ (∀ (i : Nat), i < List.length (rgs (List.take t l)) → lC sgE sgZ [] i = lC sgE sgZ (rgs (List.take t l)) i) ∧ (12 : Int) = (12 : Int) ∧ (65536 : Int) = (65536 : Int) ∧ t ≤ List.length l ∧ True) ∧ ∀ (t : Nat), let l4 := (shS (ghS (rgs (List.take t l)))); let l3 := ((0 : Int) ≤ (↑t : Int) ∧ (↑t : Int) < (↑(List.length l) : Int)); let l2 := (lL sgD (List.length (rgs (List.take t l))) (lC sgE sgZ (rgs (List.take t l)))); let l1 := (List.getD l (Int.toNat (↑t : Int)) sgZ); let l5 := (Prod.snd (Prod.snd l1)); let l7 := (sgn (12 : Int) (65536 : Int) l2 (Prod.fst l1) (Prod.fst (Prod.snd l1)) l5); let l0 := (sgn (12 : Int) (65536 : Int) l4 (Prod.fst l1) (Prod.fst (Prod.snd l1)) (strOfNums (numsOf l5))); t ≤ List.length l → brP (decide ((↑t : Int) < (↑(List.length l) : Int))) (l3 ∧ l3 ∧ l3 ∧ Prod.fst l1 = Prod.fst l1 ∧ Prod.fst (Prod.snd l1) = Prod.fst (Prod.snd l1) ∧ numsOf l5 = numsOf l5 ∧ MpEq [AS.i IntKind.i64] (hasC (rgs (List.take t l))) (hasC l4) (valC (rgs (List.take t l))) (valC l4) [] ∧ MpEq [AS.i IntKind.i64] (hasR (rgs (List.take t l))) (hasR l4) (valR (rgs (List.take t l))) (valR l4) [] ∧ MpEq [AS.i IntKind.i64, AS.i IntKind.i64] (hasF (rgs (List.take t l))) (hasF l4) (valF (rgs (List.take t l))) (valF l4) [] ∧ MpEq [AS.i IntKind.i64, AS.i IntKind.i64, AS.s] (hasM (rgs (List.take t l))) (hasM l4) (valM (rgs (List.take t l))) (valM l4) [] ∧ (12 : Int) = (12 : Int) ∧ (65536 : Int) = (65536 : Int) ∧ OkB (numsOf l5) ∧ List.length (numsOf l5) + (300 : Nat) ≤ lim ∧ List.length l4 < (1099511627776 : Nat) ∧ l3 ∧ l3 ∧ l3 ∧ Prod.fst l1 = Prod.fst l1 ∧ Prod.fst (Prod.snd l1) = Prod.fst (Prod.snd l1) ∧ Prod.snd (Prod.snd l1) = Prod.snd (Prod.snd l1) ∧ List.length (rgs (List.take t l)) = List.length l2 ∧ (∀ (i : Nat), i < List.length l2 → lC sgE sgZ (rgs (List.take t l)) i = lC sgE sgZ l2 i) ∧ (12 : Int) = (12 : Int) ∧ (65536 : Int) = (65536 : Int) ∧ ByteArray.size l5 + (300 : Nat) ≤ lim ∧ List.length l2 < (1073741824 : Nat) ∧ ∃ (t_1 : Nat), List.length l = List.length l ∧ (∀ (i : Nat), i < List.length l → lC sgE sgZ l i = lC sgE sgZ l i) ∧ IntKind.wrap IntKind.i64 ((↑t : Int) + (1 : Int)) = (↑t_1 : Int) ∧ MpEq [AS.i IntKind.i64] (hasC l0) (hasC (rgs (List.take t_1 l))) (valC l0) (valC (rgs (List.take t_1 l))) [] ∧ MpEq [AS.i IntKind.i64] (hasR l0) (hasR (rgs (List.take t_1 l))) (valR l0) (valR (rgs (List.take t_1 l))) [] ∧ MpEq [AS.i IntKind.i64, AS.i IntKind.i64] (hasF l0) (hasF (rgs (List.take t_1 l))) (valF l0) (valF (rgs (List.take t_1 l))) [] ∧ MpEq [AS.i IntKind.i64, AS.i IntKind.i64, AS.s] (hasM l0) (hasM (rgs (List.take t_1 l))) (valM l0) (valM (rgs (List.take t_1 l))) [] ∧ (12 : Int) = (12 : Int) ∧ (65536 : Int) = (65536 : Int) ∧ List.length l7 = List.length (rgs (List.take t_1 l)) ∧ (∀ (i : Nat), i < List.length (rgs (List.take t_1 l)) → lC sgE sgZ l7 i = lC sgE sgZ (rgs (List.take t_1 l)) i) ∧ (12 : Int) = (12 : Int) ∧ (65536 : Int) = (65536 : Int) ∧ t_1 ≤ List.length l ∧ List.length l - t_1 < List.length l - t ∧ True) (MpEq [AS.i IntKind.i64] (hasC (rgs (List.take t l))) (hasC (rgs l)) (valC (rgs (List.take t l))) (valC (rgs l)) [] ∧ MpEq [AS.i IntKind.i64] (hasR (rgs (List.take t l))) (hasR (rgs l)) (valR (rgs (List.take t l))) (valR (rgs l)) [] ∧ MpEq [AS.i IntKind.i64, AS.i IntKind.i64] (hasF (rgs (List.take t l))) (hasF (rgs l)) (valF (rgs (List.take t l))) (valF (rgs l)) [] ∧ MpEq [AS.i IntKind.i64, AS.i IntKind.i64, AS.s] (hasM (rgs (List.take t l))) (hasM (rgs l)) (valM (rgs (List.take t l))) (valM (rgs l)) [] ∧ (12 : Int) = (12 : Int) ∧ (65536 : Int) = (65536 : Int) ∧ List.length (rgs (List.take t l)) = List.length (rgs l) ∧ (∀ (i : Nat), i < List.length (rgs l) → lC sgE sgZ (rgs (List.take t l)) i = lC sgE sgZ (rgs l) i) ∧ (12 : Int) = (12 : Int) ∧ (65536 : Int) = (65536 : Int) ∧ True)) (by kernel_rfl) (by
    conv => zeta
    obtain ⟨hl, hs, _⟩ := hp
    simp only [Int.toNat_natCast, true_and, and_true, implies_true, lL_self nuG_nuE, lL_self siG_siE, rcEta, qcEta, vtEta, siEta, lL_self sgD_sgE, shS_ghS, mpC, mpR, mpF, mpM]
    refine ⟨by decide, by decide, ⟨0, rfl, MpEq.self fun _ => rfl, MpEq.self fun _ => rfl, MpEq.self fun _ => rfl, MpEq.self fun _ => rfl, rfl, fun i hi => absurd hi (Nat.not_lt_zero i), Nat.zero_le _⟩, fun t ht => ?_⟩
    refine brI (fun hc => ?_) (fun hc => ?_)
    · have hc : t < l.length := by have := of_decide_eq_true hc; omega
      have e1 : rgs (l.take (t + 1)) = sgn 12 65536 (rgs (l.take t)) (l.getD t sgZ).1 (l.getD t sgZ).2.1 (l.getD t sgZ).2.2 := by rw [take_g hc, rgs_snoc]
      have hm : l.getD t sgZ ∈ l := by rw [List.getD_eq_getElem?_getD, List.getElem?_eq_getElem hc]; exact List.getElem_mem hc
      have h1 := hs _ hm
      have h2 := rgs_le (l.take t)
      rw [List.length_take] at h2
      simp only [snD]
      exact ⟨⟨by omega, by omega⟩, ⟨by omega, by omega⟩, ⟨by omega, by omega⟩, nums_ok _, by rw [nlD]; exact h1, by omega, ⟨by omega, by omega⟩, ⟨by omega, by omega⟩, ⟨by omega, by omega⟩, h1, by omega,
        t + 1, by rw [wi _ (by omega) (by omega)]; rfl, by rw [e1]; exact MpEq.self fun _ => rfl, by rw [e1]; exact MpEq.self fun _ => rfl, by rw [e1]; exact MpEq.self fun _ => rfl, by rw [e1]; exact MpEq.self fun _ => rfl, by rw [e1], fun i hi => by rw [e1], hc, by omega⟩
    · have hc : t = l.length := by have := of_decide_eq_false hc; omega
      rw [hc, List.take_of_length_le (Nat.le_refl _)]
      exact ⟨MpEq.self fun _ => rfl, MpEq.self fun _ => rfl, MpEq.self fun _ => rfl, MpEq.self fun _ => rfl, rfl, fun i hi => rfl⟩))
noncomputable def gL06rings : Con := fun args H => match args, H with
  | [.a (.d (.sl 3 n c))], [] => (fun (l : List SG) => conC args H [.a (.d (.sl 3 l.length (lC sgE sgZ l)))] [] ⟨[l.length < 1073741824, ∀ x ∈ l, x.2.2.size + 300 ≤ lim], .t [.a (.lp 4 0), .a (.lp 6 0)], [(0, .mp 107 false [.i .i64] (hasC (rgs l)) (valC (rgs l)) [] (ghS (rgs l))), (1, .mp 106 false [.i .i64] (hasR (rgs l)) (valR (rgs l)) [] (ghS (rgs l))), (2, .mp 105 true [.i .i64, .i .i64] (hasF (rgs l)) (valF (rgs l)) [] (ghS (rgs l))), (3, .mp 104 true [.i .i64, .i .i64, .s] (hasM (rgs l)) (valM (rgs l)) [] (ghS (rgs l))), (4, .cells [.one (.d (.v (.int .i64 (12)))), .one (.d (.v (.int .i64 (65536)))), .one (.mp 3), .one (.mp 2), .one (.mp 1), .one (.mp 0)] 109), (5, .row (.st 3 ((rgs l)).length (lC sgE sgZ ((rgs l)))) 80), (6, .cells [.one (.d (.v (.int .i64 12))), .one (.d (.v (.int .i64 65536))), .one (.rw 5)] 121)]⟩) ((lL sgD n c))
  | _, _ => none
theorem vL06rings : Valid Tryd.prog Gs 10 gL06rings := by
  intro args H r h hp
  unfold gL06rings at h
  split at h
  · rename_i n c
    exact conC_ok h hp fun hp => okL06rings ((lL sgD n c)) hp
  · cases h
noncomputable def ct_L06rings : List (Nat × Ct) := (10, ⟨[], false, gL06rings, none⟩) :: ct_R06CheckQC
theorem ctok_L06rings : CtsOk Tryd.prog Gs ct_L06rings := CtsOk.cons vL06rings (by kernel_rfl) ctok_R06CheckQC
noncomputable def ancertCheckCommit (n b : Int) (L : List SG) (c : RC) (p : List HD) (q : QC) : Nat → List Nat → List Ann := fun _ _ => []
theorem okcertCheckCommit (n b : Int) (L : List SG) (c : RC) (p : List HD) (q : QC) (hp : allP [p.length < 3]) : CallsOk Tryd.prog Gs 26 [.a (.lp 100004 0), .agg [.one (.d (.v (.int .i64 (c).ep))), .one (.d (.si .i64 (c).mem)), .one (.d (.sl 1 ((c).seats).length (lC nuE [] ((c).seats))))], .agg [.one (.d (.sl 101 p.length (lC hdE hdZ p))), .one (.d (.v (.int .i64 (q).ch))), .one (.d (.v (.int .i64 (q).ep))), .one (.d (.v (.int .i64 (q).vw))), .ints .u8 32 (q).blk, .one (.d (.si .i64 (q).who)), .one (.d (.sl 33 ((q).sigs).length (lC siE siZ ((q).sigs))))]] [(100000, .mp 107 false [.i .i64] (hasC L) (valC L) [] (ghS L)), (100001, .mp 106 false [.i .i64] (hasR L) (valR L) [] (ghS L)), (100002, .mp 105 true [.i .i64, .i .i64] (hasF L) (valF L) [] (ghS L)), (100003, .mp 104 true [.i .i64, .i .i64, .s] (hasM L) (valM L) [] (ghS L)), (100004, .cells [.one (.d (.v (.int .i64 (n)))), .one (.d (.v (.int .i64 (b)))), .one (.mp 100003), .one (.mp 100002), .one (.mp 100001), .one (.mp 100000)] 109)] (eI .i64 5) [(100000, .mp 107 false [.i .i64] (hasC L) (valC L) [] (ghS L)), (100001, .mp 106 false [.i .i64] (hasR L) (valR L) [] (ghS L)), (100002, .mp 105 true [.i .i64, .i .i64] (hasF L) (valF L) [] (ghS L)), (100003, .mp 104 true [.i .i64, .i .i64, .s] (hasM L) (valM L) [] (ghS L)), (100004, .cells [.one (.d (.v (.int .i64 (n)))), .one (.d (.v (.int .i64 (b)))), .one (.mp 100003), .one (.mp 100002), .one (.mp 100001), .one (.mp 100000)] 109)] :=
  ok_of (ann := ancertCheckCommit n b L c p q) ctok_L06rings mixed Tryd.func26 (by kernel_rfl) (of_nf (p := brP (decide ((↑(List.length p) : Int) < (3 : Int))) ((5 : Int) = (5 : Int) ∧ MpEq [AS.i IntKind.i64] (hasC L) (hasC L) (valC L) (valC L) [] ∧ MpEq [AS.i IntKind.i64] (hasR L) (hasR L) (valR L) (valR L) [] ∧ MpEq [AS.i IntKind.i64, AS.i IntKind.i64] (hasF L) (hasF L) (valF L) (valF L) [] ∧ MpEq [AS.i IntKind.i64, AS.i IntKind.i64, AS.s] (hasM L) (hasM L) (valM L) (valM L) [] ∧ n = n ∧ b = b ∧ True) (brP (decide ((↑(List.length p) : Int) > (64 : Int))) ((5 : Int) = (5 : Int) ∧ MpEq [AS.i IntKind.i64] (hasC L) (hasC L) (valC L) (valC L) [] ∧ MpEq [AS.i IntKind.i64] (hasR L) (hasR L) (valR L) (valR L) [] ∧ MpEq [AS.i IntKind.i64, AS.i IntKind.i64] (hasF L) (hasF L) (valF L) (valF L) [] ∧ MpEq [AS.i IntKind.i64, AS.i IntKind.i64, AS.s] (hasM L) (hasM L) (valM L) (valM L) [] ∧ n = n ∧ b = b ∧ True) (((0 : Int) ≤ IntKind.wrap IntKind.i64 ((↑(List.length p) : Int) - (1 : Int)) ∧ IntKind.wrap IntKind.i64 ((↑(List.length p) : Int) - (1 : Int)) < (↑(List.length p) : Int)) ∧ False ∧ True))) (by kernel_rfl) (by
    obtain ⟨h, _⟩ := hp
    refine brI (fun _ => ?_) (fun h2 => by have := of_decide_eq_false h2; omega)
    exact ⟨rfl, MpEq.self fun _ => rfl, MpEq.self fun _ => rfl, MpEq.self fun _ => rfl, MpEq.self fun _ => rfl, rfl, rfl, trivial⟩))
noncomputable def gcertCheckCommit : Con := fun args H => match args, H with
  | [.a (.lp 100004 0), .agg [.one (.d (.v (.int .i64 x1))), .one (.d (.si .i64 x2)), .one (.d (.sl 1 x3 x4))], .agg [.one (.d (.sl 101 u v)), .one (.d (.v (.int .i64 y1))), .one (.d (.v (.int .i64 y2))), .one (.d (.v (.int .i64 y3))), .ints .u8 32 y4, .one (.d (.si .i64 y5)), .one (.d (.sl 33 y6 y7))]], [(100000, .mp m1 false q1 c1 w1 r1 g1), (100001, .mp m2 false q2 c2 w2 r2 g2), (100002, .mp m3 true q3 c3 w3 r3 g3), (100003, .mp m4 true q4 c4 w4 r4 g4), (100004, .cells (.one (.d (.v (.int .i64 n))) :: .one (.d (.v (.int .i64 b))) :: z) tz)] => (fun (n b : Int) (L : List SG) (c : RC) (p : List HD) (q : QC) => conC args H [.a (.lp 100004 0), .agg [.one (.d (.v (.int .i64 (c).ep))), .one (.d (.si .i64 (c).mem)), .one (.d (.sl 1 ((c).seats).length (lC nuE [] ((c).seats))))], .agg [.one (.d (.sl 101 p.length (lC hdE hdZ p))), .one (.d (.v (.int .i64 (q).ch))), .one (.d (.v (.int .i64 (q).ep))), .one (.d (.v (.int .i64 (q).vw))), .ints .u8 32 (q).blk, .one (.d (.si .i64 (q).who)), .one (.d (.sl 33 ((q).sigs).length (lC siE siZ ((q).sigs))))]] [(100000, .mp 107 false [.i .i64] (hasC L) (valC L) [] (ghS L)), (100001, .mp 106 false [.i .i64] (hasR L) (valR L) [] (ghS L)), (100002, .mp 105 true [.i .i64, .i .i64] (hasF L) (valF L) [] (ghS L)), (100003, .mp 104 true [.i .i64, .i .i64, .s] (hasM L) (valM L) [] (ghS L)), (100004, .cells [.one (.d (.v (.int .i64 (n)))), .one (.d (.v (.int .i64 (b)))), .one (.mp 100003), .one (.mp 100002), .one (.mp 100001), .one (.mp 100000)] 109)] ⟨[p.length < 3], eI .i64 5, [(100000, .mp 107 false [.i .i64] (hasC L) (valC L) [] (ghS L)), (100001, .mp 106 false [.i .i64] (hasR L) (valR L) [] (ghS L)), (100002, .mp 105 true [.i .i64, .i .i64] (hasF L) (valF L) [] (ghS L)), (100003, .mp 104 true [.i .i64, .i .i64, .s] (hasM L) (valM L) [] (ghS L)), (100004, .cells [.one (.d (.v (.int .i64 (n)))), .one (.d (.v (.int .i64 (b)))), .one (.mp 100003), .one (.mp 100002), .one (.mp 100001), .one (.mp 100000)] 109)]⟩) (n) (b) (shS g1) (⟨x1, x2, lL nuG x3 x4⟩) ((lL hdG u v)) (⟨y1, y2, y3, y4, y5, lL siG y6 y7⟩)
  | _, _ => none
theorem vcertCheckCommit : Valid Tryd.prog Gs 26 gcertCheckCommit := by
  intro args H r h hp
  unfold gcertCheckCommit at h
  split at h
  · rename_i x1 x2 x3 x4 u v y1 y2 y3 y4 y5 y6 y7 m1 q1 c1 w1 r1 g1 m2 q2 c2 w2 r2 g2 m3 q3 c3 w3 r3 g3 m4 q4 c4 w4 r4 g4 n b z tz
    exact conC_ok h hp fun hp => okcertCheckCommit (n) (b) (shS g1) (⟨x1, x2, lL nuG x3 x4⟩) ((lL hdG u v)) (⟨y1, y2, y3, y4, y5, lL siG y6 y7⟩) hp
  · cases h
noncomputable def ct_certCheckCommit : List (Nat × Ct) := (26, ⟨[true], false, gcertCheckCommit, none⟩) :: ct_L06rings
theorem ctok_certCheckCommit : CtsOk Tryd.prog Gs ct_certCheckCommit := CtsOk.cons vcertCheckCommit (by kernel_rfl) ctok_L06rings
noncomputable def ancertCheckFact (n b : Int) (L : List SG) (g : Nat) (rc : Nat → List DC) (p : List HD) (q : QC) (k v : List Int) (w : Bool) (x : List Int) : Nat → List Nat → List Ann := fun _ _ => []
theorem okcertCheckFact (n b : Int) (L : List SG) (g : Nat) (rc : Nat → List DC) (p : List HD) (q : QC) (k v : List Int) (w : Bool) (x : List Int) (hp : allP [p.length = 0]) : CallsOk Tryd.prog Gs 27 [.a (.lp 100004 0), .a (.d (.sl 3 g rc)), .agg [.one (.d (.sl 101 p.length (lC hdE hdZ p))), .one (.d (.v (.int .i64 (q).ch))), .one (.d (.v (.int .i64 (q).ep))), .one (.d (.v (.int .i64 (q).vw))), .ints .u8 32 (q).blk, .one (.d (.si .i64 (q).who)), .one (.d (.sl 33 ((q).sigs).length (lC siE siZ ((q).sigs)))), .ints .u8 32 k, .one (.d (.si .u8 v)), .one (.d (.v (.bool w))), .one (.d (.si .u8 x))]] [(100000, .mp 107 false [.i .i64] (hasC L) (valC L) [] (ghS L)), (100001, .mp 106 false [.i .i64] (hasR L) (valR L) [] (ghS L)), (100002, .mp 105 true [.i .i64, .i .i64] (hasF L) (valF L) [] (ghS L)), (100003, .mp 104 true [.i .i64, .i .i64, .s] (hasM L) (valM L) [] (ghS L)), (100004, .cells [.one (.d (.v (.int .i64 (n)))), .one (.d (.v (.int .i64 (b)))), .one (.mp 100003), .one (.mp 100002), .one (.mp 100001), .one (.mp 100000)] 109)] (eI .i64 5) [(100000, .mp 107 false [.i .i64] (hasC L) (valC L) [] (ghS L)), (100001, .mp 106 false [.i .i64] (hasR L) (valR L) [] (ghS L)), (100002, .mp 105 true [.i .i64, .i .i64] (hasF L) (valF L) [] (ghS L)), (100003, .mp 104 true [.i .i64, .i .i64, .s] (hasM L) (valM L) [] (ghS L)), (100004, .cells [.one (.d (.v (.int .i64 (n)))), .one (.d (.v (.int .i64 (b)))), .one (.mp 100003), .one (.mp 100002), .one (.mp 100001), .one (.mp 100000)] 109)] :=
  ok_of (ann := ancertCheckFact n b L g rc p q k v w x) ctok_certCheckCommit mixed Tryd.func27 (by kernel_rfl) (of_nf (p := brP ((↑(List.length p) : Int) == (0 : Int)) ((5 : Int) = (5 : Int) ∧ MpEq [AS.i IntKind.i64] (hasC L) (hasC L) (valC L) (valC L) [] ∧ MpEq [AS.i IntKind.i64] (hasR L) (hasR L) (valR L) (valR L) [] ∧ MpEq [AS.i IntKind.i64, AS.i IntKind.i64] (hasF L) (hasF L) (valF L) (valF L) [] ∧ MpEq [AS.i IntKind.i64, AS.i IntKind.i64, AS.s] (hasM L) (hasM L) (valM L) (valM L) [] ∧ n = n ∧ b = b ∧ True) (((0 : Int) ≤ (0 : Int) ∧ (0 : Int) < (↑(List.length p) : Int)) ∧ Bad { dst := some (25 : Nat), op := Op.call { callee := Callee.value (Operand.func (56 : Nat)), args := #[Operand.tmp (23 : Nat), Operand.tmp (24 : Nat)], argTypes := #[(114 : Nat), (116 : Nat)] }, type := (3 : Nat), pos := "cert.go:191", after := #[{ on := (0 : Nat), ground := Ground.data }, { on := (1 : Nat), ground := Ground.data }], guard := none })) (by kernel_rfl) (by
    obtain ⟨h, _⟩ := hp
    refine brI (fun _ => ?_) (fun h2 => by have := beq_eq_false_iff_ne.1 h2; omega)
    exact ⟨rfl, MpEq.self fun _ => rfl, MpEq.self fun _ => rfl, MpEq.self fun _ => rfl, MpEq.self fun _ => rfl, rfl, rfl, trivial⟩))
noncomputable def gcertCheckFact : Con := fun args H => match args, H with
  | [.a (.lp 100004 0), .a (.d (.sl 3 g rc)), .agg [.one (.d (.sl 101 u v0)), .one (.d (.v (.int .i64 y1))), .one (.d (.v (.int .i64 y2))), .one (.d (.v (.int .i64 y3))), .ints .u8 32 y4, .one (.d (.si .i64 y5)), .one (.d (.sl 33 y6 y7)), .ints .u8 32 k, .one (.d (.si .u8 v)), .one (.d (.v (.bool w))), .one (.d (.si .u8 x))]], [(100000, .mp m1 false q1 c1 w1 r1 g1), (100001, .mp m2 false q2 c2 w2 r2 g2), (100002, .mp m3 true q3 c3 w3 r3 g3), (100003, .mp m4 true q4 c4 w4 r4 g4), (100004, .cells (.one (.d (.v (.int .i64 n))) :: .one (.d (.v (.int .i64 b))) :: z) tz)] => (fun (n b : Int) (L : List SG) (g : Nat) (rc : Nat → List DC) (p : List HD) (q : QC) (k v : List Int) (w : Bool) (x : List Int) => conC args H [.a (.lp 100004 0), .a (.d (.sl 3 g rc)), .agg [.one (.d (.sl 101 p.length (lC hdE hdZ p))), .one (.d (.v (.int .i64 (q).ch))), .one (.d (.v (.int .i64 (q).ep))), .one (.d (.v (.int .i64 (q).vw))), .ints .u8 32 (q).blk, .one (.d (.si .i64 (q).who)), .one (.d (.sl 33 ((q).sigs).length (lC siE siZ ((q).sigs)))), .ints .u8 32 k, .one (.d (.si .u8 v)), .one (.d (.v (.bool w))), .one (.d (.si .u8 x))]] [(100000, .mp 107 false [.i .i64] (hasC L) (valC L) [] (ghS L)), (100001, .mp 106 false [.i .i64] (hasR L) (valR L) [] (ghS L)), (100002, .mp 105 true [.i .i64, .i .i64] (hasF L) (valF L) [] (ghS L)), (100003, .mp 104 true [.i .i64, .i .i64, .s] (hasM L) (valM L) [] (ghS L)), (100004, .cells [.one (.d (.v (.int .i64 (n)))), .one (.d (.v (.int .i64 (b)))), .one (.mp 100003), .one (.mp 100002), .one (.mp 100001), .one (.mp 100000)] 109)] ⟨[p.length = 0], eI .i64 5, [(100000, .mp 107 false [.i .i64] (hasC L) (valC L) [] (ghS L)), (100001, .mp 106 false [.i .i64] (hasR L) (valR L) [] (ghS L)), (100002, .mp 105 true [.i .i64, .i .i64] (hasF L) (valF L) [] (ghS L)), (100003, .mp 104 true [.i .i64, .i .i64, .s] (hasM L) (valM L) [] (ghS L)), (100004, .cells [.one (.d (.v (.int .i64 (n)))), .one (.d (.v (.int .i64 (b)))), .one (.mp 100003), .one (.mp 100002), .one (.mp 100001), .one (.mp 100000)] 109)]⟩) (n) (b) (shS g1) (g) (rc) ((lL hdG u v0)) (⟨y1, y2, y3, y4, y5, lL siG y6 y7⟩) (k) (v) (w) (x)
  | _, _ => none
theorem vcertCheckFact : Valid Tryd.prog Gs 27 gcertCheckFact := by
  intro args H r h hp
  unfold gcertCheckFact at h
  split at h
  · rename_i g rc u v0 y1 y2 y3 y4 y5 y6 y7 k v w x m1 q1 c1 w1 r1 g1 m2 q2 c2 w2 r2 g2 m3 q3 c3 w3 r3 g3 m4 q4 c4 w4 r4 g4 n b z tz
    exact conC_ok h hp fun hp => okcertCheckFact (n) (b) (shS g1) (g) (rc) ((lL hdG u v0)) (⟨y1, y2, y3, y4, y5, lL siG y6 y7⟩) (k) (v) (w) (x) hp
  · cases h
noncomputable def ct_certCheckFact : List (Nat × Ct) := (27, ⟨[true], false, gcertCheckFact, none⟩) :: ct_certCheckCommit
theorem ctok_certCheckFact : CtsOk Tryd.prog Gs ct_certCheckFact := CtsOk.cons vcertCheckFact (by kernel_rfl) ctok_certCheckCommit
def d7 : List Int := [7, 0, 0, 0, 0, 0, 0, 0, 0, 0, 0, 0, 0, 0, 0, 0, 0, 0, 0, 0, 0, 0, 0, 0, 0, 0, 0, 0, 0, 0, 0, 0]
theorem d7_ok : OkD d7 := ⟨lit_ok (by decide), rfl⟩
def T4 : ByteArray := strOfNums (voteB 0 1 4 d7)
def L1 : List SG := sgn 4 10 [] 2 5 T4
def L2 : List SG := sgn 4 10 L1 1 5 T4
def L3 : List SG := sgn 4 10 L2 0 5 T4
def vA (i : Int) : VT := ⟨0, 1, 4, d7, i, (sigI 4 10 i 5, sigT 4 10 i 5 (voteB 0 1 4 d7))⟩
def W3 : List VT := [vA 2, vA 1, vA 0]
def rcA : RC := ⟨1, [], [[3, 0, 1, 2]]⟩
noncomputable def anL06votes (n b : Int) (L : List SG) : Nat → List Nat → List Ann := fun bk_ gs_ => match bk_, gs_ with
    | 0, _ => [{ τ := Unit, t0 := (), J := fun _ => True, m := fun _ => 0, l := fun _ => [(0, .dead), (2, .dead), (3, .dead), (4, .dead), (5, .dead), (6, .dead)], H := fun _ => [], unr := 5 }]
    | _, _ => []
theorem okL06votes (n b : Int) (L : List SG) (hp : allP [n = 4 ∧ b = 10 ∧ L = []]) : CallsOk Tryd.prog Gs 25 [.a (.lp 100004 0)] [(100000, .mp 107 false [.i .i64] (hasC L) (valC L) [] (ghS L)), (100001, .mp 106 false [.i .i64] (hasR L) (valR L) [] (ghS L)), (100002, .mp 105 true [.i .i64, .i .i64] (hasF L) (valF L) [] (ghS L)), (100003, .mp 104 true [.i .i64, .i .i64, .s] (hasM L) (valM L) [] (ghS L)), (100004, .cells [.one (.d (.v (.int .i64 (n)))), .one (.d (.v (.int .i64 (b)))), .one (.mp 100003), .one (.mp 100002), .one (.mp 100001), .one (.mp 100000)] 109)] (.t [.a (.rw 0), .agg [.one (.d (.v (.int .i64 (rcA).ep))), .one (.d (.si .i64 (rcA).mem)), .one (.d (.sl 1 ((rcA).seats).length (lC nuE [] ((rcA).seats))))]]) [(100000, .mp 107 false [.i .i64] (hasC L3) (valC L3) [] (ghS L3)), (100001, .mp 106 false [.i .i64] (hasR L3) (valR L3) [] (ghS L3)), (100002, .mp 105 true [.i .i64, .i .i64] (hasF L3) (valF L3) [] (ghS L3)), (100003, .mp 104 true [.i .i64, .i .i64, .s] (hasM L3) (valM L3) [] (ghS L3)), (100004, .cells [.one (.d (.v (.int .i64 (4)))), .one (.d (.v (.int .i64 (10)))), .one (.mp 100003), .one (.mp 100002), .one (.mp 100001), .one (.mp 100000)] 109), (0, .row (.st 69 3 (lC vtE vtZ W3)) 49)] :=
  ok_of (ann := anL06votes n b L) ctok_certCheckFact mixed Tryd.func25 (by kernel_rfl) (of_nf (p := let l11 := (D.v (Value.int IntKind.i64 (4 : Int))); let l10 := (D.v (Value.int IntKind.i64 (1 : Int))); let l9 := (D.v (Value.int IntKind.i64 (0 : Int))); let l7 := (IntKind.wrap IntKind.i64 ((2 : Int) - (1 : Int))); let l6 := (List.replicate (32 : Nat) (0 : Int)); let l5 := (IntKind.wrap IntKind.i64 ((2 : Int) - (1 : Int)) - (1 : Int)); let l8 := (IntKind.wrap IntKind.i64 l5); let l3 := (List.set l6 ((0 : Nat) * (1 : Nat)) (7 : Int)); let l0 := (voteB (0 : Int) (1 : Int) (4 : Int) l3); let l4 := (sgn n b (shS (ghS L)) (2 : Int) (5 : Int) (strOfNums l0)); let l1 := (sgn n b (shS (ghS l4)) l7 (5 : Int) (strOfNums l0)); let l2 := (sgn n b (shS (ghS l1)) l8 (5 : Int) (strOfNums l0)); (0 : Int) = (0 : Int) ∧ (1 : Int) = (1 : Int) ∧ (4 : Int) = (4 : Int) ∧ List.set l6 ((0 : Nat) * (1 : Nat)) (7 : Int) = List.set l6 ((0 : Nat) * (1 : Nat)) (7 : Int) ∧ (2 : Int) = (2 : Int) ∧ (0 : Int) = (0 : Int) ∧ List.replicate (32 : Nat) (0 : Int) = List.replicate (32 : Nat) (0 : Int) ∧ OkD l3 ∧ (2 : Int) = (2 : Int) ∧ (5 : Int) = (5 : Int) ∧ voteB (0 : Int) (1 : Int) (4 : Int) l3 = voteB (0 : Int) (1 : Int) (4 : Int) l3 ∧ MpEq [AS.i IntKind.i64] (hasC L) (hasC (shS (ghS L))) (valC L) (valC (shS (ghS L))) [] ∧ MpEq [AS.i IntKind.i64] (hasR L) (hasR (shS (ghS L))) (valR L) (valR (shS (ghS L))) [] ∧ MpEq [AS.i IntKind.i64, AS.i IntKind.i64] (hasF L) (hasF (shS (ghS L))) (valF L) (valF (shS (ghS L))) [] ∧ MpEq [AS.i IntKind.i64, AS.i IntKind.i64, AS.s] (hasM L) (hasM (shS (ghS L))) (valM L) (valM (shS (ghS L))) [] ∧ n = n ∧ b = b ∧ OkB l0 ∧ List.length l0 + (300 : Nat) ≤ lim ∧ List.length (shS (ghS L)) < (1099511627776 : Nat) ∧ (0 : Nat) + (1 : Nat) ≤ lim ∧ (0 : Int) = (0 : Int) ∧ (1 : Int) = (1 : Int) ∧ (4 : Int) = (4 : Int) ∧ List.set l6 ((0 : Nat) * (1 : Nat)) (7 : Int) = List.set l6 ((0 : Nat) * (1 : Nat)) (7 : Int) ∧ IntKind.wrap IntKind.i64 ((2 : Int) - (1 : Int)) = IntKind.wrap IntKind.i64 ((2 : Int) - (1 : Int)) ∧ (0 : Int) = (0 : Int) ∧ List.replicate (32 : Nat) (0 : Int) = List.replicate (32 : Nat) (0 : Int) ∧ OkD l3 ∧ IntKind.wrap IntKind.i64 ((2 : Int) - (1 : Int)) = IntKind.wrap IntKind.i64 ((2 : Int) - (1 : Int)) ∧ (5 : Int) = (5 : Int) ∧ voteB (0 : Int) (1 : Int) (4 : Int) l3 = voteB (0 : Int) (1 : Int) (4 : Int) l3 ∧ MpEq [AS.i IntKind.i64] (hasC l4) (hasC (shS (ghS l4))) (valC l4) (valC (shS (ghS l4))) [] ∧ MpEq [AS.i IntKind.i64] (hasR l4) (hasR (shS (ghS l4))) (valR l4) (valR (shS (ghS l4))) [] ∧ MpEq [AS.i IntKind.i64, AS.i IntKind.i64] (hasF l4) (hasF (shS (ghS l4))) (valF l4) (valF (shS (ghS l4))) [] ∧ MpEq [AS.i IntKind.i64, AS.i IntKind.i64, AS.s] (hasM l4) (hasM (shS (ghS l4))) (valM l4) (valM (shS (ghS l4))) [] ∧ n = n ∧ b = b ∧ OkB l0 ∧ List.length l0 + (300 : Nat) ≤ lim ∧ List.length (shS (ghS l4)) < (1099511627776 : Nat) ∧ ((0 : Nat) + (1 : Nat)) + (1 : Nat) ≤ lim ∧ (0 : Int) = (0 : Int) ∧ (1 : Int) = (1 : Int) ∧ (4 : Int) = (4 : Int) ∧ List.set l6 ((0 : Nat) * (1 : Nat)) (7 : Int) = List.set l6 ((0 : Nat) * (1 : Nat)) (7 : Int) ∧ IntKind.wrap IntKind.i64 l5 = IntKind.wrap IntKind.i64 l5 ∧ (0 : Int) = (0 : Int) ∧ List.replicate (32 : Nat) (0 : Int) = List.replicate (32 : Nat) (0 : Int) ∧ OkD l3 ∧ IntKind.wrap IntKind.i64 l5 = IntKind.wrap IntKind.i64 l5 ∧ (5 : Int) = (5 : Int) ∧ voteB (0 : Int) (1 : Int) (4 : Int) l3 = voteB (0 : Int) (1 : Int) (4 : Int) l3 ∧ MpEq [AS.i IntKind.i64] (hasC l1) (hasC (shS (ghS l1))) (valC l1) (valC (shS (ghS l1))) [] ∧ MpEq [AS.i IntKind.i64] (hasR l1) (hasR (shS (ghS l1))) (valR l1) (valR (shS (ghS l1))) [] ∧ MpEq [AS.i IntKind.i64, AS.i IntKind.i64] (hasF l1) (hasF (shS (ghS l1))) (valF l1) (valF (shS (ghS l1))) [] ∧ MpEq [AS.i IntKind.i64, AS.i IntKind.i64, AS.s] (hasM l1) (hasM (shS (ghS l1))) (valM l1) (valM (shS (ghS l1))) [] ∧ n = n ∧ b = b ∧ OkB l0 ∧ List.length l0 + (300 : Nat) ≤ lim ∧ List.length (shS (ghS l1)) < (1099511627776 : Nat) ∧ ((0 : Nat) + (1 : Nat) + (1 : Nat)) + (1 : Nat) ≤ lim ∧ (1 : Int) = RC.ep rcA ∧ RC.mem rcA = [] ∧ (1 : Nat) = List.length (RC.seats rcA) ∧ (∀ (i : Nat), i < List.length (RC.seats rcA) → List.getD [[DC.one (Cont.data (Cont.ints IntKind.i64 (List.set (List.set (List.set (List.set (List.replicate ((3 : Nat) + (1 : Nat)) (0 : Int)) ((0 : Nat) * (1 : Nat)) (3 : Int)) ((1 : Nat) * (1 : Nat)) (0 : Int)) ((2 : Nat) * (1 : Nat)) (1 : Int)) ((3 : Nat) * (1 : Nat)) (2 : Int))))]] i [] = lC nuE [] (RC.seats rcA) i) ∧ MpEq [AS.i IntKind.i64] (hasC l2) (hasC L3) (valC l2) (valC L3) [] ∧ MpEq [AS.i IntKind.i64] (hasR l2) (hasR L3) (valR l2) (valR L3) [] ∧ MpEq [AS.i IntKind.i64, AS.i IntKind.i64] (hasF l2) (hasF L3) (valF l2) (valF L3) [] ∧ MpEq [AS.i IntKind.i64, AS.i IntKind.i64, AS.s] (hasM l2) (hasM L3) (valM l2) (valM L3) [] ∧ n = (4 : Int) ∧ b = (10 : Int) ∧ (0 : Nat) + (1 : Nat) + (1 : Nat) + (1 : Nat) = (3 : Nat) ∧ (∀ (i : Nat), i < (3 : Nat) → catF ((0 : Nat) + (1 : Nat) + (1 : Nat)) (catF ((0 : Nat) + (1 : Nat)) (catF (0 : Nat) (fun (i : Nat) => (List.getD ([] : List (List DC)) i [])) fun (i : Nat) => List.getD [[DC.one l9, DC.one l10, DC.one l11, DC.ints IntKind.u8 (32 : Nat) l3, DC.one (D.v (Value.int IntKind.i64 (2 : Int))), DC.one (D.v (Value.int IntKind.i64 (sigI n b (2 : Int) (5 : Int)))), DC.ints IntKind.u8 (32 : Nat) (sigT n b (2 : Int) (5 : Int) l0)]] i []) fun (i : Nat) => List.getD [[DC.one l9, DC.one l10, DC.one l11, DC.ints IntKind.u8 (32 : Nat) l3, DC.one (D.v (Value.int IntKind.i64 l7)), DC.one (D.v (Value.int IntKind.i64 (sigI n b l7 (5 : Int)))), DC.ints IntKind.u8 (32 : Nat) (sigT n b l7 (5 : Int) l0)]] i []) (fun (i : Nat) => List.getD [[DC.one l9, DC.one l10, DC.one l11, DC.ints IntKind.u8 (32 : Nat) l3, DC.one (D.v (Value.int IntKind.i64 l8)), DC.one (D.v (Value.int IntKind.i64 (sigI n b l8 (5 : Int)))), DC.ints IntKind.u8 (32 : Nat) (sigT n b l8 (5 : Int) l0)]] i []) i = lC vtE vtZ W3 i) ∧ True) (by kernel_rfl) (by
    conv => zeta
    obtain ⟨⟨rfl, rfl, rfl⟩, _⟩ := hp
    simp only [Int.toNat_natCast, true_and, and_true, implies_true, lL_self nuG_nuE, lL_self siG_siE, rcEta, qcEta, vtEta, siEta, lL_self sgD_sgE, shS_ghS, mpC, mpR, mpF, mpM]
    have hlim : lim = 68719476736 := rfl
    have d7e : (List.replicate 32 (0 : Int)).set (0 * 1) 7 = d7 := rfl
    have w1 : IntKind.wrap .i64 ((2 : Int) - 1) = 1 := by rw [wi _ (by decide) (by decide)]; rfl
    have w0 : IntKind.wrap .i64 ((1 : Int) - 1) = 0 := by rw [wi _ (by decide) (by decide)]; rfl
    simp only [d7e, w1, w0]
    have k4 := voteB_ok (a := 0) (b := 1) (c := 4) d7_ok.ok
    have l4 := voteB_len (a := 0) (b := 1) (c := 4) d7_ok.len
    have s1 := sgn_leD 4 10 [] 2 5 T4
    have s2 := sgn_leD 4 10 L1 1 5 T4
    have s0 : ([] : List SG).length = 0 := rfl
    have s3 : L1.length = (sgn 4 10 [] 2 5 T4).length := rfl
    have s4 : (sgn 4 10 [] 2 5 (strOfNums (voteB 0 1 4 d7))).length < 1099511627776 := by show (sgn 4 10 [] 2 5 T4).length < _; omega
    have s5 : (sgn 4 10 (sgn 4 10 [] 2 5 (strOfNums (voteB 0 1 4 d7))) 1 5 (strOfNums (voteB 0 1 4 d7))).length < 1099511627776 := by show (sgn 4 10 L1 1 5 T4).length < _; omega
    have eL : sgn 4 10 (sgn 4 10 (sgn 4 10 [] 2 5 (strOfNums (voteB 0 1 4 d7))) 1 5 (strOfNums (voteB 0 1 4 d7))) 0 5 (strOfNums (voteB 0 1 4 d7)) = L3 := rfl
    rw [eL]
    refine ⟨d7_ok, k4, by omega, by decide, by omega, d7_ok, k4, by omega, s4, by omega, d7_ok, k4, by omega, s5, by omega, rfl, rfl, rfl, ?_, MpEq.self fun _ => rfl, MpEq.self fun _ => rfl, MpEq.self fun _ => rfl, MpEq.self fun _ => rfl, ?_⟩
    · intro i hi
      match i, hi with
      | 0, _ => rfl
    · intro i hi
      match i, hi with
      | 0, _ => rfl
      | 1, _ => rfl
      | 2, _ => rfl))
noncomputable def gL06votes : Con := fun args H => match args, H with
  | [.a (.lp 100004 0)], [(100000, .mp m1 false q1 c1 w1 r1 g1), (100001, .mp m2 false q2 c2 w2 r2 g2), (100002, .mp m3 true q3 c3 w3 r3 g3), (100003, .mp m4 true q4 c4 w4 r4 g4), (100004, .cells (.one (.d (.v (.int .i64 n))) :: .one (.d (.v (.int .i64 b))) :: z) tz)] => (fun (n b : Int) (L : List SG) => conC args H [.a (.lp 100004 0)] [(100000, .mp 107 false [.i .i64] (hasC L) (valC L) [] (ghS L)), (100001, .mp 106 false [.i .i64] (hasR L) (valR L) [] (ghS L)), (100002, .mp 105 true [.i .i64, .i .i64] (hasF L) (valF L) [] (ghS L)), (100003, .mp 104 true [.i .i64, .i .i64, .s] (hasM L) (valM L) [] (ghS L)), (100004, .cells [.one (.d (.v (.int .i64 (n)))), .one (.d (.v (.int .i64 (b)))), .one (.mp 100003), .one (.mp 100002), .one (.mp 100001), .one (.mp 100000)] 109)] ⟨[n = 4 ∧ b = 10 ∧ L = []], .t [.a (.rw 0), .agg [.one (.d (.v (.int .i64 (rcA).ep))), .one (.d (.si .i64 (rcA).mem)), .one (.d (.sl 1 ((rcA).seats).length (lC nuE [] ((rcA).seats))))]], [(100000, .mp 107 false [.i .i64] (hasC L3) (valC L3) [] (ghS L3)), (100001, .mp 106 false [.i .i64] (hasR L3) (valR L3) [] (ghS L3)), (100002, .mp 105 true [.i .i64, .i .i64] (hasF L3) (valF L3) [] (ghS L3)), (100003, .mp 104 true [.i .i64, .i .i64, .s] (hasM L3) (valM L3) [] (ghS L3)), (100004, .cells [.one (.d (.v (.int .i64 (4)))), .one (.d (.v (.int .i64 (10)))), .one (.mp 100003), .one (.mp 100002), .one (.mp 100001), .one (.mp 100000)] 109), (0, .row (.st 69 3 (lC vtE vtZ W3)) 49)]⟩) (n) (b) (shS g1)
  | _, _ => none
theorem vL06votes : Valid Tryd.prog Gs 25 gL06votes := by
  intro args H r h hp
  unfold gL06votes at h
  split at h
  · rename_i m1 q1 c1 w1 r1 g1 m2 q2 c2 w2 r2 g2 m3 q3 c3 w3 r3 g3 m4 q4 c4 w4 r4 g4 n b z tz
    exact conC_ok h hp fun hp => okL06votes (n) (b) (shS g1) hp
  · cases h
noncomputable def ct_L06votes : List (Nat × Ct) := (25, ⟨[true], true, gL06votes, none⟩) :: ct_certCheckFact
theorem ctok_L06votes : CtsOk Tryd.prog Gs ct_L06votes := CtsOk.cons vL06votes (by kernel_rfl) ctok_certCheckFact
theorem mad_sgnD (n b : Int) (L : List SG) (k i : Int) (s : ByteArray) (x : SG) : madB (sgn n b L k i s) x = (madB L x || (decide (okKey n b k i = 0) && decide ((k, i, s) = x))) := by
  unfold sgn
  split
  · rename_i h
    rw [decide_eq_true h, Bool.true_and]
    unfold addS
    split
    · rename_i hm
      by_cases e : (k, i, s) = x
      · rw [← e, hm]; rfl
      · rw [decide_eq_false e, Bool.or_false]
    · rw [mad_snoc]
  · rename_i h
    rw [decide_eq_false h, Bool.false_and, Bool.or_false]
theorem mad3 (x : SG) : madB L3 x = (((false || decide ((2, 5, T4) = x)) || decide ((1, 5, T4) = x)) || decide ((0, 5, T4) = x)) := by
  unfold L3 L2 L1
  rw [mad_sgnD, mad_sgnD, mad_sgnD]
  rfl
theorem tA : ¬ T4 = strOfNums (voteB 0 1 5 d7) := fun e => by
  have h1 := numStr (voteB_ok (a := 0) (b := 1) (c := 4) d7_ok.ok)
  have h2 := numStr (voteB_ok (a := 0) (b := 1) (c := 5) d7_ok.ok)
  have e : strOfNums (voteB 0 1 4 d7) = strOfNums (voteB 0 1 5 d7) := e
  rw [e, h2] at h1
  have : decide (voteB 0 1 5 d7 = voteB 0 1 4 d7) = false := by kernel_rfl
  rw [h1] at this
  simp at this
theorem two_eq : ∀ i, i < [vA 2, vA 1].length → lC vtE vtZ W3 i = lC vtE vtZ [vA 2, vA 1] i
  | 0, _ => rfl
  | 1, _ => rfl
theorem W3s : stb wK W3 = [vA 0, vA 1, vA 2] := by kernel_rfl
theorem W3e : mkE W3 = 0 := by kernel_rfl
theorem W3q : mkQ W3 = ⟨0, 1, 4, d7, [0, 1, 2], [(vA 0).sig, (vA 1).sig, (vA 2).sig]⟩ := by rw [mk_ok W3e, W3s]; rfl
theorem sA (i : Int) (h : i = 0 ∨ i = 1 ∨ i = 2) : (vA i).sig = (5, tagB i 5 (voteB 0 1 4 d7)) := by
  rcases h with rfl | rfl | rfl <;> rfl
theorem gA (i : Int) (h : i = 0 ∨ i = 1 ∨ i = 2) : signP L3 [3, 0, 1, 2] i (voteB 0 1 4 d7) (vA i).sig = 0 := by
  have h1 : ([3, 0, 1, 2] : List Int).contains i = true := by rcases h with rfl | rfl | rfl <;> rfl
  have h2 : madB L3 (i, 5, T4) = true := by rw [mad3]; rcases h with rfl | rfl | rfl <;> simp
  unfold signP sigOk
  rw [sA i h, h1]
  have h3 : madB L3 (i, 5, strOfNums (voteB 0 1 4 d7)) = true := h2
  rw [h3]
  simp
theorem seA : seatsP rcA 0 = [3, 0, 1, 2] := rfl
theorem frA4 : frameP rcA 0 1 4 = 0 := by kernel_rfl
theorem frA5 : frameP rcA 0 1 5 = 0 := by kernel_rfl
theorem aw_vote : voteP L3 rcA (vA 2) = 0 := by
  unfold voteP
  show (if frameP rcA 0 1 4 ≠ 0 then _ else _) = _
  rw [if_neg (by rw [frA4]; decide)]
  exact gA 2 (by decide)
theorem aw_vote5 : voteP L3 rcA ⟨0, 1, 5, d7, 2, (vA 2).sig⟩ = 16 := by
  unfold voteP
  show (if frameP rcA 0 1 5 ≠ 0 then _ else _) = _
  rw [if_neg (by rw [frA5]; decide)]
  show signP L3 [3, 0, 1, 2] 2 (voteB 0 1 5 d7) (vA 2).sig = 16
  unfold signP sigOk
  rw [sA 2 (by decide)]
  have h2 : madB L3 (2, 5, strOfNums (voteB 0 1 5 d7)) = false := by rw [mad3]; simp [tA]
  rw [h2]; rfl
theorem scA : scan (whoE (seatsP rcA 0) [0, 1, 2]) 3 = 0 := by kernel_rfl
theorem aw_qc : qcP L3 rcA ⟨0, 1, 4, d7, [0, 1, 2], [(vA 0).sig, (vA 1).sig, (vA 2).sig]⟩ = 0 := by
  have h1 : ¬ frameP rcA 0 1 4 ≠ 0 := by rw [frA4]; decide
  have h2 : ¬ ([0, 1, 2] : List Int).length ≠ [(vA 0).sig, (vA 1).sig, (vA 2).sig].length := by decide
  have h3 : ¬ scan (whoE (seatsP rcA 0) [0, 1, 2]) ([0, 1, 2] : List Int).length ≠ 0 := by
    show ¬ scan (whoE (seatsP rcA 0) [0, 1, 2]) 3 ≠ 0
    rw [scA]; decide
  have h4 : ¬ ([0, 1, 2] : List Int).length < 3 := by decide
  unfold qcP
  dsimp only
  rw [if_neg h1, if_neg h2, if_neg h3, if_neg h4]
  refine scan_all fun i hi => ?_
  match i, hi with
  | 0, _ => exact gA 0 (by decide)
  | 1, _ => exact gA 1 (by decide)
  | 2, _ => exact gA 2 (by decide)
theorem aw_qc0 : qcP L3 rcA ⟨0, 1, 0, d7, [0, 1, 2], [(vA 0).sig, (vA 1).sig, (vA 2).sig]⟩ = 11 := by kernel_rfl
noncomputable def anL06awake  : Nat → List Nat → List Ann := fun bk_ gs_ => match bk_, gs_ with
    | 999999, _ => [{ τ := Nat, t0 := (default : Nat), J := fun _ => True, m := fun _ => 0, l := fun _ => [], H := fun _ => [] }]
    | _, _ => []
theorem okL06awake  : CallsOk Tryd.prog Gs 9 [] [] (eB true) [] :=
  ok_of (ann := anL06awake ) ctok_L06votes mixed Tryd.func9 (by kernel_rfl) (of_nf (p := let l15 := (lC nuE [] (RC.seats rcA)); let l14 := (List.length (RC.seats rcA)); let l13 := ((0 : Int) ≤ (0 : Int) ∧ (0 : Int) < (↑((3 : Nat)) : Int)); let l12 := (lL vtG (3 : Nat) (lC vtE vtZ W3)); let l10 := (lL siG (0 : Nat) fun (x : Nat) => []); let l9 := (lL hdG (0 : Nat) fun (x : Nat) => []); let l8 := (lenN (3 : Nat) none (some (IntKind.i64, (2 : Int)))); let l6 := (shS (ghS (shS (ghS L3)))); let l4 := (Nat.beq (Int.toNat (0 : Int)) (Int.toNat (0 : Int))); let l3 := (lL nuG l14 l15); let l2 := (List.getD W3 (Int.toNat (0 : Int)) vtZ); let l1 := (mkQ l12); let l11 := (seatsP { ep := RC.ep rcA, mem := RC.mem rcA, seats := lL nuG l14 l15 } (QC.ch l1)); let l7 := (lL siG (List.length (QC.sigs l1)) (lC siE siZ (QC.sigs l1))); let l0 := (shS (ghS l6)); let l5 := (shS (ghS (shS (ghS l0)))); ((1 : Int) ≤ (4 : Int) ∧ (4 : Int) ≤ (12 : Int) ∧ (1 : Int) ≤ (10 : Int) ∧ (10 : Int) ≤ (65536 : Int)) ∧ MpEq [AS.i IntKind.i64] (hasC []) (hasC (shS (ghS []))) (valC []) (valC (shS (ghS []))) [] ∧ MpEq [AS.i IntKind.i64] (hasR []) (hasR (shS (ghS []))) (valR []) (valR (shS (ghS []))) [] ∧ MpEq [AS.i IntKind.i64, AS.i IntKind.i64] (hasF []) (hasF (shS (ghS []))) (valF []) (valF (shS (ghS []))) [] ∧ MpEq [AS.i IntKind.i64, AS.i IntKind.i64, AS.s] (hasM []) (hasM (shS (ghS []))) (valM []) (valM (shS (ghS []))) [] ∧ (4 : Int) = (4 : Int) ∧ (10 : Int) = (10 : Int) ∧ ((4 : Int) = (4 : Int) ∧ (10 : Int) = (10 : Int) ∧ shS (ghS []) = []) ∧ (3 : Nat) = List.length l12 ∧ (∀ (i : Nat), i < List.length l12 → lC vtE vtZ W3 i = lC vtE vtZ l12 i) ∧ List.length l12 < (1073741824 : Nat) ∧ (∀ (i : Nat), i < List.length (QC.sigs l1) → pureDs (lC siE siZ (QC.sigs l1) i) = true) ∧ ((0 : Int) ≤ (2 : Int) ∧ (2 : Int) ≤ (↑(3 : Nat) : Int)) ∧ lenN (3 : Nat) none (some (IntKind.i64, (2 : Int))) = List.length (lL vtG l8 fun (i : Nat) => lC vtE vtZ W3 (loN none + i)) ∧ (∀ (i : Nat), i < List.length (lL vtG l8 fun (i : Nat) => lC vtE vtZ W3 (loN none + i)) → lC vtE vtZ W3 (loN none + i) = lC vtE vtZ (lL vtG l8 fun (i : Nat) => lC vtE vtZ W3 (loN none + i)) i) ∧ List.length (lL vtG l8 fun (i : Nat) => lC vtE vtZ W3 (loN none + i)) < (1073741824 : Nat) ∧ (∀ (i : Nat), i < List.length (QC.sigs (mkQ (lL vtG l8 fun (i : Nat) => lC vtE vtZ W3 (loN none + i)))) → pureDs (lC siE siZ (QC.sigs (mkQ (lL vtG l8 fun (i : Nat) => lC vtE vtZ W3 (loN none + i)))) i) = true) ∧ l13 ∧ RC.ep rcA = RC.ep rcA ∧ RC.mem rcA = RC.mem rcA ∧ List.length (RC.seats rcA) = List.length l3 ∧ (∀ (i : Nat), i < List.length l3 → lC nuE [] (RC.seats rcA) i = lC nuE [] l3 i) ∧ VT.ch l2 = VT.ch l2 ∧ VT.ep l2 = VT.ep l2 ∧ VT.vw l2 = VT.vw l2 ∧ VT.blk l2 = VT.blk l2 ∧ VT.who l2 = VT.who l2 ∧ Prod.fst (VT.sig l2) = Prod.fst (VT.sig l2) ∧ Prod.snd (VT.sig l2) = Prod.snd (VT.sig l2) ∧ MpEq [AS.i IntKind.i64] (hasC L3) (hasC (shS (ghS L3))) (valC L3) (valC (shS (ghS L3))) [] ∧ MpEq [AS.i IntKind.i64] (hasR L3) (hasR (shS (ghS L3))) (valR L3) (valR (shS (ghS L3))) [] ∧ MpEq [AS.i IntKind.i64, AS.i IntKind.i64] (hasF L3) (hasF (shS (ghS L3))) (valF L3) (valF (shS (ghS L3))) [] ∧ MpEq [AS.i IntKind.i64, AS.i IntKind.i64, AS.s] (hasM L3) (hasM (shS (ghS L3))) (valM L3) (valM (shS (ghS L3))) [] ∧ (4 : Int) = (4 : Int) ∧ (10 : Int) = (10 : Int) ∧ OkD (VT.blk l2) ∧ List.length (seatsP { ep := RC.ep rcA, mem := RC.mem rcA, seats := lL nuG l14 l15 } (VT.ch l2)) < (1099511627776 : Nat) ∧ RC.ep rcA = RC.ep rcA ∧ RC.mem rcA = RC.mem rcA ∧ List.length (RC.seats rcA) = List.length l3 ∧ (∀ (i : Nat), i < List.length l3 → lC nuE [] (RC.seats rcA) i = lC nuE [] l3 i) ∧ QC.ch l1 = QC.ch l1 ∧ QC.ep l1 = QC.ep l1 ∧ QC.vw l1 = QC.vw l1 ∧ QC.blk l1 = QC.blk l1 ∧ QC.who l1 = QC.who l1 ∧ List.length (QC.sigs l1) = List.length l7 ∧ (∀ (i : Nat), i < List.length l7 → lC siE siZ (QC.sigs l1) i = lC siE siZ l7 i) ∧ MpEq [AS.i IntKind.i64] (hasC (shS (ghS L3))) (hasC l6) (valC (shS (ghS L3))) (valC l6) [] ∧ MpEq [AS.i IntKind.i64] (hasR (shS (ghS L3))) (hasR l6) (valR (shS (ghS L3))) (valR l6) [] ∧ MpEq [AS.i IntKind.i64, AS.i IntKind.i64] (hasF (shS (ghS L3))) (hasF l6) (valF (shS (ghS L3))) (valF l6) [] ∧ MpEq [AS.i IntKind.i64, AS.i IntKind.i64, AS.s] (hasM (shS (ghS L3))) (hasM l6) (valM (shS (ghS L3))) (valM l6) [] ∧ (4 : Int) = (4 : Int) ∧ (10 : Int) = (10 : Int) ∧ OkD (QC.blk l1) ∧ List.length l11 < (1099511627776 : Nat) ∧ List.length (QC.who l1) < (1099511627776 : Nat) ∧ List.length l7 < (1099511627776 : Nat) ∧ (∀ (kk : KK), AV.pure (valC l6 kk) = true) ∧ (∀ (kk : KK), AV.pure (valR l6 kk) = true) ∧ (∀ (kk : KK), AV.pure (valF l6 kk) = true) ∧ (∀ (kk : KK), AV.pure (valM l6 kk) = true) ∧ l13 ∧ l13 ∧ RC.ep rcA = RC.ep rcA ∧ RC.mem rcA = RC.mem rcA ∧ List.length (RC.seats rcA) = List.length l3 ∧ (∀ (i : Nat), i < List.length l3 → lC nuE [] (RC.seats rcA) i = lC nuE [] l3 i) ∧ sel l4 (VT.ch l2) (VT.ch l2) = sel l4 (VT.ch l2) (VT.ch l2) ∧ sel l4 (VT.ep l2) (VT.ep l2) = sel l4 (VT.ep l2) (VT.ep l2) ∧ sel l4 (5 : Int) (VT.vw l2) = sel l4 (5 : Int) (VT.vw l2) ∧ sel l4 (VT.blk l2) (VT.blk l2) = sel l4 (VT.blk l2) (VT.blk l2) ∧ sel l4 (VT.who l2) (VT.who l2) = sel l4 (VT.who l2) (VT.who l2) ∧ sel l4 (Prod.fst (VT.sig l2)) (Prod.fst (VT.sig l2)) = sel l4 (Prod.fst (VT.sig l2)) (Prod.fst (VT.sig l2)) ∧ sel l4 (Prod.snd (VT.sig l2)) (Prod.snd (VT.sig l2)) = sel l4 (Prod.snd (VT.sig l2)) (Prod.snd (VT.sig l2)) ∧ MpEq [AS.i IntKind.i64] (hasC l6) (hasC l0) (valC l6) (valC l0) [] ∧ MpEq [AS.i IntKind.i64] (hasR l6) (hasR l0) (valR l6) (valR l0) [] ∧ MpEq [AS.i IntKind.i64, AS.i IntKind.i64] (hasF l6) (hasF l0) (valF l6) (valF l0) [] ∧ MpEq [AS.i IntKind.i64, AS.i IntKind.i64, AS.s] (hasM l6) (hasM l0) (valM l6) (valM l0) [] ∧ (4 : Int) = (4 : Int) ∧ (10 : Int) = (10 : Int) ∧ OkD (sel l4 (VT.blk l2) (VT.blk l2)) ∧ List.length (seatsP { ep := RC.ep rcA, mem := RC.mem rcA, seats := lL nuG l14 l15 } (sel l4 (VT.ch l2) (VT.ch l2))) < (1099511627776 : Nat) ∧ RC.ep rcA = RC.ep rcA ∧ RC.mem rcA = RC.mem rcA ∧ List.length (RC.seats rcA) = List.length l3 ∧ (∀ (i : Nat), i < List.length l3 → lC nuE [] (RC.seats rcA) i = lC nuE [] l3 i) ∧ QC.ch l1 = QC.ch l1 ∧ QC.ep l1 = QC.ep l1 ∧ (0 : Int) = (0 : Int) ∧ QC.blk l1 = QC.blk l1 ∧ QC.who l1 = QC.who l1 ∧ List.length (QC.sigs l1) = List.length l7 ∧ (∀ (i : Nat), i < List.length l7 → lC siE siZ (QC.sigs l1) i = lC siE siZ l7 i) ∧ MpEq [AS.i IntKind.i64] (hasC l0) (hasC (shS (ghS l0))) (valC l0) (valC (shS (ghS l0))) [] ∧ MpEq [AS.i IntKind.i64] (hasR l0) (hasR (shS (ghS l0))) (valR l0) (valR (shS (ghS l0))) [] ∧ MpEq [AS.i IntKind.i64, AS.i IntKind.i64] (hasF l0) (hasF (shS (ghS l0))) (valF l0) (valF (shS (ghS l0))) [] ∧ MpEq [AS.i IntKind.i64, AS.i IntKind.i64, AS.s] (hasM l0) (hasM (shS (ghS l0))) (valM l0) (valM (shS (ghS l0))) [] ∧ (4 : Int) = (4 : Int) ∧ (10 : Int) = (10 : Int) ∧ OkD (QC.blk l1) ∧ List.length l11 < (1099511627776 : Nat) ∧ List.length (QC.who l1) < (1099511627776 : Nat) ∧ List.length l7 < (1099511627776 : Nat) ∧ (∀ (kk : KK), AV.pure (valC (shS (ghS l0)) kk) = true) ∧ (∀ (kk : KK), AV.pure (valR (shS (ghS l0)) kk) = true) ∧ (∀ (kk : KK), AV.pure (valF (shS (ghS l0)) kk) = true) ∧ (∀ (kk : KK), AV.pure (valM (shS (ghS l0)) kk) = true) ∧ RC.ep rcA = RC.ep rcA ∧ RC.mem rcA = RC.mem rcA ∧ List.length (RC.seats rcA) = List.length l3 ∧ (∀ (i : Nat), i < List.length l3 → lC nuE [] (RC.seats rcA) i = lC nuE [] l3 i) ∧ (0 : Nat) = List.length l9 ∧ (∀ (i : Nat), i < List.length l9 → [] = lC hdE hdZ l9 i) ∧ (0 : Int) = (0 : Int) ∧ (0 : Int) = (0 : Int) ∧ (0 : Int) = (0 : Int) ∧ List.replicate (32 : Nat) (0 : Int) = List.replicate (32 : Nat) (0 : Int) ∧ ([] : List Int) = [] ∧ (0 : Nat) = List.length l10 ∧ (∀ (i : Nat), i < List.length l10 → [] = lC siE siZ l10 i) ∧ MpEq [AS.i IntKind.i64] (hasC (shS (ghS l0))) (hasC l5) (valC (shS (ghS l0))) (valC l5) [] ∧ MpEq [AS.i IntKind.i64] (hasR (shS (ghS l0))) (hasR l5) (valR (shS (ghS l0))) (valR l5) [] ∧ MpEq [AS.i IntKind.i64, AS.i IntKind.i64] (hasF (shS (ghS l0))) (hasF l5) (valF (shS (ghS l0))) (valF l5) [] ∧ MpEq [AS.i IntKind.i64, AS.i IntKind.i64, AS.s] (hasM (shS (ghS l0))) (hasM l5) (valM (shS (ghS l0))) (valM l5) [] ∧ (4 : Int) = (4 : Int) ∧ (10 : Int) = (10 : Int) ∧ List.length l9 < (3 : Nat) ∧ (0 : Nat) = (0 : Nat) ∧ (∀ (i : Nat), i < (0 : Nat) → ([] : List DC) = []) ∧ (0 : Nat) = List.length l9 ∧ (∀ (i : Nat), i < List.length l9 → [] = lC hdE hdZ l9 i) ∧ (0 : Int) = (0 : Int) ∧ (0 : Int) = (0 : Int) ∧ (0 : Int) = (0 : Int) ∧ List.replicate (32 : Nat) (0 : Int) = List.replicate (32 : Nat) (0 : Int) ∧ ([] : List Int) = [] ∧ (0 : Nat) = List.length l10 ∧ (∀ (i : Nat), i < List.length l10 → [] = lC siE siZ l10 i) ∧ List.replicate (32 : Nat) (0 : Int) = List.replicate (32 : Nat) (0 : Int) ∧ ([] : List Int) = [] ∧ false = false ∧ ([] : List Int) = [] ∧ MpEq [AS.i IntKind.i64] (hasC l5) (hasC (shS (ghS l5))) (valC l5) (valC (shS (ghS l5))) [] ∧ MpEq [AS.i IntKind.i64] (hasR l5) (hasR (shS (ghS l5))) (valR l5) (valR (shS (ghS l5))) [] ∧ MpEq [AS.i IntKind.i64, AS.i IntKind.i64] (hasF l5) (hasF (shS (ghS l5))) (valF l5) (valF (shS (ghS l5))) [] ∧ MpEq [AS.i IntKind.i64, AS.i IntKind.i64, AS.s] (hasM l5) (hasM (shS (ghS l5))) (valM l5) (valM (shS (ghS l5))) [] ∧ (4 : Int) = (4 : Int) ∧ (10 : Int) = (10 : Int) ∧ List.length l9 = (0 : Nat) ∧ ((0 : Int) ≤ (0 : Int) ∧ (0 : Int) < (↑(Cont.len (Cont.ints IntKind.i64 (QC.who l1))) : Int)) ∧ (List.getD (QC.who l1) (Int.toNat (0 : Int)) (0 : Int) == (0 : Int)) = true ∧ True) (by kernel_rfl) (by
    conv => zeta
    simp only [Int.toNat_natCast, true_and, and_true, implies_true, lL_self nuG_nuE, lL_self siG_siE, rcEta, qcEta, vtEta, siEta, lL_self sgD_sgE, shS_ghS, mpC, mpR, mpF, mpM, lenN, loN, Nat.zero_add, show Int.toNat (2 : Int) = 2 from rfl, show Int.toNat (0 : Int) = 0 from rfl]
    have e3 : lL vtG 3 (lC vtE vtZ W3) = W3 := rfl
    have e2 : lL vtG 2 (lC vtE vtZ W3) = [vA 2, vA 1] := rfl
    have q2 : mkQ [vA 2, vA 1] = qcZ0 := by kernel_rfl
    simp only [e3, e2, W3q, q2]
    repeat' with_reducible apply And.intro
    all_goals first | with_reducible trivial | with_reducible rfl | exact d7_ok | exact d7_ok.ok | exact d7_ok.len | decide | exact fun _ => rfl | exact fun i hi => absurd hi (Nat.not_lt_zero i) | exact fun i hi => rfl | exact two_eq))
noncomputable def gL06awake : Con := fun args H => match args, H with
  | [], [] => some ⟨[], eB true, []⟩
  | _, _ => none
theorem vL06awake : Valid Tryd.prog Gs 9 gL06awake := by
  intro args H r h hp
  unfold gL06awake at h
  split at h
  · simp only [Option.some.injEq] at h; subst h; exact okL06awake 
  · cases h
noncomputable def ct_L06awake : List (Nat × Ct) := (9, ⟨[], false, gL06awake, none⟩) :: ct_L06votes
theorem ctok_L06awake : CtsOk Tryd.prog Gs ct_L06awake := CtsOk.cons vL06awake (by kernel_rfl) ctok_L06votes
end Go.Proofs.YtlgffgnkkihaoaaDoor
