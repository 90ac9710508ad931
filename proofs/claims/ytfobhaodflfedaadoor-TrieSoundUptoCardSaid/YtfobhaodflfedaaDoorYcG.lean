/- Tries: by definition, proofs. -/
import Derived.Test.YtfobhaodflfedaaDoorYcF
namespace Go.Proofs.YtfobhaodflfedaaDoor
open Go.Dx Go.RowKit
set_option linter.unusedVariables false
set_option linter.unusedSimpArgs false
set_option maxRecDepth 100000
attribute [local irreducible] wpS
attribute [local irreducible] sumB joinB
noncomputable def cB (x : List Int) : List Int := (spl x).getD 1 []
def eK (e : List TE) : List Int := (e.headD tZ).1
def eV (e : List TE) : ByteArray := strOfNums (e.headD tZ).2
def eO (e : List TE) : Bool := !e.isEmpty
def eP (o : Bool) (g : List Int) (v : ByteArray) : List TE := if o then [(g, numsOf v)] else []
def fitP (s : List (List Int)) (o : Bool) (g k : List Int) : Bool := !o || (List.range s.length).all fun i => bt g i == bt k i
theorem num_str {L : List Int} (h : OkB L) : numsOf (strOfNums L) = L := by
  show (((L.map fun n : Int => UInt8.ofNat n.toNat).toArray).toList.map fun b : UInt8 => (b.toNat : Int)) = L
  rw [List.map_map]
  conv => rhs; rw [← List.map_id L]
  apply List.map_congr_left
  intro y hy
  exact u8_nat (h y hy)
theorem eP_eq {e : List TE} (hl : e.length ≤ 1) (h : ∀ x ∈ e, OkB x.2) : eP (eO e) (eK e) (eV e) = e := by
  match e, hl, h with
  | [], _, _ => rfl
  | [y], _, h =>
    show [(y.1, numsOf (strOfNums y.2))] = [y]
    rw [num_str (h y (by simp))]
theorem fit_eq {k : List Int} {s : List (List Int)} {e : List TE} (hl : e.length ≤ 1) : fitP s (eO e) (eK e) k = fitsT k s e := by
  match e, hl with
  | [], _ => unfold fitP fitsT; simp [eO]
  | [y], _ => unfold fitP fitsT; simp [eO, eK]
theorem brTr {b : Bool} {p q : Prop} (h : b = true) (k : p) : brP b p q := by subst h; exact k
theorem brFa {b : Bool} {p q : Prop} (h : b = false) (k : q) : brP b p q := by subst h; exact k
theorem rd_noP {x : List Int} (h : readT x = none) : (rdS x).length = 0 ∧ false = eO (rdE x) ∧ List.replicate 32 0 = eK (rdE x) ∧ (⟨#[]⟩ : ByteArray) = eV (rdE x) ∧ false = rdO x ∧ True := by
  have h1 : rdS x = [] := by unfold rdS; rw [h]; rfl
  have h2 : rdE x = [] := by unfold rdE; rw [h]; rfl
  have h3 : rdO x = false := by unfold rdO; rw [h]; rfl
  rw [h1, h2, h3]; exact ⟨rfl, rfl, rfl, rfl, rfl, trivial⟩
theorem cut32 (a : List Int) (t : Nat) : cutL a (some (IntKind.i64, ((32 * t : Nat) : Int))) (some (IntKind.i64, ((32 * t + 32 : Nat) : Int))) = (a.drop (32 * t)).take 32 := by
  simp only [cutL, Int.toNat_natCast]
  rw [List.drop_take]; congr 1; omega
theorem set_app (L : List Int) {t : Nat} (h : t < 32) (hl : 32 ≤ L.length) : List.set (L.take t ++ List.replicate (32 - t) 0) t (L.getD t 0) = L.take (t + 1) ++ List.replicate (32 - (t + 1)) 0 := by
  have ht : (L.take t).length = t := by rw [List.length_take]; omega
  rw [List.set_append_right _ _ (by omega), ht, Nat.sub_self, show 32 - t = (32 - (t + 1)) + 1 by omega, List.replicate_succ, List.set_cons_zero, List.take_succ_eq_append_getElem (show t < L.length by omega), List.append_assoc, List.getD_eq_getElem?_getD, List.getElem?_eq_getElem (show t < L.length by omega)]
  rfl
noncomputable def anR04digest (L : List Int) : Nat → List Nat → List Ann := fun bk_ gs_ => match bk_, gs_ with
    | 0, _ => [{ τ := Nat, t0 := (default : Nat), J := fun j => j ≤ 32, m := fun j => 32 - j, l := fun j => [(0, .s (.a (.d (.si .u8 L)))), (2, .s (.a (.lp 202 0))), (3, .s (.a (.lp 203 0))), (4, eI .i64 (j : Int))], H := fun j => [(202, .cells [.ints .u8 32 (List.replicate 32 0)] 24), (203, .cells [.ints .u8 32 (L.take j ++ List.replicate (32 - j) 0)] 24)] }]
    | _, _ => []
theorem okR04digest (L : List Int) (hp : allP [OkB L, 32 ≤ L.length]) : CallsOk Tryd.prog Gs 60 [.a (.d (.si .u8 L))] [] (.s (.agg [.ints .u8 32 (L.take 32)])) [] :=
  ok_of (ann := anR04digest L) ctok_R04Get mixed Tryd.func60 (by kernel_rfl) (of_nf (p := (∃ (t : Nat), L = L ∧ (0 : Int) = (↑t : Int) ∧ List.replicate (32 : Nat) (0 : Int) = List.replicate (32 : Nat) (0 : Int) ∧ List.replicate (32 : Nat) (0 : Int) = List.take t L ++ List.replicate ((32 : Nat) - t) (0 : Int) ∧ t ≤ (32 : Nat) ∧ True) ∧ ∀ (t : Nat), t ≤ (32 : Nat) → brP (decide ((↑t : Int) < (32 : Int))) (((0 : Int) ≤ (↑t : Int) ∧ (↑t : Int) < (↑(List.length L) : Int)) ∧ ((0 : Int) ≤ (↑t : Int) ∧ (↑t : Int) < (↑(32 : Nat) : Int)) ∧ ∃ (t_1 : Nat), L = L ∧ IntKind.wrap IntKind.i64 ((↑t : Int) + (1 : Int)) = (↑t_1 : Int) ∧ List.replicate (32 : Nat) (0 : Int) = List.replicate (32 : Nat) (0 : Int) ∧ List.set (List.take t L ++ List.replicate ((32 : Nat) - t) (0 : Int)) (Int.toNat (↑t : Int)) (List.getD L (Int.toNat (↑t : Int)) (0 : Int)) = List.take t_1 L ++ List.replicate ((32 : Nat) - t_1) (0 : Int) ∧ t_1 ≤ (32 : Nat) ∧ (32 : Nat) - t_1 < (32 : Nat) - t ∧ True) (List.take t L ++ List.replicate ((32 : Nat) - t) (0 : Int) = List.take (32 : Nat) L ∧ True)) (by kernel_rfl) (by
    obtain ⟨hb, hl, _⟩ := hp
    refine ⟨⟨0, rfl, rfl, rfl, rfl, Nat.zero_le _, trivial⟩, fun t ht => brI (fun hc => ?_) (fun hc => ?_)⟩
    · have hc : t < 32 := by have := of_decide_eq_true hc; omega
      rw [Int.toNat_natCast]
      exact ⟨⟨by omega, by omega⟩, ⟨by omega, by omega⟩, t + 1, rfl, by rw [wi _ (by omega) (by omega)]; rfl, rfl, set_app L hc hl, by omega, by omega, trivial⟩
    · have hc : t = 32 := by have := of_decide_eq_false hc; omega
      subst hc
      exact ⟨by simp, trivial⟩))
noncomputable def gR04digest : Con := fun args H => match args, H with
  | [.a (.d (.si .u8 L))], [] => some ⟨[OkB L, 32 ≤ L.length], .s (.agg [.ints .u8 32 (L.take 32)]), []⟩
  | _, _ => none
theorem vR04digest : Valid Tryd.prog Gs 60 gR04digest := by
  intro args H r h hp
  unfold gR04digest at h
  split at h
  · simp only [Option.some.injEq] at h; subst h; exact okR04digest _ hp
  · cases h
noncomputable def ct_R04digest : List (Nat × Ct) := (60, ⟨[], false, gR04digest, none⟩) :: ct_R04Get
theorem ctok_R04digest : CtsOk Tryd.prog Gs ct_R04digest := CtsOk.cons vR04digest (by kernel_rfl) ctok_R04Get
noncomputable def anR04Read (x : List Int) : Nat → List Nat → List Ann := fun bk_ gs_ => match bk_, gs_ with
    | 0, _ => [{ τ := Nat, t0 := (default : Nat), J := fun t => t ≤ (cA x).length / 32, m := fun t => (cA x).length / 32 - t, l := fun t => [(2, .s (.a (.lp 202 0))), (4, .s (.a (.d (.sb (spl x))))), (6, .s (.a (.d (.sb (spl (cB x)))))), (7, .s (.a (.lp 207 0))), (8, eI .i64 ((32 * t : Nat) : Int))], H := fun t => [(202, .cells [.one (.rw 270), .one (.d (.v (.bool false))), .ints .u8 32 (List.replicate 32 0), .one (.d (.v (.string ⟨#[]⟩)))] 74), (270, .row (.st 32 0 (lC dE [] ([] : List (List Int)))) 24), (207, .cells [.one (.rw 277), .one (.d (.v (.bool false))), .ints .u8 32 (List.replicate 32 0), .one (.d (.v (.string ⟨#[]⟩)))] 74), (277, .row (.st 32 t (lC dE [] ((chunks (cA x)).take t))) 24)] }]
    | _, _ => []
theorem okR04Read (x : List Int) (hp : allP [OkB x, x.length + 300 ≤ lim]) : CallsOk Tryd.prog Gs 37 [.a (.d (.si .u8 x))] [] (.t [.agg [.one (.d (.sl 32 (rdS x).length (lC dE [] (rdS x)))), .one (.d (.v (.bool (eO (rdE x))))), .ints .u8 32 (eK (rdE x)), .one (.d (.v (.string (eV (rdE x)))))], .a (.d (.v (.bool (rdO x))))]) [] :=
  ok_of (ann := anR04Read x) ctok_R04digest mixed Tryd.func37 (by kernel_rfl) (of_nf (p := OkB x ∧ List.length x ≤ lim ∧ brP (!Option.isSome (splitB x)) (List.length (rdS x) = (0 : Nat) ∧ false = eO (rdE x) ∧ List.replicate (32 : Nat) (0 : Int) = eK (rdE x) ∧ (⟨#[]⟩ : ByteArray) = eV (rdE x) ∧ false = rdO x ∧ True) (brP ((↑(Cont.len (Cont.bts (Option.getD (splitB x) []))) : Int) != (2 : Int)) (List.length (rdS x) = (0 : Nat) ∧ false = eO (rdE x) ∧ List.replicate (32 : Nat) (0 : Int) = eK (rdE x) ∧ (⟨#[]⟩ : ByteArray) = eV (rdE x) ∧ false = rdO x ∧ True) (((0 : Int) ≤ (0 : Int) ∧ (0 : Int) < (↑(Cont.len (Cont.bts (Option.getD (splitB x) []))) : Int)) ∧ (32 : Int) ≠ (0 : Int) ∧ brP (Int.tmod (↑(List.length (List.getD (Option.getD (splitB x) []) (Int.toNat (0 : Int)) [])) : Int) (32 : Int) != (0 : Int)) (List.length (rdS x) = (0 : Nat) ∧ false = eO (rdE x) ∧ List.replicate (32 : Nat) (0 : Int) = eK (rdE x) ∧ (⟨#[]⟩ : ByteArray) = eV (rdE x) ∧ false = rdO x ∧ True) (((0 : Int) ≤ (0 : Int) ∧ (0 : Int) < (↑(Cont.len (Cont.bts (Option.getD (splitB x) []))) : Int)) ∧ (32 : Int) ≠ (0 : Int) ∧ brP (decide (IntKind.wrap IntKind.i64 (Int.tdiv (↑(List.length (List.getD (Option.getD (splitB x) []) (Int.toNat (0 : Int)) [])) : Int) (32 : Int)) > (256 : Int))) (List.length (rdS x) = (0 : Nat) ∧ false = eO (rdE x) ∧ List.replicate (32 : Nat) (0 : Int) = eK (rdE x) ∧ (⟨#[]⟩ : ByteArray) = eV (rdE x) ∧ false = rdO x ∧ True) (((0 : Int) ≤ (1 : Int) ∧ (1 : Int) < (↑(Cont.len (Cont.bts (Option.getD (splitB x) []))) : Int)) ∧ OkB (List.getD (Option.getD (splitB x) []) (Int.toNat (1 : Int)) []) ∧ List.length (List.getD (Option.getD (splitB x) []) (Int.toNat (1 : Int)) []) ≤ lim ∧ brP (!Option.isSome (splitB (List.getD (Option.getD (splitB x) []) (Int.toNat (1 : Int)) []))) (List.length (rdS x) = (0 : Nat) ∧ false = eO (rdE x) ∧ List.replicate (32 : Nat) (0 : Int) = eK (rdE x) ∧ (⟨#[]⟩ : ByteArray) = eV (rdE x) ∧ false = rdO x ∧ True) (brP ((↑(Cont.len (Cont.bts (Option.getD (splitB (List.getD (Option.getD (splitB x) []) (Int.toNat (1 : Int)) [])) []))) : Int) != (0 : Int)) (brP ((↑(Cont.len (Cont.bts (Option.getD (splitB (List.getD (Option.getD (splitB x) []) (Int.toNat (1 : Int)) [])) []))) : Int) != (2 : Int)) (List.length (rdS x) = (0 : Nat) ∧ false = eO (rdE x) ∧ List.replicate (32 : Nat) (0 : Int) = eK (rdE x) ∧ (⟨#[]⟩ : ByteArray) = eV (rdE x) ∧ false = rdO x ∧ True) (brP ((↑(Cont.len (Cont.bts (Option.getD (splitB (List.getD (Option.getD (splitB x) []) (Int.toNat (1 : Int)) [])) []))) : Int) == (2 : Int)) (((0 : Int) ≤ (0 : Int) ∧ (0 : Int) < (↑(Cont.len (Cont.bts (Option.getD (splitB (List.getD (Option.getD (splitB x) []) (Int.toNat (1 : Int)) [])) []))) : Int)) ∧ brP ((↑(List.length (List.getD (Option.getD (splitB (List.getD (Option.getD (splitB x) []) (Int.toNat (1 : Int)) [])) []) (Int.toNat (0 : Int)) [])) : Int) != (32 : Int)) (List.length (rdS x) = (0 : Nat) ∧ false = eO (rdE x) ∧ List.replicate (32 : Nat) (0 : Int) = eK (rdE x) ∧ (⟨#[]⟩ : ByteArray) = eV (rdE x) ∧ false = rdO x ∧ True) ((∃ (t : Nat), Option.getD (splitB x) [] = spl x ∧ Option.getD (splitB (List.getD (Option.getD (splitB x) []) (Int.toNat (1 : Int)) [])) [] = spl (cB x) ∧ (0 : Int) = (↑((32 : Nat) * t) : Int) ∧ false = false ∧ List.replicate (32 : Nat) (0 : Int) = List.replicate (32 : Nat) (0 : Int) ∧ (⟨#[]⟩ : ByteArray) = (⟨#[]⟩ : ByteArray) ∧ (0 : Nat) = (0 : Nat) ∧ (∀ (i : Nat), i < (0 : Nat) → lC dE [] [] i = lC dE [] [] i) ∧ false = false ∧ List.replicate (32 : Nat) (0 : Int) = List.replicate (32 : Nat) (0 : Int) ∧ (⟨#[]⟩ : ByteArray) = (⟨#[]⟩ : ByteArray) ∧ (0 : Nat) = t ∧ (∀ (i : Nat), i < t → lC dE [] (List.take t (chunks (cA x))) i = lC dE [] (List.take t (chunks (cA x))) i) ∧ t ≤ List.length (cA x) / (32 : Nat) ∧ True) ∧ ∀ (t : Nat), t ≤ List.length (cA x) / (32 : Nat) → ((0 : Int) ≤ (0 : Int) ∧ (0 : Int) < (↑(List.length (spl x)) : Int)) ∧ brP (decide ((↑((32 : Nat) * t) : Int) < (↑(List.length (List.getD (spl x) (Int.toNat (0 : Int)) [])) : Int))) (((0 : Int) ≤ (0 : Int) ∧ (0 : Int) < (↑(List.length (spl x)) : Int)) ∧ ((0 : Int) ≤ (↑((32 : Nat) * t) : Int) ∧ (↑((32 : Nat) * t) : Int) ≤ IntKind.wrap IntKind.i64 ((↑((32 : Nat) * t) : Int) + (32 : Int)) ∧ IntKind.wrap IntKind.i64 ((↑((32 : Nat) * t) : Int) + (32 : Int)) ≤ (↑(List.length (List.getD (spl x) (Int.toNat (0 : Int)) [])) : Int)) ∧ OkB (cutL (List.getD (spl x) (Int.toNat (0 : Int)) []) (some (IntKind.i64, (↑((32 : Nat) * t) : Int))) (some (IntKind.i64, IntKind.wrap IntKind.i64 ((↑((32 : Nat) * t) : Int) + (32 : Int))))) ∧ (32 : Nat) ≤ List.length (cutL (List.getD (spl x) (Int.toNat (0 : Int)) []) (some (IntKind.i64, (↑((32 : Nat) * t) : Int))) (some (IntKind.i64, IntKind.wrap IntKind.i64 ((↑((32 : Nat) * t) : Int) + (32 : Int))))) ∧ Cont.len (Cont.st (32 : Nat) t (lC dE [] (List.take t (chunks (cA x))))) + Cont.len (Cont.st (32 : Nat) (1 : Nat) fun (i : Nat) => List.getD [[DC.ints IntKind.u8 (32 : Nat) (List.take (32 : Nat) (cutL (List.getD (spl x) (Int.toNat (0 : Int)) []) (some (IntKind.i64, (↑((32 : Nat) * t) : Int))) (some (IntKind.i64, IntKind.wrap IntKind.i64 ((↑((32 : Nat) * t) : Int) + (32 : Int))))))]] i []) ≤ lim ∧ ∃ (t_1 : Nat), spl x = spl x ∧ spl (cB x) = spl (cB x) ∧ IntKind.wrap IntKind.i64 ((↑((32 : Nat) * t) : Int) + (32 : Int)) = (↑((32 : Nat) * t_1) : Int) ∧ false = false ∧ List.replicate (32 : Nat) (0 : Int) = List.replicate (32 : Nat) (0 : Int) ∧ (⟨#[]⟩ : ByteArray) = (⟨#[]⟩ : ByteArray) ∧ (0 : Nat) = (0 : Nat) ∧ (∀ (i : Nat), i < (0 : Nat) → lC dE [] [] i = lC dE [] [] i) ∧ false = false ∧ List.replicate (32 : Nat) (0 : Int) = List.replicate (32 : Nat) (0 : Int) ∧ (⟨#[]⟩ : ByteArray) = (⟨#[]⟩ : ByteArray) ∧ t + (1 : Nat) = t_1 ∧ (∀ (i : Nat), i < t_1 → catF t (lC dE [] (List.take t (chunks (cA x)))) (fun (i : Nat) => List.getD [[DC.ints IntKind.u8 (32 : Nat) (List.take (32 : Nat) (cutL (List.getD (spl x) (Int.toNat (0 : Int)) []) (some (IntKind.i64, (↑((32 : Nat) * t) : Int))) (some (IntKind.i64, IntKind.wrap IntKind.i64 ((↑((32 : Nat) * t) : Int) + (32 : Int))))))]] i []) i = lC dE [] (List.take t_1 (chunks (cA x))) i) ∧ t_1 ≤ List.length (cA x) / (32 : Nat) ∧ List.length (cA x) / (32 : Nat) - t_1 < List.length (cA x) / (32 : Nat) - t ∧ True) (brP ((↑(List.length (spl (cB x))) : Int) == (2 : Int)) (((0 : Int) ≤ (0 : Int) ∧ (0 : Int) < (↑(List.length (spl (cB x))) : Int)) ∧ OkB (List.getD (spl (cB x)) (Int.toNat (0 : Int)) []) ∧ (32 : Nat) ≤ List.length (List.getD (spl (cB x)) (Int.toNat (0 : Int)) []) ∧ ((0 : Int) ≤ (1 : Int) ∧ (1 : Int) < (↑(List.length (spl (cB x))) : Int)) ∧ t = List.length (rdS x) ∧ (∀ (i : Nat), i < List.length (rdS x) → lC dE [] (List.take t (chunks (cA x))) i = lC dE [] (rdS x) i) ∧ true = eO (rdE x) ∧ List.take (32 : Nat) (List.getD (spl (cB x)) (Int.toNat (0 : Int)) []) = eK (rdE x) ∧ strOfNums (List.getD (spl (cB x)) (Int.toNat (1 : Int)) []) = eV (rdE x) ∧ true = rdO x ∧ True) (t = List.length (rdS x) ∧ (∀ (i : Nat), i < List.length (rdS x) → lC dE [] (List.take t (chunks (cA x))) i = lC dE [] (rdS x) i) ∧ false = eO (rdE x) ∧ List.replicate (32 : Nat) (0 : Int) = eK (rdE x) ∧ (⟨#[]⟩ : ByteArray) = eV (rdE x) ∧ true = rdO x ∧ True)))) ((∃ (t : Nat), Option.getD (splitB x) [] = spl x ∧ Option.getD (splitB (List.getD (Option.getD (splitB x) []) (Int.toNat (1 : Int)) [])) [] = spl (cB x) ∧ (0 : Int) = (↑((32 : Nat) * t) : Int) ∧ false = false ∧ List.replicate (32 : Nat) (0 : Int) = List.replicate (32 : Nat) (0 : Int) ∧ (⟨#[]⟩ : ByteArray) = (⟨#[]⟩ : ByteArray) ∧ (0 : Nat) = (0 : Nat) ∧ (∀ (i : Nat), i < (0 : Nat) → lC dE [] [] i = lC dE [] [] i) ∧ false = false ∧ List.replicate (32 : Nat) (0 : Int) = List.replicate (32 : Nat) (0 : Int) ∧ (⟨#[]⟩ : ByteArray) = (⟨#[]⟩ : ByteArray) ∧ (0 : Nat) = t ∧ (∀ (i : Nat), i < t → lC dE [] (List.take t (chunks (cA x))) i = lC dE [] (List.take t (chunks (cA x))) i) ∧ t ≤ List.length (cA x) / (32 : Nat) ∧ True) ∧ ∀ (t : Nat), t ≤ List.length (cA x) / (32 : Nat) → ((0 : Int) ≤ (0 : Int) ∧ (0 : Int) < (↑(List.length (spl x)) : Int)) ∧ brP (decide ((↑((32 : Nat) * t) : Int) < (↑(List.length (List.getD (spl x) (Int.toNat (0 : Int)) [])) : Int))) (((0 : Int) ≤ (0 : Int) ∧ (0 : Int) < (↑(List.length (spl x)) : Int)) ∧ ((0 : Int) ≤ (↑((32 : Nat) * t) : Int) ∧ (↑((32 : Nat) * t) : Int) ≤ IntKind.wrap IntKind.i64 ((↑((32 : Nat) * t) : Int) + (32 : Int)) ∧ IntKind.wrap IntKind.i64 ((↑((32 : Nat) * t) : Int) + (32 : Int)) ≤ (↑(List.length (List.getD (spl x) (Int.toNat (0 : Int)) [])) : Int)) ∧ OkB (cutL (List.getD (spl x) (Int.toNat (0 : Int)) []) (some (IntKind.i64, (↑((32 : Nat) * t) : Int))) (some (IntKind.i64, IntKind.wrap IntKind.i64 ((↑((32 : Nat) * t) : Int) + (32 : Int))))) ∧ (32 : Nat) ≤ List.length (cutL (List.getD (spl x) (Int.toNat (0 : Int)) []) (some (IntKind.i64, (↑((32 : Nat) * t) : Int))) (some (IntKind.i64, IntKind.wrap IntKind.i64 ((↑((32 : Nat) * t) : Int) + (32 : Int))))) ∧ Cont.len (Cont.st (32 : Nat) t (lC dE [] (List.take t (chunks (cA x))))) + Cont.len (Cont.st (32 : Nat) (1 : Nat) fun (i : Nat) => List.getD [[DC.ints IntKind.u8 (32 : Nat) (List.take (32 : Nat) (cutL (List.getD (spl x) (Int.toNat (0 : Int)) []) (some (IntKind.i64, (↑((32 : Nat) * t) : Int))) (some (IntKind.i64, IntKind.wrap IntKind.i64 ((↑((32 : Nat) * t) : Int) + (32 : Int))))))]] i []) ≤ lim ∧ ∃ (t_1 : Nat), spl x = spl x ∧ spl (cB x) = spl (cB x) ∧ IntKind.wrap IntKind.i64 ((↑((32 : Nat) * t) : Int) + (32 : Int)) = (↑((32 : Nat) * t_1) : Int) ∧ false = false ∧ List.replicate (32 : Nat) (0 : Int) = List.replicate (32 : Nat) (0 : Int) ∧ (⟨#[]⟩ : ByteArray) = (⟨#[]⟩ : ByteArray) ∧ (0 : Nat) = (0 : Nat) ∧ (∀ (i : Nat), i < (0 : Nat) → lC dE [] [] i = lC dE [] [] i) ∧ false = false ∧ List.replicate (32 : Nat) (0 : Int) = List.replicate (32 : Nat) (0 : Int) ∧ (⟨#[]⟩ : ByteArray) = (⟨#[]⟩ : ByteArray) ∧ t + (1 : Nat) = t_1 ∧ (∀ (i : Nat), i < t_1 → catF t (lC dE [] (List.take t (chunks (cA x)))) (fun (i : Nat) => List.getD [[DC.ints IntKind.u8 (32 : Nat) (List.take (32 : Nat) (cutL (List.getD (spl x) (Int.toNat (0 : Int)) []) (some (IntKind.i64, (↑((32 : Nat) * t) : Int))) (some (IntKind.i64, IntKind.wrap IntKind.i64 ((↑((32 : Nat) * t) : Int) + (32 : Int))))))]] i []) i = lC dE [] (List.take t_1 (chunks (cA x))) i) ∧ t_1 ≤ List.length (cA x) / (32 : Nat) ∧ List.length (cA x) / (32 : Nat) - t_1 < List.length (cA x) / (32 : Nat) - t ∧ True) (brP ((↑(List.length (spl (cB x))) : Int) == (2 : Int)) (((0 : Int) ≤ (0 : Int) ∧ (0 : Int) < (↑(List.length (spl (cB x))) : Int)) ∧ OkB (List.getD (spl (cB x)) (Int.toNat (0 : Int)) []) ∧ (32 : Nat) ≤ List.length (List.getD (spl (cB x)) (Int.toNat (0 : Int)) []) ∧ ((0 : Int) ≤ (1 : Int) ∧ (1 : Int) < (↑(List.length (spl (cB x))) : Int)) ∧ t = List.length (rdS x) ∧ (∀ (i : Nat), i < List.length (rdS x) → lC dE [] (List.take t (chunks (cA x))) i = lC dE [] (rdS x) i) ∧ true = eO (rdE x) ∧ List.take (32 : Nat) (List.getD (spl (cB x)) (Int.toNat (0 : Int)) []) = eK (rdE x) ∧ strOfNums (List.getD (spl (cB x)) (Int.toNat (1 : Int)) []) = eV (rdE x) ∧ true = rdO x ∧ True) (t = List.length (rdS x) ∧ (∀ (i : Nat), i < List.length (rdS x) → lC dE [] (List.take t (chunks (cA x))) i = lC dE [] (rdS x) i) ∧ false = eO (rdE x) ∧ List.replicate (32 : Nat) (0 : Int) = eK (rdE x) ∧ (⟨#[]⟩ : ByteArray) = eV (rdE x) ∧ true = rdO x ∧ True))))) (brP ((↑(Cont.len (Cont.bts (Option.getD (splitB (List.getD (Option.getD (splitB x) []) (Int.toNat (1 : Int)) [])) []))) : Int) == (2 : Int)) (((0 : Int) ≤ (0 : Int) ∧ (0 : Int) < (↑(Cont.len (Cont.bts (Option.getD (splitB (List.getD (Option.getD (splitB x) []) (Int.toNat (1 : Int)) [])) []))) : Int)) ∧ brP ((↑(List.length (List.getD (Option.getD (splitB (List.getD (Option.getD (splitB x) []) (Int.toNat (1 : Int)) [])) []) (Int.toNat (0 : Int)) [])) : Int) != (32 : Int)) (List.length (rdS x) = (0 : Nat) ∧ false = eO (rdE x) ∧ List.replicate (32 : Nat) (0 : Int) = eK (rdE x) ∧ (⟨#[]⟩ : ByteArray) = eV (rdE x) ∧ false = rdO x ∧ True) ((∃ (t : Nat), Option.getD (splitB x) [] = spl x ∧ Option.getD (splitB (List.getD (Option.getD (splitB x) []) (Int.toNat (1 : Int)) [])) [] = spl (cB x) ∧ (0 : Int) = (↑((32 : Nat) * t) : Int) ∧ false = false ∧ List.replicate (32 : Nat) (0 : Int) = List.replicate (32 : Nat) (0 : Int) ∧ (⟨#[]⟩ : ByteArray) = (⟨#[]⟩ : ByteArray) ∧ (0 : Nat) = (0 : Nat) ∧ (∀ (i : Nat), i < (0 : Nat) → lC dE [] [] i = lC dE [] [] i) ∧ false = false ∧ List.replicate (32 : Nat) (0 : Int) = List.replicate (32 : Nat) (0 : Int) ∧ (⟨#[]⟩ : ByteArray) = (⟨#[]⟩ : ByteArray) ∧ (0 : Nat) = t ∧ (∀ (i : Nat), i < t → lC dE [] (List.take t (chunks (cA x))) i = lC dE [] (List.take t (chunks (cA x))) i) ∧ t ≤ List.length (cA x) / (32 : Nat) ∧ True) ∧ ∀ (t : Nat), t ≤ List.length (cA x) / (32 : Nat) → ((0 : Int) ≤ (0 : Int) ∧ (0 : Int) < (↑(List.length (spl x)) : Int)) ∧ brP (decide ((↑((32 : Nat) * t) : Int) < (↑(List.length (List.getD (spl x) (Int.toNat (0 : Int)) [])) : Int))) (((0 : Int) ≤ (0 : Int) ∧ (0 : Int) < (↑(List.length (spl x)) : Int)) ∧ ((0 : Int) ≤ (↑((32 : Nat) * t) : Int) ∧ (↑((32 : Nat) * t) : Int) ≤ IntKind.wrap IntKind.i64 ((↑((32 : Nat) * t) : Int) + (32 : Int)) ∧ IntKind.wrap IntKind.i64 ((↑((32 : Nat) * t) : Int) + (32 : Int)) ≤ (↑(List.length (List.getD (spl x) (Int.toNat (0 : Int)) [])) : Int)) ∧ OkB (cutL (List.getD (spl x) (Int.toNat (0 : Int)) []) (some (IntKind.i64, (↑((32 : Nat) * t) : Int))) (some (IntKind.i64, IntKind.wrap IntKind.i64 ((↑((32 : Nat) * t) : Int) + (32 : Int))))) ∧ (32 : Nat) ≤ List.length (cutL (List.getD (spl x) (Int.toNat (0 : Int)) []) (some (IntKind.i64, (↑((32 : Nat) * t) : Int))) (some (IntKind.i64, IntKind.wrap IntKind.i64 ((↑((32 : Nat) * t) : Int) + (32 : Int))))) ∧ Cont.len (Cont.st (32 : Nat) t (lC dE [] (List.take t (chunks (cA x))))) + Cont.len (Cont.st (32 : Nat) (1 : Nat) fun (i : Nat) => List.getD [[DC.ints IntKind.u8 (32 : Nat) (List.take (32 : Nat) (cutL (List.getD (spl x) (Int.toNat (0 : Int)) []) (some (IntKind.i64, (↑((32 : Nat) * t) : Int))) (some (IntKind.i64, IntKind.wrap IntKind.i64 ((↑((32 : Nat) * t) : Int) + (32 : Int))))))]] i []) ≤ lim ∧ ∃ (t_1 : Nat), spl x = spl x ∧ spl (cB x) = spl (cB x) ∧ IntKind.wrap IntKind.i64 ((↑((32 : Nat) * t) : Int) + (32 : Int)) = (↑((32 : Nat) * t_1) : Int) ∧ false = false ∧ List.replicate (32 : Nat) (0 : Int) = List.replicate (32 : Nat) (0 : Int) ∧ (⟨#[]⟩ : ByteArray) = (⟨#[]⟩ : ByteArray) ∧ (0 : Nat) = (0 : Nat) ∧ (∀ (i : Nat), i < (0 : Nat) → lC dE [] [] i = lC dE [] [] i) ∧ false = false ∧ List.replicate (32 : Nat) (0 : Int) = List.replicate (32 : Nat) (0 : Int) ∧ (⟨#[]⟩ : ByteArray) = (⟨#[]⟩ : ByteArray) ∧ t + (1 : Nat) = t_1 ∧ (∀ (i : Nat), i < t_1 → catF t (lC dE [] (List.take t (chunks (cA x)))) (fun (i : Nat) => List.getD [[DC.ints IntKind.u8 (32 : Nat) (List.take (32 : Nat) (cutL (List.getD (spl x) (Int.toNat (0 : Int)) []) (some (IntKind.i64, (↑((32 : Nat) * t) : Int))) (some (IntKind.i64, IntKind.wrap IntKind.i64 ((↑((32 : Nat) * t) : Int) + (32 : Int))))))]] i []) i = lC dE [] (List.take t_1 (chunks (cA x))) i) ∧ t_1 ≤ List.length (cA x) / (32 : Nat) ∧ List.length (cA x) / (32 : Nat) - t_1 < List.length (cA x) / (32 : Nat) - t ∧ True) (brP ((↑(List.length (spl (cB x))) : Int) == (2 : Int)) (((0 : Int) ≤ (0 : Int) ∧ (0 : Int) < (↑(List.length (spl (cB x))) : Int)) ∧ OkB (List.getD (spl (cB x)) (Int.toNat (0 : Int)) []) ∧ (32 : Nat) ≤ List.length (List.getD (spl (cB x)) (Int.toNat (0 : Int)) []) ∧ ((0 : Int) ≤ (1 : Int) ∧ (1 : Int) < (↑(List.length (spl (cB x))) : Int)) ∧ t = List.length (rdS x) ∧ (∀ (i : Nat), i < List.length (rdS x) → lC dE [] (List.take t (chunks (cA x))) i = lC dE [] (rdS x) i) ∧ true = eO (rdE x) ∧ List.take (32 : Nat) (List.getD (spl (cB x)) (Int.toNat (0 : Int)) []) = eK (rdE x) ∧ strOfNums (List.getD (spl (cB x)) (Int.toNat (1 : Int)) []) = eV (rdE x) ∧ true = rdO x ∧ True) (t = List.length (rdS x) ∧ (∀ (i : Nat), i < List.length (rdS x) → lC dE [] (List.take t (chunks (cA x))) i = lC dE [] (rdS x) i) ∧ false = eO (rdE x) ∧ List.replicate (32 : Nat) (0 : Int) = eK (rdE x) ∧ (⟨#[]⟩ : ByteArray) = eV (rdE x) ∧ true = rdO x ∧ True)))) ((∃ (t : Nat), Option.getD (splitB x) [] = spl x ∧ Option.getD (splitB (List.getD (Option.getD (splitB x) []) (Int.toNat (1 : Int)) [])) [] = spl (cB x) ∧ (0 : Int) = (↑((32 : Nat) * t) : Int) ∧ false = false ∧ List.replicate (32 : Nat) (0 : Int) = List.replicate (32 : Nat) (0 : Int) ∧ (⟨#[]⟩ : ByteArray) = (⟨#[]⟩ : ByteArray) ∧ (0 : Nat) = (0 : Nat) ∧ (∀ (i : Nat), i < (0 : Nat) → lC dE [] [] i = lC dE [] [] i) ∧ false = false ∧ List.replicate (32 : Nat) (0 : Int) = List.replicate (32 : Nat) (0 : Int) ∧ (⟨#[]⟩ : ByteArray) = (⟨#[]⟩ : ByteArray) ∧ (0 : Nat) = t ∧ (∀ (i : Nat), i < t → lC dE [] (List.take t (chunks (cA x))) i = lC dE [] (List.take t (chunks (cA x))) i) ∧ t ≤ List.length (cA x) / (32 : Nat) ∧ True) ∧ ∀ (t : Nat), t ≤ List.length (cA x) / (32 : Nat) → ((0 : Int) ≤ (0 : Int) ∧ (0 : Int) < (↑(List.length (spl x)) : Int)) ∧ brP (decide ((↑((32 : Nat) * t) : Int) < (↑(List.length (List.getD (spl x) (Int.toNat (0 : Int)) [])) : Int))) (((0 : Int) ≤ (0 : Int) ∧ (0 : Int) < (↑(List.length (spl x)) : Int)) ∧ ((0 : Int) ≤ (↑((32 : Nat) * t) : Int) ∧ (↑((32 : Nat) * t) : Int) ≤ IntKind.wrap IntKind.i64 ((↑((32 : Nat) * t) : Int) + (32 : Int)) ∧ IntKind.wrap IntKind.i64 ((↑((32 : Nat) * t) : Int) + (32 : Int)) ≤ (↑(List.length (List.getD (spl x) (Int.toNat (0 : Int)) [])) : Int)) ∧ OkB (cutL (List.getD (spl x) (Int.toNat (0 : Int)) []) (some (IntKind.i64, (↑((32 : Nat) * t) : Int))) (some (IntKind.i64, IntKind.wrap IntKind.i64 ((↑((32 : Nat) * t) : Int) + (32 : Int))))) ∧ (32 : Nat) ≤ List.length (cutL (List.getD (spl x) (Int.toNat (0 : Int)) []) (some (IntKind.i64, (↑((32 : Nat) * t) : Int))) (some (IntKind.i64, IntKind.wrap IntKind.i64 ((↑((32 : Nat) * t) : Int) + (32 : Int))))) ∧ Cont.len (Cont.st (32 : Nat) t (lC dE [] (List.take t (chunks (cA x))))) + Cont.len (Cont.st (32 : Nat) (1 : Nat) fun (i : Nat) => List.getD [[DC.ints IntKind.u8 (32 : Nat) (List.take (32 : Nat) (cutL (List.getD (spl x) (Int.toNat (0 : Int)) []) (some (IntKind.i64, (↑((32 : Nat) * t) : Int))) (some (IntKind.i64, IntKind.wrap IntKind.i64 ((↑((32 : Nat) * t) : Int) + (32 : Int))))))]] i []) ≤ lim ∧ ∃ (t_1 : Nat), spl x = spl x ∧ spl (cB x) = spl (cB x) ∧ IntKind.wrap IntKind.i64 ((↑((32 : Nat) * t) : Int) + (32 : Int)) = (↑((32 : Nat) * t_1) : Int) ∧ false = false ∧ List.replicate (32 : Nat) (0 : Int) = List.replicate (32 : Nat) (0 : Int) ∧ (⟨#[]⟩ : ByteArray) = (⟨#[]⟩ : ByteArray) ∧ (0 : Nat) = (0 : Nat) ∧ (∀ (i : Nat), i < (0 : Nat) → lC dE [] [] i = lC dE [] [] i) ∧ false = false ∧ List.replicate (32 : Nat) (0 : Int) = List.replicate (32 : Nat) (0 : Int) ∧ (⟨#[]⟩ : ByteArray) = (⟨#[]⟩ : ByteArray) ∧ t + (1 : Nat) = t_1 ∧ (∀ (i : Nat), i < t_1 → catF t (lC dE [] (List.take t (chunks (cA x)))) (fun (i : Nat) => List.getD [[DC.ints IntKind.u8 (32 : Nat) (List.take (32 : Nat) (cutL (List.getD (spl x) (Int.toNat (0 : Int)) []) (some (IntKind.i64, (↑((32 : Nat) * t) : Int))) (some (IntKind.i64, IntKind.wrap IntKind.i64 ((↑((32 : Nat) * t) : Int) + (32 : Int))))))]] i []) i = lC dE [] (List.take t_1 (chunks (cA x))) i) ∧ t_1 ≤ List.length (cA x) / (32 : Nat) ∧ List.length (cA x) / (32 : Nat) - t_1 < List.length (cA x) / (32 : Nat) - t ∧ True) (brP ((↑(List.length (spl (cB x))) : Int) == (2 : Int)) (((0 : Int) ≤ (0 : Int) ∧ (0 : Int) < (↑(List.length (spl (cB x))) : Int)) ∧ OkB (List.getD (spl (cB x)) (Int.toNat (0 : Int)) []) ∧ (32 : Nat) ≤ List.length (List.getD (spl (cB x)) (Int.toNat (0 : Int)) []) ∧ ((0 : Int) ≤ (1 : Int) ∧ (1 : Int) < (↑(List.length (spl (cB x))) : Int)) ∧ t = List.length (rdS x) ∧ (∀ (i : Nat), i < List.length (rdS x) → lC dE [] (List.take t (chunks (cA x))) i = lC dE [] (rdS x) i) ∧ true = eO (rdE x) ∧ List.take (32 : Nat) (List.getD (spl (cB x)) (Int.toNat (0 : Int)) []) = eK (rdE x) ∧ strOfNums (List.getD (spl (cB x)) (Int.toNat (1 : Int)) []) = eV (rdE x) ∧ true = rdO x ∧ True) (t = List.length (rdS x) ∧ (∀ (i : Nat), i < List.length (rdS x) → lC dE [] (List.take t (chunks (cA x))) i = lC dE [] (rdS x) i) ∧ false = eO (rdE x) ∧ List.replicate (32 : Nat) (0 : Int) = eK (rdE x) ∧ (⟨#[]⟩ : ByteArray) = eV (rdE x) ∧ true = rdO x ∧ True)))))))))) (by kernel_rfl) (by
    obtain ⟨hb, hl, _⟩ := hp
    have hlim : lim = 68719476736 := rfl
    refine ⟨hb, by omega, ?_⟩
    cases hs : splitB x with
    | none => exact brTr rfl (rd_noP (by unfold readT; rw [hs]; rfl))
    | some Ls =>
      refine brFa rfl ?_
      by_cases h2 : Ls.length = 2
      · obtain ⟨a, c, rfl⟩ := len2 h2
        have e1 : spl x = [a, c] := by unfold spl; rw [hs]; rfl
        have e2 : cA x = a := by unfold cA; rw [e1]; rfl
        have eb : cB x = c := by unfold cB; rw [e1]; rfl
        obtain ⟨oa, la⟩ := split_len hb hs a (by simp)
        obtain ⟨oc, lc⟩ := split_len hb hs c (by simp)
        have hr : readT x = if a.length % 32 = 0 ∧ a.length ≤ 8192 then ((splitB c).bind endP).map (fun e => (chunks a, e)) else none := by
          unfold readT; rw [hs]; rfl
        have g0 : Option.getD (some [a, c]) [] = [a, c] := rfl
        have g1 : List.getD [a, c] (Int.toNat 0) [] = a := rfl
        have g2 : List.getD [a, c] (Int.toNat 1) [] = c := rfl
        have g3 : Int.tmod ((a.length : Nat) : Int) 32 = ((a.length % 32 : Nat) : Int) := tmod_nat _ 32
        have g4 : IntKind.wrap .i64 (Int.tdiv ((a.length : Nat) : Int) 32) = ((a.length / 32 : Nat) : Int) := by
          rw [show Int.tdiv ((a.length : Nat) : Int) 32 = ((a.length / 32 : Nat) : Int) from tdiv_nat _ 32]; exact wi _ (by omega) (by omega)
        rw [g0, g1, g2, g3, g4]
        refine brFa rfl ⟨⟨Int.le_refl 0, (by decide : (0 : Int) < ((2 : Nat) : Int))⟩, by decide, ?_⟩
        by_cases ha : a.length % 32 = 0
        · refine brFa (by rw [ha]; rfl) ⟨⟨Int.le_refl 0, (by decide : (0 : Int) < ((2 : Nat) : Int))⟩, by decide, ?_⟩
          by_cases ha2 : a.length ≤ 8192
          · rw [if_pos ⟨ha, ha2⟩] at hr
            refine brFa (decide_eq_false (by omega)) ⟨⟨by decide, (by decide : (1 : Int) < ((2 : Nat) : Int))⟩, oc, by omega, ?_⟩
            cases he : splitB c with
            | none => exact brTr rfl (rd_noP (by rw [hr, he]; rfl))
            | some Es =>
              refine brFa rfl ?_
              have h0 : Option.getD (some Es) [] = Es := rfl
              rw [h0]
              have e3 : spl (cB x) = Es := by unfold spl; rw [eb, he]; rfl
              have oE := split_len oc he
              rw [he] at hr
              match Es, e3, hr, oE with
              | [], e3, hr, _ =>
                obtain ⟨r1, r2, r3⟩ := rd_yes (s := chunks a) (e := []) hr
                refine brFa rfl (brFa rfl ?_)
                refine ⟨⟨0, e1.symm, e3.symm, rfl, rfl, rfl, rfl, rfl, fun _ _ => rfl, rfl, rfl, rfl, rfl, fun _ _ => rfl, Nat.zero_le _, trivial⟩, fun t ht => ?_⟩
                rw [e2] at ht
                rw [e1, e2, e3]
                have g1 : List.getD [a, c] (Int.toNat 0) [] = a := rfl
                rw [g1]
                have nx : IntKind.wrap .i64 (((32 * t : Nat) : Int) + 32) = ((32 * t + 32 : Nat) : Int) := by rw [wi _ (by omega) (by omega)]; rfl
                rw [nx, cut32]
                refine ⟨⟨Int.le_refl 0, by simp⟩, brI (fun hc => ?_) (fun hc => ?_)⟩
                · have hc : 32 * t < a.length := by have := of_decide_eq_true hc; omega
                  have ht2 : t < a.length / 32 := by omega
                  have hcl : ((a.drop (32 * t)).take 32).length = 32 := by rw [List.length_take, List.length_drop]; omega
                  have hlen : ((chunks a).take t).length = t := by rw [List.length_take, chunks_len]; omega
                  refine ⟨⟨Int.le_refl 0, by simp⟩, ⟨by omega, by omega, by omega⟩, fun y hy => oa y (List.mem_of_mem_drop (List.mem_of_mem_take hy)), by omega, (show t + 1 ≤ lim by omega), t + 1, rfl, rfl, by omega, rfl, rfl, rfl, rfl, fun _ _ => rfl, rfl, rfl, rfl, rfl, fun i hi => ?_, by omega, by omega, trivial⟩
                  rw [chunks_take ht2, List.take_of_length_le (by omega : ((a.drop (32 * t)).take 32).length ≤ 32)]
                  have := dSn ((chunks a).take t) ((a.drop (32 * t)).take 32) i (by rw [List.length_append, hlen]; exact hi)
                  rw [hlen] at this; exact this
                · have hc : t = a.length / 32 := by have := of_decide_eq_false hc; omega
                  subst hc
                  rw [chunks_all, r1, r2, r3]
                  exact brFa rfl ⟨(chunks_len a).symm, fun _ _ => rfl, rfl, rfl, rfl, rfl, trivial⟩
              | [p, q], e3, hr, oE =>
                refine brTr rfl (brFa rfl (brTr rfl ⟨⟨Int.le_refl 0, (by decide : (0 : Int) < ((2 : Nat) : Int))⟩, ?_⟩))
                have k1 : List.getD [p, q] (Int.toNat 0) [] = p := rfl
                have k2 : List.getD [p, q] (Int.toNat 1) [] = q := rfl
                by_cases hp32 : p.length = 32
                · refine brFa (by rw [k1, hp32]; rfl) ?_
                  obtain ⟨r1, r2, r3⟩ := rd_yes (s := chunks a) (e := [(p, q)]) (by rw [hr]; show Option.map _ (endP [p, q]) = _; rw [endP2, if_pos hp32]; rfl)
                  refine ⟨⟨0, e1.symm, e3.symm, rfl, rfl, rfl, rfl, rfl, fun _ _ => rfl, rfl, rfl, rfl, rfl, fun _ _ => rfl, Nat.zero_le _, trivial⟩, fun t ht => ?_⟩
                  rw [e2] at ht
                  rw [e1, e2, e3]
                  have g1 : List.getD [a, c] (Int.toNat 0) [] = a := rfl
                  rw [g1]
                  have nx : IntKind.wrap .i64 (((32 * t : Nat) : Int) + 32) = ((32 * t + 32 : Nat) : Int) := by rw [wi _ (by omega) (by omega)]; rfl
                  rw [nx, cut32]
                  refine ⟨⟨Int.le_refl 0, by simp⟩, brI (fun hc => ?_) (fun hc => ?_)⟩
                  · have hc : 32 * t < a.length := by have := of_decide_eq_true hc; omega
                    have ht2 : t < a.length / 32 := by omega
                    have hcl : ((a.drop (32 * t)).take 32).length = 32 := by rw [List.length_take, List.length_drop]; omega
                    have hlen : ((chunks a).take t).length = t := by rw [List.length_take, chunks_len]; omega
                    refine ⟨⟨Int.le_refl 0, by simp⟩, ⟨by omega, by omega, by omega⟩, fun y hy => oa y (List.mem_of_mem_drop (List.mem_of_mem_take hy)), by omega, (show t + 1 ≤ lim by omega), t + 1, rfl, rfl, by omega, rfl, rfl, rfl, rfl, fun _ _ => rfl, rfl, rfl, rfl, rfl, fun i hi => ?_, by omega, by omega, trivial⟩
                    rw [chunks_take ht2, List.take_of_length_le (by omega : ((a.drop (32 * t)).take 32).length ≤ 32)]
                    have := dSn ((chunks a).take t) ((a.drop (32 * t)).take 32) i (by rw [List.length_append, hlen]; exact hi)
                    rw [hlen] at this; exact this
                  · have hc : t = a.length / 32 := by have := of_decide_eq_false hc; omega
                    subst hc
                    rw [chunks_all, r1, r2, r3]
                    refine brTr rfl ⟨⟨Int.le_refl 0, by simp⟩, (oE p (by simp)).1, by rw [k1]; omega, ⟨by decide, by simp⟩, (chunks_len a).symm, fun _ _ => rfl, rfl, ?_, rfl, rfl, trivial⟩
                    rw [k1, List.take_of_length_le (by omega)]; rfl
                · refine brTr (by rw [k1]; simp; omega) (rd_noP ?_)
                  rw [hr]; show Option.map _ (endP [p, q]) = none; rw [endP2, if_neg hp32]; rfl
              | [_], _, hr, _ => exact brTr rfl (brTr rfl (rd_noP hr))
              | _ :: _ :: _ :: r, _, hr, _ => exact brTr (by show (((List.length r + 1 + 1 + 1 : Nat) : Int) != 0) = true; simp; omega) (brTr (by show (((List.length r + 1 + 1 + 1 : Nat) : Int) != 2) = true; simp; omega) (rd_noP hr))
          · rw [if_neg (fun h => ha2 h.2)] at hr
            exact brTr (decide_eq_true (by omega)) (rd_noP hr)
        · rw [if_neg (fun h => ha h.1)] at hr
          exact brTr (by simp; omega) (rd_noP hr)
      · refine brTr (by show (((Ls.length : Nat) : Int) != 2) = true; simp; omega) (rd_noP (by unfold readT; rw [hs]; exact readP_len h2))))
noncomputable def gR04Read : Con := fun args H => match args, H with
  | [.a (.d (.si .u8 x))], [] => some ⟨[OkB x, x.length + 300 ≤ lim], .t [.agg [.one (.d (.sl 32 (rdS x).length (lC dE [] (rdS x)))), .one (.d (.v (.bool (eO (rdE x))))), .ints .u8 32 (eK (rdE x)), .one (.d (.v (.string (eV (rdE x)))))], .a (.d (.v (.bool (rdO x))))], []⟩
  | _, _ => none
theorem vR04Read : Valid Tryd.prog Gs 37 gR04Read := by
  intro args H r h hp
  unfold gR04Read at h
  split at h
  · simp only [Option.some.injEq] at h; subst h; exact okR04Read _ hp
  · cases h
noncomputable def ct_R04Read : List (Nat × Ct) := (37, ⟨[], true, gR04Read, none⟩) :: ct_R04digest
theorem ctok_R04Read : CtsOk Tryd.prog Gs ct_R04Read := CtsOk.cons vR04Read (by kernel_rfl) ctok_R04digest
noncomputable def anR04Fits (s : List (List Int)) (o : Bool) (g : List Int) (v : ByteArray) (k : List Int) : Nat → List Nat → List Ann := fun bk_ gs_ => match bk_, gs_ with
    | 0, _ => [{ τ := Nat, t0 := (default : Nat), J := fun i => i ≤ s.length ∧ ∀ j, j < i → o = true → (bt g j == bt k j) = true, m := fun i => s.length - i, l := fun i => [(2, .s (.a (.lp 202 0))), (3, .s (.a (.lp 203 0))), (5, eI .i64 (i : Int))], H := fun i => [(202, .cells [.one (.d (.sl 32 s.length (lC dE [] s))), .one (.d (.v (.bool o))), .ints .u8 32 g, .one (.d (.v (.string v)))] 74), (203, .cells [.ints .u8 32 k] 24)] }]
    | _, _ => []
theorem okR04Fits (s : List (List Int)) (o : Bool) (g : List Int) (v : ByteArray) (k : List Int) (hp : allP [s.length ≤ 256, OkB g, g.length = 32, OkB k, k.length = 32]) : CallsOk Tryd.prog Gs 38 [.agg [.one (.d (.sl 32 (s).length (lC dE [] (s)))), .one (.d (.v (.bool (o)))), .ints .u8 32 g, .one (.d (.v (.string v)))], .agg [.ints .u8 32 k]] [] (eB (fitP s o g k)) [] :=
  ok_of (ann := anR04Fits s o g v k) ctok_R04Read mixed Tryd.func38 (by kernel_rfl) (of_nf (p := (∃ (t : Nat), (0 : Int) = (↑t : Int) ∧ List.length s = List.length s ∧ (∀ (i : Nat), i < List.length s → lC dE [] s i = lC dE [] s i) ∧ o = o ∧ g = g ∧ v = v ∧ k = k ∧ (t ≤ List.length s ∧ ∀ (j : Nat), j < t → o = true → (bt g j == bt k j) = true) ∧ True) ∧ ∀ (t : Nat), (t ≤ List.length s ∧ ∀ (j : Nat), j < t → o = true → (bt g j == bt k j) = true) → brP (decide ((↑t : Int) < (↑(List.length s) : Int))) (brP o (OkB g ∧ List.length g = (32 : Nat) ∧ ((0 : Int) ≤ (↑t : Int) ∧ (↑t : Int) < (256 : Int)) ∧ OkB k ∧ List.length k = (32 : Nat) ∧ ((0 : Int) ≤ (↑t : Int) ∧ (↑t : Int) < (256 : Int)) ∧ brP ((↑(bt g (Int.toNat (↑t : Int))) : Int) != (↑(bt k (Int.toNat (↑t : Int))) : Int)) (false = fitP s o g k ∧ True) (∃ (t_1 : Nat), IntKind.wrap IntKind.i64 ((↑t : Int) + (1 : Int)) = (↑t_1 : Int) ∧ List.length s = List.length s ∧ (∀ (i : Nat), i < List.length s → lC dE [] s i = lC dE [] s i) ∧ o = o ∧ g = g ∧ v = v ∧ k = k ∧ (t_1 ≤ List.length s ∧ ∀ (j : Nat), j < t_1 → o = true → (bt g j == bt k j) = true) ∧ List.length s - t_1 < List.length s - t ∧ True)) (true = fitP s o g k ∧ True)) (true = fitP s o g k ∧ True)) (by kernel_rfl) (by
    obtain ⟨hsl, hg, hgl, hk, hkl, _⟩ := hp
    refine ⟨⟨0, rfl, rfl, fun _ _ => rfl, rfl, rfl, rfl, rfl, ⟨Nat.zero_le _, fun j hj => by omega⟩, trivial⟩, fun t ht => ?_⟩
    obtain ⟨h1, h2⟩ := ht
    refine brI (fun hc => brI (fun ho => ?_) (fun ho => ?_)) (fun hc => ?_)
    · have hc : t < s.length := by have := of_decide_eq_true hc; omega
      rw [Int.toNat_natCast]
      refine ⟨hg, hgl, ⟨by omega, by omega⟩, hk, hkl, ⟨by omega, by omega⟩, brI (fun hx => ?_) (fun hx => ?_)⟩
      · have hx : ¬ bt g t = bt k t := fun e => by
          have : ((bt g t : Int) != (bt k t : Int)) = true := hx
          rw [e] at this; simp at this
        refine ⟨?_, trivial⟩
        unfold fitP
        rw [ho, Bool.not_true, Bool.false_or]
        symm
        rw [Bool.eq_false_iff]
        intro hf
        have := List.all_eq_true.1 hf t (List.mem_range.2 hc)
        exact hx (beq_iff_eq.1 this)
      · have hx : bt g t = bt k t := by
          have : ((bt g t : Int) != (bt k t : Int)) = false := hx
          have := bne_eq_false_iff_eq.1 this; omega
        refine ⟨t + 1, by rw [wi _ (by omega) (by omega)]; rfl, rfl, fun _ _ => rfl, rfl, rfl, rfl, rfl, ⟨by omega, fun j hj hjo => ?_⟩, by omega, trivial⟩
        by_cases hjt : j < t
        · exact h2 j hjt hjo
        · obtain rfl : j = t := by omega
          rw [hx]; simp
    · refine ⟨?_, trivial⟩
      unfold fitP; rw [ho]; rfl
    · have hc : t = s.length := by have := of_decide_eq_false hc; omega
      subst hc
      refine ⟨?_, trivial⟩
      unfold fitP
      cases o with
      | false => rfl
      | true => exact (List.all_eq_true.2 fun i hi => h2 i (List.mem_range.1 hi) rfl).symm))
noncomputable def gR04Fits : Con := fun args H => match args, H with
  | [.agg [.one (.d (.sl 32 m c)), .one (.d (.v (.bool o))), .ints .u8 32 g, .one (.d (.v (.string v)))], .agg [.ints .u8 32 k]], [] => (fun (s : List (List Int)) (o : Bool) (g : List Int) (v : ByteArray) (k : List Int) => conC args H [.agg [.one (.d (.sl 32 (s).length (lC dE [] (s)))), .one (.d (.v (.bool (o)))), .ints .u8 32 g, .one (.d (.v (.string v)))], .agg [.ints .u8 32 k]] [] ⟨[s.length ≤ 256, OkB g, g.length = 32, OkB k, k.length = 32], eB (fitP s o g k), []⟩) (lL dG m c) (o) (g) (v) (k)
  | _, _ => none
theorem vR04Fits : Valid Tryd.prog Gs 38 gR04Fits := by
  intro args H r h hp
  unfold gR04Fits at h
  split at h
  · rename_i m c o g v k
    exact conC_ok h hp fun hp => okR04Fits (lL dG m c) (o) (g) (v) (k) hp
  · cases h
noncomputable def ct_R04Fits : List (Nat × Ct) := (38, ⟨[], false, gR04Fits, none⟩) :: ct_R04Read
theorem ctok_R04Fits : CtsOk Tryd.prog Gs ct_R04Fits := CtsOk.cons vR04Fits (by kernel_rfl) ctok_R04Read
noncomputable def anR04Put (s : List (List Int)) (o : Bool) (g : List Int) (v : ByteArray) (k : List Int) (deep : Int) : Nat → List Nat → List Ann := fun _ _ => []
noncomputable def grR04Put (n_ : Nat) : Con := fun args H => match args, H with
  | [.agg [.one (.d (.sl 32 m c)), .one (.d (.v (.bool o))), .ints .u8 32 g, .one (.d (.v (.string v)))], .agg [.ints .u8 32 k], .a (.d (.v (.int .i64 deep)))], [] => (fun (s : List (List Int)) (o : Bool) (g : List Int) (v : ByteArray) (k : List Int) (deep : Int) => conC args H [.agg [.one (.d (.sl 32 (s).length (lC dE [] (s)))), .one (.d (.v (.bool (o)))), .ints .u8 32 g, .one (.d (.v (.string v)))], .agg [.ints .u8 32 k], .a (.d (.v (.int .i64 deep)))] [] ⟨(s.length - deep.toNat < n_) :: [s.length ≤ 256, ∀ y ∈ s, y.length = 32 ∧ OkB y, OkB g, g.length = 32, OkB k, k.length = 32, v.size + 300 ≤ lim, 0 ≤ deep ∧ deep ≤ s.length], .s (.agg [.ints .u8 32 (sumB shaK ((txsT k deep.toNat (s.drop deep.toNat) (eP o g v)).headD []))]), []⟩) (lL dG m c) (o) (g) (v) (k) (deep)
  | _, _ => none
noncomputable def ctr_R04Put (n_ : Nat) : List (Nat × Ct) := (39, ⟨[], false, grR04Put n_, none⟩) :: ct_R04Fits
theorem okrR04Put (s : List (List Int)) (o : Bool) (g : List Int) (v : ByteArray) (k : List Int) (deep : Int) (n_ : Nat) (hv_ : Valid Tryd.prog Gs 39 (grR04Put n_)) (hm_ : s.length - deep.toNat < n_ + 1) (hp : allP [s.length ≤ 256, ∀ y ∈ s, y.length = 32 ∧ OkB y, OkB g, g.length = 32, OkB k, k.length = 32, v.size + 300 ≤ lim, 0 ≤ deep ∧ deep ≤ s.length]) : CallsOk Tryd.prog Gs 39 [.agg [.one (.d (.sl 32 (s).length (lC dE [] (s)))), .one (.d (.v (.bool (o)))), .ints .u8 32 g, .one (.d (.v (.string v)))], .agg [.ints .u8 32 k], .a (.d (.v (.int .i64 deep)))] [] (.s (.agg [.ints .u8 32 (sumB shaK ((txsT k deep.toNat (s.drop deep.toNat) (eP o g v)).headD []))])) [] :=
  ok_of (ann := anR04Put s o g v k deep) (CtsOk.cons (c := ⟨[], false, grR04Put n_, none⟩) hv_ (by kernel_rfl) ctok_R04Fits) mixed Tryd.func39 (by kernel_rfl) (of_nf (p := brP (deep == (↑(List.length s) : Int)) (brP o (List.length g = (32 : Nat) ∧ OkB g ∧ ByteArray.size v + (300 : Nat) ≤ lim ∧ OkB (leafT (g, numsOf v)) ∧ List.length (leafT (g, numsOf v)) + (100 : Nat) ≤ lim ∧ sumB shaK (leafT (g, numsOf v)) = sumB shaK (List.headD (txsT k (Int.toNat deep) (List.drop (Int.toNat deep) s) (eP o g v)) []) ∧ True) (OkB emT ∧ List.length emT + (100 : Nat) ≤ lim ∧ sumB shaK emT = sumB shaK (List.headD (txsT k (Int.toNat deep) (List.drop (Int.toNat deep) s) (eP o g v)) []) ∧ True)) (List.length s = List.length (lL dG (List.length s) (lC dE [] s)) ∧ (∀ (i : Nat), i < List.length (lL dG (List.length s) (lC dE [] s)) → lC dE [] s i = lC dE [] (lL dG (List.length s) (lC dE [] s)) i) ∧ o = o ∧ g = g ∧ v = v ∧ k = k ∧ IntKind.wrap IntKind.i64 (deep + (1 : Int)) = IntKind.wrap IntKind.i64 (deep + (1 : Int)) ∧ List.length (lL dG (List.length s) (lC dE [] s)) - Int.toNat (IntKind.wrap IntKind.i64 (deep + (1 : Int))) < n_ ∧ List.length (lL dG (List.length s) (lC dE [] s)) ≤ (256 : Nat) ∧ (∀ (y : List Int), y ∈ lL dG (List.length s) (lC dE [] s) → List.length y = (32 : Nat) ∧ OkB y) ∧ OkB g ∧ List.length g = (32 : Nat) ∧ OkB k ∧ List.length k = (32 : Nat) ∧ ByteArray.size v + (300 : Nat) ≤ lim ∧ ((0 : Int) ≤ IntKind.wrap IntKind.i64 (deep + (1 : Int)) ∧ IntKind.wrap IntKind.i64 (deep + (1 : Int)) ≤ (↑(List.length (lL dG (List.length s) (lC dE [] s))) : Int)) ∧ OkB k ∧ List.length k = (32 : Nat) ∧ ((0 : Int) ≤ deep ∧ deep < (256 : Int)) ∧ brP ((↑(bt k (Int.toNat deep)) : Int) == (0 : Int)) (((0 : Int) ≤ deep ∧ deep < (↑(List.length s) : Int)) ∧ List.length (sumB shaK (List.headD (txsT k (Int.toNat (IntKind.wrap IntKind.i64 (deep + (1 : Int)))) (List.drop (Int.toNat (IntKind.wrap IntKind.i64 (deep + (1 : Int)))) (lL dG (List.length s) (lC dE [] s))) (eP o g v)) [])) = (32 : Nat) ∧ OkB (sumB shaK (List.headD (txsT k (Int.toNat (IntKind.wrap IntKind.i64 (deep + (1 : Int)))) (List.drop (Int.toNat (IntKind.wrap IntKind.i64 (deep + (1 : Int)))) (lL dG (List.length s) (lC dE [] s))) (eP o g v)) [])) ∧ List.length (List.getD s (Int.toNat deep) []) = (32 : Nat) ∧ OkB (List.getD s (Int.toNat deep) []) ∧ OkB (brT (sumB shaK (List.headD (txsT k (Int.toNat (IntKind.wrap IntKind.i64 (deep + (1 : Int)))) (List.drop (Int.toNat (IntKind.wrap IntKind.i64 (deep + (1 : Int)))) (lL dG (List.length s) (lC dE [] s))) (eP o g v)) [])) (List.getD s (Int.toNat deep) [])) ∧ List.length (brT (sumB shaK (List.headD (txsT k (Int.toNat (IntKind.wrap IntKind.i64 (deep + (1 : Int)))) (List.drop (Int.toNat (IntKind.wrap IntKind.i64 (deep + (1 : Int)))) (lL dG (List.length s) (lC dE [] s))) (eP o g v)) [])) (List.getD s (Int.toNat deep) [])) + (100 : Nat) ≤ lim ∧ sumB shaK (brT (sumB shaK (List.headD (txsT k (Int.toNat (IntKind.wrap IntKind.i64 (deep + (1 : Int)))) (List.drop (Int.toNat (IntKind.wrap IntKind.i64 (deep + (1 : Int)))) (lL dG (List.length s) (lC dE [] s))) (eP o g v)) [])) (List.getD s (Int.toNat deep) [])) = sumB shaK (List.headD (txsT k (Int.toNat deep) (List.drop (Int.toNat deep) s) (eP o g v)) []) ∧ True) (((0 : Int) ≤ deep ∧ deep < (↑(List.length s) : Int)) ∧ List.length (List.getD s (Int.toNat deep) []) = (32 : Nat) ∧ OkB (List.getD s (Int.toNat deep) []) ∧ List.length (sumB shaK (List.headD (txsT k (Int.toNat (IntKind.wrap IntKind.i64 (deep + (1 : Int)))) (List.drop (Int.toNat (IntKind.wrap IntKind.i64 (deep + (1 : Int)))) (lL dG (List.length s) (lC dE [] s))) (eP o g v)) [])) = (32 : Nat) ∧ OkB (sumB shaK (List.headD (txsT k (Int.toNat (IntKind.wrap IntKind.i64 (deep + (1 : Int)))) (List.drop (Int.toNat (IntKind.wrap IntKind.i64 (deep + (1 : Int)))) (lL dG (List.length s) (lC dE [] s))) (eP o g v)) [])) ∧ OkB (brT (List.getD s (Int.toNat deep) []) (sumB shaK (List.headD (txsT k (Int.toNat (IntKind.wrap IntKind.i64 (deep + (1 : Int)))) (List.drop (Int.toNat (IntKind.wrap IntKind.i64 (deep + (1 : Int)))) (lL dG (List.length s) (lC dE [] s))) (eP o g v)) []))) ∧ List.length (brT (List.getD s (Int.toNat deep) []) (sumB shaK (List.headD (txsT k (Int.toNat (IntKind.wrap IntKind.i64 (deep + (1 : Int)))) (List.drop (Int.toNat (IntKind.wrap IntKind.i64 (deep + (1 : Int)))) (lL dG (List.length s) (lC dE [] s))) (eP o g v)) []))) + (100 : Nat) ≤ lim ∧ sumB shaK (brT (List.getD s (Int.toNat deep) []) (sumB shaK (List.headD (txsT k (Int.toNat (IntKind.wrap IntKind.i64 (deep + (1 : Int)))) (List.drop (Int.toNat (IntKind.wrap IntKind.i64 (deep + (1 : Int)))) (lL dG (List.length s) (lC dE [] s))) (eP o g v)) []))) = sumB shaK (List.headD (txsT k (Int.toNat deep) (List.drop (Int.toNat deep) s) (eP o g v)) []) ∧ True))) (by kernel_rfl) (by
    obtain ⟨hsl, hs, hg, hgl, hk, hkl, hv, ⟨hd0, hd1⟩, _⟩ := hp
    simp only [lL_self dG_dE]
    have hlim : lim = 68719476736 := rfl
    obtain ⟨d, rfl⟩ : ∃ d : Nat, deep = d := ⟨deep.toNat, by omega⟩
    rw [Int.toNat_natCast] at hm_ ⊢
    have oe : OkK (eP o g v) := fun e he => by
      unfold eP at he
      split at he
      · rw [List.mem_singleton.1 he]
        exact ⟨hgl, hg, numsOk v, by show (numsOf v).length ≤ _; rw [nl2]; omega⟩
      · cases he
    refine brI (fun h => ?_) (fun h => ?_)
    · have h : d = s.length := by have := beq_iff_eq.1 h; omega
      subst h
      rw [List.drop_length]
      refine brI (fun ho => ?_) (fun ho => ?_)
      · subst ho
        exact ⟨hgl, hg, by omega, leafT_ok (oe (g, numsOf v) (by simp [eP])), by rw [leafT_len hgl, nl2]; omega, rfl, trivial⟩
      · subst ho
        exact ⟨emT_ok, by rw [emT_len]; decide, rfl, trivial⟩
    · have h : d < s.length := by have := beq_eq_false_iff_ne.1 h; omega
      have e1 : IntKind.wrap .i64 ((d : Int) + 1) = ((d + 1 : Nat) : Int) := by rw [wi _ (by omega) (by omega)]; rfl
      have hg2 : s.getD d [] = s[d] := by rw [List.getD_eq_getElem?_getD, List.getElem?_eq_getElem h]; rfl
      obtain ⟨y1, y2⟩ := hs s[d] (List.getElem_mem _)
      rw [e1, Int.toNat_natCast, hg2]
      have hdr : s.drop d = s[d] :: s.drop (d + 1) := List.drop_eq_getElem_cons h
      have hh : (txsT k d (s.drop d) (eP o g v)).headD [] = if bt k d = 0 then brT (sumB shaK ((txsT k (d + 1) (s.drop (d + 1)) (eP o g v)).headD [])) s[d] else brT s[d] (sumB shaK ((txsT k (d + 1) (s.drop (d + 1)) (eP o g v)).headD [])) := by rw [hdr]; rfl
      rw [hh]
      refine ⟨trivial, fun _ _ => trivial, trivial, trivial, trivial, trivial, trivial, by omega, hsl, hs, hg, hgl, hk, hkl, hv, ⟨by omega, by omega⟩, hk, hkl, ⟨by omega, by omega⟩, brI (fun hb => ?_) (fun hb => ?_)⟩
      · have hb : bt k d = 0 := by have := beq_iff_eq.1 hb; omega
        rw [if_pos hb]
        exact ⟨⟨by omega, by omega⟩, sumB_len _ _, sumB_ok2 _, y1, y2, brT_ok (sumB_ok2 _) y2, by rw [brT_len (sumB_len _ _) y1]; decide, rfl, trivial⟩
      · have hb : ¬ bt k d = 0 := by have := beq_eq_false_iff_ne.1 hb; omega
        rw [if_neg hb]
        exact ⟨⟨by omega, by omega⟩, y1, y2, sumB_len _ _, sumB_ok2 _, brT_ok y2 (sumB_ok2 _), by rw [brT_len y1 (sumB_len _ _)]; decide, rfl, trivial⟩))
theorem vrR04Put : ∀ n_, Valid Tryd.prog Gs 39 (grR04Put n_)
  | 0 => by
    intro args H r h hp
    unfold grR04Put at h
    split at h
    · rename_i m c o g v k deep
      exact conC_ok h hp fun hp => absurd hp.1 (Nat.not_lt_zero _)
    · cases h
  | n_ + 1 => by
    intro args H r h hp
    unfold grR04Put at h
    split at h
    · rename_i m c o g v k deep
      exact conC_ok h hp fun hp => okrR04Put (lL dG m c) (o) (g) (v) (k) (deep) n_ (vrR04Put n_) hp.1 hp.2
    · cases h
theorem okR04Put (s : List (List Int)) (o : Bool) (g : List Int) (v : ByteArray) (k : List Int) (deep : Int) (hp : allP [s.length ≤ 256, ∀ y ∈ s, y.length = 32 ∧ OkB y, OkB g, g.length = 32, OkB k, k.length = 32, v.size + 300 ≤ lim, 0 ≤ deep ∧ deep ≤ s.length]) : CallsOk Tryd.prog Gs 39 [.agg [.one (.d (.sl 32 (s).length (lC dE [] (s)))), .one (.d (.v (.bool (o)))), .ints .u8 32 g, .one (.d (.v (.string v)))], .agg [.ints .u8 32 k], .a (.d (.v (.int .i64 deep)))] [] (.s (.agg [.ints .u8 32 (sumB shaK ((txsT k deep.toNat (s.drop deep.toNat) (eP o g v)).headD []))])) [] := okrR04Put s o g v k deep (s.length - deep.toNat) (vrR04Put _) (Nat.lt_succ_self _) hp
noncomputable def gR04Put : Con := fun args H => match args, H with
  | [.agg [.one (.d (.sl 32 m c)), .one (.d (.v (.bool o))), .ints .u8 32 g, .one (.d (.v (.string v)))], .agg [.ints .u8 32 k], .a (.d (.v (.int .i64 deep)))], [] => (fun (s : List (List Int)) (o : Bool) (g : List Int) (v : ByteArray) (k : List Int) (deep : Int) => conC args H [.agg [.one (.d (.sl 32 (s).length (lC dE [] (s)))), .one (.d (.v (.bool (o)))), .ints .u8 32 g, .one (.d (.v (.string v)))], .agg [.ints .u8 32 k], .a (.d (.v (.int .i64 deep)))] [] ⟨[s.length ≤ 256, ∀ y ∈ s, y.length = 32 ∧ OkB y, OkB g, g.length = 32, OkB k, k.length = 32, v.size + 300 ≤ lim, 0 ≤ deep ∧ deep ≤ s.length], .s (.agg [.ints .u8 32 (sumB shaK ((txsT k deep.toNat (s.drop deep.toNat) (eP o g v)).headD []))]), []⟩) (lL dG m c) (o) (g) (v) (k) (deep)
  | _, _ => none
theorem vR04Put : Valid Tryd.prog Gs 39 gR04Put := by
  intro args H r h hp
  unfold gR04Put at h
  split at h
  · rename_i m c o g v k deep
    exact conC_ok h hp fun hp => okR04Put (lL dG m c) (o) (g) (v) (k) (deep) hp
  · cases h
noncomputable def ct_R04Put : List (Nat × Ct) := (39, ⟨[], false, gR04Put, none⟩) :: ct_R04Fits
theorem ctok_R04Put : CtsOk Tryd.prog Gs ct_R04Put := CtsOk.cons vR04Put (by kernel_rfl) ctok_R04Fits
noncomputable def anR04Verify (r k x : List Int) : Nat → List Nat → List Ann := fun _ _ => []
theorem okR04Verify (r k x : List Int) (hp : allP [OkB x, x.length + 20000 ≤ lim, OkB k, k.length = 32, r.length = 32]) : CallsOk Tryd.prog Gs 19 [.agg [.ints .u8 32 r], .agg [.ints .u8 32 k], .a (.d (.si .u8 x))] [] (.t [.a (.d (.v (.string (strOfNums (verT r k x).1)))), .a (.d (.v (.bool ((verT r k x).2.1)))), .a (.d (.v (.int .i64 (verT r k x).2.2)))]) [] :=
  ok_of (ann := anR04Verify r k x) ctok_R04Put mixed Tryd.func19 (by kernel_rfl) (of_nf (p := OkB x ∧ List.length x + (300 : Nat) ≤ lim ∧ brP (!rdO x) ((⟨#[]⟩ : ByteArray) = strOfNums (Prod.fst (verT r k x)) ∧ false = Prod.fst (Prod.snd (verT r k x)) ∧ (5 : Int) = Prod.snd (Prod.snd (verT r k x)) ∧ True) (List.length (rdS x) = List.length (lL dG (List.length (rdS x)) (lC dE [] (rdS x))) ∧ (∀ (i : Nat), i < List.length (lL dG (List.length (rdS x)) (lC dE [] (rdS x))) → lC dE [] (rdS x) i = lC dE [] (lL dG (List.length (rdS x)) (lC dE [] (rdS x))) i) ∧ eO (rdE x) = eO (rdE x) ∧ eK (rdE x) = eK (rdE x) ∧ eV (rdE x) = eV (rdE x) ∧ k = k ∧ List.length (lL dG (List.length (rdS x)) (lC dE [] (rdS x))) ≤ (256 : Nat) ∧ OkB (eK (rdE x)) ∧ List.length (eK (rdE x)) = (32 : Nat) ∧ OkB k ∧ List.length k = (32 : Nat) ∧ brP (!fitP (lL dG (List.length (rdS x)) (lC dE [] (rdS x))) (eO (rdE x)) (eK (rdE x)) k) ((⟨#[]⟩ : ByteArray) = strOfNums (Prod.fst (verT r k x)) ∧ false = Prod.fst (Prod.snd (verT r k x)) ∧ (19 : Int) = Prod.snd (Prod.snd (verT r k x)) ∧ True) (List.length (rdS x) = List.length (lL dG (List.length (rdS x)) (lC dE [] (rdS x))) ∧ (∀ (i : Nat), i < List.length (lL dG (List.length (rdS x)) (lC dE [] (rdS x))) → lC dE [] (rdS x) i = lC dE [] (lL dG (List.length (rdS x)) (lC dE [] (rdS x))) i) ∧ eO (rdE x) = eO (rdE x) ∧ eK (rdE x) = eK (rdE x) ∧ eV (rdE x) = eV (rdE x) ∧ k = k ∧ (0 : Int) = (0 : Int) ∧ List.length (lL dG (List.length (rdS x)) (lC dE [] (rdS x))) ≤ (256 : Nat) ∧ (∀ (y : List Int), y ∈ lL dG (List.length (rdS x)) (lC dE [] (rdS x)) → List.length y = (32 : Nat) ∧ OkB y) ∧ OkB (eK (rdE x)) ∧ List.length (eK (rdE x)) = (32 : Nat) ∧ OkB k ∧ List.length k = (32 : Nat) ∧ ByteArray.size (eV (rdE x)) + (300 : Nat) ≤ lim ∧ ((0 : Int) ≤ (0 : Int) ∧ (0 : Int) ≤ (↑(List.length (lL dG (List.length (rdS x)) (lC dE [] (rdS x)))) : Int)) ∧ brP (!sumB shaK (List.headD (txsT k (Int.toNat (0 : Int)) (List.drop (Int.toNat (0 : Int)) (lL dG (List.length (rdS x)) (lC dE [] (rdS x)))) (eP (eO (rdE x)) (eK (rdE x)) (eV (rdE x)))) []) == r) ((⟨#[]⟩ : ByteArray) = strOfNums (Prod.fst (verT r k x)) ∧ false = Prod.fst (Prod.snd (verT r k x)) ∧ (18 : Int) = Prod.snd (Prod.snd (verT r k x)) ∧ True) (brP (!eO (rdE x)) ((⟨#[]⟩ : ByteArray) = strOfNums (Prod.fst (verT r k x)) ∧ false = Prod.fst (Prod.snd (verT r k x)) ∧ (0 : Int) = Prod.snd (Prod.snd (verT r k x)) ∧ True) (brP (!eK (rdE x) == k) ((⟨#[]⟩ : ByteArray) = strOfNums (Prod.fst (verT r k x)) ∧ false = Prod.fst (Prod.snd (verT r k x)) ∧ (0 : Int) = Prod.snd (Prod.snd (verT r k x)) ∧ True) (eV (rdE x) = strOfNums (Prod.fst (verT r k x)) ∧ true = Prod.fst (Prod.snd (verT r k x)) ∧ (0 : Int) = Prod.snd (Prod.snd (verT r k x)) ∧ True)))))) (by kernel_rfl) (by
    obtain ⟨hx, hl, hk, hkl, hr, _⟩ := hp
    simp only [lL_self dG_dE]
    have hlim : lim = 68719476736 := rfl
    obtain ⟨r1, r2, r3, r4⟩ := rd_ok hx
    refine ⟨hx, by omega, brI (fun h => ?_) (fun h => ?_)⟩
    · have h : rdO x = false := by simpa using h
      rw [ver_no h]; exact ⟨rfl, rfl, rfl, trivial⟩
    · have h : rdO x = true := by simpa using h
      have hv := ver_yes (r := r) (k := k) h
      have ep := eP_eq r3 fun e he => (r4 e he).2.2.1
      have ef := fit_eq (k := k) (s := rdS x) r3
      have ok1 : OkB (eK (rdE x)) ∧ (eK (rdE x)).length = 32 ∧ (eV (rdE x)).size ≤ x.length := by
        generalize rdE x = e at r3 r4
        match e, r3, r4 with
        | [], _, _ => exact ⟨fun y hy => by rw [(List.mem_replicate.1 hy).2]; decide, rfl, Nat.zero_le _⟩
        | [y], _, r4 =>
          obtain ⟨y1, y2, y3, y4⟩ := r4 y (by simp)
          refine ⟨y2, y1, ?_⟩
          show (strOfNums y.2).size ≤ _
          have : (strOfNums y.2).size = y.2.length := by
            rw [← nl2, num_str y3]
          rw [this]; exact y4
      obtain ⟨k1, k2, k3⟩ := ok1
      rw [ef, ep]
      refine ⟨trivial, fun _ _ => trivial, trivial, trivial, trivial, trivial, r2, k1, k2, hk, hkl, brI (fun hf => ?_) (fun hf => ?_)⟩
      · have hf : fitsT k (rdS x) (rdE x) = false := by simpa using hf
        rw [if_pos hf] at hv
        rw [hv]; exact ⟨rfl, rfl, rfl, trivial⟩
      · have hf : ¬ fitsT k (rdS x) (rdE x) = false := by simpa using hf
        rw [if_neg hf] at hv
        refine ⟨trivial, fun _ _ => trivial, trivial, trivial, trivial, trivial, trivial, r2, r1, k1, k2, hk, hkl, by omega, ⟨by decide, by omega⟩, brI (fun hs => ?_) (fun hs => ?_)⟩
        · have hs : sumB shaK ((txsT k 0 (rdS x) (rdE x)).headD []) ≠ r := by
            have : (!(sumB shaK ((txsT k 0 (rdS x) (rdE x)).headD []) == r)) = true := hs
            simpa using this
          rw [if_pos hs] at hv
          rw [hv]; exact ⟨rfl, rfl, rfl, trivial⟩
        · have hs : ¬ sumB shaK ((txsT k 0 (rdS x) (rdE x)).headD []) ≠ r := by
            have : (!(sumB shaK ((txsT k 0 (rdS x) (rdE x)).headD []) == r)) = false := hs
            simpa using this
          rw [if_neg hs] at hv
          rw [hv]
          generalize rdE x = e at r3 r4
          match e, r3, r4 with
          | [], _, _ => exact brTr rfl ⟨rfl, rfl, rfl, trivial⟩
          | [y], _, r4 =>
            refine brFa rfl (brI (fun hy => ?_) (fun hy => ?_))
            · have hy : ¬ y.1 = k := by
                have : (!(y.1 == k)) = true := hy
                simpa using this
              rw [ans1, if_neg hy]; exact ⟨rfl, rfl, rfl, trivial⟩
            · have hy : y.1 = k := by
                have : (!(y.1 == k)) = false := hy
                simpa using this
              rw [ans1, if_pos hy]; exact ⟨rfl, rfl, rfl, trivial⟩))
noncomputable def gR04Verify : Con := fun args H => match args, H with
  | [.agg [.ints .u8 32 r], .agg [.ints .u8 32 k], .a (.d (.si .u8 x))], [] => some ⟨[OkB x, x.length + 20000 ≤ lim, OkB k, k.length = 32, r.length = 32], .t [.a (.d (.v (.string (strOfNums (verT r k x).1)))), .a (.d (.v (.bool ((verT r k x).2.1)))), .a (.d (.v (.int .i64 (verT r k x).2.2)))], []⟩
  | _, _ => none
theorem vR04Verify : Valid Tryd.prog Gs 19 gR04Verify := by
  intro args H r h hp
  unfold gR04Verify at h
  split at h
  · simp only [Option.some.injEq] at h; subst h; exact okR04Verify _ _ _ hp
  · cases h
noncomputable def ct_R04Verify : List (Nat × Ct) := (19, ⟨[], false, gR04Verify, none⟩) :: ct_R04Put
theorem ctok_R04Verify : CtsOk Tryd.prog Gs ct_R04Verify := CtsOk.cons vR04Verify (by kernel_rfl) ctok_R04Put
end Go.Proofs.YtfobhaodflfedaaDoor
