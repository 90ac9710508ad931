/- Tries: ways, proofs, texts of ways. -/
import Derived.Test.YtfobhaodflfedaaDoorYcA
namespace Go.Proofs.YtfobhaodflfedaaDoor
open Go.Dx Go.RowKit
set_option linter.unusedVariables false
set_option linter.unusedSimpArgs false
set_option maxRecDepth 100000
attribute [local irreducible] wpS
attribute [local irreducible] sumB joinB
theorem dSn (s : List (List Int)) (x : List Int) : ∀ i, i < (s ++ [x]).length → catF s.length (lC dE [] s) (fun i => [[DC.ints .u8 32 x]].getD i []) i = lC dE [] (s ++ [x]) i := fun i hi => lC_snoc (f := dE) s x rfl i (by simpa using hi)
theorem way_le {l : List TE} (h : l.length ≤ 1) (f : Nat) (k : List Int) : wayT f l k = ([], l) := by
  cases f with
  | zero => rfl
  | succ f => rw [way_s, if_pos h]
theorem fits_no {k : List Int} {s : List (List Int)} {x : TE} {r : List TE} {i : Nat} (hi : i < s.length) (h : bt x.1 i ≠ bt k i) : fitsT k s (x :: r) = false := by
  rw [Bool.eq_false_iff]
  intro hf
  unfold fitsT at hf
  have := List.all_eq_true.1 hf i (List.mem_range.2 hi)
  rw [List.all_cons, Bool.and_eq_true] at this
  exact h (beq_iff_eq.1 this.1)
def rvL (Ls : List (List Int)) (t : Nat) : List (List Int) := (List.range Ls.length).map fun i => if i < t ∨ Ls.length - 1 - t < i then Ls.getD (Ls.length - 1 - i) [] else Ls.getD i []
def wJ (k : List Int) (l : List TE) (g : Nat × List TE × List (List Int)) : Prop := g.1 ≤ 256 ∧ Srt (256 - g.1) g.2.1 ∧ (∀ e ∈ g.2.1, e ∈ l) ∧ g.2.1.length ≤ l.length ∧ g.2.2.length ≤ g.1 ∧
  (g.2.2 ++ (wayT (256 - g.1) g.2.1 k).1, (wayT (256 - g.1) g.2.1 k).2) = wayT 256 l k
noncomputable def antrieway (l : List TE) (k : List Int) : Nat → List Nat → List Ann := fun bk_ gs_ => match bk_, gs_ with
    | 0, _ => [{ τ := Nat × List TE × List (List Int), t0 := (default : Nat × List TE × List (List Int)), J := wJ k l, m := fun g => 256 - g.1, l := fun g => [(0, .s (.a (.d (.sl 33 (g.2.1).length (lC tE tZ (g.2.1)))))), (3, .s (.a (.lp 203 0))), (4, .s (.a (.rw 204))), (6, eI .i64 (g.1 : Int))], H := fun g => [(203, .cells [.ints .u8 32 k] 24), (204, .row (.st 32 (g.2.2).length (lC dE [] (g.2.2))) 24)] }]
    | _, _ => []
theorem oktrieway (l : List TE) (k : List Int) (hp : allP [OkK l, l.length < 1099511627776, mayT l, ∀ e ∈ l, e.2.length + 300 ≤ lim, OkB k, k.length = 32]) : CallsOk Tryd.prog Gs 27 [.a (.d (.sl 33 (l).length (lC tE tZ (l)))), .agg [.ints .u8 32 k]] [] (.t [.a (.rw 0), .a (.d (.sl 33 ((wayT 256 l k).2).length (lC tE tZ ((wayT 256 l k).2))))]) [(0, .row (.st 32 ((wayT 256 l k).1).length (lC dE [] ((wayT 256 l k).1))) 24)] :=
  ok_of (ann := antrieway l k) ctok_trieRoot mixed Tryd.func27 (by kernel_rfl) (of_nf (p := (∃ (t : Nat × List TE × List (List Int)), List.length l = List.length (Prod.fst (Prod.snd t)) ∧ (∀ (i : Nat), i < List.length (Prod.fst (Prod.snd t)) → lC tE tZ l i = lC tE tZ (Prod.fst (Prod.snd t)) i) ∧ (0 : Int) = (↑(Prod.fst t) : Int) ∧ k = k ∧ (0 : Nat) = List.length (Prod.snd (Prod.snd t)) ∧ (∀ (i : Nat), i < List.length (Prod.snd (Prod.snd t)) → lC dE [] (Prod.snd (Prod.snd t)) i = lC dE [] (Prod.snd (Prod.snd t)) i) ∧ wJ k l t ∧ True) ∧ ∀ (t : Nat × List TE × List (List Int)), wJ k l t → brP (decide ((↑(List.length (Prod.fst (Prod.snd t))) : Int) > (1 : Int))) (List.length (Prod.fst (Prod.snd t)) = List.length (lL tG (List.length (Prod.fst (Prod.snd t))) (lC tE tZ (Prod.fst (Prod.snd t)))) ∧ (∀ (i : Nat), i < List.length (lL tG (List.length (Prod.fst (Prod.snd t))) (lC tE tZ (Prod.fst (Prod.snd t)))) → lC tE tZ (Prod.fst (Prod.snd t)) i = lC tE tZ (lL tG (List.length (Prod.fst (Prod.snd t))) (lC tE tZ (Prod.fst (Prod.snd t)))) i) ∧ (↑(Prod.fst t) : Int) = (↑(Prod.fst t) : Int) ∧ OkK (lL tG (List.length (Prod.fst (Prod.snd t))) (lC tE tZ (Prod.fst (Prod.snd t)))) ∧ List.length (lL tG (List.length (Prod.fst (Prod.snd t))) (lC tE tZ (Prod.fst (Prod.snd t)))) < (1099511627776 : Nat) ∧ ((0 : Int) ≤ (↑(Prod.fst t) : Int) ∧ (↑(Prod.fst t) : Int) < (256 : Int)) ∧ Srt ((256 : Nat) - Int.toNat (↑(Prod.fst t) : Int)) (lL tG (List.length (Prod.fst (Prod.snd t))) (lC tE tZ (Prod.fst (Prod.snd t)))) ∧ OkB k ∧ List.length k = (32 : Nat) ∧ ((0 : Int) ≤ (↑(Prod.fst t) : Int) ∧ (↑(Prod.fst t) : Int) < (256 : Int)) ∧ brP ((↑(bt k (Int.toNat (↑(Prod.fst t) : Int))) : Int) == (1 : Int)) (List.length (sideT (lL tG (List.length (Prod.fst (Prod.snd t))) (lC tE tZ (Prod.fst (Prod.snd t)))) (Int.toNat (↑(Prod.fst t) : Int)) (0 : Nat)) = List.length (lL tG (List.length (sideT (lL tG (List.length (Prod.fst (Prod.snd t))) (lC tE tZ (Prod.fst (Prod.snd t)))) (Int.toNat (↑(Prod.fst t) : Int)) (0 : Nat))) (lC tE tZ (sideT (lL tG (List.length (Prod.fst (Prod.snd t))) (lC tE tZ (Prod.fst (Prod.snd t)))) (Int.toNat (↑(Prod.fst t) : Int)) (0 : Nat)))) ∧ (∀ (i : Nat), i < List.length (lL tG (List.length (sideT (lL tG (List.length (Prod.fst (Prod.snd t))) (lC tE tZ (Prod.fst (Prod.snd t)))) (Int.toNat (↑(Prod.fst t) : Int)) (0 : Nat))) (lC tE tZ (sideT (lL tG (List.length (Prod.fst (Prod.snd t))) (lC tE tZ (Prod.fst (Prod.snd t)))) (Int.toNat (↑(Prod.fst t) : Int)) (0 : Nat)))) → lC tE tZ (sideT (lL tG (List.length (Prod.fst (Prod.snd t))) (lC tE tZ (Prod.fst (Prod.snd t)))) (Int.toNat (↑(Prod.fst t) : Int)) (0 : Nat)) i = lC tE tZ (lL tG (List.length (sideT (lL tG (List.length (Prod.fst (Prod.snd t))) (lC tE tZ (Prod.fst (Prod.snd t)))) (Int.toNat (↑(Prod.fst t) : Int)) (0 : Nat))) (lC tE tZ (sideT (lL tG (List.length (Prod.fst (Prod.snd t))) (lC tE tZ (Prod.fst (Prod.snd t)))) (Int.toNat (↑(Prod.fst t) : Int)) (0 : Nat)))) i) ∧ IntKind.wrap IntKind.i64 ((↑(Prod.fst t) : Int) + (1 : Int)) = IntKind.wrap IntKind.i64 ((↑(Prod.fst t) : Int) + (1 : Int)) ∧ OkK (lL tG (List.length (sideT (lL tG (List.length (Prod.fst (Prod.snd t))) (lC tE tZ (Prod.fst (Prod.snd t)))) (Int.toNat (↑(Prod.fst t) : Int)) (0 : Nat))) (lC tE tZ (sideT (lL tG (List.length (Prod.fst (Prod.snd t))) (lC tE tZ (Prod.fst (Prod.snd t)))) (Int.toNat (↑(Prod.fst t) : Int)) (0 : Nat)))) ∧ List.length (lL tG (List.length (sideT (lL tG (List.length (Prod.fst (Prod.snd t))) (lC tE tZ (Prod.fst (Prod.snd t)))) (Int.toNat (↑(Prod.fst t) : Int)) (0 : Nat))) (lC tE tZ (sideT (lL tG (List.length (Prod.fst (Prod.snd t))) (lC tE tZ (Prod.fst (Prod.snd t)))) (Int.toNat (↑(Prod.fst t) : Int)) (0 : Nat)))) < (1099511627776 : Nat) ∧ ((0 : Int) ≤ IntKind.wrap IntKind.i64 ((↑(Prod.fst t) : Int) + (1 : Int)) ∧ IntKind.wrap IntKind.i64 ((↑(Prod.fst t) : Int) + (1 : Int)) ≤ (256 : Int)) ∧ Srt ((256 : Nat) - Int.toNat (IntKind.wrap IntKind.i64 ((↑(Prod.fst t) : Int) + (1 : Int)))) (lL tG (List.length (sideT (lL tG (List.length (Prod.fst (Prod.snd t))) (lC tE tZ (Prod.fst (Prod.snd t)))) (Int.toNat (↑(Prod.fst t) : Int)) (0 : Nat))) (lC tE tZ (sideT (lL tG (List.length (Prod.fst (Prod.snd t))) (lC tE tZ (Prod.fst (Prod.snd t)))) (Int.toNat (↑(Prod.fst t) : Int)) (0 : Nat)))) ∧ (∀ (e : TE), e ∈ lL tG (List.length (sideT (lL tG (List.length (Prod.fst (Prod.snd t))) (lC tE tZ (Prod.fst (Prod.snd t)))) (Int.toNat (↑(Prod.fst t) : Int)) (0 : Nat))) (lC tE tZ (sideT (lL tG (List.length (Prod.fst (Prod.snd t))) (lC tE tZ (Prod.fst (Prod.snd t)))) (Int.toNat (↑(Prod.fst t) : Int)) (0 : Nat))) → List.length (Prod.snd e) + (300 : Nat) ≤ lim) ∧ OkB (txT ((256 : Nat) - Int.toNat (IntKind.wrap IntKind.i64 ((↑(Prod.fst t) : Int) + (1 : Int)))) (lL tG (List.length (sideT (lL tG (List.length (Prod.fst (Prod.snd t))) (lC tE tZ (Prod.fst (Prod.snd t)))) (Int.toNat (↑(Prod.fst t) : Int)) (0 : Nat))) (lC tE tZ (sideT (lL tG (List.length (Prod.fst (Prod.snd t))) (lC tE tZ (Prod.fst (Prod.snd t)))) (Int.toNat (↑(Prod.fst t) : Int)) (0 : Nat))))) ∧ Cont.len (Cont.st (32 : Nat) (List.length (Prod.snd (Prod.snd t))) (lC dE [] (Prod.snd (Prod.snd t)))) + Cont.len (Cont.st (32 : Nat) (1 : Nat) fun (i : Nat) => List.getD [[DC.ints IntKind.u8 (32 : Nat) (sumB shaK (txT ((256 : Nat) - Int.toNat (IntKind.wrap IntKind.i64 ((↑(Prod.fst t) : Int) + (1 : Int)))) (lL tG (List.length (sideT (lL tG (List.length (Prod.fst (Prod.snd t))) (lC tE tZ (Prod.fst (Prod.snd t)))) (Int.toNat (↑(Prod.fst t) : Int)) (0 : Nat))) (lC tE tZ (sideT (lL tG (List.length (Prod.fst (Prod.snd t))) (lC tE tZ (Prod.fst (Prod.snd t)))) (Int.toNat (↑(Prod.fst t) : Int)) (0 : Nat))))))]] i []) ≤ lim ∧ ∃ (t_1 : Nat × List TE × List (List Int)), List.length (sideT (lL tG (List.length (Prod.fst (Prod.snd t))) (lC tE tZ (Prod.fst (Prod.snd t)))) (Int.toNat (↑(Prod.fst t) : Int)) (1 : Nat)) = List.length (Prod.fst (Prod.snd t_1)) ∧ (∀ (i : Nat), i < List.length (Prod.fst (Prod.snd t_1)) → lC tE tZ (sideT (lL tG (List.length (Prod.fst (Prod.snd t))) (lC tE tZ (Prod.fst (Prod.snd t)))) (Int.toNat (↑(Prod.fst t) : Int)) (1 : Nat)) i = lC tE tZ (Prod.fst (Prod.snd t_1)) i) ∧ IntKind.wrap IntKind.i64 ((↑(Prod.fst t) : Int) + (1 : Int)) = (↑(Prod.fst t_1) : Int) ∧ k = k ∧ List.length (Prod.snd (Prod.snd t)) + (1 : Nat) = List.length (Prod.snd (Prod.snd t_1)) ∧ (∀ (i : Nat), i < List.length (Prod.snd (Prod.snd t_1)) → catF (List.length (Prod.snd (Prod.snd t))) (lC dE [] (Prod.snd (Prod.snd t))) (fun (i : Nat) => List.getD [[DC.ints IntKind.u8 (32 : Nat) (sumB shaK (txT ((256 : Nat) - Int.toNat (IntKind.wrap IntKind.i64 ((↑(Prod.fst t) : Int) + (1 : Int)))) (lL tG (List.length (sideT (lL tG (List.length (Prod.fst (Prod.snd t))) (lC tE tZ (Prod.fst (Prod.snd t)))) (Int.toNat (↑(Prod.fst t) : Int)) (0 : Nat))) (lC tE tZ (sideT (lL tG (List.length (Prod.fst (Prod.snd t))) (lC tE tZ (Prod.fst (Prod.snd t)))) (Int.toNat (↑(Prod.fst t) : Int)) (0 : Nat))))))]] i []) i = lC dE [] (Prod.snd (Prod.snd t_1)) i) ∧ wJ k l t_1 ∧ (256 : Nat) - Prod.fst t_1 < (256 : Nat) - Prod.fst t ∧ True) (List.length (sideT (lL tG (List.length (Prod.fst (Prod.snd t))) (lC tE tZ (Prod.fst (Prod.snd t)))) (Int.toNat (↑(Prod.fst t) : Int)) (1 : Nat)) = List.length (lL tG (List.length (sideT (lL tG (List.length (Prod.fst (Prod.snd t))) (lC tE tZ (Prod.fst (Prod.snd t)))) (Int.toNat (↑(Prod.fst t) : Int)) (1 : Nat))) (lC tE tZ (sideT (lL tG (List.length (Prod.fst (Prod.snd t))) (lC tE tZ (Prod.fst (Prod.snd t)))) (Int.toNat (↑(Prod.fst t) : Int)) (1 : Nat)))) ∧ (∀ (i : Nat), i < List.length (lL tG (List.length (sideT (lL tG (List.length (Prod.fst (Prod.snd t))) (lC tE tZ (Prod.fst (Prod.snd t)))) (Int.toNat (↑(Prod.fst t) : Int)) (1 : Nat))) (lC tE tZ (sideT (lL tG (List.length (Prod.fst (Prod.snd t))) (lC tE tZ (Prod.fst (Prod.snd t)))) (Int.toNat (↑(Prod.fst t) : Int)) (1 : Nat)))) → lC tE tZ (sideT (lL tG (List.length (Prod.fst (Prod.snd t))) (lC tE tZ (Prod.fst (Prod.snd t)))) (Int.toNat (↑(Prod.fst t) : Int)) (1 : Nat)) i = lC tE tZ (lL tG (List.length (sideT (lL tG (List.length (Prod.fst (Prod.snd t))) (lC tE tZ (Prod.fst (Prod.snd t)))) (Int.toNat (↑(Prod.fst t) : Int)) (1 : Nat))) (lC tE tZ (sideT (lL tG (List.length (Prod.fst (Prod.snd t))) (lC tE tZ (Prod.fst (Prod.snd t)))) (Int.toNat (↑(Prod.fst t) : Int)) (1 : Nat)))) i) ∧ IntKind.wrap IntKind.i64 ((↑(Prod.fst t) : Int) + (1 : Int)) = IntKind.wrap IntKind.i64 ((↑(Prod.fst t) : Int) + (1 : Int)) ∧ OkK (lL tG (List.length (sideT (lL tG (List.length (Prod.fst (Prod.snd t))) (lC tE tZ (Prod.fst (Prod.snd t)))) (Int.toNat (↑(Prod.fst t) : Int)) (1 : Nat))) (lC tE tZ (sideT (lL tG (List.length (Prod.fst (Prod.snd t))) (lC tE tZ (Prod.fst (Prod.snd t)))) (Int.toNat (↑(Prod.fst t) : Int)) (1 : Nat)))) ∧ List.length (lL tG (List.length (sideT (lL tG (List.length (Prod.fst (Prod.snd t))) (lC tE tZ (Prod.fst (Prod.snd t)))) (Int.toNat (↑(Prod.fst t) : Int)) (1 : Nat))) (lC tE tZ (sideT (lL tG (List.length (Prod.fst (Prod.snd t))) (lC tE tZ (Prod.fst (Prod.snd t)))) (Int.toNat (↑(Prod.fst t) : Int)) (1 : Nat)))) < (1099511627776 : Nat) ∧ ((0 : Int) ≤ IntKind.wrap IntKind.i64 ((↑(Prod.fst t) : Int) + (1 : Int)) ∧ IntKind.wrap IntKind.i64 ((↑(Prod.fst t) : Int) + (1 : Int)) ≤ (256 : Int)) ∧ Srt ((256 : Nat) - Int.toNat (IntKind.wrap IntKind.i64 ((↑(Prod.fst t) : Int) + (1 : Int)))) (lL tG (List.length (sideT (lL tG (List.length (Prod.fst (Prod.snd t))) (lC tE tZ (Prod.fst (Prod.snd t)))) (Int.toNat (↑(Prod.fst t) : Int)) (1 : Nat))) (lC tE tZ (sideT (lL tG (List.length (Prod.fst (Prod.snd t))) (lC tE tZ (Prod.fst (Prod.snd t)))) (Int.toNat (↑(Prod.fst t) : Int)) (1 : Nat)))) ∧ (∀ (e : TE), e ∈ lL tG (List.length (sideT (lL tG (List.length (Prod.fst (Prod.snd t))) (lC tE tZ (Prod.fst (Prod.snd t)))) (Int.toNat (↑(Prod.fst t) : Int)) (1 : Nat))) (lC tE tZ (sideT (lL tG (List.length (Prod.fst (Prod.snd t))) (lC tE tZ (Prod.fst (Prod.snd t)))) (Int.toNat (↑(Prod.fst t) : Int)) (1 : Nat))) → List.length (Prod.snd e) + (300 : Nat) ≤ lim) ∧ OkB (txT ((256 : Nat) - Int.toNat (IntKind.wrap IntKind.i64 ((↑(Prod.fst t) : Int) + (1 : Int)))) (lL tG (List.length (sideT (lL tG (List.length (Prod.fst (Prod.snd t))) (lC tE tZ (Prod.fst (Prod.snd t)))) (Int.toNat (↑(Prod.fst t) : Int)) (1 : Nat))) (lC tE tZ (sideT (lL tG (List.length (Prod.fst (Prod.snd t))) (lC tE tZ (Prod.fst (Prod.snd t)))) (Int.toNat (↑(Prod.fst t) : Int)) (1 : Nat))))) ∧ Cont.len (Cont.st (32 : Nat) (List.length (Prod.snd (Prod.snd t))) (lC dE [] (Prod.snd (Prod.snd t)))) + Cont.len (Cont.st (32 : Nat) (1 : Nat) fun (i : Nat) => List.getD [[DC.ints IntKind.u8 (32 : Nat) (sumB shaK (txT ((256 : Nat) - Int.toNat (IntKind.wrap IntKind.i64 ((↑(Prod.fst t) : Int) + (1 : Int)))) (lL tG (List.length (sideT (lL tG (List.length (Prod.fst (Prod.snd t))) (lC tE tZ (Prod.fst (Prod.snd t)))) (Int.toNat (↑(Prod.fst t) : Int)) (1 : Nat))) (lC tE tZ (sideT (lL tG (List.length (Prod.fst (Prod.snd t))) (lC tE tZ (Prod.fst (Prod.snd t)))) (Int.toNat (↑(Prod.fst t) : Int)) (1 : Nat))))))]] i []) ≤ lim ∧ ∃ (t_1 : Nat × List TE × List (List Int)), List.length (sideT (lL tG (List.length (Prod.fst (Prod.snd t))) (lC tE tZ (Prod.fst (Prod.snd t)))) (Int.toNat (↑(Prod.fst t) : Int)) (0 : Nat)) = List.length (Prod.fst (Prod.snd t_1)) ∧ (∀ (i : Nat), i < List.length (Prod.fst (Prod.snd t_1)) → lC tE tZ (sideT (lL tG (List.length (Prod.fst (Prod.snd t))) (lC tE tZ (Prod.fst (Prod.snd t)))) (Int.toNat (↑(Prod.fst t) : Int)) (0 : Nat)) i = lC tE tZ (Prod.fst (Prod.snd t_1)) i) ∧ IntKind.wrap IntKind.i64 ((↑(Prod.fst t) : Int) + (1 : Int)) = (↑(Prod.fst t_1) : Int) ∧ k = k ∧ List.length (Prod.snd (Prod.snd t)) + (1 : Nat) = List.length (Prod.snd (Prod.snd t_1)) ∧ (∀ (i : Nat), i < List.length (Prod.snd (Prod.snd t_1)) → catF (List.length (Prod.snd (Prod.snd t))) (lC dE [] (Prod.snd (Prod.snd t))) (fun (i : Nat) => List.getD [[DC.ints IntKind.u8 (32 : Nat) (sumB shaK (txT ((256 : Nat) - Int.toNat (IntKind.wrap IntKind.i64 ((↑(Prod.fst t) : Int) + (1 : Int)))) (lL tG (List.length (sideT (lL tG (List.length (Prod.fst (Prod.snd t))) (lC tE tZ (Prod.fst (Prod.snd t)))) (Int.toNat (↑(Prod.fst t) : Int)) (1 : Nat))) (lC tE tZ (sideT (lL tG (List.length (Prod.fst (Prod.snd t))) (lC tE tZ (Prod.fst (Prod.snd t)))) (Int.toNat (↑(Prod.fst t) : Int)) (1 : Nat))))))]] i []) i = lC dE [] (Prod.snd (Prod.snd t_1)) i) ∧ wJ k l t_1 ∧ (256 : Nat) - Prod.fst t_1 < (256 : Nat) - Prod.fst t ∧ True)) (List.length (Prod.fst (Prod.snd t)) = List.length (Prod.snd (wayT (256 : Nat) l k)) ∧ (∀ (i : Nat), i < List.length (Prod.snd (wayT (256 : Nat) l k)) → lC tE tZ (Prod.fst (Prod.snd t)) i = lC tE tZ (Prod.snd (wayT (256 : Nat) l k)) i) ∧ List.length (Prod.snd (Prod.snd t)) = List.length (Prod.fst (wayT (256 : Nat) l k)) ∧ (∀ (i : Nat), i < List.length (Prod.fst (wayT (256 : Nat) l k)) → lC dE [] (Prod.snd (Prod.snd t)) i = lC dE [] (Prod.fst (wayT (256 : Nat) l k)) i) ∧ True)) (by kernel_rfl) (by
    obtain ⟨ho, hl, hm, hv, hk, hkl, _⟩ := hp
    simp only [lL_self tG_tE]
    have hlim : lim = 68719476736 := rfl
    have hs := may_srt hm fun e he => ⟨(ho e he).1, (ho e he).2.1⟩
    refine ⟨⟨(0, l, []), ?_⟩, ?_⟩
    · have : wJ k l (0, l, []) := ⟨Nat.zero_le _, hs, fun e he => he, Nat.le_refl _, Nat.le_refl _, rfl⟩
      dsimp only
      repeat' first | with_reducible apply And.intro | with_reducible trivial | with_reducible rfl | exact fun _ _ => rfl | exact fun _ _ => trivial | assumption
    · rintro ⟨d, m, s⟩ ⟨h1, h2, h3, h4, h5, h6⟩
      dsimp only at h1 h2 h3 h4 h5 h6 ⊢
      have om : OkK m := fun e he => ho e (h3 e he)
      refine brI (fun hc => ?_) (fun hc => ?_)
      · have hn : ¬ m.length ≤ 1 := by have := of_decide_eq_true hc; omega
        have hd : d < 256 := Classical.byContradiction fun h => hn (by
          rw [show 256 - d = 0 by omega] at h2; exact h2.len0)
        obtain ⟨f, hf⟩ : ∃ f : Nat, 256 - d = f + 1 := ⟨255 - d, by omega⟩
        have ed : 255 - f = d := by omega
        have s0 := (hf ▸ h2 : Srt (f + 1) m).side (by omega) 0
        have s1 := (hf ▸ h2 : Srt (f + 1) m).side (by omega) 1
        rw [ed] at s0 s1
        rw [hf, way_s, if_neg hn, ed] at h6
        have l0 := side_len m d 0
        have l1 := side_len m d 1
        have hdd : 256 - (d + 1) = f := by omega
        rw [wi _ (by omega) (by omega), show ((d : Int) + 1) = ((d + 1 : Nat) : Int) by omega]
        simp only [Int.toNat_natCast, hdd]
        have hm0 : ∀ e ∈ sideT m d 0, e.2.length + 300 ≤ lim := fun e he => hv e (h3 e (side_sub _ _ _ _ he))
        have hm1 : ∀ e ∈ sideT m d 1, e.2.length + 300 ≤ lim := fun e he => hv e (h3 e (side_sub _ _ _ _ he))
        have o0 := om.side d 0
        have o1 := om.side d 1
        have t0 := txT_ok (f := f) o0
        have t1 := txT_ok (f := f) o1
        refine ⟨trivial, fun _ _ => trivial, trivial, om, by omega, ⟨by omega, by omega⟩, h2, hk, hkl, ⟨by omega, by omega⟩, brI (fun hb => ?_) (fun hb => ?_)⟩
        · have hb : bt k d = 1 := by have := beq_iff_eq.1 hb; omega
          rw [hb] at h6
          refine ⟨trivial, fun _ _ => trivial, trivial, o0, by omega, ⟨by omega, by omega⟩, s0, hm0, t0, (show s.length + 1 ≤ lim by omega), (d + 1, sideT m d 1, s ++ [sumB shaK (txT f (sideT m d 0))]), ?_⟩
          dsimp only
          refine ⟨rfl, fun _ _ => rfl, rfl, trivial, by simp, dSn _ _, ⟨by dsimp only; omega, by dsimp only; rw [hdd]; exact s1, fun e he => h3 e (side_sub _ _ _ _ he), by dsimp only; omega, by simp; omega, ?_⟩, by omega, trivial⟩
          dsimp only
          rw [hdd, ← h6, List.append_assoc]; rfl
        · have hb : bt k d = 0 := by have := beq_eq_false_iff_ne.1 hb; have := bt_lt k d; omega
          rw [hb] at h6
          refine ⟨trivial, fun _ _ => trivial, trivial, o1, by omega, ⟨by omega, by omega⟩, s1, hm1, t1, (show s.length + 1 ≤ lim by omega), (d + 1, sideT m d 0, s ++ [sumB shaK (txT f (sideT m d 1))]), ?_⟩
          dsimp only
          refine ⟨rfl, fun _ _ => rfl, rfl, trivial, by simp, dSn _ _, ⟨by dsimp only; omega, by dsimp only; rw [hdd]; exact s0, fun e he => h3 e (side_sub _ _ _ _ he), by dsimp only; omega, by simp; omega, ?_⟩, by omega, trivial⟩
          dsimp only
          rw [hdd, ← h6, List.append_assoc]; rfl
      · have hn : m.length ≤ 1 := by have := of_decide_eq_false hc; omega
        rw [way_le hn, List.append_nil] at h6
        rw [← h6]
        exact ⟨rfl, fun _ _ => rfl, rfl, fun _ _ => rfl, trivial⟩))
noncomputable def gtrieway : Con := fun args H => match args, H with
  | [.a (.d (.sl 33 m c)), .agg [.ints .u8 32 k]], [] => (fun (l : List TE) (k : List Int) => conC args H [.a (.d (.sl 33 (l).length (lC tE tZ (l)))), .agg [.ints .u8 32 k]] [] ⟨[OkK l, l.length < 1099511627776, mayT l, ∀ e ∈ l, e.2.length + 300 ≤ lim, OkB k, k.length = 32], .t [.a (.rw 0), .a (.d (.sl 33 ((wayT 256 l k).2).length (lC tE tZ ((wayT 256 l k).2))))], [(0, .row (.st 32 ((wayT 256 l k).1).length (lC dE [] ((wayT 256 l k).1))) 24)]⟩) (lL tG m c) (k)
  | _, _ => none
theorem vtrieway : Valid Tryd.prog Gs 27 gtrieway := by
  intro args H r h hp
  unfold gtrieway at h
  split at h
  · rename_i m c k
    exact conC_ok h hp fun hp => oktrieway (lL tG m c) (k) hp
  · cases h
noncomputable def ct_trieway : List (Nat × Ct) := (27, ⟨[], true, gtrieway, none⟩) :: ct_trieRoot
theorem ctok_trieway : CtsOk Tryd.prog Gs ct_trieway := CtsOk.cons vtrieway (by kernel_rfl) ctok_trieRoot
noncomputable def antriefits (k : List Int) (s : List (List Int)) (e : List TE) : Nat → List Nat → List Ann := fun bk_ gs_ => match bk_, gs_ with
    | 0, _ => [{ τ := Nat, t0 := (default : Nat), J := fun i => i ≤ s.length ∧ ∀ j, j < i → (e.all fun x => bt x.1 j == bt k j) = true, m := fun i => s.length - i, l := fun i => [(2, .s (.a (.d (.sl 33 (e).length (lC tE tZ (e)))))), (3, .s (.a (.lp 203 0))), (9, eI .i64 (s.length : Int)), (10, eI .i64 (i : Int))], H := fun i => [(203, .cells [.ints .u8 32 k] 24)] }]
    | _, _ => []
theorem oktriefits (k : List Int) (s : List (List Int)) (e : List TE) (hp : allP [OkB k, k.length = 32, s.length ≤ 256, e.length ≤ 1, ∀ x ∈ e, x.1.length = 32 ∧ OkB x.1]) : CallsOk Tryd.prog Gs 34 [.agg [.ints .u8 32 k], .a (.d (.sl 32 (s).length (lC dE [] (s)))), .a (.d (.sl 33 (e).length (lC tE tZ (e))))] [] (eB (fitsT k s e)) [] :=
  ok_of (ann := antriefits k s e) ctok_trieway mixed Tryd.func34 (by kernel_rfl) (of_nf (p := (∃ (t : Nat), List.length e = List.length e ∧ (∀ (i : Nat), i < List.length e → lC tE tZ e i = lC tE tZ e i) ∧ (↑(List.length s) : Int) = (↑(List.length s) : Int) ∧ (0 : Int) = (↑t : Int) ∧ k = k ∧ (t ≤ List.length s ∧ ∀ (j : Nat), j < t → (List.all e fun (x : TE) => bt (Prod.fst x) j == bt k j) = true) ∧ True) ∧ ∀ (t : Nat), (t ≤ List.length s ∧ ∀ (j : Nat), j < t → (List.all e fun (x : TE) => bt (Prod.fst x) j == bt k j) = true) → brP (decide ((↑t : Int) < (↑(List.length s) : Int))) (brP (decide ((↑(List.length e) : Int) > (0 : Int))) (((0 : Int) ≤ (0 : Int) ∧ (0 : Int) < (↑(List.length e) : Int)) ∧ OkB (Prod.fst (List.getD e (Int.toNat (0 : Int)) tZ)) ∧ List.length (Prod.fst (List.getD e (Int.toNat (0 : Int)) tZ)) = (32 : Nat) ∧ ((0 : Int) ≤ (↑t : Int) ∧ (↑t : Int) < (256 : Int)) ∧ OkB k ∧ List.length k = (32 : Nat) ∧ ((0 : Int) ≤ (↑t : Int) ∧ (↑t : Int) < (256 : Int)) ∧ brP ((↑(bt (Prod.fst (List.getD e (Int.toNat (0 : Int)) tZ)) (Int.toNat (↑t : Int))) : Int) != (↑(bt k (Int.toNat (↑t : Int))) : Int)) (false = fitsT k s e ∧ True) (∃ (t_1 : Nat), List.length e = List.length e ∧ (∀ (i : Nat), i < List.length e → lC tE tZ e i = lC tE tZ e i) ∧ (↑(List.length s) : Int) = (↑(List.length s) : Int) ∧ IntKind.wrap IntKind.i64 ((↑t : Int) + (1 : Int)) = (↑t_1 : Int) ∧ k = k ∧ (t_1 ≤ List.length s ∧ ∀ (j : Nat), j < t_1 → (List.all e fun (x : TE) => bt (Prod.fst x) j == bt k j) = true) ∧ List.length s - t_1 < List.length s - t ∧ True)) (∃ (t_1 : Nat), List.length e = List.length e ∧ (∀ (i : Nat), i < List.length e → lC tE tZ e i = lC tE tZ e i) ∧ (↑(List.length s) : Int) = (↑(List.length s) : Int) ∧ IntKind.wrap IntKind.i64 ((↑t : Int) + (1 : Int)) = (↑t_1 : Int) ∧ k = k ∧ (t_1 ≤ List.length s ∧ ∀ (j : Nat), j < t_1 → (List.all e fun (x : TE) => bt (Prod.fst x) j == bt k j) = true) ∧ List.length s - t_1 < List.length s - t ∧ True)) (true = fitsT k s e ∧ True)) (by kernel_rfl) (by
    obtain ⟨hk, hkl, hsl, hel, he, _⟩ := hp
    refine ⟨⟨0, rfl, fun _ _ => rfl, rfl, rfl, rfl, ⟨Nat.zero_le _, fun j hj => by omega⟩, trivial⟩, fun t ht => ?_⟩
    obtain ⟨h1, h2⟩ := ht
    refine brI (fun hc => ?_) (fun hc => ?_)
    · have hc : t < s.length := by have := of_decide_eq_true hc; omega
      have nx : IntKind.wrap .i64 ((t : Int) + 1) = ((t + 1 : Nat) : Int) := by rw [wi _ (by omega) (by omega)]; rfl
      rw [nx]
      match e, hel, he, h2 with
      | [], _, _, h2 =>
        refine brI (fun h => by simp at h) (fun _ => ?_)
        exact ⟨t + 1, rfl, fun _ _ => rfl, rfl, rfl, rfl, ⟨by omega, fun j hj => rfl⟩, by omega, trivial⟩
      | [x], _, he, h2 =>
        refine brI (fun _ => ?_) (fun h => by simp at h)
        obtain ⟨x1, x2⟩ := he x (by simp)
        refine ⟨⟨Int.le_refl 0, Int.zero_lt_one⟩, x2, x1, ⟨by omega, by omega⟩, hk, hkl, ⟨by omega, by omega⟩, ?_⟩
        rw [Int.toNat_natCast]
        refine brI (fun hx => ?_) (fun hx => ?_)
        · have hx : bt x.1 t ≠ bt k t := fun e => by
            have : ((bt x.1 t : Int) != (bt k t : Int)) = true := hx
            rw [e] at this; simp at this
          exact ⟨(fits_no hc hx).symm, trivial⟩
        · have hx : bt x.1 t = bt k t := by
            have : ((bt x.1 t : Int) != (bt k t : Int)) = false := hx
            simp at this; omega
          refine ⟨t + 1, rfl, fun _ _ => rfl, rfl, rfl, rfl, ⟨by omega, fun j hj => ?_⟩, by omega, trivial⟩
          by_cases hjt : j < t
          · exact h2 j hjt
          · obtain rfl : j = t := by omega
            simp [hx]
    · have hc : t = s.length := by have := of_decide_eq_false hc; omega
      subst hc
      refine ⟨?_, trivial⟩
      unfold fitsT
      exact (List.all_eq_true.2 fun i hi => h2 i (List.mem_range.1 hi)).symm))
noncomputable def gtriefits : Con := fun args H => match args, H with
  | [.agg [.ints .u8 32 k], .a (.d (.sl 32 m c)), .a (.d (.sl 33 m2 c2))], [] => (fun (k : List Int) (s : List (List Int)) (e : List TE) => conC args H [.agg [.ints .u8 32 k], .a (.d (.sl 32 (s).length (lC dE [] (s)))), .a (.d (.sl 33 (e).length (lC tE tZ (e))))] [] ⟨[OkB k, k.length = 32, s.length ≤ 256, e.length ≤ 1, ∀ x ∈ e, x.1.length = 32 ∧ OkB x.1], eB (fitsT k s e), []⟩) (k) (lL dG m c) (lL tG m2 c2)
  | _, _ => none
theorem vtriefits : Valid Tryd.prog Gs 34 gtriefits := by
  intro args H r h hp
  unfold gtriefits at h
  split at h
  · rename_i k m c m2 c2
    exact conC_ok h hp fun hp => oktriefits (k) (lL dG m c) (lL tG m2 c2) hp
  · cases h
noncomputable def ct_triefits : List (Nat × Ct) := (34, ⟨[], false, gtriefits, none⟩) :: ct_trieway
theorem ctok_triefits : CtsOk Tryd.prog Gs ct_triefits := CtsOk.cons vtriefits (by kernel_rfl) ctok_trieway
theorem rvL_len (Ls : List (List Int)) (t : Nat) : (rvL Ls t).length = Ls.length := by simp [rvL]
theorem rvL_0 (Ls : List (List Int)) : rvL Ls 0 = Ls := by
  apply List.ext_getElem (rvL_len _ _)
  intro i h1 h2
  simp only [rvL, List.getElem_map, List.getElem_range]
  rw [if_neg (by omega), List.getD_eq_getElem?_getD, List.getElem?_eq_getElem h2]; rfl
theorem rvL_at {Ls : List (List Int)} {t i : Nat} (h : i < Ls.length) : (rvL Ls t).getD i [] = if i < t ∨ Ls.length - 1 - t < i then Ls.getD (Ls.length - 1 - i) [] else Ls.getD i [] := by
  simp [rvL, List.getD_eq_getElem?_getD, List.getElem?_map, List.getElem?_range h]
theorem rvL_step {Ls : List (List Int)} {t : Nat} (h : t < Ls.length - 1 - t) : List.set (List.set (rvL Ls t) t ((rvL Ls t).getD (Ls.length - 1 - t) [])) (Ls.length - 1 - t) ((rvL Ls t).getD t []) = rvL Ls (t + 1) := by
  rw [rvL_at (show Ls.length - 1 - t < Ls.length by omega), rvL_at (show t < Ls.length by omega), if_neg (by omega), if_neg (by omega)]
  apply List.ext_getElem (by simp [rvL_len])
  intro i h1 h2
  rw [rvL_len] at h2
  simp only [List.getElem_set, rvL, List.getElem_map, List.getElem_range]
  by_cases e1 : Ls.length - 1 - t = i
  · rw [if_pos e1, if_pos (by omega), show Ls.length - 1 - i = t by omega]
  · rw [if_neg e1]
    by_cases e2 : t = i
    · subst e2; rw [if_pos rfl, if_pos (by omega)]
    · rw [if_neg e2]
      by_cases e3 : i < t ∨ Ls.length - 1 - t < i
      · rw [if_pos e3, if_pos (by omega)]
      · rw [if_neg e3, if_neg (by omega)]
theorem rvL_end {Ls : List (List Int)} {t : Nat} (h : ¬ t < Ls.length - 1 - t) (ht : 2 * t ≤ Ls.length + 1) : rvL Ls t = Ls.reverse := by
  apply List.ext_getElem (by simp [rvL_len])
  intro i h1 h2
  rw [rvL_len] at h1
  simp only [rvL, List.getElem_map, List.getElem_range, List.getElem_reverse]
  by_cases e : i < t ∨ Ls.length - 1 - t < i
  · rw [if_pos e, List.getD_eq_getElem?_getD, List.getElem?_eq_getElem (by omega)]; rfl
  · rw [if_neg e, List.getD_eq_getElem?_getD, List.getElem?_eq_getElem h1]
    simp only [Option.getD_some]
    congr 1; omega
noncomputable def anslicesReversebytebyte (Ls : List (List Int)) : Nat → List Nat → List Ann := fun bk_ gs_ => match bk_, gs_ with
    | 0, _ => [{ τ := Nat, t0 := (default : Nat), J := fun t => 2 * t ≤ Ls.length + 1, m := fun t => Ls.length - 2 * t, l := fun t => [(0, .s (.a (.rw 100000))), (2, eI .i64 (t : Int)), (3, eI .i64 ((Ls.length : Int) - 1 - t))], H := fun t => [(100000, .row (.bts (rvL Ls t)) 31)] }]
    | _, _ => []
theorem okslicesReversebytebyte (Ls : List (List Int)) (hp : allP [Ls.length < 1099511627776]) : CallsOk Tryd.prog Gs 58 [.a (.rw 100000)] [(100000, .row (.bts Ls) 31)] (.t []) [(100000, .row (.bts Ls.reverse) 31)] :=
  ok_of (ann := anslicesReversebytebyte Ls) ctok_triefits mixed Tryd.func58 (by kernel_rfl) (of_nf (p := (∃ (t : Nat), (0 : Int) = (↑t : Int) ∧ IntKind.wrap IntKind.i64 ((↑(Cont.len (Cont.bts Ls)) : Int) - (1 : Int)) = (↑(List.length Ls) : Int) - (1 : Int) - (↑t : Int) ∧ Ls = rvL Ls t ∧ (2 : Nat) * t ≤ List.length Ls + (1 : Nat) ∧ True) ∧ ∀ (t : Nat), (2 : Nat) * t ≤ List.length Ls + (1 : Nat) → brP (decide ((↑t : Int) < (↑(List.length Ls) : Int) - (1 : Int) - (↑t : Int))) (((0 : Int) ≤ (↑(List.length Ls) : Int) - (1 : Int) - (↑t : Int) ∧ (↑(List.length Ls) : Int) - (1 : Int) - (↑t : Int) < (↑(Cont.len (Cont.bts (rvL Ls t))) : Int)) ∧ ((0 : Int) ≤ (↑t : Int) ∧ (↑t : Int) < (↑(Cont.len (Cont.bts (rvL Ls t))) : Int)) ∧ ((0 : Int) ≤ (↑t : Int) ∧ (↑t : Int) < (↑(Cont.len (Cont.bts (rvL Ls t))) : Int)) ∧ ((0 : Int) ≤ (↑(List.length Ls) : Int) - (1 : Int) - (↑t : Int) ∧ (↑(List.length Ls) : Int) - (1 : Int) - (↑t : Int) < (↑(Cont.len (Cont.bts (List.set (rvL Ls t) (Int.toNat (↑t : Int)) (List.getD (rvL Ls t) (Int.toNat ((↑(List.length Ls) : Int) - (1 : Int) - (↑t : Int))) [])))) : Int)) ∧ ∃ (t_1 : Nat), IntKind.wrap IntKind.i64 ((↑t : Int) + (1 : Int)) = (↑t_1 : Int) ∧ IntKind.wrap IntKind.i64 ((↑(List.length Ls) : Int) - (1 : Int) - (↑t : Int) - (1 : Int)) = (↑(List.length Ls) : Int) - (1 : Int) - (↑t_1 : Int) ∧ List.set (List.set (rvL Ls t) (Int.toNat (↑t : Int)) (List.getD (rvL Ls t) (Int.toNat ((↑(List.length Ls) : Int) - (1 : Int) - (↑t : Int))) [])) (Int.toNat ((↑(List.length Ls) : Int) - (1 : Int) - (↑t : Int))) (List.getD (rvL Ls t) (Int.toNat (↑t : Int)) []) = rvL Ls t_1 ∧ (2 : Nat) * t_1 ≤ List.length Ls + (1 : Nat) ∧ List.length Ls - (2 : Nat) * t_1 < List.length Ls - (2 : Nat) * t ∧ True) (rvL Ls t = List.reverse Ls ∧ True)) (by kernel_rfl) (by
    obtain ⟨hn, _⟩ := hp
    refine ⟨⟨0, rfl, ?_, (rvL_0 Ls).symm, by omega, trivial⟩, fun t ht => brI (fun hc => ?_) (fun hc => ?_)⟩
    · show IntKind.wrap .i64 ((Ls.length : Int) - 1) = _
      rw [wi _ (by omega) (by omega)]; omega
    · have hc : t < Ls.length - 1 - t := by have := of_decide_eq_true hc; omega
      have e1 : Int.toNat ((Ls.length : Int) - 1 - (t : Int)) = Ls.length - 1 - t := by omega
      have e2 : ∀ M : List (List Int), (Cont.bts M).len = M.length := fun _ => rfl
      simp only [e1, e2, Int.toNat_natCast, List.length_set, rvL_len]
      refine ⟨by omega, by omega, by omega, by omega, t + 1, ?_, ?_, ?_, by omega, by omega, trivial⟩
      · rw [wi _ (by omega) (by omega)]; rfl
      · rw [wi _ (by omega) (by omega)]; omega
      · exact rvL_step hc
    · have hc : ¬ t < Ls.length - 1 - t := by have := of_decide_eq_false hc; omega
      exact ⟨rvL_end hc ht, trivial⟩))
noncomputable def gslicesReversebytebyte : Con := fun args H => match args, H with
  | [.a (.rw 100000)], [(100000, .row (.bts Ls) 31)] => some ⟨[Ls.length < 1099511627776], .t [], [(100000, .row (.bts Ls.reverse) 31)]⟩
  | _, _ => none
theorem vslicesReversebytebyte : Valid Tryd.prog Gs 58 gslicesReversebytebyte := by
  intro args H r h hp
  unfold gslicesReversebytebyte at h
  split at h
  · simp only [Option.some.injEq] at h; subst h; exact okslicesReversebytebyte _ hp
  · cases h
noncomputable def ct_slicesReversebytebyte : List (Nat × Ct) := (58, ⟨[true], false, gslicesReversebytebyte, none⟩) :: ct_triefits
theorem ctok_slicesReversebytebyte : CtsOk Tryd.prog Gs ct_slicesReversebytebyte := CtsOk.cons vslicesReversebytebyte (by kernel_rfl) ctok_triefits
noncomputable def anslicesClonebytebytec (x : Int) (r : List Int) : Nat → List Nat → List Ann := fun _ _ => []
theorem okslicesClonebytebytec (x : Int) (r : List Int) (hp : allP [(x :: r).length + 100 ≤ lim]) : CallsOk Tryd.prog Gs 36 [.a (.d (.si .u8 (x :: r)))] [] (.s (.a (.rw 0))) [(0, .row (.ints .u8 (x :: r)) 5)] :=
  ok_of (ann := anslicesClonebytebytec x r) ctok_slicesReversebytebyte mixed Tryd.func36 (by kernel_rfl) (of_nf (p := Cont.len (Cont.ints IntKind.u8 []) + Cont.len (Cont.ints IntKind.u8 (x :: r)) ≤ lim ∧ [] ++ x :: r = x :: r ∧ True) (by kernel_rfl) (by
    obtain ⟨hl, _⟩ := hp
    have hlim : lim = 68719476736 := rfl
    exact ⟨by show 0 + (x :: r).length ≤ lim; omega, rfl, trivial⟩))
noncomputable def anslicesClonebytebyten (cap : Nat) : Nat → List Nat → List Ann := fun _ _ => []
theorem okslicesClonebytebyten (cap : Nat) : CallsOk Tryd.prog Gs 36 [.a (.d (.v (.slice none 0 cap)))] [] (.s (.a (.rw 0))) [(0, .row (.ints .u8 []) 5)] :=
  ok_of (ann := anslicesClonebytebyten cap) ctok_slicesReversebytebyte mixed Tryd.func36 (by kernel_rfl) (of_nf (p := ([] : List Int) = [] ∧ True) (by kernel_rfl) (by
    exact ⟨rfl, trivial⟩))
noncomputable def anslicesClonebytebytee (ad : Addr) (cap : Nat) : Nat → List Nat → List Ann := fun _ _ => []
theorem okslicesClonebytebytee (ad : Addr) (cap : Nat) : CallsOk Tryd.prog Gs 36 [.a (.d (.v (.slice (some ad) 0 cap)))] [] (.s (.a (.rw 0))) [(0, .row (.ints .u8 []) 5)] :=
  ok_of (ann := anslicesClonebytebytee ad cap) ctok_slicesReversebytebyte mixed Tryd.func36 (by kernel_rfl) (of_nf (p := Cont.len (Cont.ints IntKind.u8 []) + Cont.len (Cont.ints IntKind.u8 []) ≤ lim ∧ ([] : List Int) ++ [] = [] ∧ True) (by kernel_rfl) (by
    exact ⟨by decide, rfl, trivial⟩))
noncomputable def anslicesClonebytebyte (L : List Int) : Nat → List Nat → List Ann := fun _ _ => []
theorem okslicesClonebytebyte (L : List Int) (hp : allP [L.length + 100 ≤ lim]) : CallsOk Tryd.prog Gs 36 [.a (.d (.si .u8 L))] [] (.s (.a (.rw 0))) [(0, .row (.ints .u8 L) 5)] := by
  cases L with
  | cons x r => exact okslicesClonebytebytec x r hp
  | nil =>
    intro w F ρ us hL hO hG
    obtain ⟨u, r, rfl, h1, h2⟩ := hL
    have h1 : IRep ⟨w, F⟩ .u8 [] u := h1
    obtain ⟨a, cap, rfl, hc, _⟩ := h1
    cases a with
    | none =>
      exact okslicesClonebytebyten cap w F ρ _ ⟨_, _, rfl, rfl, h2⟩ hO hG
    | some ad => exact okslicesClonebytebytee ad cap w F ρ _ ⟨_, _, rfl, rfl, h2⟩ hO hG
noncomputable def gslicesClonebytebyte : Con := fun args H => match args, H with
  | [.a (.d (.si .u8 L))], [] => some ⟨[L.length + 100 ≤ lim], .s (.a (.rw 0)), [(0, .row (.ints .u8 L) 5)]⟩
  | _, _ => none
theorem vslicesClonebytebyte : Valid Tryd.prog Gs 36 gslicesClonebytebyte := by
  intro args H r h hp
  unfold gslicesClonebytebyte at h
  split at h
  · simp only [Option.some.injEq] at h; subst h; exact okslicesClonebytebyte _ hp
  · cases h
noncomputable def ct_slicesClonebytebyte : List (Nat × Ct) := (36, ⟨[], false, gslicesClonebytebyte, none⟩) :: ct_slicesReversebytebyte
theorem ctok_slicesClonebytebyte : CtsOk Tryd.prog Gs ct_slicesClonebytebyte := CtsOk.cons vslicesClonebytebyte (by kernel_rfl) ctok_slicesReversebytebyte
theorem txs_hd {k : List Int} : ∀ {s : List (List Int)} {d : Nat} {e : List TE}, (∀ x ∈ s, OkB x) → OkK e → OkB ((txsT k d s e).headD [])
  | [], _, _, _, he => endT_ok he
  | x :: r, d, e, hs, _ => by
    simp only [txsT, List.headD_cons]
    split
    · exact brT_ok (sumB_ok2 _) (hs x (by simp))
    · exact brT_ok (hs x (by simp)) (sumB_ok2 _)
theorem txs_all {k : List Int} : ∀ {s : List (List Int)} {d : Nat} {e : List TE}, (∀ x ∈ s, OkB x) → OkK e → ∀ t ∈ txsT k d s e, OkB t
  | [], _, _, _, he, t, ht => by rw [List.mem_singleton.1 ht]; exact endT_ok he
  | x :: r, d, e, hs, he, t, ht => by
    have hd := txs_hd (k := k) (d := d) hs he
    simp only [txsT, List.mem_cons] at ht hd
    rcases ht with rfl | ht
    · exact hd
    · exact txs_all (fun y hy => hs y (by simp [hy])) he t ht
noncomputable def antrietexts (k : List Int) (s : List (List Int)) (e : List TE) : Nat → List Nat → List Ann := fun bk_ gs_ => match bk_, gs_ with
    | 0, _ => [{ τ := Nat, t0 := (default : Nat), J := fun j => j ≤ s.length, m := fun j => s.length - j, l := fun j => [(1, .s (.a (.d (.sl 32 (s).length (lC dE [] (s)))))), (3, .s (.a (.lp 203 0))), (7, .s (.a (.d (.si .u8 ((txsT k (s.length - j) (s.drop (s.length - j)) e).headD []))))), (8, .s (.a (.rw 208))), (9, eI .i64 ((s.length : Int) - 1 - j))], H := fun j => [(203, .cells [.ints .u8 32 k] 24), (208, .row (.bts (txsT k (s.length - j) (s.drop (s.length - j)) e).reverse) 31)] }]
    | _, _ => []
theorem oktrietexts (k : List Int) (s : List (List Int)) (e : List TE) (hp : allP [OkB k, k.length = 32, s.length ≤ 256, ∀ x ∈ s, x.length = 32 ∧ OkB x, e.length ≤ 1, OkK e, ∀ x ∈ e, x.2.length + 300 ≤ lim]) : CallsOk Tryd.prog Gs 35 [.agg [.ints .u8 32 k], .a (.d (.sl 32 (s).length (lC dE [] (s)))), .a (.d (.sl 33 (e).length (lC tE tZ (e))))] [] (.s (.a (.rw 0))) [(0, .row (.bts (txsT k 0 s e)) 31)] :=
  ok_of (ann := antrietexts k s e) ctok_slicesClonebytebyte mixed Tryd.func35 (by kernel_rfl) (of_nf (p := List.length e = List.length (lL tG (List.length e) (lC tE tZ e)) ∧ (∀ (i : Nat), i < List.length (lL tG (List.length e) (lC tE tZ e)) → lC tE tZ e i = lC tE tZ (lL tG (List.length e) (lC tE tZ e)) i) ∧ (0 : Int) = (0 : Int) ∧ OkK (lL tG (List.length e) (lC tE tZ e)) ∧ List.length (lL tG (List.length e) (lC tE tZ e)) < (1099511627776 : Nat) ∧ ((0 : Int) ≤ (0 : Int) ∧ (0 : Int) ≤ (256 : Int)) ∧ Srt ((256 : Nat) - Int.toNat (0 : Int)) (lL tG (List.length e) (lC tE tZ e)) ∧ (∀ (e_1 : TE), e_1 ∈ lL tG (List.length e) (lC tE tZ e) → List.length (Prod.snd e_1) + (300 : Nat) ≤ lim) ∧ (∃ (t : Nat), List.length s = List.length s ∧ (∀ (i : Nat), i < List.length s → lC dE [] s i = lC dE [] s i) ∧ txT ((256 : Nat) - Int.toNat (0 : Int)) (lL tG (List.length e) (lC tE tZ e)) = List.headD (txsT k (List.length s - t) (List.drop (List.length s - t) s) e) [] ∧ IntKind.wrap IntKind.i64 ((↑(List.length s) : Int) - (1 : Int)) = (↑(List.length s) : Int) - (1 : Int) - (↑t : Int) ∧ k = k ∧ [txT ((256 : Nat) - Int.toNat (0 : Int)) (lL tG (List.length e) (lC tE tZ e))] = List.reverse (txsT k (List.length s - t) (List.drop (List.length s - t) s) e) ∧ t ≤ List.length s ∧ True) ∧ ∀ (t : Nat), t ≤ List.length s → brP (decide ((↑(List.length s) : Int) - (1 : Int) - (↑t : Int) ≥ (0 : Int))) (OkB k ∧ List.length k = (32 : Nat) ∧ ((0 : Int) ≤ (↑(List.length s) : Int) - (1 : Int) - (↑t : Int) ∧ (↑(List.length s) : Int) - (1 : Int) - (↑t : Int) < (256 : Int)) ∧ brP ((↑(bt k (Int.toNat ((↑(List.length s) : Int) - (1 : Int) - (↑t : Int)))) : Int) == (0 : Int)) (OkB (List.headD (txsT k (List.length s - t) (List.drop (List.length s - t) s) e) []) ∧ ((0 : Int) ≤ (↑(List.length s) : Int) - (1 : Int) - (↑t : Int) ∧ (↑(List.length s) : Int) - (1 : Int) - (↑t : Int) < (↑(List.length s) : Int)) ∧ List.length (sumB shaK (List.headD (txsT k (List.length s - t) (List.drop (List.length s - t) s) e) [])) = (32 : Nat) ∧ OkB (sumB shaK (List.headD (txsT k (List.length s - t) (List.drop (List.length s - t) s) e) [])) ∧ List.length (List.getD s (Int.toNat ((↑(List.length s) : Int) - (1 : Int) - (↑t : Int))) []) = (32 : Nat) ∧ OkB (List.getD s (Int.toNat ((↑(List.length s) : Int) - (1 : Int) - (↑t : Int))) []) ∧ Cont.len (Cont.bts (List.reverse (txsT k (List.length s - t) (List.drop (List.length s - t) s) e))) + Cont.len (Cont.bts [brT (sumB shaK (List.headD (txsT k (List.length s - t) (List.drop (List.length s - t) s) e) [])) (List.getD s (Int.toNat ((↑(List.length s) : Int) - (1 : Int) - (↑t : Int))) [])]) ≤ lim ∧ ∃ (t_1 : Nat), List.length s = List.length s ∧ (∀ (i : Nat), i < List.length s → lC dE [] s i = lC dE [] s i) ∧ brT (sumB shaK (List.headD (txsT k (List.length s - t) (List.drop (List.length s - t) s) e) [])) (List.getD s (Int.toNat ((↑(List.length s) : Int) - (1 : Int) - (↑t : Int))) []) = List.headD (txsT k (List.length s - t_1) (List.drop (List.length s - t_1) s) e) [] ∧ IntKind.wrap IntKind.i64 ((↑(List.length s) : Int) - (1 : Int) - (↑t : Int) - (1 : Int)) = (↑(List.length s) : Int) - (1 : Int) - (↑t_1 : Int) ∧ k = k ∧ List.reverse (txsT k (List.length s - t) (List.drop (List.length s - t) s) e) ++ [brT (sumB shaK (List.headD (txsT k (List.length s - t) (List.drop (List.length s - t) s) e) [])) (List.getD s (Int.toNat ((↑(List.length s) : Int) - (1 : Int) - (↑t : Int))) [])] = List.reverse (txsT k (List.length s - t_1) (List.drop (List.length s - t_1) s) e) ∧ t_1 ≤ List.length s ∧ List.length s - t_1 < List.length s - t ∧ True) (((0 : Int) ≤ (↑(List.length s) : Int) - (1 : Int) - (↑t : Int) ∧ (↑(List.length s) : Int) - (1 : Int) - (↑t : Int) < (↑(List.length s) : Int)) ∧ OkB (List.headD (txsT k (List.length s - t) (List.drop (List.length s - t) s) e) []) ∧ List.length (List.getD s (Int.toNat ((↑(List.length s) : Int) - (1 : Int) - (↑t : Int))) []) = (32 : Nat) ∧ OkB (List.getD s (Int.toNat ((↑(List.length s) : Int) - (1 : Int) - (↑t : Int))) []) ∧ List.length (sumB shaK (List.headD (txsT k (List.length s - t) (List.drop (List.length s - t) s) e) [])) = (32 : Nat) ∧ OkB (sumB shaK (List.headD (txsT k (List.length s - t) (List.drop (List.length s - t) s) e) [])) ∧ Cont.len (Cont.bts (List.reverse (txsT k (List.length s - t) (List.drop (List.length s - t) s) e))) + Cont.len (Cont.bts [brT (List.getD s (Int.toNat ((↑(List.length s) : Int) - (1 : Int) - (↑t : Int))) []) (sumB shaK (List.headD (txsT k (List.length s - t) (List.drop (List.length s - t) s) e) []))]) ≤ lim ∧ ∃ (t_1 : Nat), List.length s = List.length s ∧ (∀ (i : Nat), i < List.length s → lC dE [] s i = lC dE [] s i) ∧ brT (List.getD s (Int.toNat ((↑(List.length s) : Int) - (1 : Int) - (↑t : Int))) []) (sumB shaK (List.headD (txsT k (List.length s - t) (List.drop (List.length s - t) s) e) [])) = List.headD (txsT k (List.length s - t_1) (List.drop (List.length s - t_1) s) e) [] ∧ IntKind.wrap IntKind.i64 ((↑(List.length s) : Int) - (1 : Int) - (↑t : Int) - (1 : Int)) = (↑(List.length s) : Int) - (1 : Int) - (↑t_1 : Int) ∧ k = k ∧ List.reverse (txsT k (List.length s - t) (List.drop (List.length s - t) s) e) ++ [brT (List.getD s (Int.toNat ((↑(List.length s) : Int) - (1 : Int) - (↑t : Int))) []) (sumB shaK (List.headD (txsT k (List.length s - t) (List.drop (List.length s - t) s) e) []))] = List.reverse (txsT k (List.length s - t_1) (List.drop (List.length s - t_1) s) e) ∧ t_1 ≤ List.length s ∧ List.length s - t_1 < List.length s - t ∧ True)) (List.length (List.reverse (txsT k (List.length s - t) (List.drop (List.length s - t) s) e)) < (1099511627776 : Nat) ∧ List.reverse (List.reverse (txsT k (List.length s - t) (List.drop (List.length s - t) s) e)) = txsT k (0 : Nat) s e ∧ True)) (by kernel_rfl) (by
    obtain ⟨hk, hkl, hsl, hs, hel, he, hv, _⟩ := hp
    simp only [lL_self tG_tE]
    have hlim : lim = 68719476736 := rfl
    have h0 : Srt 256 e := may_srt (may_one hel) fun x hx => ⟨(he x hx).1, (he x hx).2.1⟩
    refine ⟨trivial, fun _ _ => trivial, trivial, he, by omega, by decide, h0, hv, ⟨0, ?_⟩, fun t ht => ?_⟩
    · have hd : s.drop (s.length - 0) = [] := by rw [Nat.sub_zero, List.drop_length]
      rw [hd, wi _ (by omega) (by omega)]
      refine ⟨trivial, fun _ _ => trivial, tx_le hel _, by omega, trivial, ?_, Nat.zero_le _, trivial⟩
      rw [show 256 - Int.toNat 0 = 256 by decide, tx_le hel]; rfl
    · have tl : (txsT k (s.length - t) (s.drop (s.length - t)) e).length = t + 1 := by rw [txs_len, List.length_drop]; omega
      refine brI (fun hc => ?_) (fun hc => ?_)
      · have hc : t < s.length := by have := of_decide_eq_true hc; omega
        have ei : ((s.length : Int) - 1 - t) = ((s.length - 1 - t : Nat) : Int) := by omega
        have hi : s.length - 1 - t < s.length := by omega
        have hdr : s.drop (s.length - (t + 1)) = s[s.length - 1 - t] :: s.drop (s.length - t) := by
          rw [show s.length - (t + 1) = s.length - 1 - t by omega, List.drop_eq_getElem_cons hi, show s.length - 1 - t + 1 = s.length - t by omega]
        have hg : s.getD (s.length - 1 - t) [] = s[s.length - 1 - t] := by rw [List.getD_eq_getElem?_getD, List.getElem?_eq_getElem hi]; rfl
        have eS : s.length - (t + 1) + 1 = s.length - t := by omega
        have eN : s.length - (t + 1) = s.length - 1 - t := by omega
        obtain ⟨g1, g2⟩ := hs _ (List.getElem_mem hi)
        have ho : OkB ((txsT k (s.length - t) (s.drop (s.length - t)) e).headD []) := txs_hd (fun x hx => (hs x (List.mem_of_mem_drop hx)).2) he
        rw [ei, Int.toNat_natCast, hg]
        have hl : ∀ A B : List (List Int), (Cont.bts A).len + (Cont.bts B).len = A.length + B.length := fun _ _ => rfl
        refine ⟨hk, hkl, ⟨by omega, by omega⟩, brI (fun hb => ?_) (fun hb => ?_)⟩
        · have hb : bt k (s.length - (t + 1)) = 0 := by have := beq_iff_eq.1 hb; rw [eN]; omega
          refine ⟨ho, ⟨by omega, by omega⟩, sumB_len _ _, sumB_ok2 _, g1, g2, ?_, t + 1, ?_⟩
          · rw [hl, List.length_reverse, tl, List.length_singleton]; omega
          · rw [hdr]
            simp only [txsT, eS]
            rw [if_pos hb, wi _ (by omega) (by omega)]
            exact ⟨trivial, fun _ _ => trivial, rfl, by omega, trivial, by rw [List.reverse_cons], by omega, by omega, trivial⟩
        · have hb : ¬ bt k (s.length - (t + 1)) = 0 := by have := beq_eq_false_iff_ne.1 hb; rw [eN]; omega
          refine ⟨⟨by omega, by omega⟩, ho, g1, g2, sumB_len _ _, sumB_ok2 _, ?_, t + 1, ?_⟩
          · rw [hl, List.length_reverse, tl, List.length_singleton]; omega
          · rw [hdr]
            simp only [txsT, eS]
            rw [if_neg hb, wi _ (by omega) (by omega)]
            exact ⟨trivial, fun _ _ => trivial, rfl, by omega, trivial, by rw [List.reverse_cons], by omega, by omega, trivial⟩
      · have hc : t = s.length := by have := of_decide_eq_false hc; omega
        subst hc
        rw [Nat.sub_self, List.drop_zero] at tl ⊢
        exact ⟨by rw [List.length_reverse, tl]; omega, List.reverse_reverse _, trivial⟩))
noncomputable def gtrietexts : Con := fun args H => match args, H with
  | [.agg [.ints .u8 32 k], .a (.d (.sl 32 m c)), .a (.d (.sl 33 m2 c2))], [] => (fun (k : List Int) (s : List (List Int)) (e : List TE) => conC args H [.agg [.ints .u8 32 k], .a (.d (.sl 32 (s).length (lC dE [] (s)))), .a (.d (.sl 33 (e).length (lC tE tZ (e))))] [] ⟨[OkB k, k.length = 32, s.length ≤ 256, ∀ x ∈ s, x.length = 32 ∧ OkB x, e.length ≤ 1, OkK e, ∀ x ∈ e, x.2.length + 300 ≤ lim], .s (.a (.rw 0)), [(0, .row (.bts (txsT k 0 s e)) 31)]⟩) (k) (lL dG m c) (lL tG m2 c2)
  | _, _ => none
theorem vtrietexts : Valid Tryd.prog Gs 35 gtrietexts := by
  intro args H r h hp
  unfold gtrietexts at h
  split at h
  · rename_i k m c m2 c2
    exact conC_ok h hp fun hp => oktrietexts (k) (lL dG m c) (lL tG m2 c2) hp
  · cases h
noncomputable def ct_trietexts : List (Nat × Ct) := (35, ⟨[], true, gtrietexts, none⟩) :: ct_slicesClonebytebyte
theorem ctok_trietexts : CtsOk Tryd.prog Gs ct_trietexts := CtsOk.cons vtrietexts (by kernel_rfl) ctok_slicesClonebytebyte
noncomputable def antrieProve (l : List TE) (k : List Int) : Nat → List Nat → List Ann := fun bk_ gs_ => match bk_, gs_ with
    | 0, _ => [{ τ := Nat, t0 := (default : Nat), J := fun i => i ≤ (wayT 256 l k).1.length, m := fun i => (wayT 256 l k).1.length - i, l := fun i => [(6, .s (.a (.d (.sl 33 ((wayT 256 l k).2).length (lC tE tZ ((wayT 256 l k).2)))))), (7, .s (.a (.rw 207))), (19, .s (.a (.rw 205))), (20, eI .i64 ((wayT 256 l k).1.length : Int)), (21, eI .i64 (i : Int))], H := fun i => [(205, .row (.st 32 (wayT 256 l k).1.length (lC dE [] (wayT 256 l k).1)) 24), (207, .row (.ints .u8 ((wayT 256 l k).1.take i).flatten) 5)] }]
    | _, _ => []
theorem oktrieProve (l : List TE) (k : List Int) (hp : allP [OkK l, l.length < 1099511627776, ∀ e ∈ l, e.2.length + 20000 ≤ lim, OkB k, k.length = 32]) : CallsOk Tryd.prog Gs 15 [.a (.d (.sl 33 (l).length (lC tE tZ (l)))), .agg [.ints .u8 32 k]] [] (.s (.a (.rw 0))) [(0, .row (.ints .u8 (if mayT l then proveT l k else [])) 5)] :=
  ok_of (ann := antrieProve l k) ctok_trietexts mixed Tryd.func15 (by kernel_rfl) (of_nf (p := List.length l = List.length (lL tG (List.length l) (lC tE tZ l)) ∧ (∀ (i : Nat), i < List.length (lL tG (List.length l) (lC tE tZ l)) → lC tE tZ l i = lC tE tZ (lL tG (List.length l) (lC tE tZ l)) i) ∧ OkK (lL tG (List.length l) (lC tE tZ l)) ∧ List.length (lL tG (List.length l) (lC tE tZ l)) < (1099511627776 : Nat) ∧ brP (!decide (mayT (lL tG (List.length l) (lC tE tZ l)))) (([] = if mayT l then proveT l k else []) ∧ True) (List.length l = List.length (lL tG (List.length l) (lC tE tZ l)) ∧ (∀ (i : Nat), i < List.length (lL tG (List.length l) (lC tE tZ l)) → lC tE tZ l i = lC tE tZ (lL tG (List.length l) (lC tE tZ l)) i) ∧ k = k ∧ OkK (lL tG (List.length l) (lC tE tZ l)) ∧ List.length (lL tG (List.length l) (lC tE tZ l)) < (1099511627776 : Nat) ∧ mayT (lL tG (List.length l) (lC tE tZ l)) ∧ (∀ (e : TE), e ∈ lL tG (List.length l) (lC tE tZ l) → List.length (Prod.snd e) + (300 : Nat) ≤ lim) ∧ OkB k ∧ List.length k = (32 : Nat) ∧ (∃ (t : Nat), List.length (Prod.snd (wayT (256 : Nat) (lL tG (List.length l) (lC tE tZ l)) k)) = List.length (Prod.snd (wayT (256 : Nat) l k)) ∧ (∀ (i : Nat), i < List.length (Prod.snd (wayT (256 : Nat) l k)) → lC tE tZ (Prod.snd (wayT (256 : Nat) (lL tG (List.length l) (lC tE tZ l)) k)) i = lC tE tZ (Prod.snd (wayT (256 : Nat) l k)) i) ∧ (↑(Cont.len (Cont.st (32 : Nat) (List.length (Prod.fst (wayT (256 : Nat) (lL tG (List.length l) (lC tE tZ l)) k))) (lC dE [] (Prod.fst (wayT (256 : Nat) (lL tG (List.length l) (lC tE tZ l)) k))))) : Int) = (↑(List.length (Prod.fst (wayT (256 : Nat) l k))) : Int) ∧ (0 : Int) = (↑t : Int) ∧ List.length (Prod.fst (wayT (256 : Nat) (lL tG (List.length l) (lC tE tZ l)) k)) = List.length (Prod.fst (wayT (256 : Nat) l k)) ∧ (∀ (i : Nat), i < List.length (Prod.fst (wayT (256 : Nat) l k)) → lC dE [] (Prod.fst (wayT (256 : Nat) (lL tG (List.length l) (lC tE tZ l)) k)) i = lC dE [] (Prod.fst (wayT (256 : Nat) l k)) i) ∧ [] = List.flatten (List.take t (Prod.fst (wayT (256 : Nat) l k))) ∧ t ≤ List.length (Prod.fst (wayT (256 : Nat) l k)) ∧ True) ∧ ∀ (t : Nat), t ≤ List.length (Prod.fst (wayT (256 : Nat) l k)) → brP (decide ((↑t : Int) < (↑(List.length (Prod.fst (wayT (256 : Nat) l k))) : Int))) (((0 : Int) ≤ (↑t : Int) ∧ (↑t : Int) < (↑(Cont.len (Cont.st (32 : Nat) (List.length (Prod.fst (wayT (256 : Nat) l k))) (lC dE [] (Prod.fst (wayT (256 : Nat) l k))))) : Int)) ∧ Cont.len (Cont.ints IntKind.u8 (List.flatten (List.take t (Prod.fst (wayT (256 : Nat) l k))))) + Cont.len (Cont.ints IntKind.u8 (List.take (lenN (32 : Nat) none none) (List.drop (startN (0 : Nat) none) (List.getD (Prod.fst (wayT (256 : Nat) l k)) (Int.toNat (↑t : Int)) [])))) ≤ lim ∧ ∃ (t_1 : Nat), List.length (Prod.snd (wayT (256 : Nat) l k)) = List.length (Prod.snd (wayT (256 : Nat) l k)) ∧ (∀ (i : Nat), i < List.length (Prod.snd (wayT (256 : Nat) l k)) → lC tE tZ (Prod.snd (wayT (256 : Nat) l k)) i = lC tE tZ (Prod.snd (wayT (256 : Nat) l k)) i) ∧ (↑(List.length (Prod.fst (wayT (256 : Nat) l k))) : Int) = (↑(List.length (Prod.fst (wayT (256 : Nat) l k))) : Int) ∧ IntKind.wrap IntKind.i64 ((↑t : Int) + (1 : Int)) = (↑t_1 : Int) ∧ List.length (Prod.fst (wayT (256 : Nat) l k)) = List.length (Prod.fst (wayT (256 : Nat) l k)) ∧ (∀ (i : Nat), i < List.length (Prod.fst (wayT (256 : Nat) l k)) → lC dE [] (Prod.fst (wayT (256 : Nat) l k)) i = lC dE [] (Prod.fst (wayT (256 : Nat) l k)) i) ∧ List.flatten (List.take t (Prod.fst (wayT (256 : Nat) l k))) ++ List.take (lenN (32 : Nat) none none) (List.drop (startN (0 : Nat) none) (List.getD (Prod.fst (wayT (256 : Nat) l k)) (Int.toNat (↑t : Int)) [])) = List.flatten (List.take t_1 (Prod.fst (wayT (256 : Nat) l k))) ∧ t_1 ≤ List.length (Prod.fst (wayT (256 : Nat) l k)) ∧ List.length (Prod.fst (wayT (256 : Nat) l k)) - t_1 < List.length (Prod.fst (wayT (256 : Nat) l k)) - t ∧ True) (brP ((↑(List.length (Prod.snd (wayT (256 : Nat) l k))) : Int) == (0 : Int)) (List.length (joinB []) + (100 : Nat) ≤ lim ∧ List.length (joinB [List.flatten (List.take t (Prod.fst (wayT (256 : Nat) l k))), joinB []]) + (100 : Nat) ≤ lim ∧ (joinB [List.flatten (List.take t (Prod.fst (wayT (256 : Nat) l k))), joinB []] = if mayT l then proveT l k else []) ∧ True) (((0 : Int) ≤ (0 : Int) ∧ (0 : Int) < (↑(List.length (Prod.snd (wayT (256 : Nat) l k))) : Int)) ∧ ((0 : Int) ≤ (0 : Int) ∧ (0 : Int) < (↑(List.length (Prod.snd (wayT (256 : Nat) l k))) : Int)) ∧ List.length (joinB [cutL (Prod.fst (List.getD (Prod.snd (wayT (256 : Nat) l k)) (Int.toNat (0 : Int)) tZ)) none none, Prod.snd (List.getD (Prod.snd (wayT (256 : Nat) l k)) (Int.toNat (0 : Int)) tZ)]) + (100 : Nat) ≤ lim ∧ List.length (joinB [List.flatten (List.take t (Prod.fst (wayT (256 : Nat) l k))), joinB [cutL (Prod.fst (List.getD (Prod.snd (wayT (256 : Nat) l k)) (Int.toNat (0 : Int)) tZ)) none none, Prod.snd (List.getD (Prod.snd (wayT (256 : Nat) l k)) (Int.toNat (0 : Int)) tZ)]]) + (100 : Nat) ≤ lim ∧ (joinB [List.flatten (List.take t (Prod.fst (wayT (256 : Nat) l k))), joinB [cutL (Prod.fst (List.getD (Prod.snd (wayT (256 : Nat) l k)) (Int.toNat (0 : Int)) tZ)) none none, Prod.snd (List.getD (Prod.snd (wayT (256 : Nat) l k)) (Int.toNat (0 : Int)) tZ)]] = if mayT l then proveT l k else []) ∧ True)))) (by kernel_rfl) (by
    obtain ⟨ho, hl, hv2, hk, hkl, _⟩ := hp
    have hv : ∀ e ∈ l, e.2.length + 300 ≤ lim := fun e he => by have := hv2 e he; omega
    simp only [lL_self tG_tE]
    have hlim : lim = 68719476736 := rfl
    refine ⟨trivial, fun _ _ => trivial, ho, hl, brI (fun h => ?_) (fun h => ?_)⟩
    · have h : ¬ mayT l := by simpa using h
      rw [if_neg h]; exact ⟨rfl, trivial⟩
    · have h : mayT l := by simpa using h
      rw [if_pos h]
      have hs := may_srt h fun e he => ⟨(ho e he).1, (ho e he).2.1⟩
      have wl := way_len k 256 l
      have we := way_end k hs (Nat.le_refl _)
      have w32 : ∀ x ∈ (wayT 256 l k).1, x.length = 32 := fun x hx => by
        obtain ⟨t, rfl⟩ := way_side k 256 l x hx; exact sumB_len _ _
      have hw : proveT l k = joinB [(wayT 256 l k).1.flatten, joinB (endL (wayT 256 l k).2)] := rfl
      have hem := way_mem k 256 l
      rw [hw]
      generalize wayT 256 l k = ww at wl we w32 hem ⊢
      obtain ⟨s, e⟩ := ww
      dsimp only at wl we w32 hem ⊢
      have hfl := flat_len w32
      refine ⟨trivial, fun _ _ => trivial, trivial, ho, hl, h, hv, hk, hkl, ⟨0, trivial, fun _ _ => trivial, rfl, rfl, trivial, fun _ _ => trivial, rfl, Nat.zero_le _, trivial⟩, fun t ht => ?_⟩
      have ht32 : (s.take t).flatten.length = 32 * t := by
        rw [flat_len fun x hx => w32 x (List.mem_of_mem_take hx), List.length_take]; omega
      refine brI (fun hc => ?_) (fun hc => ?_)
      · have hc : t < s.length := by have := of_decide_eq_true hc; omega
        have hg : s.getD t [] = s[t] := by rw [List.getD_eq_getElem?_getD, List.getElem?_eq_getElem hc]; rfl
        rw [Int.toNat_natCast, hg, t32 (w32 _ (List.getElem_mem hc)), wi _ (by omega) (by omega)]
        have hgl := w32 _ (List.getElem_mem hc)
        refine ⟨⟨by omega, by show (t : Int) < (s.length : Int); omega⟩, ?_, t + 1, trivial, fun _ _ => trivial, trivial, rfl, trivial, fun _ _ => trivial, ?_, by omega, by omega, trivial⟩
        · show (s.take t).flatten.length + s[t].length ≤ lim
          omega
        · rw [List.take_succ_eq_append_getElem hc, List.flatten_append]; simp
      · have hc : t = s.length := by have := of_decide_eq_false hc; omega
        subst hc
        rw [List.take_length]
        match e, we, hem with
        | [], _, _ =>
          refine brI (fun _ => ?_) (fun h => by simp at h)
          have l1 : (joinB []).length = 8 := by rw [joinB_bulkT]; rfl
          refine ⟨by omega, ?_, rfl, trivial⟩
          rw [joinB_bulkT]
          simp only [List.flatten_cons, List.flatten_nil, List.length_append, List.length_cons, List.length_nil]
          omega
        | [x], _, hem =>
          refine brI (fun h => by simp at h) (fun _ => ?_)
          have hx := hem x (by simp)
          have hxo := (ho x hx).1
          have hxv := hv2 x hx
          have l1 : (joinB [x.1, x.2]).length = 8 + 8 * 2 + (x.1.length + x.2.length) := by
            rw [joinB_bulkT]; simp only [List.flatten_cons, List.flatten_nil, List.length_append, List.length_cons, List.length_nil]; omega
          have eg : ([x] : List TE).getD (Int.toNat 0) tZ = x := rfl
          rw [eg, cutA]
          refine ⟨⟨Int.le_refl 0, Int.zero_lt_one⟩, ⟨Int.le_refl 0, Int.zero_lt_one⟩, by omega, ?_, rfl, trivial⟩
          rw [joinB_bulkT]
          simp only [List.flatten_cons, List.flatten_nil, List.length_append, List.length_cons, List.length_nil]
          omega))
noncomputable def gtrieProve : Con := fun args H => match args, H with
  | [.a (.d (.sl 33 m c)), .agg [.ints .u8 32 k]], [] => (fun (l : List TE) (k : List Int) => conC args H [.a (.d (.sl 33 (l).length (lC tE tZ (l)))), .agg [.ints .u8 32 k]] [] ⟨[OkK l, l.length < 1099511627776, ∀ e ∈ l, e.2.length + 20000 ≤ lim, OkB k, k.length = 32], .s (.a (.rw 0)), [(0, .row (.ints .u8 (if mayT l then proveT l k else [])) 5)]⟩) (lL tG m c) (k)
  | _, _ => none
theorem vtrieProve : Valid Tryd.prog Gs 15 gtrieProve := by
  intro args H r h hp
  unfold gtrieProve at h
  split at h
  · rename_i m c k
    exact conC_ok h hp fun hp => oktrieProve (lL tG m c) (k) hp
  · cases h
noncomputable def ct_trieProve : List (Nat × Ct) := (15, ⟨[], false, gtrieProve, none⟩) :: ct_trietexts
theorem ctok_trieProve : CtsOk Tryd.prog Gs ct_trieProve := CtsOk.cons vtrieProve (by kernel_rfl) ctok_trietexts
end Go.Proofs.YtfobhaodflfedaaDoor
