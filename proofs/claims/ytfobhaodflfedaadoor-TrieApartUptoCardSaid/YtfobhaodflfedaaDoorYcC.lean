/- Tries: what a proof says. -/
import Derived.Test.YtfobhaodflfedaaDoorYcS
import Derived.Test.YtfobhaodflfedaaDoorDxRf
import Derived.RangeFuncBox
import Derived.RangeFuncLeaves
import Derived.Shelf.Abstract
import Derived.WalkKit
import Derived.OwnWalkIn
import Derived.TacticsInMore
import Derived.LoopNIn
import Derived.LoopIn
namespace Go.Proofs.YtfobhaodflfedaaDoor
open Go.Dx Go.RowKit
set_option linter.unusedVariables false
set_option linter.unusedSimpArgs false
set_option maxRecDepth 100000
attribute [local irreducible] wpS
attribute [local irreducible] sumB joinB
attribute [local go_sem] Oper.semAt_some
set_option maxRecDepth 100000 in
set_option maxHeartbeats 2000000 in
theorem chunk_walk (n L b1 b2 : Nat) (A : List Int) (hA : A.length ≤ 9000) (hA32 : A.length % 32 = 0) (I : Nat → World → Prop) (hn : 1 ≤ n)
    (hd : ∀ t W, I t W → I t W.drew)
    (h : ∀ t W, I t W → ∃ a cap, W.cell? ⟨b1, 0, none⟩ = some (.slice a A.length cap) ∧ A.length ≤ cap ∧ W.cell? ⟨b2, 0, none⟩ = some (.int .i64 32) ∧
      (t < A.length / 32 → ∃ b off, a = some ⟨b, off, none⟩ ∧ YieldAt Fence.wide (n - 1) Tryd.prog L #[.slice (some ⟨b, off + 32 * t, none⟩) 32 32] W fun e W' => e = .returned (.bool true) ∧ I (t + 1) W'))
    (W : World) (h0 : I 0 W) :
    CallsIn Fence.wide n Tryd.prog 69 #[.func (.yield L) #[] #[], .pointer (some ⟨b1, 0, none⟩), .pointer (some ⟨b2, 0, none⟩)] W fun e W' => (∃ v, e = .returned v) ∧ I (A.length / 32) W' := by
  have mixed : Tryd.prog.follows .mixedOrders = true := by kernel_rfl
  refine callsIn_of_wp Tryd.func69 rfl trivial ?_ rfl
  simp only [Tryd.ntmps69, List.size_toArray, List.length_cons, List.length_nil, Nat.reduceAdd, Nat.reduceSub, Array.replicate_succ, Array.replicate_zero, List.push_toArray, List.append_toArray, List.nil_append, List.cons_append]
  gi_wp2
  gi_loopw [4] (fun i wr => ∃ k : Nat, k ≤ A.length / 32 ∧ i = .int .i64 (32 * (k : Int)) ∧ I k wr)
    (fun i _ => A.length - (RowKit.intOf i).toNat)
  case atStart => exact ⟨0, Nat.zero_le _, rfl, h0⟩
  case round =>
    obtain ⟨k, hk, rfl, hI⟩ := hrel
    obtain ⟨a, cap, c1', hcap, c2', hy⟩ := h k wr.drew (hd k wr hI)
    have c1 : wr.cell? ⟨b1, 0, none⟩ = some (.slice a A.length cap) := c1'
    have c2 : wr.cell? ⟨b2, 0, none⟩ = some (.int .i64 32) := c2'
    by_cases hlt : k < A.length / 32
    · obtain ⟨b, off, rfl, fn, tmps, assign, body, hyy, hR⟩ := hy hlt
      gi_wp2
      gi_region
      · gi_wp2
        refine hR.mono ?_
        rintro e W3 ⟨rfl, hJ⟩
        obtain ⟨a3, cap3, d1, _, d2, _⟩ := h (k + 1) W3 hJ
        gi_wp2
        go_roundw
        case rel => exact ⟨k + 1, by omega, by simp; omega, hJ⟩
        case measure => simp [RowKit.intOf]; omega

    · obtain rfl : k = A.length / 32 := by omega
      gi_wp2
      go_end0
      exact ⟨⟨_, rfl⟩, hI⟩
noncomputable def anslicesChunkbytebyte (A : List Int) : Nat → List Nat → List Ann := fun _ _ => []
theorem okslicesChunkbytebyte (A : List Int) : CallsOk Tryd.prog Gs 57 [.a (.d (.si .u8 A)), .a (.d (.v (.int .i64 32)))] [] (.s (.a (.fn (.func 69) [(0, 0), (1, 0)]))) [(0, .cells [.one (.d (.si .u8 A))] 31), (1, .cells [.one (.d (.v (.int .i64 32)))] 3)] :=
  ok_of (ann := anslicesChunkbytebyte A) ctok_18 mixed Tryd.func57 (by kernel_rfl) (of_nf (p := A = A ∧ (32 : Int) = (32 : Int) ∧ True) (by kernel_rfl) (by
    exact ⟨rfl, rfl, trivial⟩))
noncomputable def gslicesChunkbytebyte : Con := fun args H => match args, H with
  | [.a (.d (.si .u8 A)), .a (.d (.v (.int .i64 32)))], [] => some ⟨[], .s (.a (.fn (.func 69) [(0, 0), (1, 0)])), [(0, .cells [.one (.d (.si .u8 A))] 31), (1, .cells [.one (.d (.v (.int .i64 32)))] 3)]⟩
  | _, _ => none
theorem vslicesChunkbytebyte : Valid Tryd.prog Gs 57 gslicesChunkbytebyte := by
  intro args H r h hp
  unfold gslicesChunkbytebyte at h
  split at h
  · simp only [Option.some.injEq] at h; subst h; exact okslicesChunkbytebyte _
  · cases h
noncomputable def ct_slicesChunkbytebyte : List (Nat × Ct) := (57, ⟨[], true, gslicesChunkbytebyte, none⟩) :: ct_18
theorem ctok_slicesChunkbytebyte : CtsOk Tryd.prog Gs ct_slicesChunkbytebyte := CtsOk.cons vslicesChunkbytebyte (by kernel_rfl) ctok_18
/-- What is read: the way's side, its end, whether it is a proof. -/
def rdS (x : List Int) : List (List Int) := ((readT x).map (·.1)).getD []
def rdE (x : List Int) : List TE := ((readT x).map (·.2)).getD []
def rdO (x : List Int) : Bool := (readT x).isSome
noncomputable def XR : Cx := mkX Tryd.prog Gs ct_slicesChunkbytebyte Tryd.f33 (fun _ _ => [])
/-- The parts of a body. -/
def sq1 : Code → Code
  | .seq x _ => x
  | c => c
def sq2 : Code → Code
  | .seq _ y => y
  | c => c
def rfA : Code → Code
  | .rangeFunc _ _ x _ => x
  | .block _ c => rfA c
  | c => c
def rfB : Code → Code
  | .rangeFunc _ _ _ y => y
  | .block _ c => rfB c
  | c => c
noncomputable def bd0 : Code := bodyOf Tryd.f33
noncomputable def rR0 : Code := sq1 bd0
noncomputable def rR1 : Code := sq1 (sq2 bd0)
noncomputable def rR2 : Code := sq1 (sq2 (sq2 bd0))
noncomputable def rR4 : Code := sq1 (sq1 (sq2 (sq2 (sq2 bd0))))
noncomputable def rRf : Code := sq2 (sq1 (sq2 (sq2 (sq2 bd0))))
noncomputable def rRr : Code := sq2 (sq2 (sq2 (sq2 bd0)))
noncomputable def rRa : Code := rfA rRf
noncomputable def rRb : Code := rfB rRf
noncomputable def spl (x : List Int) : List (List Int) := (splitB x).getD []
noncomputable def cA (x : List Int) : List Int := (spl x).getD 0 []
noncomputable def lX (x : List Int) : Env := [(2, .s (.a (.lp 100002 0))), (5, .s (.a (.d (.sb (spl x))))), (38, .s (.a (.fn (.func 69) [(100010, 0), (100011, 0)])))]
noncomputable def HX (x : List Int) (t : Nat) : Heap := [(100002, .cells [.one (.rw 77)] 59), (77, .row (.st 32 t (lC dE [] ((chunks (cA x)).take t))) 24), (100010, .cells [.one (.d (.si .u8 (cA x)))] 31), (100011, .cells [.one (.d (.v (.int .i64 32)))] 3)]
noncomputable def lY (x : List Int) : Env := [(2, .s (.a (.lp 202 0))), (5, .s (.a (.d (.sb (spl x))))), (38, .s (.a (.fn (.func 69) [(210, 0), (211, 0)])))]
noncomputable def HY (x : List Int) : Heap := [(202, .cells [.one (.rw 77)] 59), (77, .row (.st 32 0 (lC dE [] ([] : List (List Int)))) 24), (210, .cells [.one (.d (.si .u8 (cA x)))] 31), (211, .cells [.one (.d (.v (.int .i64 32)))] 3)]
noncomputable def eR (x : List Int) : EV := .t [.a (.d (.sl 32 (rdS x).length (lC dE [] (rdS x)))), .a (.d (.sl 33 (rdE x).length (lC tE tZ (rdE x)))), .a (.d (.v (.bool (rdO x))))]
noncomputable def eQ (x : List Int) : Env → Heap → Prop := endQ XR Tryd.f33.results.toList (eR x) [] .nrm
noncomputable def only (K : Env → Heap → Prop) : Post := fun e => match e with
  | .nrm => K
  | .ext _ => fun _ _ => False
  | .ret => fun _ _ => False
/-- What a proof is ahead of its end. -/
def okH (x : List Int) : Prop := (splitB x).isSome = true ∧ (spl x).length = 2 ∧ (cA x).length % 32 = 0 ∧ (cA x).length ≤ 8192
theorem rd_no {x : List Int} (h : readT x = none) : (rdS x).length = 0 ∧ (rdE x).length = 0 ∧ false = rdO x ∧ True := by
  unfold rdS rdE rdO; rw [h]; exact ⟨rfl, rfl, rfl, trivial⟩
theorem rd_yes {x : List Int} {s : List (List Int)} {e : List TE} (h : readT x = some (s, e)) : rdS x = s ∧ rdE x = e ∧ rdO x = true := by
  unfold rdS rdE rdO; rw [h]; exact ⟨rfl, rfl, rfl⟩
theorem readP2 (a c : List Int) : readP [a, c] = if a.length % 32 = 0 ∧ a.length ≤ 8192 then ((splitB c).bind endP).map fun e => (chunks a, e) else none := rfl
theorem endP2 (p q : List Int) : endP [p, q] = if p.length = 32 then some [(p, q)] else none := rfl
theorem readP_len {Ls : List (List Int)} (h : Ls.length ≠ 2) : readP Ls = none := by
  match Ls, h with
  | [], _ => rfl
  | [_], _ => rfl
  | [_, _], h => exact absurd rfl h
  | _ :: _ :: _ :: _, _ => rfl
theorem len2 {α : Type} {L : List α} (h : L.length = 2) : ∃ a c, L = [a, c] := by
  match L, h with
  | [a, c], _ => exact ⟨a, c, rfl⟩
theorem chunks_take {A : List Int} {t : Nat} (h : t < A.length / 32) : (chunks A).take (t + 1) = (chunks A).take t ++ [(A.drop (32 * t)).take 32] := by
  have hl : t < (chunks A).length := by rw [chunks_len]; exact h
  rw [List.take_succ_eq_append_getElem hl]
  congr 1
  simp [chunks]
theorem chunks_all (A : List Int) : (chunks A).take (A.length / 32) = chunks A := List.take_of_length_le (by rw [chunks_len]; exact Nat.le_refl _)
noncomputable def orRet (x : List Int) (K : Env → Heap → Prop) : Post := fun e => match e with
  | .nrm => K
  | .ext _ => fun _ _ => False
  | .ret => eQ x
theorem read_p1 (x : List Int) (hp : allP [OkB x, x.length + 300 ≤ lim]) : wpS XR rR0 0 [] (only fun l H => wpS XR rR1 0 [] (only fun l H => wpS XR rR2 0 [] (orRet x fun l H => wpS XR rR4 0 [] (only fun l H => matchP XR.N l H (lY x) (HY x) (okH x)) l H) l H) l H) (argE [.a (.d (.si .u8 x))] 0) [] := of_nf (p := OkB x ∧ List.length x ≤ lim ∧ brP (!Option.isSome (splitB x)) (List.length (rdS x) = (0 : Nat) ∧ List.length (rdE x) = (0 : Nat) ∧ false = rdO x ∧ True) (brP ((↑(Cont.len (Cont.bts (Option.getD (splitB x) []))) : Int) != (2 : Int)) (List.length (rdS x) = (0 : Nat) ∧ List.length (rdE x) = (0 : Nat) ∧ false = rdO x ∧ True) (((0 : Int) ≤ (0 : Int) ∧ (0 : Int) < (↑(Cont.len (Cont.bts (Option.getD (splitB x) []))) : Int)) ∧ (32 : Int) ≠ (0 : Int) ∧ brP (Int.tmod (↑(List.length (List.getD (Option.getD (splitB x) []) (Int.toNat (0 : Int)) [])) : Int) (32 : Int) != (0 : Int)) (List.length (rdS x) = (0 : Nat) ∧ List.length (rdE x) = (0 : Nat) ∧ false = rdO x ∧ True) (((0 : Int) ≤ (0 : Int) ∧ (0 : Int) < (↑(Cont.len (Cont.bts (Option.getD (splitB x) []))) : Int)) ∧ brP (decide ((↑(List.length (List.getD (Option.getD (splitB x) []) (Int.toNat (0 : Int)) [])) : Int) > (8192 : Int))) (List.length (rdS x) = (0 : Nat) ∧ List.length (rdE x) = (0 : Nat) ∧ false = rdO x ∧ True) (((0 : Int) ≤ (0 : Int) ∧ (0 : Int) < (↑(Cont.len (Cont.bts (Option.getD (splitB x) []))) : Int)) ∧ Option.getD (splitB x) [] = spl x ∧ (0 : Nat) = (0 : Nat) ∧ (∀ (i : Nat), i < (0 : Nat) → lC dE [] [] i = lC dE [] [] i) ∧ List.getD (Option.getD (splitB x) []) (Int.toNat (0 : Int)) [] = cA x ∧ (32 : Int) = (32 : Int) ∧ Option.isSome (splitB x) = true ∧ List.length (spl x) = (2 : Nat) ∧ List.length (cA x) % (32 : Nat) = (0 : Nat) ∧ Nat.le (List.length (cA x)) (8192 : Nat)))))) (by kernel_rfl) (by
    obtain ⟨hb, hl, _⟩ := hp
    refine ⟨hb, by omega, brI (fun h => ?_) (fun h => ?_)⟩
    · have h : splitB x = none := by simpa using h
      exact rd_no (by unfold readT; rw [h]; rfl)
    · obtain ⟨Ls, hs⟩ := Option.isSome_iff_exists.1 (show (splitB x).isSome = true by simpa using h)
      rw [hs]
      have e0 : Option.getD (some Ls) [] = Ls := rfl
      rw [e0]
      have e1 : spl x = Ls := by unfold spl; rw [hs]; rfl
      refine brI (fun h => ?_) (fun h => ?_)
      · have h : Ls.length ≠ 2 := fun e => by
          have : (((Cont.bts Ls).len : Int) != 2) = true := h
          have e2 : (Cont.bts Ls).len = 2 := e
          rw [e2] at this; simp at this
        exact rd_no (by unfold readT; rw [hs]; exact readP_len h)
      · have h : Ls.length = 2 := by
          have : (((Ls.length : Nat) : Int) != 2) = false := h
          simp at this; omega
        obtain ⟨a, c, rfl⟩ := len2 h
        have e2 : cA x = a := by unfold cA; rw [e1]; rfl
        have e3 : List.getD [a, c] (Int.toNat 0) [] = a := rfl
        have e4 : (Cont.bts [a, c]).len = 2 := rfl
        have hr : ¬ (a.length % 32 = 0 ∧ a.length ≤ 8192) → readT x = none := fun hn => by
          unfold readT; rw [hs]; show readP [a, c] = none; rw [readP2, if_neg hn]
        have e5 : Int.tmod ((a.length : Nat) : Int) 32 = ((a.length % 32 : Nat) : Int) := tmod_nat _ 32
        rw [e3, e4, e5]
        refine ⟨by decide, by decide, brI (fun h => ?_) (fun h => ⟨by decide, brI (fun h' => ?_) (fun h' => ?_)⟩)⟩
        · exact rd_no (hr fun hh => by rw [hh.1] at h; simp at h)
        · exact rd_no (hr fun hh => by have := of_decide_eq_true h'; omega)
        · refine ⟨by decide, e1.symm, rfl, fun i hi => rfl, e2.symm, rfl, ?_⟩
          refine ⟨by first | rfl | (rw [hs]; rfl), by rw [e1]; rfl, ?_, ?_⟩
          · rw [e2]; have h9 := bne_eq_false_iff_eq.1 h; exact Int.ofNat_eq_zero.1 h9
          · rw [e2]; have := of_decide_eq_false h'; show a.length ≤ 8192; omega)
theorem read_p3 (x : List Int) (hp : allP [OkB x, x.length + 300 ≤ lim, okH x]) : wpS XR rRr 0 [] (orRet x (eQ x)) (lX x) (HX x ((cA x).length / 32)) := of_nf (p := ((0 : Int) ≤ (1 : Int) ∧ (1 : Int) < (↑(List.length (spl x)) : Int)) ∧ OkB (List.getD (spl x) (Int.toNat (1 : Int)) []) ∧ List.length (List.getD (spl x) (Int.toNat (1 : Int)) []) ≤ lim ∧ brP (!Option.isSome (splitB (List.getD (spl x) (Int.toNat (1 : Int)) []))) (List.length (rdS x) = (0 : Nat) ∧ List.length (rdE x) = (0 : Nat) ∧ false = rdO x ∧ True) (brP ((↑(Cont.len (Cont.bts (Option.getD (splitB (List.getD (spl x) (Int.toNat (1 : Int)) [])) []))) : Int) != (0 : Int)) (brP ((↑(Cont.len (Cont.bts (Option.getD (splitB (List.getD (spl x) (Int.toNat (1 : Int)) [])) []))) : Int) != (2 : Int)) (List.length (rdS x) = (0 : Nat) ∧ List.length (rdE x) = (0 : Nat) ∧ false = rdO x ∧ True) (brP ((↑(Cont.len (Cont.bts (Option.getD (splitB (List.getD (spl x) (Int.toNat (1 : Int)) [])) []))) : Int) == (0 : Int)) (List.length (cA x) / (32 : Nat) = List.length (rdS x) ∧ (∀ (i : Nat), i < List.length (rdS x) → lC dE [] (List.take (List.length (cA x) / (32 : Nat)) (chunks (cA x))) i = lC dE [] (rdS x) i) ∧ List.length (rdE x) = (0 : Nat) ∧ true = rdO x ∧ True) (((0 : Int) ≤ (0 : Int) ∧ (0 : Int) < (↑(Cont.len (Cont.bts (Option.getD (splitB (List.getD (spl x) (Int.toNat (1 : Int)) [])) []))) : Int)) ∧ brP ((↑(List.length (List.getD (Option.getD (splitB (List.getD (spl x) (Int.toNat (1 : Int)) [])) []) (Int.toNat (0 : Int)) [])) : Int) != (32 : Int)) (List.length (rdS x) = (0 : Nat) ∧ List.length (rdE x) = (0 : Nat) ∧ false = rdO x ∧ True) (((0 : Int) ≤ (0 : Int) ∧ (0 : Int) < (↑(Cont.len (Cont.bts (Option.getD (splitB (List.getD (spl x) (Int.toNat (1 : Int)) [])) []))) : Int)) ∧ (32 : Nat) ≤ List.length (List.getD (Option.getD (splitB (List.getD (spl x) (Int.toNat (1 : Int)) [])) []) (Int.toNat (0 : Int)) []) ∧ (0 : Nat) < (32 : Nat) ∧ ((0 : Int) ≤ (1 : Int) ∧ (1 : Int) < (↑(Cont.len (Cont.bts (Option.getD (splitB (List.getD (spl x) (Int.toNat (1 : Int)) [])) []))) : Int)) ∧ List.length (cA x) / (32 : Nat) = List.length (rdS x) ∧ (∀ (i : Nat), i < List.length (rdS x) → lC dE [] (List.take (List.length (cA x) / (32 : Nat)) (chunks (cA x))) i = lC dE [] (rdS x) i) ∧ (1 : Nat) = List.length (rdE x) ∧ (∀ (i : Nat), i < List.length (rdE x) → List.getD [[DC.ints IntKind.u8 (32 : Nat) (List.take (32 : Nat) (List.getD (Option.getD (splitB (List.getD (spl x) (Int.toNat (1 : Int)) [])) []) (Int.toNat (0 : Int)) [])), DC.one (D.si IntKind.u8 (List.getD (Option.getD (splitB (List.getD (spl x) (Int.toNat (1 : Int)) [])) []) (Int.toNat (1 : Int)) []))]] i [] = lC tE tZ (rdE x) i) ∧ true = rdO x ∧ True)))) (brP ((↑(Cont.len (Cont.bts (Option.getD (splitB (List.getD (spl x) (Int.toNat (1 : Int)) [])) []))) : Int) == (0 : Int)) (List.length (cA x) / (32 : Nat) = List.length (rdS x) ∧ (∀ (i : Nat), i < List.length (rdS x) → lC dE [] (List.take (List.length (cA x) / (32 : Nat)) (chunks (cA x))) i = lC dE [] (rdS x) i) ∧ List.length (rdE x) = (0 : Nat) ∧ true = rdO x ∧ True) (((0 : Int) ≤ (0 : Int) ∧ (0 : Int) < (↑(Cont.len (Cont.bts (Option.getD (splitB (List.getD (spl x) (Int.toNat (1 : Int)) [])) []))) : Int)) ∧ brP ((↑(List.length (List.getD (Option.getD (splitB (List.getD (spl x) (Int.toNat (1 : Int)) [])) []) (Int.toNat (0 : Int)) [])) : Int) != (32 : Int)) (List.length (rdS x) = (0 : Nat) ∧ List.length (rdE x) = (0 : Nat) ∧ false = rdO x ∧ True) (((0 : Int) ≤ (0 : Int) ∧ (0 : Int) < (↑(Cont.len (Cont.bts (Option.getD (splitB (List.getD (spl x) (Int.toNat (1 : Int)) [])) []))) : Int)) ∧ (32 : Nat) ≤ List.length (List.getD (Option.getD (splitB (List.getD (spl x) (Int.toNat (1 : Int)) [])) []) (Int.toNat (0 : Int)) []) ∧ (0 : Nat) < (32 : Nat) ∧ ((0 : Int) ≤ (1 : Int) ∧ (1 : Int) < (↑(Cont.len (Cont.bts (Option.getD (splitB (List.getD (spl x) (Int.toNat (1 : Int)) [])) []))) : Int)) ∧ List.length (cA x) / (32 : Nat) = List.length (rdS x) ∧ (∀ (i : Nat), i < List.length (rdS x) → lC dE [] (List.take (List.length (cA x) / (32 : Nat)) (chunks (cA x))) i = lC dE [] (rdS x) i) ∧ (1 : Nat) = List.length (rdE x) ∧ (∀ (i : Nat), i < List.length (rdE x) → List.getD [[DC.ints IntKind.u8 (32 : Nat) (List.take (32 : Nat) (List.getD (Option.getD (splitB (List.getD (spl x) (Int.toNat (1 : Int)) [])) []) (Int.toNat (0 : Int)) [])), DC.one (D.si IntKind.u8 (List.getD (Option.getD (splitB (List.getD (spl x) (Int.toNat (1 : Int)) [])) []) (Int.toNat (1 : Int)) []))]] i [] = lC tE tZ (rdE x) i) ∧ true = rdO x ∧ True))))) (by kernel_rfl) (by
    obtain ⟨hb, hl, ⟨h1, h2, h3, h4⟩, _⟩ := hp
    obtain ⟨Ls, hs⟩ := Option.isSome_iff_exists.1 h1
    have e1 : spl x = Ls := by unfold spl; rw [hs]; rfl
    rw [e1] at h2
    obtain ⟨a, c, rfl⟩ := len2 h2
    have e2 : cA x = a := by unfold cA; rw [e1]; rfl
    rw [e2] at h3 h4
    have e3 : List.getD [a, c] (Int.toNat 1) [] = c := rfl
    rw [e1, e2, e3, chunks_all]
    obtain ⟨oc, lc⟩ := split_len hb hs c (by simp)
    have hr : readT x = ((splitB c).bind endP).map fun e => (chunks a, e) := by
      unfold readT; rw [hs]; show readP [a, c] = _; rw [readP2, if_pos ⟨h3, h4⟩]
    refine ⟨⟨by decide, Int.lt_add_one_of_le (Int.le_refl 1)⟩, oc, by omega, brI (fun h => ?_) (fun h => ?_)⟩
    · have h : splitB c = none := by simpa using h
      exact rd_no (by rw [hr, h]; rfl)
    · obtain ⟨Es, he⟩ := Option.isSome_iff_exists.1 (show (splitB c).isSome = true by simpa using h)
      rw [he] at hr ⊢
      have e0 : Option.getD (some Es) [] = Es := rfl
      have e6 : (Cont.bts Es).len = Es.length := rfl
      rw [e0, e6]
      have hw := split_len oc he
      have key : ∀ {p q : Prop}, (Es.length = 0 → p) → (¬ Es.length = 0 → q) → brP (((Es.length : Nat) : Int) == 0) p q := fun h1 h2 => brI (fun h => h1 (by have := beq_iff_eq.1 h; omega)) (fun h => h2 (by have := beq_eq_false_iff_ne.1 h; omega))
      have k1 : Es.length = 0 → a.length / 32 = (rdS x).length ∧ (∀ (i : Nat), i < (rdS x).length → lC dE [] (chunks a) i = lC dE [] (rdS x) i) ∧ (rdE x).length = 0 ∧ true = rdO x ∧ True := fun hz => by
        have hz := List.length_eq_zero_iff.1 hz
        subst hz
        obtain ⟨r1, r2, r3⟩ := rd_yes (s := chunks a) (e := []) (by rw [hr]; rfl)
        rw [r1, r2, r3, chunks_len]
        exact ⟨rfl, fun _ _ => rfl, rfl, rfl, trivial⟩
      have k2 : Es.length = 2 → ((0 : Int) ≤ 0 ∧ (0 : Int) < ((Es.length : Nat) : Int)) ∧ brP (((Es.getD (Int.toNat 0) []).length : Int) != 32) ((rdS x).length = 0 ∧ (rdE x).length = 0 ∧ false = rdO x ∧ True) (((0 : Int) ≤ 0 ∧ (0 : Int) < ((Es.length : Nat) : Int)) ∧ 32 ≤ (Es.getD (Int.toNat 0) []).length ∧ (0 : Nat) < 32 ∧ ((0 : Int) ≤ 1 ∧ (1 : Int) < ((Es.length : Nat) : Int)) ∧ a.length / 32 = (rdS x).length ∧ (∀ (i : Nat), i < (rdS x).length → lC dE [] (chunks a) i = lC dE [] (rdS x) i) ∧ 1 = (rdE x).length ∧ (∀ (i : Nat), i < (rdE x).length → List.getD [[DC.ints IntKind.u8 32 (List.take 32 (Es.getD (Int.toNat 0) [])), DC.one (D.si IntKind.u8 (Es.getD (Int.toNat 1) []))]] i [] = lC tE tZ (rdE x) i) ∧ true = rdO x ∧ True) := fun hz => by
        obtain ⟨p, q, rfl⟩ := len2 hz
        have g1 : List.getD [p, q] (Int.toNat 0) [] = p := rfl
        have g2 : List.getD [p, q] (Int.toNat 1) [] = q := rfl
        rw [g1, g2]
        refine ⟨⟨Int.le_refl 0, by simp⟩, brI (fun h => ?_) (fun h => ?_)⟩
        · have h : p.length ≠ 32 := fun e => by rw [e] at h; simp at h
          exact rd_no (by rw [hr]; show Option.map _ (endP [p, q]) = none; rw [endP2, if_neg h]; rfl)
        · have h : p.length = 32 := by simp at h; omega
          obtain ⟨r1, r2, r3⟩ := rd_yes (s := chunks a) (e := [(p, q)]) (by rw [hr]; show Option.map _ (endP [p, q]) = _; rw [endP2, if_pos h]; rfl)
          rw [r1, r2, r3, chunks_len]
          refine ⟨⟨Int.le_refl 0, by simp⟩, by omega, by decide, ⟨by decide, by simp⟩, rfl, fun _ _ => rfl, rfl, fun i hi => ?_, rfl, trivial⟩
          have hi : i = 0 := by simp at hi; exact hi
          subst hi
          show [DC.ints IntKind.u8 32 (List.take 32 p), DC.one (D.si IntKind.u8 q)] = tE (p, q)
          rw [List.take_of_length_le (by omega)]; rfl
      have k3 : Es.length ≠ 0 → Es.length ≠ 2 → (rdS x).length = 0 ∧ (rdE x).length = 0 ∧ false = rdO x ∧ True := fun h0 h2 => by
        refine rd_no ?_
        rw [hr]
        match Es, h0, h2 with
        | [], h0, _ => exact absurd rfl h0
        | [_], _, _ => rfl
        | [_, _], _, h2 => exact absurd rfl h2
        | _ :: _ :: _ :: _, _, _ => rfl
      refine brI (fun h => brI (fun h' => ?_) (fun h' => ?_)) (fun h => ?_)
      · exact k3 (fun e => by rw [e] at h; simp at h) (fun e => by rw [e] at h'; simp at h')
      · have h2 : Es.length = 2 := by simp at h'; omega
        exact key (fun hz => k1 hz) (fun hz => k2 h2)
      · have h0 : Es.length = 0 := by simp at h; exact congrArg List.length h
        exact key (fun hz => k1 hz) (fun hz => absurd h0 hz))
theorem read_pa (x : List Int) (t : Nat) : wpS XR rRa 0 [] (only fun l H => H = HX x t ∧ l = putE (putE (lX x) 39 (.s (.a (.d (.si .u8 (((cA x).drop (32 * t)).take 32)))))) 6 (.s (.a (.d (.si .u8 (((cA x).drop (32 * t)).take 32)))))) (putE (lX x) 39 (.s (.a (.d (.si .u8 (((cA x).drop (32 * t)).take 32)))))) (HX x t) := of_nf (p := HX x t = HX x t ∧ putE (putE (lX x) 39 (.s (.a (.d (.si .u8 (((cA x).drop (32 * t)).take 32)))))) 6 (.s (.a (.d (.si .u8 (((cA x).drop (32 * t)).take 32))))) = putE (putE (lX x) 39 (.s (.a (.d (.si .u8 (((cA x).drop (32 * t)).take 32)))))) 6 (.s (.a (.d (.si .u8 (((cA x).drop (32 * t)).take 32)))))) (by kernel_rfl) (by
    exact ⟨rfl, rfl⟩)
theorem read_pb (x : List Int) (t : Nat) (hp : allP [t < (cA x).length / 32, (cA x).length ≤ 8192]) : wpS XR rRb 0 [] (only fun l H => matchP XR.N l H (lX x) (HX x (t + 1)) True) (putE (putE (lX x) 39 (.s (.a (.d (.si .u8 (((cA x).drop (32 * t)).take 32)))))) 6 (.s (.a (.d (.si .u8 (((cA x).drop (32 * t)).take 32)))))) (HX x t) := of_nf (p := (32 : Nat) ≤ List.length (List.take (32 : Nat) (List.drop ((32 : Nat) * t) (cA x))) ∧ (0 : Nat) < (32 : Nat) ∧ Cont.len (Cont.st (32 : Nat) t (lC dE [] (List.take t (chunks (cA x))))) + Cont.len (Cont.st (32 : Nat) (1 : Nat) fun (i : Nat) => List.getD [[DC.ints IntKind.u8 (32 : Nat) (List.take (32 : Nat) (List.take (32 : Nat) (List.drop ((32 : Nat) * t) (cA x))))]] i []) ≤ lim ∧ spl x = spl x ∧ t + (1 : Nat) = t + (1 : Nat) ∧ (∀ (i : Nat), i < t + (1 : Nat) → catF t (lC dE [] (List.take t (chunks (cA x)))) (fun (i : Nat) => List.getD [[DC.ints IntKind.u8 (32 : Nat) (List.take (32 : Nat) (List.take (32 : Nat) (List.drop ((32 : Nat) * t) (cA x))))]] i []) i = lC dE [] (List.take (t + (1 : Nat)) (chunks (cA x))) i) ∧ cA x = cA x ∧ (32 : Int) = (32 : Int) ∧ True) (by kernel_rfl) (by
    obtain ⟨ht, hl, _⟩ := hp
    have hlim : lim = 68719476736 := rfl
    have hc : (((cA x).drop (32 * t)).take 32).length = 32 := by rw [List.length_take, List.length_drop]; omega
    refine ⟨by omega, by decide, (show t + 1 ≤ lim by omega), rfl, rfl, fun i hi => ?_, rfl, rfl, trivial⟩
    rw [chunks_take ht, List.take_of_length_le (by omega : (((cA x).drop (32 * t)).take 32).length ≤ 32)]
    have hlen : ((chunks (cA x)).take t).length = t := by rw [List.length_take, chunks_len]; omega
    have := dSn ((chunks (cA x)).take t) (((cA x).drop (32 * t)).take 32) i (by rw [List.length_append, hlen]; exact hi)
    rw [hlen] at this; exact this)
end Go.Proofs.YtfobhaodflfedaaDoor
