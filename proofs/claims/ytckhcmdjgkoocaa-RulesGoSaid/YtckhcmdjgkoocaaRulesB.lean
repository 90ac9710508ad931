/- A run of four validators: its blocks. -/
import Derived.Test.YtckhcmdjgkoocaaRulesA
import Derived.Test.YtckhcmdjgkoocaaSxGrow
namespace Go.Proofs.Ytckhcmdjgkoocaa
open Go.RowKit Go.Sx
set_option linter.unusedVariables false
set_option linter.unusedSimpArgs false

def idD (i : Nat) : List Int := ((((List.replicate 32 0).set 0 (IntKind.wrap .u8 (Int.fdiv ((i : Nat) : Int) (2 ^ (8 : Nat))))).set 1 (IntKind.wrap .u8 ((i : Nat) : Int))).set 2 1)
theorem idD_len (i : Nat) : (idD i).length = 32 := by simp [idD]
structure Bk where
  up : Nat
  view : Int
  votes : Nat → Bool
def gB (b : Bk) : List Value := [.int .i64 b.up, .int .i64 b.view, .bool (b.votes 0), .bool (b.votes 1), .bool (b.votes 2), .bool (b.votes 3)]
theorem gB_len (b : Bk) : (gB b).length = 6 := rfl
def bk (L : List Bk) (i : Nat) : Bk := L.getD i ⟨0, 0, fun _ => false⟩
theorem bk_at {L : List Bk} {i : Nat} (h : i < L.length) : L[i]? = some (bk L i) := by simp [bk, h]
theorem up_at {L : List Bk} {rest : List Value} {i : Nat} (h : i < L.length) (ρ : Nat → Nat) : (flat ρ [.vals (rowV gB L ++ rest)])[0 + i * 6]? = some ((AV.v (.int .i64 ((bk L i).up : Nat))).conc ρ) := by
  rw [flat_vals, row_get gB_len (bk_at h) (j := 0) (by omega) (by omega)]; rfl
theorem view_at {L : List Bk} {rest : List Value} {i : Nat} (h : i < L.length) (ρ : Nat → Nat) : (flat ρ [.vals (rowV gB L ++ rest)])[0 + i * 6 + 1]? = some ((AV.v (.int .i64 (bk L i).view)).conc ρ) := by
  rw [flat_vals, row_get gB_len (bk_at h) (j := 1) (by omega) (by omega)]; rfl
theorem votes_at {L : List Bk} {rest : List Value} {i k : Nat} (h : i < L.length) (hk : k < 4) (ρ : Nat → Nat) : (flat ρ [.vals (rowV gB L ++ rest)])[0 + i * 6 + 2 + k * 1]? = some ((AV.v (.bool ((bk L i).votes k))).conc ρ) := by
  rw [flat_vals, row_get gB_len (bk_at h) (j := 2 + k) (by omega) (by omega)]
  rcases k with _ | _ | _ | _ | k
  · rfl
  · rfl
  · rfl
  · rfl
  · omega
/-- The blocks hang together: each one's parent came ahead of it. -/
def Wf (L : List Bk) : Prop := 0 < L.length ∧ (bk L 0).up = 0 ∧ ∀ i, i < L.length → 0 < i → (bk L i).up < i
/-- A lock: the name of a block. -/
def Lk (D : List Int) : Prop := ∃ j, j < 500 ∧ D = idD j
structure Run where
  n : Nat
  L : List Bk
  s0 : Safe
  s1 : Safe
  s2 : Safe
structure Run.ok (r : Run) (cap : Nat) (rest : List Value) : Prop where
  wf : Wf r.L
  ln0 : r.L.length = r.n
  lenc : r.n ≤ cap
  capm : cap ≤ maxLen
  restl : rest.length = (cap - r.n) * 6
  l0 : Lk r.s0.d
  l1 : Lk r.s1.d
  l2 : Lk r.s2.d
  small : r.n ≤ 490
theorem Lk.len {D : List Int} (h : Lk D) : D.length = 32 := by obtain ⟨j, _, rfl⟩ := h; exact idD_len j
theorem Run.ok.ln {r : Run} {cap : Nat} {rest : List Value} (h : r.ok cap rest) {i : Nat} (hi : i < r.n) : i < r.L.length := by rw [h.ln0]; exact hi
theorem Run.ok.up_lt' {r : Run} {cap : Nat} {rest : List Value} (h : r.ok cap rest) {i : Nat} (h0 : 0 < i) (hi : i < r.n) : (bk r.L i).up < i := h.wf.2.2 i (h.ln hi) h0
theorem Run.ok.up_lt {r : Run} {cap : Nat} {rest : List Value} (h : r.ok cap rest) {i : Nat} (h0 : 0 < i) (hi : i < r.n) : (bk r.L i).up < r.n := Nat.lt_trans (h.up_lt' h0 hi) hi
theorem Run.ok.up_in {r : Run} {cap : Nat} {rest : List Value} (h : r.ok cap rest) {i : Nat} (hi : i < r.n) : (bk r.L i).up < r.n := by
  rcases Nat.eq_zero_or_pos i with rfl | h0
  · rw [h.wf.2.1]; exact hi
  · exact h.up_lt h0 hi
def atD (D : List Int) : Int := bOr .i64 (IntKind.wrap .i64 ((IntKind.wrap .i64 (D.getD 0 0)) * 2 ^ (8 : Nat))) (IntKind.wrap .i64 (D.getD 1 0))
def lk (D : List Int) : Nat := (atD D).toNat
theorem at_all : (List.range 500).all (fun i => decide (atD (idD i) = (i : Int))) = true := by decide +kernel
theorem at_id {j : Nat} (h : j < 500) : atD (idD j) = (j : Int) := of_decide_eq_true (List.all_eq_true.1 at_all j (List.mem_range.2 h))
theorem lk_id {j : Nat} (h : j < 500) : lk (idD j) = j := by unfold lk; rw [at_id h]; rfl
theorem lk_at {D : List Int} (h : Lk D) : atD D = ((lk D : Nat) : Int) := by obtain ⟨j, hj, rfl⟩ := h; rw [lk_id hj, at_id hj]
theorem lk_see {s : Safe} (h : Lk s.d) {v : Int} {g : Nat} (hg : g < 500) : Lk (see s v (idD g)).d := by
  unfold see; split
  · exact ⟨g, hg, rfl⟩
  · exact h
theorem lk_vote {s : Safe} (h : Lk s.d) {v j : Int} {x : Bool} : Lk (vote s v j x).1.d := by
  unfold vote; split <;> exact h
theorem lk_giveUp {s : Safe} (h : Lk s.d) {v : Int} : Lk (giveUp s v).d := by
  unfold giveUp; split <;> exact h
abbrev cRun (k n cap : Nat) (s0 s1 s2 : Safe) : List Chunk := [.one (.ls k 0 n cap), cI .i64 s0.e, cI .i64 s0.v, cI .i64 s0.l, .ints .u8 32 s0.d, cI .i64 s1.e, cI .i64 s1.v, cI .i64 s1.l, .ints .u8 32 s1.d, cI .i64 s2.e, cI .i64 s2.v, cI .i64 s2.l, .ints .u8 32 s2.d]
def cntV (b : Bk) : Nat → Nat
  | 0 => 0
  | k + 1 => cntV b k + (if b.votes k then 1 else 0)
theorem cntV_le (b : Bk) : ∀ k, cntV b k ≤ k
  | 0 => Nat.le_refl _
  | k + 1 => by have := cntV_le b k; simp only [cntV]; split <;> omega
theorem cntV_yes {b : Bk} {k : Nat} (h : b.votes k = true) (hk : k < 10) : IntKind.wrap .i64 (((cntV b k : Nat) : Int) + 1) = ((cntV b (k + 1) : Nat) : Int) := by
  have := cntV_le b k
  rw [wrap_succ (by omega)]
  simp only [cntV, h, if_true]
theorem cntV_no {b : Bk} {k : Nat} (h : b.votes k = false) : ((cntV b k : Nat) : Int) = ((cntV b (k + 1) : Nat) : Int) := by
  simp [cntV, h]
def certB (L : List Bk) (i : Nat) : Bool := decide (i = 0) || decide (3 ≤ cntV (bk L i) 4)
/-- Does a block extend another one? -/
def ext (L : List Bk) : Nat → Nat → Nat → Bool
  | 0, a, b => decide (a = b)
  | n + 1, a, b => if b < a then ext L n (bk L a).up b else decide (a = b)
theorem ext_end {L : List Bk} {n a b : Nat} (h : ¬ ((b : Nat) : Int) < ((a : Nat) : Int)) : ext L n a b = (((a : Nat) : Int) == ((b : Nat) : Int)) := by
  have e : decide (a = b) = (((a : Nat) : Int) == ((b : Nat) : Int)) := by
    by_cases h : a = b
    · subst h; simp
    · have : ¬ ((a : Nat) : Int) = ((b : Nat) : Int) := by omega
      simp [h, this]
  cases n with
  | zero => exact e
  | succ n => simp only [ext]; rw [if_neg (by omega)]; exact e
theorem ext_fuel {L : List Bk} (hw : Wf L) {b : Nat} : ∀ (n m a : Nat), a < L.length → a ≤ n → a ≤ m → ext L n a b = ext L m a b
  | 0, 0, a, _, _, _ => rfl
  | 0, m + 1, a, _, h, _ => by
    obtain rfl : a = 0 := by omega
    simp [ext]
  | n + 1, 0, a, _, _, h => by
    obtain rfl : a = 0 := by omega
    simp [ext]
  | n + 1, m + 1, a, ha, hn, hm => by
    simp only [ext]
    split
    · rename_i hb
      have := hw.2.2 a ha (by omega)
      exact ext_fuel hw n m _ (by omega) (by omega) (by omega)
    · rfl
theorem ext_step {L : List Bk} (hw : Wf L) {a b : Nat} (ha : a < L.length) (h : b < a) : ext L a a b = ext L (bk L a).up (bk L a).up b := by
  have hu := hw.2.2 a ha (by omega)
  cases a with
  | zero => omega
  | succ n =>
    simp only [ext]
    rw [if_pos h]
    exact ext_fuel hw _ _ _ (by omega) (by omega) (Nat.le_refl _)
/-- The first of three that a block ends. -/
def firstI (L : List Bk) (i : Nat) : Int :=
  if i = 0 ∨ (bk L i).up = 0 ∨ certB L i = false then -1
  else if (bk L (bk L i).up).up = 0 ∨ ¬ IntKind.wrap .i64 ((bk L (bk L (bk L i).up).up).view + 1) = (bk L (bk L i).up).view ∨ ¬ IntKind.wrap .i64 ((bk L (bk L i).up).view + 1) = (bk L i).view then -1
  else (((bk L (bk L i).up).up : Nat) : Int)
def setVote (L : List Bk) (b k : Nat) : List Bk := L.set b { bk L b with votes := fun i => if i = k then true else (bk L b).votes i }
theorem setVote_len (L : List Bk) (b k : Nat) : (setVote L b k).length = L.length := by simp [setVote]
theorem put_lt {L : List Bk} {rest : List Value} {b k : Nat} (hb : b < L.length) (hk : k < 4) (ρ : Nat → Nat) : 0 + b * 6 + 2 + k * 1 + sz (SV.chunks (sB true)) ≤ (flat ρ [.vals (rowV gB L ++ rest)]).length := by
  rw [flat_vals, List.length_append, rowV_length gB_len]
  simp only [SV.chunks, sz]
  have : (b + 1) * 6 ≤ L.length * 6 := Nat.mul_le_mul_right _ hb
  omega
theorem put_eq {L : List Bk} {rest : List Value} {b k : Nat} (hb : b < L.length) (hk : k < 4) (ρ : Nat → Nat) : flat ρ [.vals (rowV gB (setVote L b k) ++ rest)] =
    (flat ρ [.vals (rowV gB L ++ rest)]).take (0 + b * 6 + 2 + k * 1) ++ flat ρ (SV.chunks (sB true)) ++ (flat ρ [.vals (rowV gB L ++ rest)]).drop (0 + b * 6 + 2 + k * 1 + sz (SV.chunks (sB true))) := by
  rw [flat_vals, flat_vals]
  have e : flat ρ (SV.chunks (sB true)) = [.bool true] := rfl
  rw [e]
  refine row_put (g := gB) (j := 2 + k) (new := [.bool true]) gB_len (bk_at hb) (by omega) (by simp; omega) ?_
  rcases k with _ | _ | _ | _ | k
  · rfl
  · rfl
  · rfl
  · rfl
  · omega
/-- What one keeps behind a look at what it may vote for, and whether it votes. -/
def voteS (r : Run) (s : Safe) (b : Nat) : Safe × Bool :=
  let s' := if 0 < (bk r.L b).up then see s (bk r.L (bk r.L (bk r.L b).up).up).view (idD (bk r.L (bk r.L b).up).up) else s
  vote s' (bk r.L b).view (bk r.L (bk r.L b).up).view (ext r.L b b (lk s'.d))
def setS (r : Run) (who : Nat) (s : Safe) : Run := if who = 0 then { r with s0 := s } else if who = 1 then { r with s1 := s } else { r with s2 := s }
def getS (r : Run) (who : Nat) : Safe := if who = 0 then r.s0 else if who = 1 then r.s1 else r.s2
def voteR (r : Run) (who b : Nat) : Run :=
  if who = 3 then { r with L := setVote r.L b 3 }
  else if (voteS r (getS r who) b).2 = true then { setS r who (voteS r (getS r who) b).1 with L := setVote r.L b who }
  else setS r who (voteS r (getS r who) b).1
theorem voteS_up {r : Run} {s : Safe} {b : Nat} (h : 0 < (bk r.L b).up) : voteS r s b = vote (see s (bk r.L (bk r.L (bk r.L b).up).up).view (idD (bk r.L (bk r.L b).up).up)) (bk r.L b).view (bk r.L (bk r.L b).up).view (ext r.L b b (lk (see s (bk r.L (bk r.L (bk r.L b).up).up).view (idD (bk r.L (bk r.L b).up).up)).d)) := by
  unfold voteS; rw [if_pos h]
theorem voteS_no {r : Run} {s : Safe} {b : Nat} (h : ¬ 0 < (bk r.L b).up) : voteS r s b = vote s (bk r.L b).view (bk r.L (bk r.L b).up).view (ext r.L b b (lk s.d)) := by
  unfold voteS; rw [if_neg h]
theorem voteR_yes {r : Run} {who b : Nat} (h3 : who ≠ 3) (h : (voteS r (getS r who) b).2 = true) : voteR r who b = { setS r who (voteS r (getS r who) b).1 with L := setVote r.L b who } := by
  unfold voteR; rw [if_neg h3, if_pos h]
theorem voteR_no {r : Run} {who b : Nat} (h3 : who ≠ 3) (h : (voteS r (getS r who) b).2 = false) : voteR r who b = setS r who (voteS r (getS r who) b).1 := by
  unfold voteR; rw [if_neg h3, if_neg (by rw [h]; exact Bool.false_ne_true)]


set_option maxHeartbeats 4000000 in
theorem certified_any (r : Run) (cap : Nat) (rest : List Value) (hr : r.ok cap rest) (i : Nat) (hi : i < r.n) (w : World) (ρ : Nat → Nat) (hH : HeapAt ρ [(100000, ⟨(cRun 100001 r.n cap r.s0 r.s1 r.s2), 51⟩), (100001, ⟨[.vals (rowV gB r.L ++ rest)], 47⟩)] w) :
    Calls Try.prog 27 ([sL 100000 0, sI .i64 ((i : Nat) : Int)].map (SV.conc ρ)).toArray w fun r' w' => r' = .returned (EV.conc ρ (eB (certB r.L i))) ∧ Below w.heap.size w w' := by
  refine calls_enter (vs := [sL 100000 0, sI .i64 ((i : Nat) : Int)]) (N := 29) [(100000, ⟨(cRun 100001 r.n cap r.s0 r.s1 r.s2), 51⟩), (100001, ⟨[.vals (rowV gB r.L ++ rest)], 47⟩)] ρ Try.func27 rfl rfl (Nat.le_of_ble_eq_true rfl) (okv_a (okv_a (okv_nil))) hH.hp hH.inj ?_ _ rfl
  refine wc_seq ?_
  refine wc_reg [0] (by kernel_rfl) ?_
  refine wo_run [0] [0, 1] [100000, 100001] (l' := [(0, eL 100000 0), (1, eI .i64 ((i : Nat) : Int))]) (H' := [(100000, ⟨(cRun 100001 r.n cap r.s0 r.s1 r.s2), 51⟩), (100001, ⟨[.vals (rowV gB r.L ++ rest)], 47⟩)]) (by kernel_rfl) ?_
  refine wo_nil ?_
  refine we_then ?_
  refine wc_seq ?_
  refine wc_reg [0] (by kernel_rfl) ?_
  refine wo_run [0] [0, 1, 5] [100000, 100001] (l' := [(0, eL 100000 0), (1, eI .i64 ((i : Nat) : Int)), (5, eI .i64 0)]) (H' := [(100000, ⟨(cRun 100001 r.n cap r.s0 r.s1 r.s2), 51⟩), (100001, ⟨[.vals (rowV gB r.L ++ rest)], 47⟩)]) (by kernel_rfl) ?_
  refine wo_nil ?_
  refine we_then ?_
  refine wc_seq ?_
  refine wc_seq ?_
  refine wc_reg [0] (by kernel_rfl) ?_
  refine wo_run [0] [0, 1, 5, 6] [100000, 100001] (l' := [(0, eL 100000 0), (1, eI .i64 ((i : Nat) : Int)), (5, eI .i64 0), (6, eI .i64 0)]) (H' := [(100000, ⟨(cRun 100001 r.n cap r.s0 r.s1 r.s2), 51⟩), (100001, ⟨[.vals (rowV gB r.L ++ rest)], 47⟩)]) (by kernel_rfl) ?_
  refine wo_nil ?_
  refine we_then ?_
  refine wc_block ?_
  refine wc_rest [0, 1, 5, 6] [100000, 100001] (l' := [(0, eL 100000 0), (1, eI .i64 ((i : Nat) : Int)), (5, eI .i64 0), (6, eI .i64 0)]) (H' := [(100000, ⟨(cRun 100001 r.n cap r.s0 r.s1 r.s2), 51⟩), (100001, ⟨[.vals (rowV gB r.L ++ rest)], 47⟩)]) (by kernel_rfl) ?_
  refine wc_loop (τ := Nat) (fun k => k ≤ 4) (fun k => 4 - k) (fun _ => _) (fun k => [(0, eL 100000 0), (1, eI .i64 ((i : Nat) : Int)), (5, eI .i64 ((cntV (bk r.L i) k : Nat) : Int)), (6, eI .i64 ((k : Nat) : Int))]) (fun k => [(100000, ⟨(cRun 100001 r.n cap r.s0 r.s1 r.s2), 51⟩), (100001, ⟨[.vals (rowV gB r.L ++ rest)], 47⟩)]) 0 (Nat.zero_le _) rfl rfl rfl ?_
  rintro k hj
  refine wc_seq ?_
  refine wc_seq ?_
  refine wc_reg [0, 1] (by kernel_rfl) ?_
  refine wo_run [0, 1] [0, 1, 5, 6, 8] [100000, 100001] (l' := [(0, eL 100000 0), (1, eI .i64 ((i : Nat) : Int)), (5, eI .i64 ((cntV (bk r.L i) k : Nat) : Int)), (6, eI .i64 ((k : Nat) : Int)), (8, eB (decide (((k : Nat) : Int) < 4)))]) (H' := [(100000, ⟨(cRun 100001 r.n cap r.s0 r.s1 r.s2), 51⟩), (100001, ⟨[.vals (rowV gB r.L ++ rest)], 47⟩)]) (by kernel_rfl) ?_
  refine wo_nil ?_
  refine we_then ?_
  refine wc_cond rfl (fun h1 => ?_) (fun h1 => ?_)
  · replace h1 := of_decide_eq_true h1
    refine wc_skip ?_
    refine we_then ?_
    refine wc_seq ?_
    refine wc_block ?_
    refine wc_seq ?_
    refine wc_reg [0, 1, 2, 3, 4, 5, 6, 7, 8, 9] (by kernel_rfl) ?_
    refine wo_run [0, 1, 2, 3, 4, 5] [0, 1, 5, 6, 14, 15, 16] [100000, 100001] (l' := [(0, eL 100000 0), (1, eI .i64 ((i : Nat) : Int)), (5, eI .i64 ((cntV (bk r.L i) k : Nat) : Int)), (6, eI .i64 ((k : Nat) : Int)), (14, .s (.a (.ls 100001 0 r.n cap))), (15, eI .i64 ((i : Nat) : Int)), (16, eI .i64 ((k : Nat) : Int))]) (H' := [(100000, ⟨(cRun 100001 r.n cap r.s0 r.s1 r.s2), 51⟩), (100001, ⟨[.vals (rowV gB r.L ++ rest)], 47⟩)]) (by kernel_rfl) ?_
    refine wo_op rfl rfl (ot_rd rfl (rd_indexL (e := 47) 6 i ((i : Nat) : Int) rfl (by kernel_rfl) (by kernel_rfl) rfl rfl (rfl) (hi))) ?_
    refine wo_run [7] [0, 1, 5, 6, 16, 18] [100000, 100001] (l' := [(0, eL 100000 0), (1, eI .i64 ((i : Nat) : Int)), (5, eI .i64 ((cntV (bk r.L i) k : Nat) : Int)), (6, eI .i64 ((k : Nat) : Int)), (16, eI .i64 ((k : Nat) : Int)), (18, eL 100001 ((0 + i * 6) + 2))]) (H' := [(100000, ⟨(cRun 100001 r.n cap r.s0 r.s1 r.s2), 51⟩), (100001, ⟨[.vals (rowV gB r.L ++ rest)], 47⟩)]) (by kernel_rfl) ?_
    refine wo_op rfl rfl (ot_rd rfl (rd_indexA (e := 4) (n := 4) 1 k ((k : Nat) : Int) rfl (by kernel_rfl) (by kernel_rfl) rfl rfl (rfl) (by omega))) ?_
    refine wo_op rfl rfl (ot_rd rfl (rd_cellS (b := ⟨[.vals (rowV gB r.L ++ rest)], 47⟩) (.v (.bool ((bk r.L i).votes k))) rfl rfl rfl (by kernel_rfl) (fun ρ => votes_at (hr.ln (hi)) (by omega) ρ))) ?_
    refine wo_nil ?_
    refine we_then ?_
    refine wc_cond rfl (fun h2 => ?_) (fun h2 => ?_)
    · refine wc_reg [0, 1, 2] (by kernel_rfl) ?_
      refine wo_run [0, 1, 2] [0, 1, 5, 6] [100000, 100001] (l' := [(0, eL 100000 0), (1, eI .i64 ((i : Nat) : Int)), (5, eI .i64 (IntKind.wrap .i64 (((cntV (bk r.L i) k : Nat) : Int) + 1))), (6, eI .i64 ((k : Nat) : Int))]) (H' := [(100000, ⟨(cRun 100001 r.n cap r.s0 r.s1 r.s2), 51⟩), (100001, ⟨[.vals (rowV gB r.L ++ rest)], 47⟩)]) (by kernel_rfl) ?_
      refine wo_nil ?_
      refine we_block ?_
      refine we_then ?_
      refine wc_reg [0, 1, 2] (by kernel_rfl) ?_
      refine wo_run [0, 1, 2] [0, 1, 5, 6] [100000, 100001] (l' := [(0, eL 100000 0), (1, eI .i64 ((i : Nat) : Int)), (5, eI .i64 (IntKind.wrap .i64 (((cntV (bk r.L i) k : Nat) : Int) + 1))), (6, eI .i64 (IntKind.wrap .i64 (((k : Nat) : Int) + 1)))]) (H' := [(100000, ⟨(cRun 100001 r.n cap r.s0 r.s1 r.s2), 51⟩), (100001, ⟨[.vals (rowV gB r.L ++ rest)], 47⟩)]) (by kernel_rfl) ?_
      refine wo_nil ?_
      refine we_rest [0, 1, 5, 6] [100000, 100001] (l' := [(0, eL 100000 0), (1, eI .i64 ((i : Nat) : Int)), (5, eI .i64 (IntKind.wrap .i64 (((cntV (bk r.L i) k : Nat) : Int) + 1))), (6, eI .i64 (IntKind.wrap .i64 (((k : Nat) : Int) + 1)))]) (H' := [(100000, ⟨(cRun 100001 r.n cap r.s0 r.s1 r.s2), 51⟩), (100001, ⟨[.vals (rowV gB r.L ++ rest)], 47⟩)]) (by kernel_rfl) (by kernel_rfl) ?_
      rw [show (IntKind.wrap .i64 (((cntV (bk r.L i) k : Nat) : Int) + 1)) = ((cntV (bk r.L i) (k + 1) : Nat) : Int) from cntV_yes h2 (by omega)]
      rw [show (IntKind.wrap .i64 (((k : Nat) : Int) + 1)) = ((k + 1 : Nat) : Int) from wrap_succ (by omega)]
      exact we_round (k + 1) (by show k + 1 ≤ 4; omega) (by show 4 - (k + 1) < 4 - k; omega) rfl (sub_ofE [0, 1, 5, 6] rfl) (sub_of [100000, 100001] rfl)
    · refine wc_skip ?_
      refine we_block ?_
      refine we_then ?_
      refine wc_reg [0, 1, 2] (by kernel_rfl) ?_
      refine wo_run [0, 1, 2] [0, 1, 5, 6] [100000, 100001] (l' := [(0, eL 100000 0), (1, eI .i64 ((i : Nat) : Int)), (5, eI .i64 ((cntV (bk r.L i) k : Nat) : Int)), (6, eI .i64 (IntKind.wrap .i64 (((k : Nat) : Int) + 1)))]) (H' := [(100000, ⟨(cRun 100001 r.n cap r.s0 r.s1 r.s2), 51⟩), (100001, ⟨[.vals (rowV gB r.L ++ rest)], 47⟩)]) (by kernel_rfl) ?_
      refine wo_nil ?_
      refine we_rest [0, 1, 5, 6] [100000, 100001] (l' := [(0, eL 100000 0), (1, eI .i64 ((i : Nat) : Int)), (5, eI .i64 ((cntV (bk r.L i) k : Nat) : Int)), (6, eI .i64 (IntKind.wrap .i64 (((k : Nat) : Int) + 1)))]) (H' := [(100000, ⟨(cRun 100001 r.n cap r.s0 r.s1 r.s2), 51⟩), (100001, ⟨[.vals (rowV gB r.L ++ rest)], 47⟩)]) (by kernel_rfl) (by kernel_rfl) ?_
      rw [show ((cntV (bk r.L i) k : Nat) : Int) = ((cntV (bk r.L i) (k + 1) : Nat) : Int) from cntV_no h2]
      rw [show (IntKind.wrap .i64 (((k : Nat) : Int) + 1)) = ((k + 1 : Nat) : Int) from wrap_succ (by omega)]
      exact we_round (k + 1) (by show k + 1 ≤ 4; omega) (by show 4 - (k + 1) < 4 - k; omega) rfl (sub_ofE [0, 1, 5, 6] rfl) (sub_of [100000, 100001] rfl)
  · replace h1 := of_decide_eq_false h1
    refine wc_exit ?_
    refine we_then_exit ?_
    refine we_then_exit ?_
    refine we_block_exit ?_
    refine we_then ?_
    refine wc_seq ?_
    refine wc_reg [0, 1, 2, 3, 4, 5, 6] (by kernel_rfl) ?_
    refine wo_run [0, 1, 2] [5, 25] [100000, 100001] (l' := [(5, eI .i64 ((cntV (bk r.L i) k : Nat) : Int)), (25, eB (((i : Nat) : Int) == 0))]) (H' := [(100000, ⟨(cRun 100001 r.n cap r.s0 r.s1 r.s2), 51⟩), (100001, ⟨[.vals (rowV gB r.L ++ rest)], 47⟩)]) (by kernel_rfl) ?_
    refine wo_bool 25 rfl (fun h3 => ?_) (fun h3 => ?_)
    · replace h3 := eq_of_beq h3
      refine wo_run [3, 4, 5, 6] [4] [100000, 100001] (l' := [(4, eB true)]) (H' := [(100000, ⟨(cRun 100001 r.n cap r.s0 r.s1 r.s2), 51⟩), (100001, ⟨[.vals (rowV gB r.L ++ rest)], 47⟩)]) (by kernel_rfl) ?_
      refine wo_nil ?_
      refine we_then ?_
      refine wc_ret ?_
      refine we_ret (.inl rfl) (v := eB true) (by kernel_rfl) ?_
      intro σ w' hf
      refine ⟨?_, hf.same rfl rfl hH ⟨⟨rfl, rfl, fun ρ σ h => by simp only [flat, AV.conc, h 100001 (by decide)]⟩, ⟨rfl, rfl, fun _ _ _ => rfl⟩, trivial⟩⟩
      obtain rfl : k = 4 := by omega
      exact congrArg (fun b => Ending.returned (EV.conc ρ (eB b))) (by unfold certB; simp_all <;> omega)
    · replace h3 := ne_of_beq_false h3
      refine wo_run [3, 4, 5, 6] [4] [100000, 100001] (l' := [(4, eB (decide (((cntV (bk r.L i) k : Nat) : Int) ≥ 3)))]) (H' := [(100000, ⟨(cRun 100001 r.n cap r.s0 r.s1 r.s2), 51⟩), (100001, ⟨[.vals (rowV gB r.L ++ rest)], 47⟩)]) (by kernel_rfl) ?_
      refine wo_nil ?_
      refine we_then ?_
      refine wc_ret ?_
      refine we_ret (.inl rfl) (v := eB (decide (((cntV (bk r.L i) k : Nat) : Int) ≥ 3))) (by kernel_rfl) ?_
      intro σ w' hf
      refine ⟨?_, hf.same rfl rfl hH ⟨⟨rfl, rfl, fun ρ σ h => by simp only [flat, AV.conc, h 100001 (by decide)]⟩, ⟨rfl, rfl, fun _ _ _ => rfl⟩, trivial⟩⟩
      obtain rfl : k = 4 := by omega
      exact congrArg (fun b => Ending.returned (EV.conc ρ (eB b))) (by unfold certB; simp_all <;> omega)

set_option maxHeartbeats 4000000 in
theorem extends_any (r : Run) (cap : Nat) (rest : List Value) (hr : r.ok cap rest) (i : Nat) (hi : i < r.n) (b : Nat) (w : World) (ρ : Nat → Nat) (hH : HeapAt ρ [(100000, ⟨(cRun 100001 r.n cap r.s0 r.s1 r.s2), 51⟩), (100001, ⟨[.vals (rowV gB r.L ++ rest)], 47⟩)] w) :
    Calls Try.prog 26 ([sL 100000 0, sI .i64 ((i : Nat) : Int), sI .i64 ((b : Nat) : Int)].map (SV.conc ρ)).toArray w fun r' w' => r' = .returned (EV.conc ρ (eB (ext r.L i i b))) ∧ Below w.heap.size w w' := by
  refine calls_enter (vs := [sL 100000 0, sI .i64 ((i : Nat) : Int), sI .i64 ((b : Nat) : Int)]) (N := 21) [(100000, ⟨(cRun 100001 r.n cap r.s0 r.s1 r.s2), 51⟩), (100001, ⟨[.vals (rowV gB r.L ++ rest)], 47⟩)] ρ Try.func26 rfl rfl (Nat.le_of_ble_eq_true rfl) (okv_a (okv_a (okv_a (okv_nil)))) hH.hp hH.inj ?_ _ rfl
  refine wc_seq ?_
  refine wc_reg [0] (by kernel_rfl) ?_
  refine wo_run [0] [0, 1, 2] [100000, 100001] (l' := [(0, eL 100000 0), (1, eI .i64 ((i : Nat) : Int)), (2, eI .i64 ((b : Nat) : Int))]) (H' := [(100000, ⟨(cRun 100001 r.n cap r.s0 r.s1 r.s2), 51⟩), (100001, ⟨[.vals (rowV gB r.L ++ rest)], 47⟩)]) (by kernel_rfl) ?_
  refine wo_nil ?_
  refine we_then ?_
  refine wc_seq ?_
  refine wc_block ?_
  refine wc_rest [0, 1, 2] [100000, 100001] (l' := [(0, eL 100000 0), (1, eI .i64 ((i : Nat) : Int)), (2, eI .i64 ((b : Nat) : Int))]) (H' := [(100000, ⟨(cRun 100001 r.n cap r.s0 r.s1 r.s2), 51⟩), (100001, ⟨[.vals (rowV gB r.L ++ rest)], 47⟩)]) (by kernel_rfl) ?_
  refine wc_loop (τ := Nat) (fun j => j < r.n ∧ ext r.L j j b = ext r.L i i b) (fun j => j) (fun _ => _) (fun j => [(0, eL 100000 0), (1, eI .i64 ((j : Nat) : Int)), (2, eI .i64 ((b : Nat) : Int))]) (fun j => [(100000, ⟨(cRun 100001 r.n cap r.s0 r.s1 r.s2), 51⟩), (100001, ⟨[.vals (rowV gB r.L ++ rest)], 47⟩)]) i (⟨hi, rfl⟩) rfl rfl rfl ?_
  rintro j hj
  obtain ⟨hj1, hj2⟩ := hj
  refine wc_seq ?_
  refine wc_seq ?_
  refine wc_reg [0, 1, 2] (by kernel_rfl) ?_
  refine wo_run [0, 1, 2] [0, 1, 2, 9] [100000, 100001] (l' := [(0, eL 100000 0), (1, eI .i64 ((j : Nat) : Int)), (2, eI .i64 ((b : Nat) : Int)), (9, eB (decide (((j : Nat) : Int) > ((b : Nat) : Int))))]) (H' := [(100000, ⟨(cRun 100001 r.n cap r.s0 r.s1 r.s2), 51⟩), (100001, ⟨[.vals (rowV gB r.L ++ rest)], 47⟩)]) (by kernel_rfl) ?_
  refine wo_nil ?_
  refine we_then ?_
  refine wc_cond rfl (fun h1 => ?_) (fun h1 => ?_)
  · replace h1 := of_decide_eq_true h1
    refine wc_skip ?_
    refine we_then ?_
    refine wc_block ?_
    refine wc_reg [0, 1, 2, 3, 4, 5, 6, 7, 8] (by kernel_rfl) ?_
    refine wo_run [0, 1, 2, 3, 4] [0, 2, 13, 14] [100000, 100001] (l' := [(0, eL 100000 0), (2, eI .i64 ((b : Nat) : Int)), (13, .s (.a (.ls 100001 0 r.n cap))), (14, eI .i64 ((j : Nat) : Int))]) (H' := [(100000, ⟨(cRun 100001 r.n cap r.s0 r.s1 r.s2), 51⟩), (100001, ⟨[.vals (rowV gB r.L ++ rest)], 47⟩)]) (by kernel_rfl) ?_
    refine wo_op rfl rfl (ot_rd rfl (rd_indexL (e := 47) 6 j ((j : Nat) : Int) rfl (by kernel_rfl) (by kernel_rfl) rfl rfl (rfl) ((by omega)))) ?_
    refine wo_run [6] [0, 2, 16] [100000, 100001] (l' := [(0, eL 100000 0), (2, eI .i64 ((b : Nat) : Int)), (16, eL 100001 (0 + j * 6))]) (H' := [(100000, ⟨(cRun 100001 r.n cap r.s0 r.s1 r.s2), 51⟩), (100001, ⟨[.vals (rowV gB r.L ++ rest)], 47⟩)]) (by kernel_rfl) ?_
    refine wo_op rfl rfl (ot_rd rfl (rd_cellS (b := ⟨[.vals (rowV gB r.L ++ rest)], 47⟩) (.v (.int .i64 (((bk r.L j).up : Nat) : Int))) rfl rfl rfl (by kernel_rfl) (fun ρ => up_at (hr.ln ((by omega))) ρ))) ?_
    refine wo_run [8] [0, 1, 2] [100000, 100001] (l' := [(0, eL 100000 0), (1, eI .i64 (((bk r.L j).up : Nat) : Int)), (2, eI .i64 ((b : Nat) : Int))]) (H' := [(100000, ⟨(cRun 100001 r.n cap r.s0 r.s1 r.s2), 51⟩), (100001, ⟨[.vals (rowV gB r.L ++ rest)], 47⟩)]) (by kernel_rfl) ?_
    refine wo_nil ?_
    refine we_block ?_
    refine we_rest [0, 1, 2] [100000, 100001] (l' := [(0, eL 100000 0), (1, eI .i64 (((bk r.L j).up : Nat) : Int)), (2, eI .i64 ((b : Nat) : Int))]) (H' := [(100000, ⟨(cRun 100001 r.n cap r.s0 r.s1 r.s2), 51⟩), (100001, ⟨[.vals (rowV gB r.L ++ rest)], 47⟩)]) (by kernel_rfl) (by kernel_rfl) ?_
    exact we_round (bk r.L j).up (⟨hr.up_lt (by omega) hj1, (ext_step hr.wf (hr.ln hj1) (by omega)).symm.trans hj2⟩) (hr.up_lt' (by omega) hj1) rfl (sub_ofE [0, 1, 2] rfl) (sub_of [100000, 100001] rfl)
  · replace h1 := of_decide_eq_false h1
    refine wc_exit ?_
    refine we_then_exit ?_
    refine we_then_exit ?_
    refine we_block_exit ?_
    refine we_then ?_
    refine wc_seq ?_
    refine wc_reg [0, 1, 2, 3] (by kernel_rfl) ?_
    refine wo_run [0, 1, 2, 3] [6] [100000, 100001] (l' := [(6, eB (((j : Nat) : Int) == ((b : Nat) : Int)))]) (H' := [(100000, ⟨(cRun 100001 r.n cap r.s0 r.s1 r.s2), 51⟩), (100001, ⟨[.vals (rowV gB r.L ++ rest)], 47⟩)]) (by kernel_rfl) ?_
    refine wo_nil ?_
    refine we_then ?_
    refine wc_ret ?_
    refine we_ret (.inl rfl) (v := eB (((j : Nat) : Int) == ((b : Nat) : Int))) (by kernel_rfl) ?_
    intro σ w' hf
    refine ⟨?_, hf.same rfl rfl hH ⟨⟨rfl, rfl, fun ρ σ h => by simp only [flat, AV.conc, h 100001 (by decide)]⟩, ⟨rfl, rfl, fun _ _ _ => rfl⟩, trivial⟩⟩
    exact congrArg (fun b => Ending.returned (EV.conc ρ (eB b))) ((ext_end (by omega)).symm.trans hj2)

set_option maxHeartbeats 4000000 in
theorem id_any (i : Nat) (w : World) (ρ : Nat → Nat) :
    Calls Try.prog 23 ([sI .i64 ((i : Nat) : Int)].map (SV.conc ρ)).toArray w fun r' w' => r' = .returned (EV.conc ρ (eA [.ints .u8 32 (idD i)])) ∧ Below w.heap.size w w' := by
  refine calls_enter (vs := [sI .i64 ((i : Nat) : Int)]) (N := 9) [] ρ Try.func23 rfl rfl (Nat.le_of_ble_eq_true rfl) (okv_a (okv_nil)) noH noH2 ?_ _ rfl
  refine wc_seq ?_
  refine wc_reg [0] (by kernel_rfl) ?_
  refine wo_op rfl rfl (ot_alloc (d := 2) (cs := z23) rfl rfl z23_zero rfl z23_ok (fun _ => rfl)) ?_
  refine wo_nil ?_
  refine we_then ?_
  refine wc_seq ?_
  refine wc_reg [0, 1, 2, 3, 4, 5, 6] (by kernel_rfl) ?_
  refine wo_run [0, 1, 2, 3, 4] [2, 5, 7] [2] (l' := [(2, eL 2 0), (5, eI .u8 (IntKind.wrap .u8 (Int.fdiv ((i : Nat) : Int) (2 ^ (8 : Nat))))), (7, eI .u8 (IntKind.wrap .u8 ((i : Nat) : Int)))]) (H' := [(2, ⟨[.ints .u8 32 (List.replicate 32 0)], 23⟩)]) (by kernel_rfl) ?_
  refine wo_op rfl rfl (ot_rd rfl (rd_build (zc := z23) [.ints .u8 32 ((((List.replicate 32 0).set 0 (IntKind.wrap .u8 (Int.fdiv ((i : Nat) : Int) (2 ^ (8 : Nat))))).set 1 (IntKind.wrap .u8 ((i : Nat) : Int))).set 2 1)] rfl z23_zero' z23_ok (fun _ => rfl) (by kernel_rfl) (by kernel_rfl))) ?_
  refine wo_run [6] [2] [2] (l' := [(2, eL 2 0)]) (H' := [(2, ⟨[.ints .u8 32 ((((List.replicate 32 0).set 0 (IntKind.wrap .u8 (Int.fdiv ((i : Nat) : Int) (2 ^ (8 : Nat))))).set 1 (IntKind.wrap .u8 ((i : Nat) : Int))).set 2 1)], 23⟩)]) (by kernel_rfl) ?_
  refine wo_nil ?_
  refine we_then ?_
  refine wc_ret ?_
  refine we_ret (.inl rfl) (v := eA [.ints .u8 32 ((((List.replicate 32 0).set 0 (IntKind.wrap .u8 (Int.fdiv ((i : Nat) : Int) (2 ^ (8 : Nat))))).set 1 (IntKind.wrap .u8 ((i : Nat) : Int))).set 2 1)]) (by kernel_rfl) ?_
  intro σ w' hf
  exact ⟨rfl, hf.below noS⟩

set_option maxHeartbeats 4000000 in
theorem first_any (r : Run) (cap : Nat) (rest : List Value) (hr : r.ok cap rest) (i : Nat) (hi : i < r.n) (w : World) (ρ : Nat → Nat) (hH : HeapAt ρ [(100000, ⟨(cRun 100001 r.n cap r.s0 r.s1 r.s2), 51⟩), (100001, ⟨[.vals (rowV gB r.L ++ rest)], 47⟩)] w) :
    Calls Try.prog 25 ([sL 100000 0, sI .i64 ((i : Nat) : Int)].map (SV.conc ρ)).toArray w fun r' w' => r' = .returned (EV.conc ρ (eI .i64 (firstI r.L i))) ∧ Below w.heap.size w w' := by
  refine calls_enter (vs := [sL 100000 0, sI .i64 ((i : Nat) : Int)]) (N := 78) [(100000, ⟨(cRun 100001 r.n cap r.s0 r.s1 r.s2), 51⟩), (100001, ⟨[.vals (rowV gB r.L ++ rest)], 47⟩)] ρ Try.func25 rfl rfl (Nat.le_of_ble_eq_true rfl) (okv_a (okv_a (okv_nil))) hH.hp hH.inj ?_ _ rfl
  refine wc_seq ?_
  refine wc_reg [0] (by kernel_rfl) ?_
  refine wo_run [0] [0, 1] [100000, 100001] (l' := [(0, eL 100000 0), (1, eI .i64 ((i : Nat) : Int))]) (H' := [(100000, ⟨(cRun 100001 r.n cap r.s0 r.s1 r.s2), 51⟩), (100001, ⟨[.vals (rowV gB r.L ++ rest)], 47⟩)]) (by kernel_rfl) ?_
  refine wo_nil ?_
  refine we_then ?_
  refine wc_seq ?_
  refine wc_reg [0, 1, 2, 3, 4, 5, 6, 7, 8] (by kernel_rfl) ?_
  refine wo_run [0, 1, 2, 3, 4] [0, 1, 10, 11] [100000, 100001] (l' := [(0, eL 100000 0), (1, eI .i64 ((i : Nat) : Int)), (10, .s (.a (.ls 100001 0 r.n cap))), (11, eI .i64 ((i : Nat) : Int))]) (H' := [(100000, ⟨(cRun 100001 r.n cap r.s0 r.s1 r.s2), 51⟩), (100001, ⟨[.vals (rowV gB r.L ++ rest)], 47⟩)]) (by kernel_rfl) ?_
  refine wo_op rfl rfl (ot_rd rfl (rd_indexL (e := 47) 6 i ((i : Nat) : Int) rfl (by kernel_rfl) (by kernel_rfl) rfl rfl (rfl) (hi))) ?_
  refine wo_run [6] [0, 1, 13] [100000, 100001] (l' := [(0, eL 100000 0), (1, eI .i64 ((i : Nat) : Int)), (13, eL 100001 (0 + i * 6))]) (H' := [(100000, ⟨(cRun 100001 r.n cap r.s0 r.s1 r.s2), 51⟩), (100001, ⟨[.vals (rowV gB r.L ++ rest)], 47⟩)]) (by kernel_rfl) ?_
  refine wo_op rfl rfl (ot_rd rfl (rd_cellS (b := ⟨[.vals (rowV gB r.L ++ rest)], 47⟩) (.v (.int .i64 (((bk r.L i).up : Nat) : Int))) rfl rfl rfl (by kernel_rfl) (fun ρ => up_at (hr.ln (hi)) ρ))) ?_
  refine wo_run [8] [0, 1, 5] [100000, 100001] (l' := [(0, eL 100000 0), (1, eI .i64 ((i : Nat) : Int)), (5, eI .i64 (((bk r.L i).up : Nat) : Int))]) (H' := [(100000, ⟨(cRun 100001 r.n cap r.s0 r.s1 r.s2), 51⟩), (100001, ⟨[.vals (rowV gB r.L ++ rest)], 47⟩)]) (by kernel_rfl) ?_
  refine wo_nil ?_
  refine we_then ?_
  refine wc_seq ?_
  refine wc_seq ?_
  refine wc_reg [0, 1, 2, 3, 4, 5, 6, 7, 8, 9, 10, 11] (by kernel_rfl) ?_
  refine wo_run [0, 1, 2] [0, 1, 5, 17] [100000, 100001] (l' := [(0, eL 100000 0), (1, eI .i64 ((i : Nat) : Int)), (5, eI .i64 (((bk r.L i).up : Nat) : Int)), (17, eB (((i : Nat) : Int) == 0))]) (H' := [(100000, ⟨(cRun 100001 r.n cap r.s0 r.s1 r.s2), 51⟩), (100001, ⟨[.vals (rowV gB r.L ++ rest)], 47⟩)]) (by kernel_rfl) ?_
  refine wo_bool 17 rfl (fun h1 => ?_) (fun h1 => ?_)
  · replace h1 := eq_of_beq h1
    refine wo_run [3, 4, 5, 6, 7, 8, 9, 10, 11] [0, 1, 5, 26] [100000, 100001] (l' := [(0, eL 100000 0), (1, eI .i64 ((i : Nat) : Int)), (5, eI .i64 (((bk r.L i).up : Nat) : Int)), (26, eB true)]) (H' := [(100000, ⟨(cRun 100001 r.n cap r.s0 r.s1 r.s2), 51⟩), (100001, ⟨[.vals (rowV gB r.L ++ rest)], 47⟩)]) (by kernel_rfl) ?_
    refine wo_nil ?_
    refine we_then ?_
    refine wc_true rfl ?_
    refine wc_seq ?_
    refine wc_reg [0] (by kernel_rfl) ?_
    refine wo_run [0] [4] [100000, 100001] (l' := [(4, eI .i64 (-1))]) (H' := [(100000, ⟨(cRun 100001 r.n cap r.s0 r.s1 r.s2), 51⟩), (100001, ⟨[.vals (rowV gB r.L ++ rest)], 47⟩)]) (by kernel_rfl) ?_
    refine wo_nil ?_
    refine we_then ?_
    refine wc_ret ?_
    refine we_then_ret ?_
    refine we_ret (.inl rfl) (v := eI .i64 (-1)) (by kernel_rfl) ?_
    intro σ w' hf
    refine ⟨?_, hf.same rfl rfl hH ⟨⟨rfl, rfl, fun ρ σ h => by simp only [flat, AV.conc, h 100001 (by decide)]⟩, ⟨rfl, rfl, fun _ _ _ => rfl⟩, trivial⟩⟩
    clear hf hH
    exact congrArg (fun b => Ending.returned (EV.conc ρ (eI .i64 b))) (by unfold firstI; simp_all)
  · replace h1 := ne_of_beq_false h1
    refine wo_run [3, 4, 5, 6] [0, 1, 5, 21] [100000, 100001] (l' := [(0, eL 100000 0), (1, eI .i64 ((i : Nat) : Int)), (5, eI .i64 (((bk r.L i).up : Nat) : Int)), (21, eB ((((bk r.L i).up : Nat) : Int) == 0))]) (H' := [(100000, ⟨(cRun 100001 r.n cap r.s0 r.s1 r.s2), 51⟩), (100001, ⟨[.vals (rowV gB r.L ++ rest)], 47⟩)]) (by kernel_rfl) ?_
    refine wo_bool 21 rfl (fun h2 => ?_) (fun h2 => ?_)
    · replace h2 := eq_of_beq h2
      refine wo_run [7, 8, 9, 10, 11] [0, 1, 5, 26] [100000, 100001] (l' := [(0, eL 100000 0), (1, eI .i64 ((i : Nat) : Int)), (5, eI .i64 (((bk r.L i).up : Nat) : Int)), (26, eB true)]) (H' := [(100000, ⟨(cRun 100001 r.n cap r.s0 r.s1 r.s2), 51⟩), (100001, ⟨[.vals (rowV gB r.L ++ rest)], 47⟩)]) (by kernel_rfl) ?_
      refine wo_nil ?_
      refine we_then ?_
      refine wc_true rfl ?_
      refine wc_seq ?_
      refine wc_reg [0] (by kernel_rfl) ?_
      refine wo_run [0] [4] [100000, 100001] (l' := [(4, eI .i64 (-1))]) (H' := [(100000, ⟨(cRun 100001 r.n cap r.s0 r.s1 r.s2), 51⟩), (100001, ⟨[.vals (rowV gB r.L ++ rest)], 47⟩)]) (by kernel_rfl) ?_
      refine wo_nil ?_
      refine we_then ?_
      refine wc_ret ?_
      refine we_then_ret ?_
      refine we_ret (.inl rfl) (v := eI .i64 (-1)) (by kernel_rfl) ?_
      intro σ w' hf
      refine ⟨?_, hf.same rfl rfl hH ⟨⟨rfl, rfl, fun ρ σ h => by simp only [flat, AV.conc, h 100001 (by decide)]⟩, ⟨rfl, rfl, fun _ _ _ => rfl⟩, trivial⟩⟩
      clear hf hH
      exact congrArg (fun b => Ending.returned (EV.conc ρ (eI .i64 b))) (by unfold firstI; simp_all)
    · replace h2 := ne_of_beq_false h2
      refine wo_run [7, 8] [0, 1, 5, 21, 22, 23] [100000, 100001] (l' := [(0, eL 100000 0), (1, eI .i64 ((i : Nat) : Int)), (5, eI .i64 (((bk r.L i).up : Nat) : Int)), (21, eB false), (22, eL 100000 0), (23, eI .i64 ((i : Nat) : Int))]) (H' := [(100000, ⟨(cRun 100001 r.n cap r.s0 r.s1 r.s2), 51⟩), (100001, ⟨[.vals (rowV gB r.L ++ rest)], 47⟩)]) (by kernel_rfl) ?_
      refine wo_op rfl rfl (ot_call (vs := [sL 100000 0, sI .i64 ((i : Nat) : Int)]) rfl rfl rfl Try.func27 (by kernel_rfl) (by kernel_rfl) (by kernel_rfl) (eB (certB r.L i)) (trivial) (fun ρ w h => certified_any r cap rest hr i (hi) w (fun k => ρ (Sx.look [(100000, 100000), (100001, 100001)] k)) (h.heap (π := [(100000, 100000), (100001, 100001)]) (Hc := [(100000, ⟨(cRun 100001 r.n cap r.s0 r.s1 r.s2), 51⟩), (100001, ⟨[.vals (rowV gB r.L ++ rest)], 47⟩)]) rfl ⟨⟨by kernel_rfl, by kernel_rfl, by kernel_rfl⟩, ⟨by kernel_rfl, by kernel_rfl, by kernel_rfl⟩, trivial⟩))) ?_
      refine wo_run [10, 11] [0, 1, 5, 26] [100000, 100001] (l' := [(0, eL 100000 0), (1, eI .i64 ((i : Nat) : Int)), (5, eI .i64 (((bk r.L i).up : Nat) : Int)), (26, eB (!(certB r.L i)))]) (H' := [(100000, ⟨(cRun 100001 r.n cap r.s0 r.s1 r.s2), 51⟩), (100001, ⟨[.vals (rowV gB r.L ++ rest)], 47⟩)]) (by kernel_rfl) ?_
      refine wo_nil ?_
      refine we_then ?_
      refine wc_cond rfl (fun h3 => ?_) (fun h3 => ?_)
      · replace h3 := not_t h3
        refine wc_seq ?_
        refine wc_reg [0] (by kernel_rfl) ?_
        refine wo_run [0] [4] [100000, 100001] (l' := [(4, eI .i64 (-1))]) (H' := [(100000, ⟨(cRun 100001 r.n cap r.s0 r.s1 r.s2), 51⟩), (100001, ⟨[.vals (rowV gB r.L ++ rest)], 47⟩)]) (by kernel_rfl) ?_
        refine wo_nil ?_
        refine we_then ?_
        refine wc_ret ?_
        refine we_then_ret ?_
        refine we_ret (.inl rfl) (v := eI .i64 (-1)) (by kernel_rfl) ?_
        intro σ w' hf
        refine ⟨?_, hf.same rfl rfl hH ⟨⟨rfl, rfl, fun ρ σ h => by simp only [flat, AV.conc, h 100001 (by decide)]⟩, ⟨rfl, rfl, fun _ _ _ => rfl⟩, trivial⟩⟩
        clear hf hH
        exact congrArg (fun b => Ending.returned (EV.conc ρ (eI .i64 b))) (by unfold firstI; simp_all)
      · replace h3 := not_f h3
        refine wc_skip ?_
        refine we_then ?_
        refine wc_seq ?_
        refine wc_reg [0, 1, 2, 3, 4, 5, 6, 7, 8] (by kernel_rfl) ?_
        refine wo_run [0, 1, 2, 3, 4] [0, 1, 5, 30, 31] [100000, 100001] (l' := [(0, eL 100000 0), (1, eI .i64 ((i : Nat) : Int)), (5, eI .i64 (((bk r.L i).up : Nat) : Int)), (30, .s (.a (.ls 100001 0 r.n cap))), (31, eI .i64 (((bk r.L i).up : Nat) : Int))]) (H' := [(100000, ⟨(cRun 100001 r.n cap r.s0 r.s1 r.s2), 51⟩), (100001, ⟨[.vals (rowV gB r.L ++ rest)], 47⟩)]) (by kernel_rfl) ?_
        refine wo_op rfl rfl (ot_rd rfl (rd_indexL (e := 47) 6 ((bk r.L i).up) (((bk r.L i).up : Nat) : Int) rfl (by kernel_rfl) (by kernel_rfl) rfl rfl (rfl) (hr.up_in hi))) ?_
        refine wo_run [6] [0, 1, 5, 33] [100000, 100001] (l' := [(0, eL 100000 0), (1, eI .i64 ((i : Nat) : Int)), (5, eI .i64 (((bk r.L i).up : Nat) : Int)), (33, eL 100001 (0 + ((bk r.L i).up) * 6))]) (H' := [(100000, ⟨(cRun 100001 r.n cap r.s0 r.s1 r.s2), 51⟩), (100001, ⟨[.vals (rowV gB r.L ++ rest)], 47⟩)]) (by kernel_rfl) ?_
        refine wo_op rfl rfl (ot_rd rfl (rd_cellS (b := ⟨[.vals (rowV gB r.L ++ rest)], 47⟩) (.v (.int .i64 (((bk r.L (bk r.L i).up).up : Nat) : Int))) rfl rfl rfl (by kernel_rfl) (fun ρ => up_at (hr.ln (hr.up_in hi)) ρ))) ?_
        refine wo_run [8] [0, 1, 5, 6] [100000, 100001] (l' := [(0, eL 100000 0), (1, eI .i64 ((i : Nat) : Int)), (5, eI .i64 (((bk r.L i).up : Nat) : Int)), (6, eI .i64 (((bk r.L (bk r.L i).up).up : Nat) : Int))]) (H' := [(100000, ⟨(cRun 100001 r.n cap r.s0 r.s1 r.s2), 51⟩), (100001, ⟨[.vals (rowV gB r.L ++ rest)], 47⟩)]) (by kernel_rfl) ?_
        refine wo_nil ?_
        refine we_then ?_
        refine wc_seq ?_
        refine wc_seq ?_
        refine wc_draw (n := 42) [(100000, ⟨(cRun 100001 r.n cap r.s0 r.s1 r.s2), 51⟩), (100001, ⟨[.vals (rowV gB r.L ++ rest)], 47⟩)] (by kernel_rfl) rfl (sub_of [100000, 100001] (by kernel_rfl)) (fun ρ0 => ?_)
        refine wa_takes (fuel := 39) [0, 1, 2] [0, 1, 5, 6, 37] (listed' := #[true, true, true, false, false, false, false, false, false, false, false, false, false, false, false, false, false, false, false, false, false, false, false, false, false, false, false, false, false, false, false, false, false, false, false, false, false, false, false, false, false, false]) (l' := [(0, eL 100000 0), (1, eI .i64 ((i : Nat) : Int)), (5, eI .i64 (((bk r.L i).up : Nat) : Int)), (6, eI .i64 (((bk r.L (bk r.L i).up).up : Nat) : Int)), (37, eB ((((bk r.L (bk r.L i).up).up : Nat) : Int) == 0))]) (pk_then (pk_then pk_body)) rfl (by kernel_rfl) ?_
        refine wa_bool 37 rfl (fun h4 => ?_) (fun h4 => ?_)
        · replace h4 := eq_of_beq h4
          refine wa_takes (fuel := 0) [3, 4, 5, 6, 7, 8, 9, 10, 11, 12, 13, 14, 15, 16, 17, 18, 19, 20, 21, 22, 23, 24, 25, 26, 27, 28, 29, 30, 31, 32, 33, 34, 35, 36, 37, 38, 39, 40, 41] [6, 76] (listed' := #[true, true, true, true, true, true, true, true, true, true, true, true, true, true, true, true, true, true, true, true, true, true, true, true, true, true, true, true, true, true, true, true, true, true, true, true, true, true, true, true, true, true]) (l' := [(6, eI .i64 (((bk r.L (bk r.L i).up).up : Nat) : Int)), (76, eB true)]) (pk_then (pk_then pk_body)) rfl (by kernel_rfl) ?_
          refine wa_done (by kernel_rfl) ?_
          refine we_rest [6, 76] [100000, 100001] (l' := [(6, eI .i64 (((bk r.L (bk r.L i).up).up : Nat) : Int)), (76, eB true)]) (H' := [(100000, ⟨(cRun 100001 r.n cap r.s0 r.s1 r.s2), 51⟩), (100001, ⟨[.vals (rowV gB r.L ++ rest)], 47⟩)]) (by kernel_rfl) (by kernel_rfl) ?_
          refine we_then ?_
          refine wc_true rfl ?_
          refine wc_seq ?_
          refine wc_reg [0] (by kernel_rfl) ?_
          refine wo_run [0] [4] [100000, 100001] (l' := [(4, eI .i64 (-1))]) (H' := [(100000, ⟨(cRun 100001 r.n cap r.s0 r.s1 r.s2), 51⟩), (100001, ⟨[.vals (rowV gB r.L ++ rest)], 47⟩)]) (by kernel_rfl) ?_
          refine wo_nil ?_
          refine we_then ?_
          refine wc_ret ?_
          refine we_then_ret ?_
          refine we_ret (.inl rfl) (v := eI .i64 (-1)) (by kernel_rfl) ?_
          intro σ w' hf
          refine ⟨?_, hf.same rfl rfl hH ⟨⟨rfl, rfl, fun ρ σ h => by simp only [flat, AV.conc, h 100001 (by decide)]⟩, ⟨rfl, rfl, fun _ _ _ => rfl⟩, trivial⟩⟩
          clear hf hH
          exact congrArg (fun b => Ending.returned (EV.conc ρ (eI .i64 b))) (by unfold firstI; simp_all)
        · replace h4 := ne_of_beq_false h4
          refine wa_takes (fuel := 29) [3, 4, 5, 6, 7, 12, 13, 14, 15, 16] [0, 1, 5, 6, 37, 41, 42, 50, 51] (listed' := #[true, true, true, true, true, true, true, true, false, false, false, false, true, true, true, true, true, false, false, false, false, false, false, false, false, false, false, false, false, false, false, false, false, false, false, false, false, false, false, false, false, false]) (l' := [(0, eL 100000 0), (1, eI .i64 ((i : Nat) : Int)), (5, eI .i64 (((bk r.L i).up : Nat) : Int)), (6, eI .i64 (((bk r.L (bk r.L i).up).up : Nat) : Int)), (37, eB false), (41, .s (.a (.ls 100001 0 r.n cap))), (42, eI .i64 (((bk r.L (bk r.L i).up).up : Nat) : Int)), (50, .s (.a (.ls 100001 0 r.n cap))), (51, eI .i64 (((bk r.L i).up : Nat) : Int))]) (pk_then (pk_then pk_body)) rfl (by kernel_rfl) ?_
          refine wa_take 8 (pk_then (pk_then pk_body)) rfl (by kernel_rfl) rfl rfl (rd_indexL (e := 47) 6 ((bk r.L (bk r.L i).up).up) (((bk r.L (bk r.L i).up).up : Nat) : Int) rfl (by kernel_rfl) (by kernel_rfl) rfl rfl (rfl) (hr.up_in (hr.up_in hi))) ?_
          refine wa_takes (fuel := 27) [9] [0, 1, 5, 6, 37, 44, 50, 51] (listed' := #[true, true, true, true, true, true, true, true, true, true, false, false, true, true, true, true, true, false, false, false, false, false, false, false, false, false, false, false, false, false, false, false, false, false, false, false, false, false, false, false, false, false]) (l' := [(0, eL 100000 0), (1, eI .i64 ((i : Nat) : Int)), (5, eI .i64 (((bk r.L i).up : Nat) : Int)), (6, eI .i64 (((bk r.L (bk r.L i).up).up : Nat) : Int)), (37, eB false), (44, eL 100001 ((0 + ((bk r.L (bk r.L i).up).up) * 6) + 1)), (50, .s (.a (.ls 100001 0 r.n cap))), (51, eI .i64 (((bk r.L i).up : Nat) : Int))]) (pk_then (pk_then pk_body)) rfl (by kernel_rfl) ?_
          refine wa_take 10 (pk_then (pk_then pk_body)) rfl (by kernel_rfl) rfl rfl (rd_cellS (b := ⟨[.vals (rowV gB r.L ++ rest)], 47⟩) (.v (.int .i64 (bk r.L (bk r.L (bk r.L i).up).up).view)) rfl rfl rfl (by kernel_rfl) (fun ρ => view_at (hr.ln (hr.up_in (hr.up_in hi))) ρ)) ?_
          refine wa_takes (fuel := 25) [11] [0, 1, 5, 6, 37, 46, 50, 51] (listed' := #[true, true, true, true, true, true, true, true, true, true, true, true, true, true, true, true, true, false, false, false, false, false, false, false, false, false, false, false, false, false, false, false, false, false, false, false, false, false, false, false, false, false]) (l' := [(0, eL 100000 0), (1, eI .i64 ((i : Nat) : Int)), (5, eI .i64 (((bk r.L i).up : Nat) : Int)), (6, eI .i64 (((bk r.L (bk r.L i).up).up : Nat) : Int)), (37, eB false), (46, eI .i64 (IntKind.wrap .i64 ((bk r.L (bk r.L (bk r.L i).up).up).view + 1))), (50, .s (.a (.ls 100001 0 r.n cap))), (51, eI .i64 (((bk r.L i).up : Nat) : Int))]) (pk_then (pk_then pk_body)) rfl (by kernel_rfl) ?_
          refine wa_take 17 (pk_then (pk_then pk_body)) rfl (by kernel_rfl) rfl rfl (rd_indexL (e := 47) 6 ((bk r.L i).up) (((bk r.L i).up : Nat) : Int) rfl (by kernel_rfl) (by kernel_rfl) rfl rfl (rfl) (hr.up_in hi)) ?_
          refine wa_takes (fuel := 23) [18] [0, 1, 5, 6, 37, 46, 53] (listed' := #[true, true, true, true, true, true, true, true, true, true, true, true, true, true, true, true, true, true, true, false, false, false, false, false, false, false, false, false, false, false, false, false, false, false, false, false, false, false, false, false, false, false]) (l' := [(0, eL 100000 0), (1, eI .i64 ((i : Nat) : Int)), (5, eI .i64 (((bk r.L i).up : Nat) : Int)), (6, eI .i64 (((bk r.L (bk r.L i).up).up : Nat) : Int)), (37, eB false), (46, eI .i64 (IntKind.wrap .i64 ((bk r.L (bk r.L (bk r.L i).up).up).view + 1))), (53, eL 100001 ((0 + ((bk r.L i).up) * 6) + 1))]) (pk_then (pk_then pk_body)) rfl (by kernel_rfl) ?_
          refine wa_take 19 (pk_then (pk_then pk_body)) rfl (by kernel_rfl) rfl rfl (rd_cellS (b := ⟨[.vals (rowV gB r.L ++ rest)], 47⟩) (.v (.int .i64 (bk r.L (bk r.L i).up).view)) rfl rfl rfl (by kernel_rfl) (fun ρ => view_at (hr.ln (hr.up_in hi)) ρ)) ?_
          refine wa_takes (fuel := 19) [20, 21, 22] [0, 1, 5, 6, 57] (listed' := #[true, true, true, true, true, true, true, true, true, true, true, true, true, true, true, true, true, true, true, true, true, true, true, false, false, false, false, false, false, false, false, false, false, false, false, false, false, false, false, false, false, false]) (l' := [(0, eL 100000 0), (1, eI .i64 ((i : Nat) : Int)), (5, eI .i64 (((bk r.L i).up : Nat) : Int)), (6, eI .i64 (((bk r.L (bk r.L i).up).up : Nat) : Int)), (57, eB ((IntKind.wrap .i64 ((bk r.L (bk r.L (bk r.L i).up).up).view + 1)) != (bk r.L (bk r.L i).up).view))]) (pk_then (pk_then pk_body)) rfl (by kernel_rfl) ?_
          refine wa_bool 57 rfl (fun h5 => ?_) (fun h5 => ?_)
          · replace h5 := bne_iff_ne.1 h5
            refine wa_takes (fuel := 0) [23, 24, 25, 26, 27, 28, 29, 30, 31, 32, 33, 34, 35, 36, 37, 38, 39, 40, 41] [6, 76] (listed' := #[true, true, true, true, true, true, true, true, true, true, true, true, true, true, true, true, true, true, true, true, true, true, true, true, true, true, true, true, true, true, true, true, true, true, true, true, true, true, true, true, true, true]) (l' := [(6, eI .i64 (((bk r.L (bk r.L i).up).up : Nat) : Int)), (76, eB true)]) (pk_then (pk_then pk_body)) rfl (by kernel_rfl) ?_
            refine wa_done (by kernel_rfl) ?_
            refine we_rest [6, 76] [100000, 100001] (l' := [(6, eI .i64 (((bk r.L (bk r.L i).up).up : Nat) : Int)), (76, eB true)]) (H' := [(100000, ⟨(cRun 100001 r.n cap r.s0 r.s1 r.s2), 51⟩), (100001, ⟨[.vals (rowV gB r.L ++ rest)], 47⟩)]) (by kernel_rfl) (by kernel_rfl) ?_
            refine we_then ?_
            refine wc_true rfl ?_
            refine wc_seq ?_
            refine wc_reg [0] (by kernel_rfl) ?_
            refine wo_run [0] [4] [100000, 100001] (l' := [(4, eI .i64 (-1))]) (H' := [(100000, ⟨(cRun 100001 r.n cap r.s0 r.s1 r.s2), 51⟩), (100001, ⟨[.vals (rowV gB r.L ++ rest)], 47⟩)]) (by kernel_rfl) ?_
            refine wo_nil ?_
            refine we_then ?_
            refine wc_ret ?_
            refine we_then_ret ?_
            refine we_ret (.inl rfl) (v := eI .i64 (-1)) (by kernel_rfl) ?_
            intro σ w' hf
            refine ⟨?_, hf.same rfl rfl hH ⟨⟨rfl, rfl, fun ρ σ h => by simp only [flat, AV.conc, h 100001 (by decide)]⟩, ⟨rfl, rfl, fun _ _ _ => rfl⟩, trivial⟩⟩
            clear hf hH
            exact congrArg (fun b => Ending.returned (EV.conc ρ (eI .i64 b))) (by unfold firstI; simp_all)
          · replace h5 := bne_eq_false_iff_eq.1 h5
            refine wa_takes (fuel := 9) [23, 24, 25, 26, 27, 32, 33, 34, 35, 36] [6, 57, 61, 62, 70, 71] (listed' := #[true, true, true, true, true, true, true, true, true, true, true, true, true, true, true, true, true, true, true, true, true, true, true, true, true, true, true, true, false, false, false, false, true, true, true, true, true, false, false, false, false, false]) (l' := [(6, eI .i64 (((bk r.L (bk r.L i).up).up : Nat) : Int)), (57, eB false), (61, .s (.a (.ls 100001 0 r.n cap))), (62, eI .i64 (((bk r.L i).up : Nat) : Int)), (70, .s (.a (.ls 100001 0 r.n cap))), (71, eI .i64 ((i : Nat) : Int))]) (pk_then (pk_then pk_body)) rfl (by kernel_rfl) ?_
            refine wa_take 28 (pk_then (pk_then pk_body)) rfl (by kernel_rfl) rfl rfl (rd_indexL (e := 47) 6 ((bk r.L i).up) (((bk r.L i).up : Nat) : Int) rfl (by kernel_rfl) (by kernel_rfl) rfl rfl (rfl) (hr.up_in hi)) ?_
            refine wa_takes (fuel := 7) [29] [6, 57, 64, 70, 71] (listed' := #[true, true, true, true, true, true, true, true, true, true, true, true, true, true, true, true, true, true, true, true, true, true, true, true, true, true, true, true, true, true, false, false, true, true, true, true, true, false, false, false, false, false]) (l' := [(6, eI .i64 (((bk r.L (bk r.L i).up).up : Nat) : Int)), (57, eB false), (64, eL 100001 ((0 + ((bk r.L i).up) * 6) + 1)), (70, .s (.a (.ls 100001 0 r.n cap))), (71, eI .i64 ((i : Nat) : Int))]) (pk_then (pk_then pk_body)) rfl (by kernel_rfl) ?_
            refine wa_take 30 (pk_then (pk_then pk_body)) rfl (by kernel_rfl) rfl rfl (rd_cellS (b := ⟨[.vals (rowV gB r.L ++ rest)], 47⟩) (.v (.int .i64 (bk r.L (bk r.L i).up).view)) rfl rfl rfl (by kernel_rfl) (fun ρ => view_at (hr.ln (hr.up_in hi)) ρ)) ?_
            refine wa_takes (fuel := 5) [31] [6, 57, 66, 70, 71] (listed' := #[true, true, true, true, true, true, true, true, true, true, true, true, true, true, true, true, true, true, true, true, true, true, true, true, true, true, true, true, true, true, true, true, true, true, true, true, true, false, false, false, false, false]) (l' := [(6, eI .i64 (((bk r.L (bk r.L i).up).up : Nat) : Int)), (57, eB false), (66, eI .i64 (IntKind.wrap .i64 ((bk r.L (bk r.L i).up).view + 1))), (70, .s (.a (.ls 100001 0 r.n cap))), (71, eI .i64 ((i : Nat) : Int))]) (pk_then (pk_then pk_body)) rfl (by kernel_rfl) ?_
            refine wa_take 37 (pk_then (pk_then pk_body)) rfl (by kernel_rfl) rfl rfl (rd_indexL (e := 47) 6 i ((i : Nat) : Int) rfl (by kernel_rfl) (by kernel_rfl) rfl rfl (rfl) (hi)) ?_
            refine wa_takes (fuel := 3) [38] [6, 57, 66, 73] (listed' := #[true, true, true, true, true, true, true, true, true, true, true, true, true, true, true, true, true, true, true, true, true, true, true, true, true, true, true, true, true, true, true, true, true, true, true, true, true, true, true, false, false, false]) (l' := [(6, eI .i64 (((bk r.L (bk r.L i).up).up : Nat) : Int)), (57, eB false), (66, eI .i64 (IntKind.wrap .i64 ((bk r.L (bk r.L i).up).view + 1))), (73, eL 100001 ((0 + i * 6) + 1))]) (pk_then (pk_then pk_body)) rfl (by kernel_rfl) ?_
            refine wa_take 39 (pk_then (pk_then pk_body)) rfl (by kernel_rfl) rfl rfl (rd_cellS (b := ⟨[.vals (rowV gB r.L ++ rest)], 47⟩) (.v (.int .i64 (bk r.L i).view)) rfl rfl rfl (by kernel_rfl) (fun ρ => view_at (hr.ln (hi)) ρ)) ?_
            refine wa_takes (fuel := 0) [40, 41] [6, 76] (listed' := #[true, true, true, true, true, true, true, true, true, true, true, true, true, true, true, true, true, true, true, true, true, true, true, true, true, true, true, true, true, true, true, true, true, true, true, true, true, true, true, true, true, true]) (l' := [(6, eI .i64 (((bk r.L (bk r.L i).up).up : Nat) : Int)), (76, eB ((IntKind.wrap .i64 ((bk r.L (bk r.L i).up).view + 1)) != (bk r.L i).view))]) (pk_then (pk_then pk_body)) rfl (by kernel_rfl) ?_
            refine wa_done (by kernel_rfl) ?_
            refine we_rest [6, 76] [100000, 100001] (l' := [(6, eI .i64 (((bk r.L (bk r.L i).up).up : Nat) : Int)), (76, eB ((IntKind.wrap .i64 ((bk r.L (bk r.L i).up).view + 1)) != (bk r.L i).view))]) (H' := [(100000, ⟨(cRun 100001 r.n cap r.s0 r.s1 r.s2), 51⟩), (100001, ⟨[.vals (rowV gB r.L ++ rest)], 47⟩)]) (by kernel_rfl) (by kernel_rfl) ?_
            refine we_then ?_
            refine wc_cond rfl (fun h6 => ?_) (fun h6 => ?_)
            · replace h6 := bne_iff_ne.1 h6
              refine wc_seq ?_
              refine wc_reg [0] (by kernel_rfl) ?_
              refine wo_run [0] [4] [100000, 100001] (l' := [(4, eI .i64 (-1))]) (H' := [(100000, ⟨(cRun 100001 r.n cap r.s0 r.s1 r.s2), 51⟩), (100001, ⟨[.vals (rowV gB r.L ++ rest)], 47⟩)]) (by kernel_rfl) ?_
              refine wo_nil ?_
              refine we_then ?_
              refine wc_ret ?_
              refine we_then_ret ?_
              refine we_ret (.inl rfl) (v := eI .i64 (-1)) (by kernel_rfl) ?_
              intro σ w' hf
              refine ⟨?_, hf.same rfl rfl hH ⟨⟨rfl, rfl, fun ρ σ h => by simp only [flat, AV.conc, h 100001 (by decide)]⟩, ⟨rfl, rfl, fun _ _ _ => rfl⟩, trivial⟩⟩
              clear hf hH
              exact congrArg (fun b => Ending.returned (EV.conc ρ (eI .i64 b))) (by unfold firstI; simp_all)
            · replace h6 := bne_eq_false_iff_eq.1 h6
              refine wc_skip ?_
              refine we_then ?_
              refine wc_seq ?_
              refine wc_reg [0, 1] (by kernel_rfl) ?_
              refine wo_run [0, 1] [4] [100000, 100001] (l' := [(4, eI .i64 (((bk r.L (bk r.L i).up).up : Nat) : Int))]) (H' := [(100000, ⟨(cRun 100001 r.n cap r.s0 r.s1 r.s2), 51⟩), (100001, ⟨[.vals (rowV gB r.L ++ rest)], 47⟩)]) (by kernel_rfl) ?_
              refine wo_nil ?_
              refine we_then ?_
              refine wc_ret ?_
              refine we_ret (.inl rfl) (v := eI .i64 (((bk r.L (bk r.L i).up).up : Nat) : Int)) (by kernel_rfl) ?_
              intro σ w' hf
              refine ⟨?_, hf.same rfl rfl hH ⟨⟨rfl, rfl, fun ρ σ h => by simp only [flat, AV.conc, h 100001 (by decide)]⟩, ⟨rfl, rfl, fun _ _ _ => rfl⟩, trivial⟩⟩
              clear hf hH
              exact congrArg (fun b => Ending.returned (EV.conc ρ (eI .i64 b))) (by unfold firstI; simp_all)

set_option maxHeartbeats 4000000 in
theorem at_any (D : List Int) (hD : Lk D) (w : World) (ρ : Nat → Nat) :
    Calls Try.prog 44 ([sL 100000 0, .agg [.ints .u8 32 D]].map (SV.conc ρ)).toArray w fun r' w' => r' = .returned (EV.conc ρ (eI .i64 ((lk D : Nat) : Int))) ∧ Below w.heap.size w w' := by
  refine calls_enter (vs := [sL 100000 0, .agg [.ints .u8 32 D]]) (N := 13) [] ρ Try.func44 rfl rfl (Nat.le_of_ble_eq_true rfl) (okv_a (okv_agg (okc_ints (hD.len) (okc_nil)) (okv_nil))) noH noH2 ?_ _ rfl
  refine wc_seq ?_
  refine wc_reg [0, 1] (by kernel_rfl) ?_
  refine wo_run [0, 1] [3] [3] (l' := [(3, eL 3 0)]) (H' := [(3, ⟨[.ints .u8 32 D], 23⟩)]) (by kernel_rfl) ?_
  refine wo_nil ?_
  refine we_then ?_
  refine wc_seq ?_
  refine wc_reg [0, 1, 2, 3, 4, 5, 6, 7, 8] (by kernel_rfl) ?_
  refine wo_run [0, 1, 2, 3, 4, 5, 6, 7, 8] [4] [] (l' := [(4, eI .i64 (bOr .i64 (IntKind.wrap .i64 ((IntKind.wrap .i64 (D.getD 0 0)) * 2 ^ (8 : Nat))) (IntKind.wrap .i64 (D.getD 1 0))))]) (H' := []) (by kernel_rfl) ?_
  refine wo_nil ?_
  refine we_then ?_
  refine wc_ret ?_
  refine we_ret (.inl rfl) (v := eI .i64 (bOr .i64 (IntKind.wrap .i64 ((IntKind.wrap .i64 (D.getD 0 0)) * 2 ^ (8 : Nat))) (IntKind.wrap .i64 (D.getD 1 0)))) (by kernel_rfl) ?_
  intro σ w' hf
  exact ⟨congrArg (fun b => Ending.returned (EV.conc ρ (eI .i64 b))) (lk_at hD), hf.below noS⟩

end Go.Proofs.Ytckhcmdjgkoocaa
