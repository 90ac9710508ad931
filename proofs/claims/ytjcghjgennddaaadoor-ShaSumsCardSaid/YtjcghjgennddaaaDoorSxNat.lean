/- Numbers that are plainly natural; what else the walks over bytes want. -/
import Derived.Test.YtjcghjgennddaaaDoorSxApp
import Derived.Laws.Bits64
import Derived.Laws.BitsAllLaws
namespace Go.Sx
open Go.RowKit
set_option linter.unusedVariables false
set_option linter.unusedSimpArgs false
theorem w_nat_i64 {a : Nat} (h : a < 9223372036854775808) : IntKind.wrap .i64 (a : Int) = (a : Int) := by rw [IntKind.wrap_i64]; omega
theorem w_add_i64 {a b : Nat} (h : a + b < 9223372036854775808) : IntKind.wrap .i64 ((a : Int) + (b : Int)) = ((a + b : Nat) : Int) := by rw [IntKind.wrap_i64]; omega
theorem w_sub_i64 {a b : Nat} (h : b ≤ a ∧ a < 9223372036854775808) : IntKind.wrap .i64 ((a : Int) - (b : Int)) = ((a - b : Nat) : Int) := by rw [IntKind.wrap_i64]; omega
theorem w_mul_i64 {a b : Nat} (h : a * b < 9223372036854775808) : IntKind.wrap .i64 ((a : Int) * (b : Int)) = ((a * b : Nat) : Int) := by
  rw [← Int.natCast_mul, IntKind.wrap_i64]; omega
theorem w_nat_u64 {a : Nat} (h : a < 18446744073709551616) : IntKind.wrap .u64 (a : Int) = (a : Int) := by rw [IntKind.wrap_u64]; omega
theorem w_add_u64 {a b : Nat} (h : a + b < 18446744073709551616) : IntKind.wrap .u64 ((a : Int) + (b : Int)) = ((a + b : Nat) : Int) := by rw [IntKind.wrap_u64]; omega
theorem w_sub_u64 {a b : Nat} (h : b ≤ a ∧ a < 18446744073709551616) : IntKind.wrap .u64 ((a : Int) - (b : Int)) = ((a - b : Nat) : Int) := by rw [IntKind.wrap_u64]; omega
theorem w_mul_u64 {a b : Nat} (h : a * b < 18446744073709551616) : IntKind.wrap .u64 ((a : Int) * (b : Int)) = ((a * b : Nat) : Int) := by
  rw [← Int.natCast_mul, IntKind.wrap_u64]; omega
section
variable {P : Program} {C : Ctx} {l : Env} {H : Heap}
theorem srcof_ints {tx e' k c n ty : Nat} {x : Operand} {kd : IntKind} {xs : List Int} (hx : ev l x = some (.s (.a (.ls k 0 n c)))) (hu : P.underlying tx = some (.slice e')) (hk : getH H k = some ⟨[.ints kd n xs], ty⟩) (hl : xs.length = n) : SrcOf P C l H 1 tx x n (xs.map (Value.int kd)) :=
  srcof_own hu hx hk (by simp [hl]) (fun u hu => by
    obtain ⟨y, _, rfl⟩ := List.mem_map.1 hu
    rfl) (fun ρ j u hj => by simpa [flat] using hj)
theorem srcof_one {tx e' k c ty : Nat} {x : Operand} {kd : IntKind} {v : Int} (hx : ev l x = some (.s (.a (.ls k 0 1 c)))) (hu : P.underlying tx = some (.slice e')) (hk : getH H k = some ⟨[cI kd v], ty⟩) : SrcOf P C l H 1 tx x 1 ([v].map (Value.int kd)) :=
  srcof_own hu hx hk rfl (fun u hu => by
    obtain ⟨y, _, rfl⟩ := List.mem_map.1 hu
    rfl) (fun ρ j u hj => by simpa [flat, AV.conc] using hj)
theorem seg_drop {cs : List Chunk} (pre : List Chunk) {k : IntKind} {n j off : Nat} {xs : List Int} {post : List Chunk} (h : cs = pre ++ .ints k n xs :: post) (hp : okCs pre) (hx : xs.length = n) (ho : off = sz pre + j) (ρ : Nat → Nat) :
    ∀ i x, (xs.drop j)[i]? = some x → (flat ρ cs)[off + i]? = some (.int k x) := by
  intro i x hi
  rw [List.getElem?_drop] at hi
  have hl : j + i < n := by
    rw [← hx]
    rcases Nat.lt_or_ge (j + i) xs.length with h | h
    · exact h
    · rw [List.getElem?_eq_none h] at hi; cases hi
  rw [seg_at pre h hp hx hl (by omega) ρ]
  simp [hi]
theorem BAt.enter {w : World} {X Y : Nat → Prop} {a : Option Addr} {len cap b off : Nat} {L : List Int} (h : BAt w X a len cap b off L) (hX : ∀ i, X i → i < w.heap.size → Y i) : BAt w Y a len cap b off L :=
  ⟨h.ln, h.lc, h.cm, fun h0 => ⟨(h.ptr h0).1, hX _ (h.ptr h0).2.1 (h.ptr h0).2.2, (h.ptr h0).2.2⟩, h.cell⟩
theorem xI0 {ρ : Nat → Nat} {w : World} (i : Nat) (h : i < w.heap.size) : i < w.heap.size ∧ ¬ ∃ k b, getH ([] : Heap) k = some b ∧ ρ k = i := ⟨h, fun ⟨k, b, h, _⟩ => by cases h⟩
theorem xI1 {ρ : Nat → Nat} {w : World} {k0 : Nat} {b0 : Blk} (i : Nat) (hne : i ≠ ρ k0) (h : i < w.heap.size) : i < w.heap.size ∧ ¬ ∃ k b, getH [(k0, b0)] k = some b ∧ ρ k = i := ⟨h, fun ⟨k, b, h1, h2⟩ => by
  by_cases e : k0 = k
  · subst e; exact hne h2.symm
  · rw [getH_cons_ne e] at h1; cases h1⟩
/-- A block that is handed over, but that the call does not look at, is as it was. -/
theorem Ran.frame {ρ σ : Nat → Nat} {Hc Hx : Heap} {w w' : World} (h : Ran ρ Hc Hx w w' σ) {k0 : Nat} {b0 : Blk} (hk : 100000 ≤ k0) (hH : HeapAt ρ ((k0, b0) :: Hc) w) (hnc : getH Hc k0 = none) (hnx : getH Hx k0 = none) (hf : ∀ ρ σ : Nat → Nat, flat σ b0.cs = flat ρ b0.cs) :
    Ran ρ ((k0, b0) :: Hc) ((k0, b0) :: Hx) w w' σ := by
  have up : ∀ {H : Heap} {k : Nat} {b : Blk}, getH H k0 = none → getH H k = some b → getH ((k0, b0) :: H) k = some b := fun hn hk' => by
    rw [getH_cons_ne (fun e => by subst e; rw [hn] at hk'; cases hk')]; exact hk'
  have same : getH ((k0, b0) :: Hc) k0 = some b0 := getH_cons_same
  obtain ⟨p1, p2⟩ := hH.hp k0 b0 same
  have hlt : ρ k0 < w.heap.size := (Array.getElem?_eq_some_iff.1 p1).1
  have hns : ¬ ∃ k b, getH Hc k = some b ∧ ρ k = ρ k0 := fun ⟨k, b, g1, g2⟩ => by
    have := hH.inj k k0 b b0 (up hnc g1) same g2
    subst this
    rw [hnc] at g1; cases g1
  have hpin : σ k0 = ρ k0 := h.pin k0 hk
  have hold := h.keep.block (ρ k0) hlt hns
  refine ⟨⟨h.keep.os, h.keep.tape, h.keep.output, h.keep.size, fun i hi hn => h.keep.block i hi (fun ⟨k, b, g1, g2⟩ => hn ⟨k, b, up hnc g1, g2⟩)⟩, fun k b hb => ?_, fun k k' b b' hb hb' e => ?_, h.pin⟩
  · by_cases e : k0 = k
    · subst e
      rw [getH_cons_same] at hb
      simp only [Option.some.injEq] at hb
      subst hb
      refine ⟨?_, p2, .inr ⟨k0, b0, same, hpin.symm⟩⟩
      rw [hpin, hold, p1, hf ρ σ]
    · rw [getH_cons_ne e] at hb
      obtain ⟨q1, q2, q3⟩ := h.hp k b hb
      exact ⟨q1, q2, q3.imp id fun ⟨k', b', g1, g2⟩ => ⟨k', b', up hnc g1, g2⟩⟩
  · have cross : ∀ {j : Nat} {c : Blk}, getH Hx j = some c → σ k0 = σ j → False := fun {j c} hc he => by
      obtain ⟨q1, q2, q3⟩ := h.hp j c hc
      rcases q3 with q3 | ⟨k', b', g1, g2⟩
      · omega
      · exact hns ⟨k', b', g1, by omega⟩
    by_cases e1 : k0 = k
    · by_cases e2 : k0 = k'
      · omega
      · rw [getH_cons_ne e2] at hb'
        subst e1
        exact (cross hb' e).elim
    · rw [getH_cons_ne e1] at hb
      by_cases e2 : k0 = k'
      · subst e2
        exact (cross hb e.symm).elim
      · rw [getH_cons_ne e2] at hb'
        exact h.inj k k' b b' hb hb' e
theorem HeapAt.tail {ρ : Nat → Nat} {k0 : Nat} {b0 : Blk} {Hc : Heap} {w : World} (h : HeapAt ρ ((k0, b0) :: Hc) w) (hn : getH Hc k0 = none) : HeapAt ρ Hc w := by
  have up : ∀ {k : Nat} {b : Blk}, getH Hc k = some b → getH ((k0, b0) :: Hc) k = some b := fun hk => by
    rw [getH_cons_ne (fun e => by subst e; rw [hn] at hk; cases hk)]; exact hk
  exact ⟨fun k b hb => h.hp k b (up hb), fun k k' b b' hb hb' e => h.inj k k' b b' (up hb) (up hb') e⟩
theorem HeapAt.bat {ρ : Nat → Nat} {w : World} {H : Heap} (h : HeapAt ρ H w) {X : Nat → Prop} {k off len cap : Nat} {b : Blk} {L : List Int} (hk : getH H k = some b) (hX : X (ρ k)) (hl : L.length = len) (hlc : len ≤ cap) (hcm : cap ≤ maxLen) (hc : ∀ i x, L[i]? = some x → (flat ρ b.cs)[off + i]? = some (.int .u8 x)) :
    BAt w X (some ⟨ρ k, off, none⟩) len cap (ρ k) off L := by
  have hp := (h.hp k b hk).1
  have hlt : ρ k < w.heap.size := (Array.getElem?_eq_some_iff.1 hp).1
  refine ⟨hl, hlc, hcm, fun _ => ⟨rfl, hX, hlt⟩, fun i x hi => ?_⟩
  rw [cell_of_row w (ρ k) _ _ _ (0, 0) hp]
  simpa using hc i x hi
/-- A byte of an own row. -/
theorem row_at {L : List Int} {rest : List Value} {i off : Nat} (hi : i < L.length) (ho : off = i) (ρ : Nat → Nat) : (flat ρ [.vals (L.map (Value.int .u8) ++ rest)])[off]? = some (.int .u8 (L.getD i 0)) := by
  subst ho
  rw [flat_vals, List.getElem?_append_left (by simpa using hi)]
  simp [hi]
theorem row_set {L : List Int} {rest : List Value} {i off : Nat} {x : Int} (hi : i < L.length) (ho : off = i) (ρ : Nat → Nat) :
    flat ρ [.vals ((L.set i x).map (Value.int .u8) ++ rest)] = (flat ρ [.vals (L.map (Value.int .u8) ++ rest)]).take off ++ flat ρ (SV.chunks (sI .u8 x)) ++ (flat ρ [.vals (L.map (Value.int .u8) ++ rest)]).drop (off + sz (SV.chunks (sI .u8 x))) := by
  subst ho
  rw [flat_vals, flat_vals, ← set_seg hi x]
  have e : sz (SV.chunks (sI .u8 x)) = 1 := rfl
  have e2 : flat ρ (SV.chunks (sI .u8 x)) = [.int .u8 x] := rfl
  rw [e, e2, List.take_append_of_le_length (by simp; omega), List.drop_append_of_le_length (by simp; omega)]
  simp [List.map_take, List.map_drop]
end
end Go.Sx
