/- Bytes told apart again: no Go in sight; and what the walk over Split wants. -/
import Derived.Test.YtjcghjgennddaaaDoorShaH
import Derived.Test.YtjcghjgennddaaaDoorSxFrz
namespace Go.Proofs.YtjcghjgennddaaaDoor
open Go.RowKit Go.Sx
set_option linter.unusedVariables false
set_option linter.unusedSimpArgs false
/-- The number that the first eight bytes are. -/
def be8v (L : List Int) : Int := ((((((L.getD 0 0 * 256 + L.getD 1 0) * 256 + L.getD 2 0) * 256 + L.getD 3 0) * 256 + L.getD 4 0) * 256 + L.getD 5 0) * 256 + L.getD 6 0) * 256 + L.getD 7 0
theorem be8v_lt {L : List Int} (h : OkB L) : 0 ≤ be8v L ∧ be8v L < 18446744073709551616 := by
  have a0 := getD_ok h 0
  have a1 := getD_ok h 1
  have a2 := getD_ok h 2
  have a3 := getD_ok h 3
  have a4 := getD_ok h 4
  have a5 := getD_ok h 5
  have a6 := getD_ok h 6
  have a7 := getD_ok h 7
  unfold be8v
  omega
theorem or_mid (a b k : Nat) (hb : b < 2 ^ k) : a * 2 ^ k ||| b = a * 2 ^ k + b := by
  rw [← Nat.shiftLeft_eq, ← Nat.shiftLeft_add_eq_or_of_lt hb]
theorem nat64 (n : Nat) (hn : n < 2 ^ 64) : (BitVec.ofInt 64 (n : Int)).toNat = n := by
  rw [BitVec.ofInt_natCast, BitVec.toNat_ofNat]; exact Nat.mod_eq_of_lt hn
theorem or64 (a b : Nat) (hb : b < 256) (h : a * 256 + b < 18446744073709551616) : bOr .u64 ((a * 256 : Nat) : Int) (b : Int) = ((a * 256 + b : Nat) : Int) := by
  have g1 : a * 256 < 2 ^ 64 := Nat.lt_of_le_of_lt (Nat.le_add_right _ b) h
  have g2 : b < 2 ^ 64 := Nat.lt_of_le_of_lt (Nat.le_add_left b _) h
  have e : a * 256 ||| b = a * 256 + b := or_mid a b 8 hb
  have : bOr .u64 ((a * 256 : Nat) : Int) (b : Int) = IntKind.wrap .u64 (((BitVec.ofInt 64 ((a * 256 : Nat) : Int)).toNat ||| (BitVec.ofInt 64 (b : Int)).toNat : Nat) : Int) := rfl
  rw [this, nat64 _ g1, nat64 _ g2, e, IntKind.wrap_u64]
  omega
theorem or_step64 {a b : Int} (h0 : 0 ≤ a) (h1 : a < 72057594037927936) (h2 : 0 ≤ b ∧ b < 256) : bOr .u64 (IntKind.wrap .u64 (a * 2 ^ (8 : Nat))) (IntKind.wrap .u64 b) = a * 256 + b := by
  obtain ⟨m, rfl⟩ := Int.eq_ofNat_of_zero_le h0
  obtain ⟨n, rfl⟩ := Int.eq_ofNat_of_zero_le h2.1
  have e : ((m : Int) * 2 ^ (8 : Nat)) = ((m * 256 : Nat) : Int) := by
    show (m : Int) * 256 = _
    rw [Int.natCast_mul]; rfl
  rw [e, IntKind.wrap_u64, IntKind.wrap_u64]
  have e1 : ((m * 256 : Nat) : Int) % 18446744073709551616 = ((m * 256 : Nat) : Int) := by omega
  have e2 : (n : Int) % 18446744073709551616 = (n : Int) := by omega
  rw [e1, e2, or64 m n (by omega) (by omega), Int.natCast_add, Int.natCast_mul]; rfl
theorem or_zero64 {b : Int} (h2 : 0 ≤ b ∧ b < 256) : bOr .u64 0 (IntKind.wrap .u64 b) = b := by
  have := or_step64 (a := 0) (by omega) (by omega) h2
  rw [show IntKind.wrap .u64 (0 * 2 ^ (8 : Nat)) = 0 from rfl] at this
  rw [this]; omega
abbrev st64 (a b : Int) : Int := bOr .u64 (IntKind.wrap .u64 (a * 2 ^ (8 : Nat))) (IntKind.wrap .u64 b)
theorem be8_tk {L : List Int} (h : OkB L) :
    st64 (st64 (st64 (st64 (st64 (st64 (st64 (bOr .u64 0 (IntKind.wrap .u64 ((L.take 8).getD 0 0))) ((L.take 8).getD 1 0)) ((L.take 8).getD 2 0)) ((L.take 8).getD 3 0)) ((L.take 8).getD 4 0)) ((L.take 8).getD 5 0)) ((L.take 8).getD 6 0)) ((L.take 8).getD 7 0) = be8v L := by
  have a0 := getD_ok h 0
  have a1 := getD_ok h 1
  have a2 := getD_ok h 2
  have a3 := getD_ok h 3
  have a4 := getD_ok h 4
  have a5 := getD_ok h 5
  have a6 := getD_ok h 6
  have a7 := getD_ok h 7
  rw [getD_take L (by omega), getD_take L (by omega), getD_take L (by omega), getD_take L (by omega), getD_take L (by omega), getD_take L (by omega), getD_take L (by omega), getD_take L (by omega)]
  unfold st64 be8v
  rw [or_zero64 a0, or_step64 (by omega) (by omega) a1, or_step64 (by omega) (by omega) a2, or_step64 (by omega) (by omega) a3, or_step64 (by omega) (by omega) a4, or_step64 (by omega) (by omega) a5, or_step64 (by omega) (by omega) a6, or_step64 (by omega) (by omega) a7]
def splitN : Nat → List Int → Option (List (List Int))
  | 0, r => if r.length = 0 then some [] else none
  | k + 1, r => if r.length < 8 ∨ be8v r > ((r.length - 8 : Nat) : Int) then none else (splitN k (r.drop (8 + (be8v r).toNat))).map fun t => (r.drop 8).take (be8v r).toNat :: t
/-- The parts of which bytes are joined. -/
def splitB (L : List Int) : Option (List (List Int)) :=
  if L.length < 8 then none else if be8v L > (((L.length - 8) / 8 : Nat) : Int) then none else splitN (be8v L).toNat (L.drop 8)
/-! what the walk wants -/
def rowS (V : List SD) : List Value := V.map SD.val
theorem rowS_app (A : List SD) (d : SD) : rowS (A ++ [d]) = rowS A ++ [d.val] := by simp [rowS]
theorem rowS_len (V : List SD) : (rowS V).length = V.length := by simp [rowS]
theorem BAll.app {w : World} {X : Nat → Prop} {d : SD} {L : List Int} (hd : BAt w X d.a d.len d.cap d.b d.off L) : ∀ {V : List SD} {D : List (List Int)}, BAll w X V D → BAll w X (V ++ [d]) (D ++ [L])
  | [], [], _ => ⟨hd, trivial⟩
  | v :: V, M :: D, h => ⟨h.1, BAll.app hd h.2⟩
  | [], _ :: _, h => h.elim
  | _ :: _, [], h => h.elim
theorem BAll.ext {C C' : Ctx} (h : CExt C C') {n : Nat} : ∀ {V : List SD} {D : List (List Int)}, BAll C.E (fun i => C.X i ∧ n ≤ i) V D → BAll C'.E (fun i => C'.X i ∧ n ≤ i) V D
  | [], [], _ => trivial
  | v :: V, M :: D, hh => ⟨hh.1.ext h (fun _ p => p.1) (fun _ p q => ⟨q, p.2⟩), BAll.ext h hh.2⟩
  | [], _ :: _, h => h.elim
  | _ :: _, [], h => h.elim
theorem BAll.fin {w w' : World} {X Y : Nat → Prop} (hX : ∀ i, X i → i < w.heap.size → Y i ∧ i < w'.heap.size ∧ w'.heap[i]? = w.heap[i]?) : ∀ {V : List SD} {D : List (List Int)}, BAll w X V D → BAll w' Y V D
  | [], [], _ => trivial
  | v :: V, M :: D, h => ⟨by
    obtain ⟨h1, h2, h3, h4, h5⟩ := h.1
    refine ⟨h1, h2, h3, fun h0 => ?_, fun i x hi => ?_⟩
    · obtain ⟨p1, p2, p3⟩ := h4 h0
      exact ⟨p1, (hX _ p2 p3).1, (hX _ p2 p3).2.1⟩
    · have hl : 0 < v.len := by
        rw [← h1]
        rcases Nat.lt_or_ge i M.length with h | h
        · omega
        · rw [List.getElem?_eq_none h] at hi; cases hi
      obtain ⟨p1, p2, p3⟩ := h4 hl
      have := h5 i x hi
      unfold World.cell? at this ⊢
      rw [show w'.heap[v.b]? = w.heap[v.b]? from (hX _ p2 p3).2.2]
      exact this, BAll.fin hX h.2⟩
  | [], _ :: _, h => h.elim
  | _ :: _, [], h => h.elim
/-- A slice of slices that a call has made. -/
structure LD where
  a : Option Addr
  len : Nat
  cap : Nat
  b : Nat
  off : Nat
  V : Nat → SD
def ld0 : LD := ⟨none, 0, 0, 0, 0, fun _ => sd0⟩
theorem BBAt.nil (w : World) (X : Nat → Prop) : BBAt w X none 0 0 0 0 (fun _ => sd0) [] := ⟨rfl, Nat.le_refl _, Nat.zero_le _, fun h => absurd h (Nat.lt_irrefl _), fun i h => absurd h (Nat.not_lt_zero _), fun i h => absurd h (Nat.not_lt_zero _)⟩
theorem Fin.bball {C : Ctx} {σ : Nat → Nat} {H : Heap} {w' : World} (hf : Fin C σ H w') (hS : ∀ i, ¬ C.S i) {k cp n ty : Nat} {V : List SD} {D : List (List Int)} {rs : List Value} (hk : getH H k = some ⟨[.vals (rowS V ++ rs)], ty⟩) (hn : V.length = n) (hc : n ≤ cp) (hm : cp ≤ maxLen)
    (hall : BAll C.E (fun i => C.X i ∧ C.w0.heap.size ≤ i) V D) : BBAt w' (fun i => C.w0.heap.size ≤ i) (some ⟨σ k, 0, none⟩) n cp (σ k) 0 (fun i => V.getD i sd0) D := by
  obtain ⟨p1, p2, p3⟩ := hf.hp k _ hk
  have hlt : σ k < w'.heap.size := (Array.getElem?_eq_some_iff.1 p1).1
  have hall' : BAll w' (fun i => C.w0.heap.size ≤ i) V D := BAll.fin (fun i hi hl => ⟨hi.2, hf.ag i hi.1⟩) hall
  subst hn
  refine ⟨hall'.len, hc, hm, fun _ => ⟨rfl, p3.resolve_right (hS _), hlt⟩, fun i hi => ?_, fun i hi => hall'.get i hi⟩
  rw [cell_of_row w' (σ k) _ _ _ (0, 0) p1]
  rw [flat_vals, List.getElem?_toArray, List.getElem?_append_left (by rw [rowS_len]; omega)]
  simp [rowS, hi]
theorem srcof_oneV {P : Program} {C : Ctx} {l : Env} {H : Heap} {tx e' k c ty : Nat} {x : Operand} {u : Value} (hx : ev l x = some (.s (.a (.ls k 0 1 c)))) (hu : P.underlying tx = some (.slice e')) (hk : getH H k = some ⟨[cV u], ty⟩) (h1 : u.oneCell' = true) : SrcOf P C l H 1 tx x 1 [u] :=
  srcof_own hu hx hk rfl (fun v hv => by simp at hv; subst hv; exact h1) (fun ρ j v hj => by simpa [flat, AV.conc] using hj)
theorem w_quo8 (a : Nat) (h : a < 18446744073709551616) : IntKind.wrap .u64 (Int.tdiv ((a : Nat) : Int) 8) = ((a / 8 : Nat) : Int) := by
  rw [Int.tdiv_eq_ediv_of_nonneg (by omega), IntKind.wrap_u64]; omega
theorem w_int {x : Int} (h0 : 0 ≤ x) (h1 : x < 9223372036854775808) : IntKind.wrap .i64 x = ((x.toNat : Nat) : Int) := by rw [IntKind.wrap_i64]; omega
end Go.Proofs.YtjcghjgennddaaaDoor
