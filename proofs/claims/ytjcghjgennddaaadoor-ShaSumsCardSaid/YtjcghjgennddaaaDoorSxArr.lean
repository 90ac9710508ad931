/- Own arrays at places that are not written out; slices of them; bytes that are only read; copy. -/
import Derived.Test.YtjcghjgennddaaaDoorSxUnr
import Derived.Laws.CopyRow
import Derived.Laws.Slices
import Derived.Deep.Upon
namespace Go.Sx
open Go.RowKit
set_option linter.unusedVariables false
set_option linter.unusedSimpArgs false

/-! cells of a run of numbers within a block -/
theorem seg_at {cs : List Chunk} (pre : List Chunk) {k : IntKind} {n : Nat} {xs : List Int} {post : List Chunk} (h : cs = pre ++ .ints k n xs :: post) (hp : okCs pre) (hx : xs.length = n) {i off : Nat} (hi : i < n) (ho : off = sz pre + i) (ρ : Nat → Nat) :
    (flat ρ cs)[off]? = some (.int k (xs.getD i 0)) := by
  subst h; subst ho
  rw [flat_append, List.getElem?_append_right (by rw [flat_length ρ hp]; omega), flat_length ρ hp]
  simp only [flat]
  rw [List.getElem?_append_left (by simp; omega)]
  simp [hx ▸ hi]
theorem seg_len {cs : List Chunk} (pre : List Chunk) {k : IntKind} {n : Nat} {xs : List Int} {post : List Chunk} (h : cs = pre ++ .ints k n xs :: post) (hp : okCs pre) (hx : xs.length = n) {off : Nat} (ho : off ≤ sz pre + n) (ρ : Nat → Nat) :
    off ≤ (flat ρ cs).length := by
  subst h
  rw [flat_append, List.length_append, flat_length ρ hp]
  simp only [flat, List.length_append, List.length_map, hx]
  omega
theorem take_len_add {α : Type} (A X : List α) (i : Nat) : (A ++ X).take (A.length + i) = A ++ X.take i := by
  rw [List.take_append, List.take_of_length_le (by omega), Nat.add_sub_cancel_left]
theorem drop_len_add {α : Type} (A X : List α) (i : Nat) : (A ++ X).drop (A.length + i) = X.drop i := by
  rw [List.drop_append, List.drop_of_length_le (by omega), Nat.add_sub_cancel_left, List.nil_append]
/-- Some cells of a run of numbers written anew. -/
theorem seg_put {cs : List Chunk} (pre : List Chunk) {k : IntKind} {n : Nat} {xs ys : List Int} {post : List Chunk} (h : cs = pre ++ .ints k n xs :: post) (hp : okCs pre) (hx : xs.length = n) {i off : Nat} (hi : i + ys.length ≤ n) (ho : off = sz pre + i) (ρ : Nat → Nat) {cs' : List Chunk}
    (h' : cs' = pre ++ .ints k n (xs.take i ++ ys ++ xs.drop (i + ys.length)) :: post) :
    flat ρ cs' = (flat ρ cs).take off ++ ys.map (Value.int k) ++ (flat ρ cs).drop (off + ys.length) := by
  subst h; subst ho; subst h'
  have e1 : ∀ zs : List Int, flat ρ (pre ++ .ints k n zs :: post) = flat ρ pre ++ (zs.map (Value.int k) ++ flat ρ post) := fun zs => by rw [flat_append]; rfl
  have hl := flat_length ρ hp
  rw [e1, e1, ← hl, Nat.add_assoc, take_len_add, drop_len_add, List.take_append_of_le_length (by simp; omega), List.drop_append_of_le_length (by simp; omega)]
  simp [List.map_take, List.map_drop]
theorem set_seg {xs : List Int} {i : Nat} (hi : i < xs.length) (x : Int) : xs.take i ++ [x] ++ xs.drop (i + 1) = xs.set i x := by
  rw [List.set_eq_take_append_cons_drop, if_pos hi]; simp
theorem seg_put1 {cs : List Chunk} (pre : List Chunk) {k : IntKind} {n : Nat} {xs : List Int} {x : Int} {post : List Chunk} (h : cs = pre ++ .ints k n xs :: post) (hp : okCs pre) (hx : xs.length = n) {i off : Nat} (hi : i < n) (ho : off = sz pre + i) (ρ : Nat → Nat) {cs' : List Chunk}
    (h' : cs' = pre ++ .ints k n (xs.set i x) :: post) :
    flat ρ cs' = (flat ρ cs).take off ++ flat ρ (SV.chunks (sI k x)) ++ (flat ρ cs).drop (off + sz (SV.chunks (sI k x))) :=
  seg_put pre (ys := [x]) h hp hx (by simp only [List.length_singleton]; omega) ho ρ (by rw [h', ← set_seg (by omega) x]; rfl)

/-! slice expressions -/
section
variable {P : Program} {C : Ctx} {l : Env} {H : Heap}
theorem sb_lh (w : World) (s : Bool) (len cap : Nat) (kl kh : IntKind) {x y : Int} {i j : Nat} (hx : x = (i : Int)) (hy : y = (j : Int)) (h1 : i ≤ j) (h2 : j ≤ cap) : (Instr.sliceBounds s len cap (some (.int kl x)) (some (.int kh y)) none).run P w = .ok (i, j, cap) w := by
  subst hx; subst hy
  simp [Instr.sliceBounds, run_sliceBound, h1, h2]
theorem sb_h (w : World) (s : Bool) (len cap : Nat) (kh : IntKind) {y : Int} {j : Nat} (hy : y = (j : Int)) (h2 : j ≤ cap) : (Instr.sliceBounds s len cap none (some (.int kh y)) none).run P w = .ok (0, j, cap) w := by
  subst hy
  simp [Instr.sliceBounds, run_sliceBound, h2]
theorem sb_l (w : World) (s : Bool) (len cap : Nat) (kl : IntKind) {x : Int} {i : Nat} (hx : x = (i : Int)) (h1 : i ≤ len) : (Instr.sliceBounds s len cap (some (.int kl x)) none none).run P w = .ok (i, len, cap) w := by
  subst hx
  simp [Instr.sliceBounds, run_sliceBound, h1]
theorem sb_all (w : World) (s : Bool) (len cap : Nat) : (Instr.sliceBounds s len cap none none none).run P w = .ok (0, len, cap) w := by
  simp [Instr.sliceBounds]
def evo (l : Env) : Option Operand → Option (Option Value)
  | none => some none
  | some x => match ev l x with
    | some (.s (.a (.v v))) => some (some v)
    | _ => none
theorem evo_conc {ρ : Nat → Nat} {a : Act} {w : World} (h : Sv C ρ l H a w) {x : Option Operand} {v : Option Value} (hx : evo l x = some v) : x.map a.eval = v := by
  cases x with
  | none => simp [evo] at hx; subst hx; rfl
  | some y =>
    simp only [evo] at hx
    split at hx
    · rename_i v' hv
      have := (h.ev hv).1
      simp only [Option.some.injEq] at hx
      subst hx
      simp only [Option.map_some, this]; rfl
    · cases hx
/-- A slice of a slice that is only read. -/
theorem rd_sliceV {o : Oper} {t e : TypeId} {x : Operand} {lo hi : Option Operand} {ad ad' : Option Addr} {len cap i j size : Nat} {vl vh : Option Value} (hop : o.op = .slice t x lo hi none) (hu : P.underlying t = some (.slice e)) (hs : (P.info? e).map (·.size) = some size)
    (hx : ev l x = some (.s (.a (.v (.slice ad len cap))))) (hl : evo l lo = some vl) (hh : evo l hi = some vh) (hb : ∀ w, (Instr.sliceBounds true len cap vl vh none).run P w = .ok (i, j, cap) w)
    (ha : ad' = if cap = i then ad else ad.map (·.add (i * size))) : ∀ ρ a w, Sv C ρ l H a w → (execOp a.eval o).run P w = .ok (.value ((eV (.slice ad' (j - i) (cap - i))).conc ρ)) w ∧ (eV (.slice ad' (j - i) (cap - i))).ok := by
  intro ρ a w h
  refine ⟨?_, trivial⟩
  obtain ⟨dst, op, type, pos, after, guard⟩ := o
  simp only at hop
  subst hop; subst ha
  have e1 := (h.ev hx).1
  cases hq : P.info? e with
  | none => simp [hq] at hs
  | some inf =>
    have hz : inf.size = size := by simpa [hq] using hs
    have e2 := evo_conc h hl
    have e3 := evo_conc h hh
    simp only [execOp, e1, e2, e3]
    simp [Instr.sliceAt, Instr.slice, run_underlying hu, EV.conc, SV.conc, AV.conc, hb w, Result.andThen, sizeOf, typeInfo, hq, hz]
/-- A slice of an own slice. -/
theorem rd_sliceL {o : Oper} {t e : TypeId} {x : Operand} {lo hi : Option Operand} {k off len cap i j size : Nat} {vl vh : Option Value} (hop : o.op = .slice t x lo hi none) (hu : P.underlying t = some (.slice e)) (hs : (P.info? e).map (·.size) = some size)
    (hx : ev l x = some (.s (.a (.ls k off len cap)))) (hl : evo l lo = some vl) (hh : evo l hi = some vh) (hb : ∀ w, (Instr.sliceBounds true len cap vl vh none).run P w = .ok (i, j, cap) w)
    (hi0 : i = 0 ∨ i < cap) : ∀ ρ a w, Sv C ρ l H a w → (execOp a.eval o).run P w = .ok (.value ((EV.s (.a (.ls k (off + i * size) (j - i) (cap - i)))).conc ρ)) w ∧ (EV.s (.a (.ls k (off + i * size) (j - i) (cap - i)))).ok := by
  intro ρ a w h
  refine ⟨?_, trivial⟩
  obtain ⟨dst, op, type, pos, after, guard⟩ := o
  simp only at hop
  subst hop
  have e1 := (h.ev hx).1
  cases hq : P.info? e with
  | none => simp [hq] at hs
  | some inf =>
    have hz : inf.size = size := by simpa [hq] using hs
    have e2 := evo_conc h hl
    have e3 := evo_conc h hh
    have ea : (if cap = i then (⟨ρ k, off, none⟩ : Addr) else (⟨ρ k, off, none⟩ : Addr).add (i * size)) = ⟨ρ k, off + i * size, none⟩ := by
      have : (⟨ρ k, off, none⟩ : Addr).add (i * size) = ⟨ρ k, off + i * size, none⟩ := Addr.add_mid ..
      rw [this]
      split
      · rcases hi0 with rfl | hi0
        · simp
        · omega
      · rfl
    simp only [execOp, e1, e2, e3]
    simp [Instr.sliceAt, Instr.slice, run_underlying hu, EV.conc, SV.conc, AV.conc, hb w, Result.andThen, sizeOf, typeInfo, hq, hz]
    split
    · rename_i hc; rw [if_pos hc] at ea; exact congrArg some ea
    · rename_i hc; rw [if_neg hc] at ea; exact congrArg some ea
/-- A slice of an own array. -/
theorem rd_sliceA {o : Oper} {t e : TypeId} {x : Operand} {lo hi : Option Operand} {k off n i j size : Nat} {vl vh : Option Value} (hop : o.op = .slice t x lo hi none) (hu : P.underlying t = some (.array n e)) (hs : (P.info? e).map (·.size) = some size)
    (hx : ev l x = some (.s (.a (.lp k off)))) (hl : evo l lo = some vl) (hh : evo l hi = some vh) (hb : ∀ w, (Instr.sliceBounds false n n vl vh none).run P w = .ok (i, j, n) w)
    (hi0 : i = 0 ∨ i < n) : ∀ ρ a w, Sv C ρ l H a w → (execOp a.eval o).run P w = .ok (.value ((EV.s (.a (.ls k (off + i * size) (j - i) (n - i)))).conc ρ)) w ∧ (EV.s (.a (.ls k (off + i * size) (j - i) (n - i)))).ok := by
  intro ρ a w h
  refine ⟨?_, trivial⟩
  obtain ⟨dst, op, type, pos, after, guard⟩ := o
  simp only at hop
  subst hop
  have e1 := (h.ev hx).1
  cases hq : P.info? e with
  | none => simp [hq] at hs
  | some inf =>
    have hz : inf.size = size := by simpa [hq] using hs
    have e2 := evo_conc h hl
    have e3 := evo_conc h hh
    have ea : (if n = i then (⟨ρ k, off, none⟩ : Addr) else (⟨ρ k, off, none⟩ : Addr).add (i * size)) = ⟨ρ k, off + i * size, none⟩ := by
      have : (⟨ρ k, off, none⟩ : Addr).add (i * size) = ⟨ρ k, off + i * size, none⟩ := Addr.add_mid ..
      rw [this]
      split
      · rcases hi0 with rfl | hi0
        · simp
        · omega
      · rfl
    simp only [execOp, e1, e2, e3]
    simp [Instr.sliceAt, Instr.sureAddr, run_underlying hu, EV.conc, SV.conc, AV.conc, hb w, Result.andThen, sizeOf, typeInfo, hq, hz]
    split
    · rename_i hc; rw [if_pos hc] at ea; exact ea
    · rename_i hc; rw [if_neg hc] at ea; exact ea

/-! bytes that are only read -/
/-- Bytes lie in a world at a slice value: the slice, its block and place are told apart. -/
structure BAt (w : World) (X : Nat → Prop) (a : Option Addr) (len cap b off : Nat) (L : List Int) : Prop where
  ln : L.length = len
  lc : len ≤ cap
  cm : cap ≤ maxLen
  ptr : 0 < len → a = some ⟨b, off, none⟩ ∧ X b ∧ b < w.heap.size
  cell : ∀ i x, L[i]? = some x → w.cell? ⟨b, off + i, none⟩ = some (.int .u8 x)
def OkB (L : List Int) : Prop := ∀ x ∈ L, 0 ≤ x ∧ x < 256
theorem BAt.drop {w : World} {X : Nat → Prop} {a : Option Addr} {len cap b off : Nat} {L : List Int} (h : BAt w X a len cap b off L) {m : Nat} (hm : m ≤ len) : BAt w X (if cap = m then a else a.map (·.add (m * 1))) (len - m) (cap - m) b (off + m) (L.drop m) := by
  obtain ⟨h1, h2, h3, h4, h5⟩ := h
  refine ⟨by simp [h1], by omega, by omega, fun h0 => ?_, fun i x hi => ?_⟩
  · obtain ⟨rfl, p2, p3⟩ := h4 (by omega)
    rw [if_neg (by omega)]
    refine ⟨?_, p2, p3⟩
    have : (⟨b, off, none⟩ : Addr).add m = ⟨b, off + m, none⟩ := Addr.add_mid ..
    simp [this]
  · have := h5 (m + i) x (by simpa using hi)
    rw [← Nat.add_assoc] at this
    exact this
theorem BAt.take {w : World} {X : Nat → Prop} {a : Option Addr} {len cap b off : Nat} {L : List Int} (h : BAt w X a len cap b off L) {m : Nat} (hm : m ≤ len) : BAt w X a m cap b off (L.take m) := by
  obtain ⟨h1, h2, h3, h4, h5⟩ := h
  refine ⟨by simp [h1]; omega, by omega, h3, fun h0 => h4 (by omega), fun i x hi => h5 i x ?_⟩
  rw [List.getElem?_take] at hi
  split at hi
  · exact hi
  · cases hi
theorem BAt.at {w : World} {X : Nat → Prop} {a : Option Addr} {len cap b off : Nat} {L : List Int} (h : BAt w X a len cap b off L) {i : Nat} (hi : i < len) : w.cell? ⟨b, off + i, none⟩ = some (.int .u8 (L.getD i 0)) := by
  refine h.cell i _ ?_
  have : i < L.length := by rw [h.ln]; exact hi
  simp [this]
theorem BAt.cellsAt {w : World} {X : Nat → Prop} {a : Option Addr} {len cap b off : Nat} {L : List Int} (h : BAt w X a len cap b off L) {i : Nat} (hi : i < len) : CellsAt w b (off + i * 1) [cI .u8 (L.getD i 0)] := by
  intro j v hv
  cases j with
  | zero => simp only [flat, List.getElem?_cons_zero, Option.some.injEq] at hv; subst hv; rw [Nat.mul_one, Nat.add_zero]; exact h.at hi
  | succ j => simp [flat] at hv
theorem BAt.nil (w : World) (X : Nat → Prop) : BAt w X none 0 0 0 0 [] := ⟨rfl, Nat.le_refl _, Nat.zero_le _, fun h => absurd h (Nat.lt_irrefl _), fun i x h => by simp at h⟩
theorem BAt.mono {w w' : World} {X Y : Nat → Prop} {a : Option Addr} {len cap b off : Nat} {L : List Int} (h : BAt w X a len cap b off L) (hX : ∀ i, X i → Y i) (hw : ∀ i, X i → i < w.heap.size → w'.heap[i]? = w.heap[i]? ) : BAt w' Y a len cap b off L := by
  obtain ⟨h1, h2, h3, h4, h5⟩ := h
  refine ⟨h1, h2, h3, fun h0 => ?_, fun i x hi => ?_⟩
  · obtain ⟨p1, p2, p3⟩ := h4 h0
    refine ⟨p1, hX _ p2, ?_⟩
    have := hw _ p2 p3
    rw [Array.getElem?_eq_getElem p3] at this
    exact (Array.getElem?_eq_some_iff.1 this).1
  · have hl : i < len := by
      rw [← h1]
      rcases Nat.lt_or_ge i L.length with h | h
      · exact h
      · rw [List.getElem?_eq_none h] at hi; cases hi
    obtain ⟨p1, p2, p3⟩ := h4 (by omega)
    have := h5 i x hi
    unfold World.cell? at this ⊢
    rw [show w'.heap[b]? = w.heap[b]? from hw _ p2 p3]
    exact this
/-- What an operation reads of such bytes. -/
theorem src_bat {P : Program} {C : Ctx} {l : Env} {H : Heap} {y : Operand} {ad : Option Addr} {len cap b off : Nat} {L : List Int} (hy : ev l y = some (.s (.a (.v (.slice ad len cap))))) (h : BAt C.E C.X ad len cap b off L) (h0 : 0 < len) {m : Nat} (hm : m ≤ len) :
    ∀ ρ a w, Sv C ρ l H a w → ∃ p c, a.eval y = .slice (some p) len c ∧ ∀ j v, ((L.take m).map (Value.int .u8))[j]? = some v → w.cell? (p.add j) = some v := by
  intro ρ a w hs
  obtain ⟨rfl, p2, p3⟩ := h.ptr h0
  refine ⟨⟨b, off, none⟩, cap, (hs.ev hy).1, fun j v hv => ?_⟩
  have e : (⟨b, off, none⟩ : Addr).add j = ⟨b, off + j, none⟩ := Addr.add_mid ..
  rw [e, cell_of_ag hs.ag p2]
  rw [List.getElem?_map, List.getElem?_take] at hv
  split at hv
  · cases hx : L[j]? with
    | none => simp [hx] at hv
    | some x =>
      simp only [hx, Option.map_some, Option.some.injEq] at hv
      subst hv
      exact h.cell j x hx
  · simp at hv
/-- copy into an own block. -/
theorem ot_copy {Q : Exit → Act → World → Prop} {o : Oper} {dT sT e : TypeId} {x y : Operand} {k off dl dc sl : Nat} {b : Blk} (vs : List Value) (cs' : List Chunk)
    (hop : o.op = .call { callee := .builtin .copy, args := #[x, y], argTypes := #[dT, sT] }) (hd : dstOk C.N o.dst = true) (hu : P.underlying dT = some (.slice e)) (hsz : (P.info? e).map (·.size) = some 1)
    (hx : ev l x = some (.s (.a (.ls k off dl dc)))) (hk : getH H k = some b) (n : Nat) (hnn : vs.length = n) (hn : n = Nat.min sl dl)
    (hsrc : ∀ ρ a w, Sv C ρ l H a w → ∃ p c, a.eval y = .slice (some p) sl c ∧ ∀ j v, vs[j]? = some v → w.cell? (p.add j) = some v)
    (hfit : ∀ ρ, off + vs.length ≤ (flat ρ b.cs).length) (h1 : ∀ v ∈ vs, v.oneCell' = true) (hok : okCs cs')
    (hcs : ∀ ρ, flat ρ cs' = (flat ρ b.cs).take off ++ vs ++ (flat ρ b.cs).drop (off + vs.length)) :
    OT P Q C o l H (putO l o.dst (eI .i64 (n : Nat))) (setH H k ⟨cs', b.ty⟩) := by
  subst hnn
  intro ρ a w hs K hK
  obtain ⟨p, c, ey, hcell⟩ := hsrc ρ a w hs.toSv
  have ex := (hs.ev hx).1
  obtain ⟨g1, g2⟩ := hs.hp k b hk
  have hrun := run_copy_row P w dT sT (o.type) e (ρ k) off dl dc p sl c (flat ρ b.cs).toArray b.ty vs hu hsz g1 hn hcell (by simpa using hfit ρ) h1
  have hrow : (((flat ρ b.cs).toArray.toList.take off ++ vs ++ (flat ρ b.cs).toArray.toList.drop (off + vs.length)).toArray) = (flat ρ cs').toArray := by rw [hcs ρ]
  rw [hrow] at hrun
  obtain ⟨dst, op, type, pos, after, guard⟩ := o
  simp only at hop hd hrun
  subst hop
  have hrun0 : (execOp a.eval { dst := dst, op := .call { callee := .builtin .copy, args := #[x, y], argTypes := #[dT, sT] }, type := type, pos := pos, after := after, guard := guard }).run P w = .ok (.value (goInt vs.length)) (w.setRow (ρ k) (flat ρ cs').toArray) := by
    simp only [EV.conc, SV.conc, AV.conc] at ex
    simp [execOp, resolve, invoke, builtin, ex, ey, hrun, Result.andThen]
  simp only [Oper.wp, hrun0, Oper.upon]
  have s1 := hs.setRow hk (cs' := cs') hok
  exact hK ρ _ _ .refl (s1.putO hd (e := eI .i64 (vs.length : Nat)) trivial) 
/-- An element of an array that is only read. -/
theorem rd_indexP {o : Oper} {t e : TypeId} {x ix : Operand} {b off n : Nat} {ik : IntKind} (size i : Nat) (X : Int) (hop : o.op = .indexAddr t x ix) (hu : P.underlying t = some (.array n e)) (hi : (P.info? e).map (·.size) = some size)
    (hx : ev l x = some (.s (.a (.v (.pointer (some ⟨b, off, none⟩)))))) (hix : ev l ix = some (.s (.a (.v (.int ik X))))) (hX : X = (i : Int)) (hlt : i < n) :
    ∀ ρ a w, Sv C ρ l H a w → (execOp a.eval o).run P w = .ok (.value ((eV (.pointer (some ⟨b, off + i * size, none⟩))).conc ρ)) w ∧ (eV (.pointer (some ⟨b, off + i * size, none⟩))).ok := by
  intro ρ a w hs
  refine ⟨?_, trivial⟩
  obtain ⟨dst, oop, type, pos, after, guard⟩ := o
  simp only at hop
  subst hop; subst hX
  have ex := (hs.ev hx).1
  have ey := (hs.ev hix).1
  cases hq : P.info? e with
  | none => simp [hq] at hi
  | some inf =>
    have hsz : inf.size = size := by simpa [hq] using hi
    have ea : (⟨b, off, none⟩ : Addr).add (i * size) = ⟨b, off + i * size, none⟩ := Addr.add_mid ..
    simp only [execOp, ex, ey]
    simp [Instr.indexAt, Instr.sureAddr, asIntOf, run_underlying hu, EV.conc, SV.conc, AV.conc, sizeOf, typeInfo, hq, hsz, hlt, ea, Result.andThen]
/-- An element of an array's value. -/
theorem rd_indexN {o : Oper} {t e : TypeId} {x ix : Operand} {k ik : IntKind} {n : Nat} {xs : List Int} (i : Nat) (X : Int) (hop : o.op = .index t x ix) (hu : P.underlying t = some (.array n e)) (he : P.underlying e = some (.int k)) (hi : (P.info? e).map (·.size) = some 1) (hag : isAggB P e = some false)
    (hx : ev l x = some (.s (.agg [.ints k n xs]))) (hix : ev l ix = some (.s (.a (.v (.int ik X))))) (hX : X = (i : Int)) (hlt : i < n) :
    ∀ ρ a w, Sv C ρ l H a w → (execOp a.eval o).run P w = .ok (.value ((eI k (xs.getD i 0)).conc ρ)) w ∧ (eI k (xs.getD i 0)).ok := by
  intro ρ a w hs
  refine ⟨?_, trivial⟩
  obtain ⟨dst, oop, type, pos, after, guard⟩ := o
  simp only at hop
  subst hop; subst hX
  obtain ⟨ex, hok⟩ := hs.ev hx
  have hl : xs.length = n := hok (.ints k n xs) (List.mem_singleton.2 rfl)
  have ey := (hs.ev hix).1
  have hgt := isAggB_run hag w
  cases hq : P.info? e with
  | none => simp [hq] at hi
  | some inf =>
    have hsz : inf.size = 1 := by simpa [hq] using hi
    have hget : xs[i]? = some (xs.getD i 0) := by
      have : i < xs.length := by omega
      simp [this]
    have hp : (part e ((xs.map (Value.int k)).toArray) (i * 1)).run P w = .ok (.int k (xs.getD i 0)) w := by
      have hm : ((xs.map (Value.int k)).toArray)[i * 1]? = some (.int k (xs.getD i 0)) := by rw [Nat.mul_one, List.getElem?_toArray, List.getElem?_map, hget]; rfl
      simp only [part, Sem.run_bind, hgt, Result.andThen_ok, Bool.false_eq_true, if_false, hm]
      rfl
    simp only [execOp, ex, ey]
    simp only [EV.conc, SV.conc, AV.conc, flat, List.append_nil]
    have hlt' : 0 ≤ (i : Int) ∧ (i : Int) < (n : Int) := ⟨by omega, by omega⟩
    simp only [Instr.index, asIntOf, Sem.run_bind, Sem.run_pure, Result.andThen_ok, run_underlying hu, hlt', if_true, sizeOf, typeInfo, run_program, hq, hsz, Int.toNat_natCast, and_self, hp]
/-- A conversion that changes nothing. -/
theorem rd_conv {o : Oper} {t t' : TypeId} {x : Operand} {k off len cap : Nat} (hop : o.op = .convert t t' x) (hx : ev l x = some (.s (.a (.ls k off len cap)))) (hc : ∀ ρ : Nat → Nat, ∀ w, (convert t t' (.slice (some ⟨ρ k, off, none⟩) len cap)).run P w = .ok (.slice (some ⟨ρ k, off, none⟩) len cap) w) :
    ∀ ρ a w, Sv C ρ l H a w → (execOp a.eval o).run P w = .ok (.value ((EV.s (.a (.ls k off len cap))).conc ρ)) w ∧ (EV.s (.a (.ls k off len cap))).ok := by
  intro ρ a w hs
  refine ⟨?_, trivial⟩
  obtain ⟨dst, oop, type, pos, after, guard⟩ := o
  simp only at hop
  subst hop
  have ex := (hs.ev hx).1
  simp only [execOp, ex]
  have := hc ρ w
  simp [EV.conc, SV.conc, AV.conc, this, Result.andThen]
theorem wo_flat {Q : Exit → Act → World → Prop} {ops : Array Oper} {ks : List Nat} (k : Nat) {b : Blk} (cs' : List Chunk) (hk : getH H k = some b) (hf : ∀ ρ, Sx.flat ρ cs' = Sx.flat ρ b.cs) (hok : okCs cs') (h : WO P ops Q C ks l (setH H k ⟨cs', b.ty⟩)) : WO P ops Q C ks l H :=
  fun ρ a w hs => h ρ a w (hs.flat hk hf hok)
/-- Bytes in an own block, as a call reads them. -/
theorem At.bat {ρ : Nat → Nat} {w : World} (h : At C ρ H w) {X : Nat → Prop} {k off len cap : Nat} {b : Blk} {L : List Int} (hk : getH H k = some b) (hX : X (ρ k)) (hl : L.length = len) (hlc : len ≤ cap) (hcm : cap ≤ maxLen) (hc : ∀ i x, L[i]? = some x → (flat ρ b.cs)[off + i]? = some (.int .u8 x)) :
    BAt w X (some ⟨ρ k, off, none⟩) len cap (ρ k) off L := by
  have hp := h.hp k b hk
  have hlt : ρ k < w.heap.size := (Array.getElem?_eq_some_iff.1 hp).1
  refine ⟨hl, hlc, hcm, fun _ => ⟨rfl, hX, hlt⟩, fun i x hi => ?_⟩
  rw [cell_of_row w (ρ k) _ _ _ (0, 0) hp]
  simpa using hc i x hi
theorem At.bats {ρ : Nat → Nat} {w : World} (h : At C ρ H w) {a : Option Addr} {len cap b off : Nat} {L : List Int} (hb : BAt C.E C.X a len cap b off L) {Y : Nat → Prop} (hY : ∀ i, C.X i → Y i) : BAt w Y a len cap b off L := by
  obtain ⟨h1, h2, h3, h4, h5⟩ := hb
  refine ⟨h1, h2, h3, fun h0 => ?_, fun i x hi => ?_⟩
  · obtain ⟨p1, p2, p3⟩ := h4 h0
    exact ⟨p1, hY _ p2, (h.ag _ p2).1⟩
  · have hl : i < len := by
      rw [← h1]
      rcases Nat.lt_or_ge i L.length with h | h
      · exact h
      · rw [List.getElem?_eq_none h] at hi; cases hi
    obtain ⟨p1, p2, p3⟩ := h4 (by omega)
    rw [cell_of_ag h.ag p2]
    exact h5 i x hi
theorem adr0 (a : Option Addr) (cap s : Nat) : a = if cap = 0 then a else a.map (·.add (0 * s)) := by
  split
  · rfl
  · cases a with
    | none => rfl
    | some p =>
      rw [Nat.zero_mul]
      obtain ⟨b, off, spot⟩ := p
      simp [Addr.add]
/-- What is told of a number's place in a table of the snapshot. -/
theorem tab_at {E : World} {b off : Nat} {k : IntKind} {n : Nat} {xs : List Int} (h : CellsAt E b off [.ints k n xs]) (hx : xs.length = n) {i : Nat} (hi : i < n) : CellsAt E b (off + i * 1) [cI k (xs.getD i 0)] := by
  intro j v hv
  cases j with
  | zero =>
    simp only [flat, List.getElem?_cons_zero, Option.some.injEq] at hv
    subst hv
    rw [Nat.mul_one, Nat.add_zero]
    refine h i _ ?_
    have : i < xs.length := by omega
    simp [flat, this]; rfl
  | succ j => simp [flat] at hv
end
end Go.Sx
