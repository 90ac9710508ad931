/- Operations that change what a call owns: variables, stores, slices' literals; own blocks that are only read from now on. -/
import Derived.Test.YtlgffgnkkihaoaaDoorDxOp4
import Derived.Deep.AppendSrc
import Derived.Laws.MakeOwn
import Derived.Laws.CopyRow
namespace Go.Dx
open Go.RowKit
set_option linter.unusedVariables false
set_option linter.unusedSimpArgs false
section
variable {P : Program} {C : Ctx} {F : Nat → Prop} {ρ : Nat → Loc} {l : Env} {H : Heap} {a : Act} {w : World} {G : List (Nat × List DC)}

/-- What a step leaves as it was: all but the blocks in H; H': what is one's own behind it; nd: the names that it gives. -/
structure Fr (H H' : Heap) (nd : Nat → Prop) (F : Nat → Prop) (ρ : Nat → Loc) (w : World) (F' : Nat → Prop) (ρ' : Nat → Loc) (w' : World) : Prop where
  os : w'.os = w.os
  tape : w'.tape = w.tape
  output : w'.output = w.output
  size : w.heap.size ≤ w'.heap.size
  blk : ∀ i, i < w.heap.size → (∀ k b, getH H k = some b → ¬ (ρ k).Z i) → w'.heap[i]? = w.heap[i]?
  f0 : ∀ i, F i → F' i
  f1 : ∀ i, F' i → F i ∨ w.heap.size ≤ i ∨ ∃ k b, getH H k = some b ∧ (ρ k).Z i
  rho : ∀ k, ¬ nd k → ρ' k = ρ k
  own : ∀ k b, getH H' k = some b → ∀ i, (ρ' k).Z i → w.heap.size ≤ i ∨ ∃ k0 b0, getH H k0 = some b0 ∧ (ρ k0).Z i
theorem Fr.refl (H : Heap) (F : Nat → Prop) (ρ : Nat → Loc) (w : World) : Fr H H (fun _ => False) F ρ w F ρ w :=
  ⟨rfl, rfl, rfl, Nat.le_refl _, fun _ _ _ => rfl, fun _ h => h, fun _ h => .inl h, fun _ _ => rfl, fun k b hk i hi => .inr ⟨k, b, hk, hi⟩⟩
theorem Fr.trans {H H1 H2 : Heap} {nd nd' : Nat → Prop} {F F1 F2 : Nat → Prop} {ρ ρ1 ρ2 : Nat → Loc} {w w1 w2 : World} (h : Fr H H1 nd F ρ w F1 ρ1 w1) (k : Fr H1 H2 nd' F1 ρ1 w1 F2 ρ2 w2) : Fr H H2 (fun i => nd i ∨ nd' i) F ρ w F2 ρ2 w2 where
  os := k.os.trans h.os
  tape := k.tape.trans h.tape
  output := k.output.trans h.output
  size := Nat.le_trans h.size k.size
  blk i hi hZ := by
    rw [k.blk i (Nat.lt_of_lt_of_le hi h.size) fun j b hj hz => ?_, h.blk i hi hZ]
    rcases h.own j b hj i hz with h1 | ⟨k0, b0, h1, h2⟩
    · omega
    · exact hZ k0 b0 h1 h2
  f0 i hi := k.f0 i (h.f0 i hi)
  f1 i hi := by
    rcases k.f1 i hi with h1 | h1 | ⟨j, b, h1, h2⟩
    · exact h.f1 i h1
    · exact .inr (.inl (Nat.le_trans h.size h1))
    · exact .inr (h.own j b h1 i h2)
  rho i hi := (k.rho i fun e => hi (.inr e)).trans (h.rho i fun e => hi (.inl e))
  own j b hj i hi := by
    rcases k.own j b hj i hi with h1 | ⟨k0, b0, h1, h2⟩
    · exact .inl (Nat.le_trans h.size h1)
    · exact h.own k0 b0 h1 i h2
/-- A new block, or what was an own one by another name. -/
theorem Fr.new (h : St C F ρ l H a w) {H' : Heap} {w' : World} {d : Nat} {x : Loc} (hB : Below w.heap.size w w') (hx : ∀ i, x.Z i → w.heap.size ≤ i) (hH : ∀ k b, getH H' k = some b → k = d ∨ (k ≠ d ∧ ∃ b0, getH H k = some b0)) : Fr H H' (fun i => i = d) F ρ w F (updL ρ d x) w' where
  os := hB.os
  tape := hB.tape
  output := hB.output
  size := hB.size
  blk i hi _ := hB.block i hi
  f0 _ hi := hi
  f1 _ hi := .inl hi
  rho k hk := by simp [updL, hk]
  own k b hk i hi := by
    rcases hH k b hk with rfl | ⟨hne, b0, hk0⟩
    · simp only [updL, if_pos] at hi; exact .inl (hx i hi)
    · simp only [updL, if_neg hne] at hi; exact .inr ⟨k, b0, hk0, hi⟩
theorem cons_cases {H : Heap} {d : Nat} {c : Blk} : ∀ k b, getH ((d, c) :: H) k = some b → k = d ∨ (k ≠ d ∧ ∃ b0, getH H k = some b0) := fun k b hk => by
  by_cases e : k = d
  · exact .inl e
  · have : Nat.beq d k = false := nbeq_false (Ne.symm e)
    simp only [getH, this] at hk
    exact .inr ⟨e, b, hk⟩
/-- An operation that takes what is known so to what is known so. -/
def StepOk (P : Program) (C : Ctx) (o : Oper) (l : Env) (H : Heap) (ps : List Prop) (l' : Env) (H' : Heap) (nd : Nat → Prop) : Prop :=
  allP ps → ∀ F ρ a w, St C F ρ l H a w → ∀ (Q : Exit → Act → World → Prop) (K : Act → World → Prop), (∀ F' ρ' u w', St C F' ρ' l' H' (a.put o.dst u) w' → Fr H H' nd F ρ w F' ρ' w' → K (a.put o.dst u) w') → o.wp P a w K Q
theorem stepOk_v {o : Oper} {ps : List Prop} {e : EV} (hG : C.G = G) (hd : dstOk C.N o.dst = true) (h : vstep P G l H o = some (ps, e)) : StepOk P C o l H ps (putO l o.dst e) H (fun _ => False) := by
  intro hp F ρ a w hs Q K hK
  obtain ⟨u, h1, h2⟩ := vstep_run hs hG h hp
  simp only [Oper.wp, h1, Oper.upon]
  exact hK _ _ _ _ (hs.putO hd h2) (Fr.refl ..)

/-! from own to only read -/
def Cont.data : Cont → D
  | .ints k L => .si k L
  | .bts Ls => .sb Ls
  | .st sz n c => .sl sz n c
theorem contRep_data {m : Mem} {c : Cont} {vs cells : List Value} {ad : Option Addr} {b cap : Nat} (h : ContRep m c vs) (hc : c.len ≤ cap) (hr : 0 < c.len → ad = some ⟨b, 0, none⟩ ∧ m.fz b cells ∧ ∀ (j : Nat) (v : Value), vs[j]? = some v → cells[j]? = some v) : DRep m c.data (.slice ad c.len cap) := by
  obtain ⟨h1, h2, h3⟩ := h
  cases c with
  | ints k L =>
    refine ⟨_, _, rfl, hc, fun hn => ?_⟩
    obtain ⟨e1, e2, e3⟩ := hr (List.length_pos_iff.2 hn)
    refine ⟨b, 0, cells, e1, e2, fun i x hx => ?_⟩
    rw [Nat.zero_add]; exact e3 i _ (by obtain rfl : vs = _ := h3; rw [List.getElem?_map, hx]; rfl)
  | bts Ls =>
    refine ⟨_, _, rfl, hc, fun hn => ?_⟩
    obtain ⟨e1, e2, e3⟩ := hr (List.length_pos_iff.2 hn)
    refine ⟨b, 0, cells, e1, e2, fun i L hL => ?_⟩
    obtain ⟨x, hx, hx'⟩ := h3 i L hL
    exact ⟨x, by rw [Nat.zero_add]; exact e3 i x hx, hx'⟩
  | st sz n c =>
    refine ⟨_, _, rfl, hc, fun hn => ?_⟩
    obtain ⟨e1, e2, e3⟩ := hr (Nat.pos_of_ne_zero hn)
    have hall : 0 + n * sz ≤ cells.length := by
      rcases Nat.eq_zero_or_pos (n * sz) with h0 | h0
      · omega
      · have hlt : n * sz - 1 < vs.length := by simp only [Cont.len, Cont.sz] at h1; omega
        have hx := e3 _ _ (List.getElem?_eq_getElem hlt)
        rcases Nat.lt_or_ge (n * sz - 1) cells.length with h | h
        · omega
        · rw [List.getElem?_eq_none h] at hx; cases hx
    refine ⟨b, 0, cells, e1, e2, hall, fun i hi => ?_⟩
    have := h3 i hi
    have e : (vs.drop (i * sz)).take sz = (cells.drop (0 + i * sz)).take sz := by
      have hl : (i + 1) * sz ≤ vs.length := by rw [h1]; exact Nat.mul_le_mul_right _ hi
      rw [Nat.add_mul] at hl
      apply List.ext_getElem?
      intro j
      rw [List.getElem?_take, List.getElem?_take, List.getElem?_drop, List.getElem?_drop, Nat.zero_add]
      by_cases hj : j < sz
      · rw [if_pos hj, if_pos hj]
        have hlt : i * sz + j < vs.length := by omega
        rw [List.getElem?_eq_getElem hlt]
        exact (e3 _ _ (List.getElem?_eq_getElem hlt)).symm
      · rw [if_neg hj, if_neg hj]
    rw [← e]; exact this
def viewAV (b : Blk) (x : AV) : Option D :=
  match b, x with
  | .row c _, .rw _ => some c.data
  | .row (.st sz _ c) _, .rs _ sz' lo len => match Nat.beq sz sz' with
    | true => some (.sl sz len fun i => c (lo + i))
    | false => none
  | .cells cs _, .lp _ off => match dropC cs off with
    | some r => match downC r with
      | some ds => some (.pt ds)
      | none => none
    | none => none
  | .cells cs _, .ls _ off n i len => match atI cs off with
    | some (kd, m, xs) => match Nat.beq m n with
      | true => some (.si kd ((xs.drop i).take len))
      | false => none
    | none => none
  | _, _ => none
theorem viewAV_rep {F' : Nat → Prop} {b : Blk} {x : AV} {d : D} {k : Nat} {u : Value} (h : viewAV b x = some d) (hk : x.refs = [k]) (hb : BRep ⟨w, F⟩ ρ (ρ k) b) (hF : ∀ i, F i → F' i) (hZ : ∀ i, (ρ k).Z i → F' i) (hr : ARep ⟨w, F⟩ ρ x u) : DRep ⟨w, F'⟩ d u := by
  have hle : Mem.le ⟨w, F⟩ ⟨w, F'⟩ := Mem.le_of hF fun _ _ => rfl
  unfold viewAV at h
  split at h
  · rename_i c ty k'
    simp only [AV.refs, List.cons.injEq, and_true] at hk; subst hk
    simp only [Option.some.injEq] at h; subst h
    obtain ⟨vs, rest, hrow, hc, _, _, hn, hcap⟩ := hb
    obtain rfl : u = _ := hr
    rw [← hn]
    refine contRep_data (hc.mono hle) (b := (ρ k').b) (cells := vs ++ rest) hcap fun hp => ?_
    obtain ⟨⟨h1, h2⟩, h3⟩ := hrow.real (by omega)
    refine ⟨h3, ⟨hZ _ (by rw [h2]), ty, (0, 0), h1⟩, fun j v hv => ?_⟩
    rw [List.getElem?_append_left, hv]
    rcases Nat.lt_or_ge j vs.length with h | h
    · exact h
    · rw [List.getElem?_eq_none h] at hv; cases hv
  · rename_i sz n c ty k' sz' lo len
    simp only [AV.refs, List.cons.injEq, and_true] at hk; subst hk
    split at h
    · rename_i hbq
      have := Nat.eq_of_beq_eq_true hbq; subst this
      simp only [Option.some.injEq] at h; subst h
      obtain ⟨vs, rest, hrow, hc, _, _, hn, hcap⟩ := hb
      obtain ⟨rfl, hle2⟩ := hr
      have hn : n = (ρ k').n := hn
      have hcap : n ≤ (ρ k').cap := hcap
      have hd : DRep ⟨w, F'⟩ (.sl sz n c) (.slice (ρ k').ad n (ρ k').cap) := by
        refine contRep_data (c := .st sz n c) (hc.mono hle) (b := (ρ k').b) (cells := vs ++ rest) hcap fun hp => ?_
        obtain ⟨⟨h1, h2⟩, h3⟩ := hrow.real (by have hp : 0 < n := hp; omega)
        refine ⟨h3, ⟨hZ _ (by rw [h2]), ty, (0, 0), h1⟩, fun j v hv => ?_⟩
        rw [List.getElem?_append_left, hv]
        rcases Nat.lt_or_ge j vs.length with h | h
        · exact h
        · rw [List.getElem?_eq_none h] at hv; cases hv
      exact DRep.cut hd (by omega)
    · cases h
  · rename_i cs ty k' off
    simp only [AV.refs, List.cons.injEq, and_true] at hk; subst hk
    split at h
    · rename_i r hd
      split at h
      · rename_i ds hds
        simp only [Option.some.injEq] at h; subst h
        obtain ⟨vs, ⟨h1, h2⟩, h3⟩ := hb
        obtain ⟨h4, h5⟩ := dropC_rep h3 hd
        have h6 := (downC_rep hds h5).mono hle
        refine ⟨(ρ k').b, off, vs, hr, ⟨hZ _ (by rw [h2]), ty, (0, 0), h1⟩, ?_⟩
        have := h6.len
        rw [List.take_of_length_le (by omega)]; exact h6
      · cases h
    · cases h
  · rename_i cs ty k' off n i len
    simp only [AV.refs, List.cons.injEq, and_true] at hk; subst hk
    split at h
    · rename_i kd m xs hat
      split at h
      · rename_i hbq
        obtain rfl := Nat.eq_of_beq_eq_true hbq
        simp only [Option.some.injEq] at h; subst h
        obtain ⟨vs, ⟨h1, h2⟩, h3⟩ := hb
        obtain ⟨h4, A, B, rfl, h6, _⟩ := atI_rep h3 hat
        obtain ⟨rfl, hle'⟩ := hr
        have hl : ((xs.drop i).take len).length = len := by simp; omega
        refine ⟨_, _, by rw [hl], by omega, fun hn => ⟨(ρ k').b, off + i, _, rfl, ⟨hZ _ (by rw [h2]), ty, (0, 0), h1⟩, fun j x hx => ?_⟩⟩
        rw [List.getElem?_take] at hx
        split at hx
        · rw [List.getElem?_drop] at hx
          have hlt : i + j < xs.length := by
            rcases Nat.lt_or_ge (i + j) xs.length with h | h
            · exact h
            · rw [List.getElem?_eq_none h] at hx; cases hx
          rw [List.append_assoc, List.getElem?_append_right (by omega), List.getElem?_append_left (by simp; omega), List.getElem?_map, show off + i + j - A.length = i + j by omega, hx]; rfl
        · cases hx
      · cases h
    · cases h
  · cases h
def fzA (k : Nat) (b : Blk) (x : AV) : Option AV :=
  match memN k x.refs with
  | false => some x
  | true => match x.refs, viewAV b x with
    | [_], some d => some (.d d)
    | _, _ => none
def fzC (k : Nat) (b : Blk) : List Chunk → Option (List Chunk)
  | [] => some []
  | .one x :: r => match fzA k b x, fzC k b r with
    | some y, some s => some (.one y :: s)
    | _, _ => none
  | .ints kd n xs :: r => match fzC k b r with
    | some s => some (.ints kd n xs :: s)
    | none => none
def fzS (k : Nat) (b : Blk) : SV → Option SV
  | .a x => match fzA k b x with
    | some y => some (.a y)
    | none => none
  | .agg cs => match fzC k b cs with
    | some r => some (.agg r)
    | none => none
def fzL (k : Nat) (b : Blk) : List SV → Option (List SV)
  | [] => some []
  | x :: r => match fzS k b x, fzL k b r with
    | some y, some s => some (y :: s)
    | _, _ => none
def fzV (k : Nat) (b : Blk) : EV → EV
  | .s x => match fzS k b x with
    | some y => .s y
    | none => .dead
  | .t l => match fzL k b l with
    | some r => .t r
    | none => .dead
  | .dead => .dead
def fzE (k : Nat) (b : Blk) : Env → Env
  | [] => []
  | (t, v) :: r => (t, fzV k b v) :: fzE k b r
def fzH (k : Nat) (b : Blk) : Heap → Option Heap
  | [] => some []
  | (j, .cells cs ty) :: r => match fzC k b cs, fzH k b r with
    | some s, some t => some ((j, .cells s ty) :: t)
    | _, _ => none
  | p :: r => match fzH k b r with
    | some t => some (p :: t)
    | none => none
section
variable {F' : Nat → Prop} {b : Blk} {k : Nat}
theorem fzA_rep (hb : BRep ⟨w, F⟩ ρ (ρ k) b) (hF : ∀ i, F i → F' i) (hZ : ∀ i, (ρ k).Z i → F' i) {x y : AV} {u : Value} (h : fzA k b x = some y) (hr : ARep ⟨w, F⟩ ρ x u) : ARep ⟨w, F'⟩ ρ y u := by
  unfold fzA at h
  split at h
  · simp only [Option.some.injEq] at h; subst h
    exact ARep.mono (m := ⟨w, F⟩) (Mem.le_of (m := ⟨w, F⟩) (m' := ⟨w, F'⟩) hF fun _ _ => rfl) hr
  · rename_i hm
    split at h
    · rename_i j d hj hv
      simp only [Option.some.injEq] at h; subst h
      rw [hj] at hm
      simp only [memN, Bool.or_false] at hm
      have := Nat.eq_of_beq_eq_true hm
      subst this
      exact viewAV_rep hv hj hb hF hZ hr
    · cases h
theorem fzC_rep (hb : BRep ⟨w, F⟩ ρ (ρ k) b) (hF : ∀ i, F i → F' i) (hZ : ∀ i, (ρ k).Z i → F' i) : ∀ {x y : List Chunk} {u : List Value}, fzC k b x = some y → KRep ⟨w, F⟩ ρ x u → KRep ⟨w, F'⟩ ρ y u
  | [], y, u, h, hr => by simp only [fzC, Option.some.injEq] at h; subst h; exact hr
  | .one x :: r, y, u, h, hr => by
    simp only [fzC] at h
    split at h
    · rename_i z s hz hs
      simp only [Option.some.injEq] at h; subst h
      obtain ⟨v, q, h1, h2, h3, h4⟩ := hr
      exact ⟨v, q, h1, h2, fzA_rep hb hF hZ hz h3, fzC_rep hb hF hZ hs h4⟩
    · cases h
  | .ints kd n xs :: r, y, u, h, hr => by
    simp only [fzC] at h
    split at h
    · rename_i s hs
      simp only [Option.some.injEq] at h; subst h
      obtain ⟨q, h1, h2, h3⟩ := hr
      exact ⟨q, h1, h2, fzC_rep hb hF hZ hs h3⟩
    · cases h
theorem fzS_rep (hb : BRep ⟨w, F⟩ ρ (ρ k) b) (hF : ∀ i, F i → F' i) (hZ : ∀ i, (ρ k).Z i → F' i) {x y : SV} {u : Value} (h : fzS k b x = some y) (hr : SRep ⟨w, F⟩ ρ x u) : SRep ⟨w, F'⟩ ρ y u := by
  cases x with
  | a x =>
    simp only [fzS] at h
    split at h
    · simp only [Option.some.injEq] at h; subst h; exact fzA_rep hb hF hZ (by assumption) hr
    · cases h
  | agg cs =>
    simp only [fzS] at h
    split at h
    · simp only [Option.some.injEq] at h; subst h
      obtain ⟨vs, e, hk⟩ := hr
      exact ⟨vs, e, fzC_rep hb hF hZ (by assumption) hk⟩
    · cases h
theorem fzL_rep (hb : BRep ⟨w, F⟩ ρ (ρ k) b) (hF : ∀ i, F i → F' i) (hZ : ∀ i, (ρ k).Z i → F' i) : ∀ {x y : List SV} {u : List Value}, fzL k b x = some y → LRep ⟨w, F⟩ ρ x u → LRep ⟨w, F'⟩ ρ y u
  | [], y, u, h, hr => by simp only [fzL, Option.some.injEq] at h; subst h; exact hr
  | x :: r, y, u, h, hr => by
    simp only [fzL] at h
    split at h
    · rename_i z s hz hs
      simp only [Option.some.injEq] at h; subst h
      obtain ⟨v, q, h1, h2, h3⟩ := hr
      exact ⟨v, q, h1, fzS_rep hb hF hZ hz h2, fzL_rep hb hF hZ hs h3⟩
    · cases h
theorem fzV_rep (hb : BRep ⟨w, F⟩ ρ (ρ k) b) (hF : ∀ i, F i → F' i) (hZ : ∀ i, (ρ k).Z i → F' i) {x : EV} {u : Value} (hr : ERep ⟨w, F⟩ ρ x u) : ERep ⟨w, F'⟩ ρ (fzV k b x) u := by
  cases x with
  | s x =>
    simp only [fzV]
    split
    · exact fzS_rep hb hF hZ (by assumption) hr
    · trivial
  | t l =>
    simp only [fzV]
    split
    · obtain ⟨us, e, hl⟩ := hr
      exact ⟨us, e, fzL_rep hb hF hZ (by assumption) hl⟩
    · trivial
  | dead => trivial
theorem fzE_get : ∀ {l : Env} {t : Nat} {v : EV}, getE (fzE k b l) t = some v → ∃ v0, getE l t = some v0 ∧ v = fzV k b v0
  | (j, x) :: r, t, v, h => by
    simp only [fzE, getE] at h ⊢
    split at h
    · rename_i hj
      simp only [Option.some.injEq] at h; subst h
      exact ⟨x, by simp [hj], rfl⟩
    · rename_i hj
      obtain ⟨v0, h1, h2⟩ := fzE_get h
      exact ⟨v0, by simp [hj, h1], h2⟩
theorem fzH_get : ∀ {H H' : Heap} {j : Nat} {c : Blk}, fzH k b H = some H' → getH H' j = some c → (∃ cs ty s, getH H j = some (.cells cs ty) ∧ fzC k b cs = some s ∧ c = .cells s ty) ∨ getH H j = some c
  | [], H', j, c, h, hg => by simp only [fzH, Option.some.injEq] at h; subst h; simp [getH] at hg
  | (i, .cells cs ty) :: r, H', j, c, h, hg => by
    simp only [fzH] at h
    split at h
    · rename_i s t hs ht
      simp only [Option.some.injEq] at h; subst h
      simp only [getH] at hg ⊢
      split at hg
      · rename_i hi
        simp only [Option.some.injEq] at hg; subst hg
        exact .inl ⟨cs, ty, s, by simp [hi], hs, rfl⟩
      · exact fzH_get ht hg
    · cases h
  | (i, .row cc ty) :: r, H', j, c, h, hg => by
    simp only [fzH] at h
    split at h
    · rename_i t ht
      simp only [Option.some.injEq] at h; subst h
      simp only [getH] at hg ⊢
      split at hg
      · rename_i hi
        simp only [Option.some.injEq] at hg; subst hg
        exact .inr (by simp [hi])
      · exact fzH_get ht hg
    · cases h
  | (i, .abs A) :: r, H', j, c, h, hg => by
    simp only [fzH] at h
    split at h
    · rename_i t ht
      simp only [Option.some.injEq] at h; subst h
      simp only [getH] at hg ⊢
      split at hg
      · rename_i hi
        simp only [Option.some.injEq] at hg; subst hg
        exact .inr (by simp [hi])
      · exact fzH_get ht hg
    · cases h
  | (i, .mp mt ag qs has v rf gh) :: r, H', j, c, h, hg => by
    simp only [fzH] at h
    split at h
    · rename_i t ht
      simp only [Option.some.injEq] at h; subst h
      simp only [getH] at hg ⊢
      split at hg
      · rename_i hi
        simp only [Option.some.injEq] at hg; subst hg
        exact .inr (by simp [hi])
      · exact fzH_get ht hg
    · cases h
end
/-- An own block is only read from now on; what showed to it is data. -/
def frzS (k : Nat) (l : Env) (H : Heap) : Option (Env × Heap) :=
  match getH H k with
  | some b => match fzH k b (delH H k) with
    | some H' => some (fzE k b l, H')
    | none => none
  | none => none
theorem frz_st (h : St C F ρ l H a w) {k : Nat} {l' : Env} {H' : Heap} (hf : frzS k l H = some (l', H')) : ∃ F', St C F' ρ l' H' a w ∧ Fr H H' (fun _ => False) F ρ w F' ρ w := by
  unfold frzS at hf
  split at hf
  · rename_i b hk
    split at hf
    · rename_i H1 hH
      simp only [Option.some.injEq, Prod.mk.injEq] at hf; obtain ⟨rfl, rfl⟩ := hf
      have hb := h.hp k b hk
      have hF : ∀ i, F i → (fun i => F i ∨ (ρ k).Z i) i := fun i hi => .inl hi
      have hZ : ∀ i, (ρ k).Z i → (fun i => F i ∨ (ρ k).Z i) i := fun i hi => .inr hi
      have hle : Mem.le ⟨w, F⟩ ⟨w, fun i => F i ∨ (ρ k).Z i⟩ := Mem.le_of hF fun _ _ => rfl
      have h2 := h.freeze hk
      have sub : ∀ j c, getH H1 j = some c → ∃ c0, getH (delH H k) j = some c0 := fun j c hj => by
        rcases fzH_get hH hj with ⟨cs, ty, s, e, _⟩ | e <;> exact ⟨_, e⟩
      refine ⟨_, ?_, ⟨rfl, rfl, rfl, Nat.le_refl _, fun _ _ _ => rfl, hF, fun i hi => hi.elim .inl fun hz => .inr (.inr ⟨k, b, hk, hz⟩), fun _ _ => rfl, fun j c hj i hi => by obtain ⟨c0, e⟩ := sub j c hj; exact .inr ⟨j, c0, (getH_del_some e).2, hi⟩⟩⟩
      refine { h2 with env := fun t v hv => ?_, hp := fun j c hj => ?_, own := fun j c hj => ?_, dis := fun j j' c c' hj hj' => ?_, mine := fun j c hj => ?_ }
      · rcases fzH_get hH hj with ⟨cs, ty, s, e, hs, rfl⟩ | e
        · obtain ⟨hne, e'⟩ := getH_del_some e
          obtain ⟨vs, ⟨p1, p2⟩, p3⟩ := h.hp j _ e'
          exact ⟨vs, ⟨p1, p2⟩, fzC_rep hb hF hZ hs p3⟩
        · exact h2.hp j c e
      · obtain ⟨c0, e⟩ := sub j c hj; exact h2.own j c0 e
      · obtain ⟨c0, e⟩ := sub j c hj; obtain ⟨c1, e'⟩ := sub j' c' hj'; exact h2.dis j j' c0 c1 e e'
      · obtain ⟨v0, h3, rfl⟩ := fzE_get hv
        exact fzV_rep hb hF hZ (h.env t v0 h3)
      · obtain ⟨c0, e⟩ := sub j c hj; exact h2.mine j c0 e
    · cases hf
  · cases hf
def frzAll : List Nat → Env → Heap → Option (Env × Heap)
  | [], l, H => some (l, H)
  | k :: ks, l, H => match getH H k with
    | none => frzAll ks l H
    | some _ => match frzS k l H with
      | some (l', H') => frzAll ks l' H'
      | none => none
theorem frzAll_st : ∀ {ks : List Nat} {l l' : Env} {H H' : Heap} {F : Nat → Prop}, St C F ρ l H a w → frzAll ks l H = some (l', H') → ∃ F', St C F' ρ l' H' a w ∧ Fr H H' (fun _ => False) F ρ w F' ρ w
  | [], l, l', H, H', F, h, hf => by simp only [frzAll, Option.some.injEq, Prod.mk.injEq] at hf; obtain ⟨rfl, rfl⟩ := hf; exact ⟨F, h, Fr.refl ..⟩
  | k :: ks, l, l', H, H', F, h, hf => by
    simp only [frzAll] at hf
    split at hf
    · exact frzAll_st h hf
    · split at hf
      · rename_i l1 H1 h1
        obtain ⟨F1, h2, fr1⟩ := frz_st h h1
        obtain ⟨F2, h3, fr2⟩ := frzAll_st h2 hf
        refine ⟨F2, h3, ?_⟩
        have := fr1.trans fr2
        simpa using this
      · cases hf
end
end Go.Dx
