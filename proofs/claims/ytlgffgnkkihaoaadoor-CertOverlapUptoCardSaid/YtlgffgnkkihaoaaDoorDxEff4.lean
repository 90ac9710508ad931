/- append, make, copy; strings to bytes. -/
import Derived.Test.YtlgffgnkkihaoaaDoorDxEff3
namespace Go.Dx
open Go.RowKit
set_option linter.unusedVariables false
set_option linter.unusedSimpArgs false
section
variable {P : Program} {C : Ctx} {F : Nat → Prop} {ρ : Nat → Loc} {l : Env} {H : Heap} {a : Act} {w : World} {G : List (Nat × List DC)}

def lim : Nat := 68719476736
/-- What a slice's elements are. -/
def contentOf (H : Heap) (x : AV) : Option Cont :=
  match x with
  | .d (.si k L) => some (.ints k L)
  | .d (.sb Ls) => some (.bts Ls)
  | .d (.sl sz n c) => some (.st sz n c)
  | .d (.v (.slice (some _) 0 _)) => some (.ints .u8 [])
  | .rw k => match getH H k with
    | some (.row c _) => some c
    | _ => none
  | .ls k off n i len => match seesI H (.ls k off n i len) with
    | some (kd, L) => some (.ints kd L)
    | none => none
  | _ => none
theorem src_of {tx e' : TypeId} {x : AV} {u : Value} {c : Cont} (hu : P.underlying tx = some (.slice e')) (h : contentOf H x = some c) (hH : HOk w F ρ H) (hr : ARep ⟨w, F⟩ ρ x u) :
    ∃ vs, Src P c.sz tx u c.len vs w ∧ ContRep ⟨w, F⟩ c vs := by
  -- by a slice with its cells
  have mk : ∀ {ad : Option Addr} {cap : Nat} {vs : List Value}, ContRep ⟨w, F⟩ c vs → u = .slice ad c.len cap → (0 < c.len → ∃ b off cells ty fr, ad = some ⟨b, off, none⟩ ∧ w.heap[b]? = some (.cells cells ty fr) ∧ ∀ (j : Nat) (v : Value), vs[j]? = some v → cells[off + j]? = some v) →
      ∃ vs, Src P c.sz tx u c.len vs w ∧ ContRep ⟨w, F⟩ c vs := fun {ad cap vs} hc e hp => by
    subst e
    obtain ⟨h1, h2, h3⟩ := hc
    rcases Nat.eq_zero_or_pos c.len with h0 | h0
    · have hv : vs = [] := List.eq_nil_of_length_eq_zero (by rw [h1, h0]; simp)
      subst hv
      refine ⟨[], ?_, h1, h2, h3⟩
      rw [h0]
      cases ad with
      | none => exact Src.ofNil w hu cap
      | some p => exact Src.ofSlice w hu p 0 cap [] (by simp) (fun j u hj => by simp at hj) (fun u hu => by simp at hu)
    · obtain ⟨b, off, cells, ty, fr, rfl, h4, h5⟩ := hp h0
      refine ⟨vs, Src.ofSlice w hu ⟨b, off, none⟩ c.len cap vs h1 (fun j v hj => ?_) h2, h1, h2, h3⟩
      have e : (⟨b, off, none⟩ : Addr).add j = ⟨b, off + j, none⟩ := Addr.add_mid ..
      rw [e, cell_of_row w b _ _ ty fr h4]
      exact h5 j v hj
  have ints : ∀ {k L}, c = .ints k L → CellsI w k L u → ∃ vs, Src P c.sz tx u c.len vs w ∧ ContRep ⟨w, F⟩ c vs := fun {k L} e hc => by
    subst e
    obtain ⟨ad, cap, e, h1, h2⟩ := hc
    refine mk (vs := L.map (Value.int k)) ⟨by simp [Cont.len, Cont.sz], fun v hv => by obtain ⟨_, _, rfl⟩ := List.mem_map.1 hv; rfl, rfl⟩ e fun h0 => ?_
    obtain ⟨b, off, cells, ty, fr, h3, h4, h5⟩ := h2 (List.length_pos_iff.1 h0)
    refine ⟨b, off, cells, ty, fr, h3, h4, fun j v hj => ?_⟩
    rw [List.getElem?_map] at hj
    cases hx : L[j]? with
    | none => simp [hx] at hj
    | some x => simp only [hx, Option.map_some, Option.some.injEq] at hj; subst hj; exact h5 j x hx
  unfold contentOf at h
  split at h
  · rename_i k L
    simp only [Option.some.injEq] at h
    exact ints h.symm (IRep.cells (m := ⟨w, F⟩) hr)
  · rename_i Ls
    simp only [Option.some.injEq] at h; subst h
    obtain ⟨ad, cap, rfl, h1, h2⟩ := hr
    rcases List.eq_nil_or_concat Ls with h0 | h0
    · subst h0
      exact mk (vs := []) ⟨rfl, by simp, fun i L h => by simp at h⟩ rfl fun h => absurd h (Nat.lt_irrefl _)
    · have hn : Ls ≠ [] := by rintro rfl; simp at h0
      obtain ⟨b, off, cells, rfl, ⟨_, ty, fr, hg⟩, h3⟩ := h2 hn
      have hlen : ∀ j, j < Ls.length → off + j < cells.length := fun j hj => by
        obtain ⟨x, hx, _⟩ := h3 j _ (getD_of hj [])
        rcases Nat.lt_or_ge (off + j) cells.length with h | h
        · exact h
        · rw [List.getElem?_eq_none h] at hx; cases hx
      have hpos := List.length_pos_iff.2 hn
      have hl1 := hlen (Ls.length - 1) (by omega)
      refine mk (vs := (cells.drop off).take Ls.length) ⟨by simp [Cont.len, Cont.sz]; omega, fun v hv => ?_, fun i L hi => ?_⟩ rfl fun _ => ⟨b, off, _, ty, fr, rfl, hg, fun j v hj => ?_⟩
      · obtain ⟨j, hj, e⟩ := List.getElem_of_mem hv
        have hj' : j < Ls.length := by simp at hj; omega
        obtain ⟨x, hx, hi⟩ := h3 j _ (getD_of hj' [])
        have : ((cells.drop off).take Ls.length)[j]? = some x := by rw [List.getElem?_take, if_pos hj', List.getElem?_drop]; exact hx
        rw [List.getElem?_eq_getElem hj, e] at this
        simp only [Option.some.injEq] at this; subst this
        obtain ⟨_, _, rfl, _⟩ := hi; rfl
      · obtain ⟨x, hx, hir⟩ := h3 i L hi
        have hlt : i < Ls.length := by
          rcases Nat.lt_or_ge i Ls.length with h | h
          · exact h
          · rw [List.getElem?_eq_none h] at hi; cases hi
        exact ⟨x, by rw [List.getElem?_take, if_pos hlt, List.getElem?_drop]; exact hx, hir⟩
      · rw [List.getElem?_take] at hj
        split at hj
        · rw [List.getElem?_drop] at hj; simpa using hj
        · cases hj
  · rename_i sz n c'
    simp only [Option.some.injEq] at h; subst h
    obtain ⟨ad, cap, rfl, h1, h2⟩ := hr
    rcases Nat.eq_zero_or_pos n with h0 | h0
    · subst h0
      exact mk (vs := []) ⟨by simp [Cont.len], by simp, fun i h => absurd h (Nat.not_lt_zero _)⟩ rfl fun h => absurd h (Nat.lt_irrefl _)
    · obtain ⟨b, off, cells, rfl, ⟨_, ty, fr, hg⟩, h4, h3⟩ := h2 (by omega)
      have hsl : ∀ i, i < n → (((cells.drop off).take (n * sz)).drop (i * sz)).take sz = (cells.drop (off + i * sz)).take sz := fun i hi => by
        have hm : (i + 1) * sz ≤ n * sz := Nat.mul_le_mul_right _ hi
        rw [Nat.add_mul, Nat.one_mul] at hm
        rw [List.drop_take, List.take_take, List.drop_drop, Nat.min_eq_left (by omega)]
      refine mk (vs := (cells.drop off).take (n * sz)) ⟨by simp [Cont.len, Cont.sz]; omega, fun v hv => ?_, fun i hi => by rw [hsl i hi]; exact h3 i hi⟩ rfl fun _ => ⟨b, off, _, ty, fr, rfl, hg, fun j v hj => ?_⟩
      · obtain ⟨j, hj, e⟩ := List.getElem_of_mem hv
        have hj' : j < n * sz := by simp at hj; omega
        have hsz : 0 < sz := by rcases Nat.eq_zero_or_pos sz with h | h; (subst h; omega); exact h
        have hi : j / sz < n := Nat.div_lt_of_lt_mul (by rw [Nat.mul_comm]; exact hj')
        have hm := (h3 _ hi).one
        have e2 := Nat.div_add_mod j sz
        have hmod := Nat.mod_lt j hsz
        refine hm v (List.mem_of_getElem? (i := j % sz) ?_)
        rw [List.getElem?_take, if_pos hmod, List.getElem?_drop, show off + j / sz * sz + j % sz = off + j by rw [Nat.mul_comm]; omega]
        have : ((cells.drop off).take (n * sz))[j]? = some v := by rw [List.getElem?_eq_getElem hj, e]
        rw [List.getElem?_take, if_pos hj', List.getElem?_drop] at this
        exact this
      · rw [List.getElem?_take] at hj
        split at hj
        · rw [List.getElem?_drop] at hj; simpa using hj
        · cases hj
  · simp only [Option.some.injEq] at h; subst h
    obtain rfl : u = _ := hr
    exact mk (vs := []) ⟨rfl, by simp, rfl⟩ rfl fun h => absurd h (Nat.lt_irrefl _)
  · rename_i k
    split at h
    · rename_i c' ty hg
      simp only [Option.some.injEq] at h; subst h
      obtain ⟨vs, rest, hrow, hc, _, hl, hn, hcap⟩ := hH.hp _ _ hg
      obtain rfl : u = _ := hr
      refine mk hc (by rw [hn]) fun h0 => ?_
      obtain ⟨⟨h1, _⟩, had⟩ := hrow.real (by omega)
      refine ⟨_, 0, _, ty, (0, 0), had, h1, fun j v hj => ?_⟩
      simp only [List.getElem?_toArray, Nat.zero_add]
      rw [List.getElem?_append_left, hj]
      rcases Nat.lt_or_ge j vs.length with h | h
      · exact h
      · rw [List.getElem?_eq_none h] at hj; cases hj
    · cases h
  · rename_i k off n i len
    split at h
    · rename_i kd L hs
      simp only [Option.some.injEq] at h
      exact ints h.symm (seesI_spec hs hH hr)
    · cases h
  · cases h

def catF (n : Nat) (c c' : Nat → List DC) : Nat → List DC := fun i => match Nat.blt i n with
  | true => c i
  | false => c' (i - n)
def catC : Cont → Cont → Option Cont
  | .ints k L, .ints k' L' => match kindB k k' with
    | true => some (.ints k (L ++ L'))
    | false => none
  | .bts Ls, .bts Ls' => some (.bts (Ls ++ Ls'))
  | .st sz n c, .st sz' n' c' => match Nat.beq sz sz' with
    | true => some (.st sz (n + n') (catF n c c'))
    | false => none
  | _, _ => none
theorem catC_rep {m : Mem} {c c' d : Cont} {vs us : List Value} (h : catC c c' = some d) (hc : ContRep m c vs) (hc' : ContRep m c' us) : ContRep m d (vs ++ us) ∧ d.len = c.len + c'.len ∧ d.sz = c.sz ∧ c'.sz = c.sz := by
  obtain ⟨h1, h2, h3⟩ := hc
  obtain ⟨k1, k2, k3⟩ := hc'
  have one : ∀ v ∈ vs ++ us, v.oneCell' = true := fun v hv => (List.mem_append.1 hv).elim (h2 v) (k2 v)
  unfold catC at h
  split at h
  · rename_i k L k' L'
    split at h
    · rename_i hk
      have := kind_eq _ _ hk; subst this
      simp only [Option.some.injEq] at h; subst h
      obtain rfl : vs = _ := h3
      obtain rfl : us = _ := k3
      exact ⟨⟨by simp [Cont.len, Cont.sz], one, by simp⟩, by simp [Cont.len], rfl, rfl⟩
    · cases h
  · rename_i Ls Ls'
    simp only [Option.some.injEq] at h; subst h
    simp only [Cont.len, Cont.sz, Nat.mul_one] at h1 k1
    refine ⟨⟨by simp [Cont.len, Cont.sz, h1, k1], one, fun i L hi => ?_⟩, by simp [Cont.len], rfl, rfl⟩
    rw [List.getElem?_append] at hi ⊢
    by_cases hlt : i < Ls.length
    · rw [if_pos hlt] at hi; rw [if_pos (by omega)]; exact h3 i L hi
    · rw [if_neg hlt] at hi; rw [if_neg (by omega), h1]; exact k3 _ L hi
  · rename_i sz n c sz' n' c'
    split at h
    · rename_i hb
      have := Nat.eq_of_beq_eq_true hb; subst this
      simp only [Option.some.injEq] at h; subst h
      simp only [Cont.len, Cont.sz] at h1 k1
      refine ⟨⟨by simp [Cont.len, Cont.sz, h1, k1, Nat.add_mul], one, fun i hi => ?_⟩, rfl, rfl, rfl⟩
      unfold catF
      split
      · rename_i hlt
        have hlt : i < n := Nat.le_of_ble_eq_true hlt
        have hm : (i + 1) * sz ≤ n * sz := Nat.mul_le_mul_right _ hlt
        rw [Nat.add_mul, Nat.one_mul] at hm
        rw [List.drop_append_of_le_length (by omega), List.take_append_of_le_length (by simp; omega)]
        exact h3 i hlt
      · rename_i hlt
        have hge : n ≤ i := by
          rcases Nat.lt_or_ge i n with h | h
          · have : Nat.blt i n = true := Nat.ble_eq_true_of_le h
            rw [this] at hlt; cases hlt
          · exact h
        have e : i * sz = vs.length + (i - n) * sz := by rw [h1, ← Nat.add_mul]; congr 1; omega
        rw [e, List.drop_append, List.drop_of_length_le (by omega), List.nil_append, Nat.add_sub_cancel_left]
        exact k3 (i - n) (by omega)
    · cases h
  · cases h
theorem run_append_nothing (w : World) (t tx ty e : TypeId) (i : TypeInfo) (ht : P.underlying t = some (.slice e)) (hi : P.info? e = some i) (base : Option Addr) (sLen sCap : Nat) (hle : sLen ≤ sCap) (x : Value) (hs : Src P i.size tx x 0 [] w) :
    (Builtin.append_ #[t, tx] ty #[.slice base sLen sCap, x]).run P w = .ok (.slice base sLen sCap) w := by
  rcases hs.kind with ⟨e', hk⟩ | hk <;> cases base <;> simp [Builtin.append_, run_underlying ht, run_underlying hk, sizeOf, typeInfo, hi, hs.len, hle, hs.cells, storeCells]
/-- The world changes in blocks that the state does not speak of. -/
theorem St.chg (h : St C F ρ l H a w) {w' : World} (Z : Nat → Prop) (hZ : ∀ i, Z i → ¬ F i ∧ (C.w0.heap.size ≤ i ∨ C.S i) ∧ ∀ j b, getH H j = some b → ¬ (ρ j).Z i)
    (hos : w'.os = w.os) (htape : w'.tape = w.tape) (hout : w'.output = w.output) (hsz : w'.heap.size = w.heap.size) (hw : ∀ i, ¬ Z i → w'.heap[i]? = w.heap[i]?) : St C F ρ l H a w' := by
  have hle : Mem.le ⟨w, F⟩ ⟨w', F⟩ := Mem.le_of (fun _ hF => hF) fun i hF => hw i fun hz => (hZ i hz).1 hF
  exact { h with
    env := fun t v hv => (h.env t v hv).mono hle
    hp := fun j c hj => (h.hp j c hj).mono hle fun i hi => hw i fun hz => (hZ i hz).2.2 j c hj hi
    own := fun j c hj i hi => by rw [hsz]; exact h.own j c hj i hi
    frz := fun i hi => by rw [hsz]; exact h.frz i hi
    gl := h.gl.mono hle
    keep := h.keep.trans ⟨hos, htape, hout, Nat.le_of_eq hsz.symm, fun i hi hS => hw i fun hz => by
      rcases (hZ i hz).2.1 with h1 | h1
      · omega
      · exact hS h1⟩ }
/-- What an append makes of a row that is one's own, or nil. -/
theorem append_run {t tx ty e : TypeId} {i : TypeInfo} {z : Value} (hs : St C F ρ l H a w) {d : Nat} {c : Cont} {vs rest : List Value} {loc : Loc} {c' cc : Cont} {us : List Value} {u : Value}
    (h1 : P.underlying t = some (.slice e)) (hi : P.info? e = some i) (hz : i.zero = some z) (hzs : z.cells.size = i.size) (hb : i.bytes ≤ 2048) (hzo : ∀ v ∈ z.cells.toList, v.oneCell' = true)
    (hrow : RowAt ⟨w, F⟩ loc (vs ++ rest) e) (hc : ContRep ⟨w, F⟩ c vs) (hrest : ∀ v ∈ rest, v.oneCell' = true) (hl : (vs ++ rest).length = loc.cap * c.sz) (hn : c.len = loc.n) (hcap : c.len ≤ loc.cap) (hsz : c.sz = i.size)
    (hZ : ∀ i, loc.Z i → ¬ F i ∧ i < w.heap.size ∧ (C.w0.heap.size ≤ i ∨ C.S i) ∧ ∀ j b, getH H j = some b → ¬ (ρ j).Z i)
    (hsrc : Src P i.size tx u c'.len us w) (hcat : ContRep ⟨w, F⟩ cc (vs ++ us)) (hclen : cc.len = c.len + c'.len) (hcsz : cc.sz = c.sz) (hlim : c.len + c'.len ≤ lim) (hf : freshN d C.N l H = true) (hd : d < C.N) :
    ∃ u' w' ρ', (Builtin.append_ #[t, tx] ty #[.slice loc.ad c.len loc.cap, u]).run P w = .ok u' w' ∧ St C F ρ' (putE l d (S1 (.rw d))) ((d, .row cc e) :: H) (a.put (some d) u') w' ∧
      w'.os = w.os ∧ w'.tape = w.tape ∧ w'.output = w.output ∧ w.heap.size ≤ w'.heap.size ∧ (∀ i, i < w.heap.size → ¬ loc.Z i → w'.heap[i]? = w.heap[i]?) ∧ (∀ k, k ≠ d → ρ' k = ρ k) ∧ ∀ i, (ρ' d).Z i → w.heap.size ≤ i ∨ loc.Z i := by
  have lenN := hsrc.newsLen
  have hvs := hc.1
  have husone : ∀ v ∈ us, v.oneCell' = true := hsrc.one
  by_cases hroom : c.len + c'.len ≤ loc.cap
  · rcases hrow with ⟨⟨hg, hZb⟩, had⟩ | ⟨hnil, had, hcap0, _⟩
    · rw [had]
      have hrl : c'.len * i.size ≤ rest.length := by
        have : (c.len + c'.len) * i.size ≤ loc.cap * i.size := Nat.mul_le_mul_right _ hroom
        simp only [List.length_append] at hl
        rw [Nat.add_mul] at this
        rw [hsz] at hl hvs
        omega
      have hrun := run_append_room_src (P := P) w t tx ty e i h1 hi loc.b 0 c.len loc.cap u c'.len us hsrc hroom
        (fun j hj => by
          rw [cell_of_row w loc.b _ _ e (0, 0) hg]
          simp only [List.getElem?_toArray, Option.isSome_iff_exists]
          refine ⟨_, List.getElem?_eq_getElem (by rw [List.length_append, hvs, hsz]; omega)⟩)
        (fun j hj => frozen_of_row w loc.b _ _ e hg)
      rw [setCells_row loc.b e (0, 0) us (0 + c.len * i.size) (vs ++ rest) w hg (by rw [List.length_append, hvs, hsz]; omega)] at hrun
      have e1 : (vs ++ rest).take (0 + c.len * i.size) ++ us ++ (vs ++ rest).drop (0 + c.len * i.size + us.length) = (vs ++ us) ++ rest.drop (c'.len * i.size) := by
        rw [hsz] at hvs
        rw [Nat.zero_add, ← hvs, List.take_left, lenN, List.drop_append, List.drop_of_length_le (by omega), List.nil_append, Nat.add_sub_cancel_left]
      rw [e1] at hrun
      have s1 := hs.chg (w' := w.setRow loc.b ((vs ++ us) ++ rest.drop (c'.len * i.size)).toArray) loc.Z (fun i hi => ⟨(hZ i hi).1, (hZ i hi).2.2⟩) rfl rfl rfl (by simp) (fun i hi => setRow_other _ _ _ _ (fun e => hi (by rw [hZb]; exact e)))
      have hle : Mem.le ⟨w, F⟩ ⟨w.setRow loc.b ((vs ++ us) ++ rest.drop (c'.len * i.size)).toArray, F⟩ := Mem.le_of (fun _ h => h) fun i hF => setRow_other _ _ _ _ (fun e => (hZ i (by rw [hZb]; exact e)).1 hF)
      have s2 := s1.add (k := d) (x := ⟨loc.b, loc.ad, cc.len, loc.cap, loc.Z⟩) (b := .row cc e) hf
        ⟨vs ++ us, rest.drop (c'.len * i.size), .inl ⟨⟨setRow_heap w _ _ _ e (0, 0) hg, hZb⟩, had⟩, hcat.mono hle, fun v hv => hrest v (List.mem_of_mem_drop hv), by
          rw [hcsz, hsz]; simp only [List.length_append, List.length_drop] at hl ⊢; rw [lenN]; rw [hsz] at hl hvs; omega, rfl, (by omega : cc.len ≤ loc.cap)⟩ rfl
        (fun i hi => ⟨(hZ i hi).1, by simpa using (hZ i hi).2.1, (hZ i hi).2.2.1⟩) (fun j b hj i hi => (hZ i hi).2.2.2 j b hj)
      refine ⟨_, _, _, hrun, s2.put hd ?_, rfl, rfl, rfl, by simp, fun i _ hi => setRow_other _ _ _ _ (fun e => hi (by rw [hZb]; exact e)), fun k hk => by simp [updL, hk], fun i hi => .inr (by simpa [updL] using hi)⟩
      simp [ERep, SRep, ARep, updL, had, hclen]
    · rw [had]
      have hn0 : c.len = 0 := by omega
      have hm0 : c'.len = 0 := by omega
      have hus : us = [] := List.eq_nil_of_length_eq_zero (by rw [lenN, hm0]; simp)
      subst hus
      rw [hm0] at hsrc
      have hrun := run_append_nothing (P := P) w t tx ty e i h1 hi none c.len loc.cap hcap u hsrc
      obtain ⟨ρ', h5, hfr⟩ := new_row (t := e) (cap := 0) (ad := none) hs (⟨rfl, rfl, rfl, Nat.le_refl _, fun _ _ => rfl⟩ : Below w.heap.size w w) hcat (rest := []) (by simp) (by
          have : vs = [] := (List.append_eq_nil_iff.1 hnil).1
          subst this; simp) (by omega) hf hd (.inr ⟨by
          have : vs = [] := (List.append_eq_nil_iff.1 hnil).1
          subst this; rfl, rfl, rfl⟩)
      refine ⟨_, _, ρ', hrun, ?_, rfl, rfl, rfl, Nat.le_refl _, fun _ _ _ => rfl, hfr.rho, fun i hi => ?_⟩
      · rw [hcap0]
        have : cc.len = c.len := by omega
        rw [this] at h5
        exact h5
      · rcases hfr.own d (.row cc e) (by simp [getH]) i hi with h | ⟨k0, b0, h6, h7⟩
        · exact .inl h
        · have h8 := h5.dis d k0 (.row cc e) b0 (by simp [getH])
          have hne : k0 ≠ d := fun e => by
            simp only [freshN, Bool.and_eq_true, Bool.not_eq_true'] at hf
            exact not_memN hf.2.2 (e ▸ (refsH_get h6).1)
          have h9 : getH ((d, Blk.row cc e) :: H) k0 = some b0 := by
            have : Nat.beq d k0 = false := nbeq_false (Ne.symm hne)
            simp [getH, this, h6]
          exact absurd (by rw [hfr.rho k0 hne]; exact h7) (h8 h9 (Ne.symm hne) i hi)
  · have hold : (Builtin.firstCells i.size c.len (.slice loc.ad c.len loc.cap)).run P w.drew = .ok vs.toArray w.drew := by
      rcases hrow with ⟨⟨hg, hZb⟩, had⟩ | ⟨hnil, had, hcap0, _⟩
      · rw [had]
        exact run_firstCells_some w.drew i.size c.len ⟨loc.b, 0, none⟩ c.len loc.cap vs (by rw [hvs, hsz]) (fun j v hj => by
          have e1 : (⟨loc.b, 0, none⟩ : Addr).add j = ⟨loc.b, 0 + j, none⟩ := Addr.add_mid ..
          have hg' : w.drew.heap[loc.b]? = some (.cells (vs ++ rest).toArray e (0, 0)) := hg
          rw [e1, cell_of_row w.drew loc.b _ _ e (0, 0) hg']
          simp only [List.getElem?_toArray, Nat.zero_add]
          have hj' : j < vs.length := by
            rcases Nat.lt_or_ge j vs.length with h | h
            · exact h
            · rw [List.getElem?_eq_none h] at hj; cases hj
          rw [List.getElem?_append_left hj', hj])
      · have : vs = [] := (List.append_eq_nil_iff.1 hnil).1
        subst this
        have hn0 : c.len = 0 := by omega
        rw [had, hn0]
        exact run_firstCells_none w.drew i.size 0 0 loc.cap
    have hlim' : (c.len + c'.len) * i.bytes ≤ 140737488355328 := by
      have := Nat.mul_le_mul hlim hb
      simpa [lim] using this
    simp only [lim] at hlim
    have hrun := run_append_grow_src (P := P) w t tx ty e i z h1 hi hz loc.ad c.len loc.cap vs hold u c'.len us hsrc (by omega) (by omega) (growslice_fits (by omega) (by simpa using hlim'))
    have hge := grownCap_ge w (c.len + c'.len) loc.cap e
    have hBel : Below w.heap.size w (w.drew.alloc (.cells ((vs ++ us).toArray ++ Builtin.zeroCells z.cells (grownCap w (c.len + c'.len) loc.cap e - (c.len + c'.len))) e)) := ⟨rfl, rfl, rfl, by simp, fun j hj => Below.heap_alloc w.drew _ j hj⟩
    have hzl : (Builtin.zeroCells z.cells (grownCap w (c.len + c'.len) loc.cap e - (c.len + c'.len))).toList.length = (grownCap w (c.len + c'.len) loc.cap e - (c.len + c'.len)) * i.size := by
      simp [Builtin.zeroCells, hzs]
    obtain ⟨ρ', h5, hfr⟩ := new_row (t := e) (cap := grownCap w (c.len + c'.len) loc.cap e) (ad := some ⟨w.heap.size, 0, none⟩) (rest := (Builtin.zeroCells z.cells (grownCap w (c.len + c'.len) loc.cap e - (c.len + c'.len))).toList) hs hBel hcat
      (fun v hv => by
        simp only [Builtin.zeroCells, Array.toList_map, List.mem_map] at hv
        obtain ⟨j, hj, rfl⟩ := hv
        rcases Nat.eq_zero_or_pos z.cells.size with h0 | h0
        · simp [h0] at hj
        · have hlt := Nat.mod_lt j h0
          exact hzo _ (by rw [getElem!_pos z.cells (j % z.cells.size) hlt]; simp))
      (by rw [List.length_append, hzl, hcat.1, hclen, hcsz, hsz, ← Nat.add_mul]; congr 1; omega) (by omega) hf hd (.inl ⟨by
        have := heap_alloc_new w.drew (.cells ((vs ++ us).toArray ++ Builtin.zeroCells z.cells (grownCap w (c.len + c'.len) loc.cap e - (c.len + c'.len))) e)
        have e2 : ((vs ++ us) ++ (Builtin.zeroCells z.cells (grownCap w (c.len + c'.len) loc.cap e - (c.len + c'.len))).toList).toArray = (vs ++ us).toArray ++ Builtin.zeroCells z.cells (grownCap w (c.len + c'.len) loc.cap e - (c.len + c'.len)) := by
          apply Array.ext'; simp
        rw [e2]; exact this, rfl⟩)
    refine ⟨_, _, ρ', hrun, ?_, hfr.os, hfr.tape, hfr.output, hfr.size, fun i hi _ => hBel.block i hi, hfr.rho, fun i hi => ?_⟩
    · rw [hclen] at h5
      exact h5
    · rcases hfr.own d (.row cc e) (by simp [getH]) i hi with h | ⟨k0, b0, h6, h7⟩
      · exact .inl h
      · have h8 := h5.dis d k0 (.row cc e) b0 (by simp [getH])
        have hne : k0 ≠ d := fun e => by
          simp only [freshN, Bool.and_eq_true, Bool.not_eq_true'] at hf
          exact not_memN hf.2.2 (e ▸ (refsH_get h6).1)
        have h9 : getH ((d, Blk.row cc e) :: H) k0 = some b0 := by
          have : Nat.beq d k0 = false := nbeq_false (Ne.symm hne)
          simp [getH, this, h6]
        exact absurd (by rw [hfr.rho k0 hne]; exact h7) (h8 h9 (Ne.symm hne) i hi)
def emptyC : Cont → Cont
  | .ints k _ => .ints k []
  | .bts _ => .bts []
  | .st sz _ c => .st sz 0 c
theorem emptyC_rep (m : Mem) (c : Cont) : ContRep m (emptyC c) [] ∧ (emptyC c).len = 0 ∧ (emptyC c).sz = c.sz := by
  cases c with
  | ints k L => exact ⟨⟨by simp [emptyC, Cont.len], by simp, rfl⟩, rfl, rfl⟩
  | bts Ls => exact ⟨⟨by simp [emptyC, Cont.len], by simp, fun i L h => by simp at h⟩, rfl, rfl⟩
  | st sz n c => exact ⟨⟨by simp [emptyC, Cont.len], by simp, fun i h => absurd h (Nat.not_lt_zero _)⟩, rfl, rfl⟩
/-- What is appended; a row that is there and empty is of the own row's kind. -/
def contentB (H : Heap) (base x : AV) : Option Cont :=
  match x with
  | .d (.v (.slice (some _) 0 _)) => match base with
    | .rw k => match getH H k with
      | some (.row c _) => some (emptyC c)
      | _ => none
    | _ => contentOf H x
  | _ => contentOf H x
theorem src_ofB {tx e' : TypeId} {base x : AV} {u : Value} {c : Cont} (hu : P.underlying tx = some (.slice e')) (h : contentB H base x = some c) (hH : HOk w F ρ H) (hr : ARep ⟨w, F⟩ ρ x u) :
    ∃ vs, Src P c.sz tx u c.len vs w ∧ ContRep ⟨w, F⟩ c vs := by
  unfold contentB at h
  split at h
  · rename_i ad cap
    split at h
    · split at h
      · rename_i c0 ty hk
        simp only [Option.some.injEq] at h; subst h
        obtain ⟨e1, e2, e3⟩ := emptyC_rep ⟨w, F⟩ c0
        have hv : u = .slice (some ad) 0 cap := hr
        subst hv
        refine ⟨[], ?_, e1⟩
        rw [e2]
        exact Src.ofSlice w hu ad 0 cap [] (by simp) (fun j u hj => by simp at hj) (fun u hu => by simp at hu)
      · cases h
    · exact src_of hu h hH hr
  · exact src_of hu h hH hr
/-- The element's type, as append wants it. -/
def elemOk (P : Program) (e : TypeId) (sz : Nat) : Bool :=
  match P.info? e with
  | some i => match i.zero with
    | some z => Nat.beq i.size sz && (Nat.ble i.bytes 2048 && (Nat.beq z.cells.size sz && z.cells.toList.all Value.oneCell'))
    | none => false
  | none => false
theorem elemOk_spec {e : TypeId} {sz : Nat} (h : elemOk P e sz = true) : ∃ i z, P.info? e = some i ∧ i.zero = some z ∧ i.size = sz ∧ i.bytes ≤ 2048 ∧ z.cells.size = i.size ∧ ∀ v ∈ z.cells.toList, v.oneCell' = true := by
  unfold elemOk at h
  split at h
  · rename_i i hi
    split at h
    · rename_i z hz
      simp only [Bool.and_eq_true] at h
      obtain ⟨h1, h2, h3, h4⟩ := h
      have e1 := Nat.eq_of_beq_eq_true h1
      have e3 := Nat.eq_of_beq_eq_true h3
      exact ⟨i, z, hi, hz, e1, Nat.le_of_ble_eq_true h2, by omega, fun v hv => List.all_eq_true.1 h4 v hv⟩
    · cases h
  · cases h
def appV (P : Program) (N : Nat) (G : List (Nat × List DC)) (l : Env) (H : Heap) (t tx d : Nat) (s x : Operand) : Option (List Prop × Env × Heap) :=
  match P.underlying t, P.underlying tx, aOf (ev G l s), aOf (ev G l x) with
  | some (.slice e), some (.slice _), some base, some src => match contentB H base src with
    | some c' => match elemOk P e c'.sz, base with
      | true, .d (.v (.slice none 0 0)) => match freshN d N l H && Nat.blt d N with
        | true => some ([c'.len ≤ lim], putE l d (S1 (.rw d)), (d, .row c' e) :: H)
        | false => none
      | true, .rw k => match getH H k with
        | some (.row c ty) => match catC c c', Nat.beq ty e && (freshN d N l (delH H k) && Nat.blt d N) with
          | some cc, true => some ([c.len + c'.len ≤ lim], putE l d (S1 (.rw d)), (d, .row cc e) :: delH H k)
          | _, _ => none
        | _ => none
      | _, _ => none
    | none => none
  | _, _, _, _ => none
theorem appV_ok {o : Oper} {t tx d : Nat} {s x : Operand} {l' : Env} {H' : Heap} {ps : List Prop} (hG : C.G = G) (hop : o.op = .call { callee := .builtin .append, args := #[s, x], argTypes := #[t, tx] }) (hdst : o.dst = some d)
    (h : appV P C.N G l H t tx d s x = some (ps, l', H')) : StepOk P C o l H ps l' H' (fun i => i = d) := by
  intro hp F ρ a w hs Q K hK
  unfold appV at h
  split at h
  · rename_i e e' base src hu hux hb hx
    split at h
    · rename_i c' hc'
      have hsrcv := aOf_rep hs hG hx
      have hbv := aOf_rep hs hG hb
      obtain ⟨us, hS, hcr⟩ := src_ofB hux hc' hs.toHOk hsrcv
      have fin : ∀ {u' : Value} {w' : World}, (Builtin.append_ #[t, tx] o.type #[a.eval s, a.eval x]).run P w = .ok u' w' → (execOp a.eval o).run P w = .ok (.value u') w' := fun {u' w'} hrun => by
        obtain ⟨dst, op, type, pos, after, guard⟩ := o
        simp only at hop hrun
        subst hop
        simp [execOp, resolve, invoke, builtin, hrun, Result.andThen]
      split at h
      · rename_i hel
        obtain ⟨i, z, hi, hz, hsz, hby, hzs, hzo⟩ := elemOk_spec hel
        split at h
        · rename_i hfr
          simp only [Bool.and_eq_true] at hfr
          simp only [Option.some.injEq, Prod.mk.injEq] at h; obtain ⟨rfl, rfl, rfl⟩ := h
          obtain ⟨e1, e2, e3⟩ := emptyC_rep ⟨w, F⟩ c'
          rw [← hsz] at hS
          obtain ⟨u', w', ρ', hrun, hst, o1, o2, o3, o4, o5, o6, o7⟩ := append_run (ty := o.type) (loc := ⟨0, none, 0, 0, fun _ => False⟩) (vs := []) (rest := []) (c := emptyC c') (cc := c') hs hu hi hz hzs hby hzo (.inr ⟨rfl, rfl, rfl, rfl⟩) e1 (by simp) (by simp) e2 (by omega) (by omega)
            (fun i hi => hi.elim) hS (by simpa using hcr) (by omega) (by rw [e3]) (by have := hp.1; omega) hfr.1 (Nat.le_of_ble_eq_true hfr.2)
          have hb' : a.eval s = .slice none 0 0 := hbv
          rw [e2] at hrun
          have hrun' := fin (by rw [hb']; exact hrun)
          simp only [Oper.wp, hrun', Oper.upon]
          rw [hdst]
          rw [hdst] at hK
          refine hK _ _ _ _ hst ⟨o1, o2, o3, o4, fun i hi _ => o5 i hi (fun h => h), fun _ h => h, fun _ h => .inl h, fun k hk => o6 k hk, fun k b hk j hj => ?_⟩
          rcases cons_cases k b hk with rfl | ⟨hne, b0, hk0⟩
          · rcases o7 j hj with h | h
            · exact .inl h
            · exact h.elim
          · rw [o6 k hne] at hj; exact .inr ⟨k, b0, hk0, hj⟩
        · cases h
      · rename_i k hel
        obtain ⟨i, z, hi, hz, hsz, hby, hzs, hzo⟩ := elemOk_spec hel
        split at h
        · rename_i c ty hk
          split at h
          · rename_i cc hcat hfr
            simp only [Bool.and_eq_true] at hfr
            have hty := Nat.eq_of_beq_eq_true hfr.1
            subst hty
            simp only [Option.some.injEq, Prod.mk.injEq] at h; obtain ⟨rfl, rfl, rfl⟩ := h
            obtain ⟨vs, rest, hrow, hc, hrest, hl, hn, hcap⟩ := hs.hp k _ hk
            obtain ⟨g1, g2, g3, g4⟩ := catC_rep hcat hc hcr
            have hs0 : St C F ρ l (delH H k) a w := hs.heap_map fun j b hj => ⟨b, (getH_del_some hj).2, fun h => h⟩
            rw [← hsz] at hS
            obtain ⟨u', w', ρ', hrun, hst, o1, o2, o3, o4, o5, o6, o7⟩ := append_run (ty := o.type) (loc := ρ k) hs0 hu hi hz hzs hby hzo hrow hc hrest hl hn hcap (by omega)
              (fun i hi => ⟨(hs.own k _ hk i hi).1, (hs.own k _ hk i hi).2, hs.mine k _ hk i hi, fun j b hj => hs.dis k j _ b hk (getH_del_some hj).2 (Ne.symm (getH_del_some hj).1) i hi⟩)
              hS g1 g2 g3 hp.1 hfr.2.1 (Nat.le_of_ble_eq_true hfr.2.2)
            have hb' : a.eval s = .slice (ρ k).ad (ρ k).n (ρ k).cap := hbv
            have hrun' := fin (by rw [hb', ← hn]; exact hrun)
            simp only [Oper.wp, hrun', Oper.upon]
            rw [hdst]
            rw [hdst] at hK
            refine hK _ _ _ _ hst ⟨o1, o2, o3, o4, fun i hi hz => o5 i hi (hz k _ hk), fun _ h => h, fun _ h => .inl h, fun k hk => o6 k hk, fun j b hj i hi => ?_⟩
            rcases cons_cases j b hj with rfl | ⟨hne, b0, hk0⟩
            · rcases o7 i hi with h | h
              · exact .inl h
              · exact .inr ⟨k, _, hk, h⟩
            · rw [o6 j hne] at hi; exact .inr ⟨j, b0, (getH_del_some hk0).2, hi⟩
          · cases h
        · cases h
      · cases h
    · cases h
  · cases h
end
end Go.Dx
