/- append, from whatever source, to an own row or to nil; make. -/
import Derived.Test.YtjcghjgennddaaaDoorSxArr
import Derived.Deep.AppendSrc
import Derived.Laws.MakeOwn
namespace Go.Sx
open Go.RowKit
set_option linter.unusedVariables false
set_option linter.unusedSimpArgs false
section
variable {P : Program} {Q : Exit → Act → World → Prop} {C : Ctx} {l : Env} {H : Heap}
/-- What is appended: so many elements, these cells. -/
def SrcOf (P : Program) (C : Ctx) (l : Env) (H : Heap) (size : Nat) (tx : TypeId) (x : Operand) (m : Nat) (vs : List Value) : Prop :=
  ∀ ρ a w, Sv C ρ l H a w → Src P size tx (a.eval x) m vs w
theorem srcof_own {size tx e' m k off c : Nat} {x : Operand} {b : Blk} {vs : List Value} (hu : P.underlying tx = some (.slice e')) (hx : ev l x = some (.s (.a (.ls k off m c)))) (hk : getH H k = some b) (hl : vs.length = m * size) (h1 : ∀ u ∈ vs, u.oneCell' = true)
    (hf : ∀ ρ j u, vs[j]? = some u → (flat ρ b.cs)[off + j]? = some u) : SrcOf P C l H size tx x m vs := by
  intro ρ a w hs
  rw [(hs.ev hx).1]
  refine Src.ofSlice w hu ⟨ρ k, off, none⟩ m c vs hl (fun j u hj => ?_) h1
  have hp := (hs.hp k _ hk).1
  have e : (⟨ρ k, off, none⟩ : Addr).add j = ⟨ρ k, off + j, none⟩ := Addr.add_mid ..
  rw [e, cell_of_row w (ρ k) _ _ _ (0, 0) hp]
  simpa using hf ρ j u hj
theorem bytes_one (L : List Int) : ∀ u ∈ L.map (Value.int .u8), u.oneCell' = true := by
  intro u hu
  obtain ⟨x, _, rfl⟩ := List.mem_map.1 hu
  rfl
theorem srcof_bat {tx e' : Nat} {x : Operand} {ad : Option Addr} {len cap b off : Nat} {L : List Int} (hu : P.underlying tx = some (.slice e')) (hx : ev l x = some (.s (.a (.v (.slice ad len cap))))) (h : BAt C.E C.X ad len cap b off L) (hn : ad = none → len = 0) : SrcOf P C l H 1 tx x len (L.map (Value.int .u8)) := by
  intro ρ a w hs
  have ex : a.eval x = .slice ad len cap := (hs.ev hx).1
  rw [ex]
  rcases Nat.eq_zero_or_pos len with h0 | h0
  · subst h0
    have hL : L = [] := List.eq_nil_of_length_eq_zero h.ln
    subst hL
    cases ad with
    | none => exact Src.ofNil w hu cap
    | some p => exact Src.ofSlice w hu p 0 cap [] (by simp) (fun j u hj => by simp at hj) (fun u hu => by simp at hu)
  · obtain ⟨rfl, p2, p3⟩ := h.ptr h0
    refine Src.ofSlice w hu ⟨b, off, none⟩ len cap _ (by simp [h.ln]) (fun j u hj => ?_) (bytes_one L)
    have e : (⟨b, off, none⟩ : Addr).add j = ⟨b, off + j, none⟩ := Addr.add_mid ..
    rw [e, cell_of_ag hs.ag p2]
    rw [List.getElem?_map] at hj
    cases hx : L[j]? with
    | none => simp [hx] at hj
    | some x =>
      simp only [hx, Option.map_some, Option.some.injEq] at hj
      subst hj
      exact h.cell j x hx
theorem zeroCells_len (z : Value) (n : Nat) : (Builtin.zeroCells z.cells n).toList.length = n * z.cells.size := by
  simp [Builtin.zeroCells]
/-- append to nil. -/
theorem ox_append0 {o : Oper} {s x : Operand} {t tx e : TypeId} {size bytes m : Nat} (d : Nat) (vsN : List Value)
    (hop : o.op = .call { callee := .builtin .append, args := #[s, x], argTypes := #[t, tx] }) (hdst : o.dst = some d)
    (h1 : P.underlying t = some (.slice e)) (hi : (P.info? e).map (fun i => (i.size, i.bytes)) = some (size, bytes)) (hz : ((P.info? e).bind (·.zero)).map (·.cells.size) = some size)
    (hs : ev l s = some (.s (.a (.v (.slice none 0 0))))) (hsrc : SrcOf P C l H size tx x m vsN) (hm : 0 < m)
    (b1 : m ≤ maxLen) (b2 : m * bytes ≤ 140737488355328) (hchk : (noRefE d l && noRefH d H && Nat.blt d C.N) = true) :
    OX P Q C o l H (fun x : Nat × List Value => m ≤ x.1 ∧ x.1 ≤ maxLen ∧ x.2.length = (x.1 - m) * size) (fun _ => C)
      (fun x => putE l d (.s (.a (.ls d 0 m x.1)))) (fun x => (d, ⟨[.vals (vsN ++ x.2)], e⟩) :: H) := by
  intro ρ a w hst K hK
  simp only [Bool.and_eq_true] at hchk
  obtain ⟨⟨c1, c2⟩, c3⟩ := hchk
  have hd : d < C.N := Nat.le_of_ble_eq_true c3
  obtain ⟨dst, op, type, pos, after, guard⟩ := o
  simp only at hop hdst
  subst hop; subst hdst
  cases hq : P.info? e with
  | none => simp [hq] at hi
  | some i =>
    have hsb : i.size = size ∧ i.bytes = bytes := by simpa [hq] using hi
    obtain ⟨rfl, rfl⟩ := hsb
    cases hzz : i.zero with
    | none => simp [hq, hzz] at hz
    | some z =>
      have hzs : z.cells.size = i.size := by simpa [hq, hzz] using hz
      have hS := hsrc ρ a w hst.toSv
      have es : a.eval s = .slice none 0 0 := (hst.ev hs).1
      have hrun := run_append_grow_src (P := P) w t tx type e i z h1 hq hzz none 0 0 [] (run_firstCells_none w.drew i.size 0 0 0) (a.eval x) m vsN hS (by omega) (by simp only [maxLen] at b1; omega) (growslice_fits (by omega) (by simpa using b2))
      have hge := grownCap_ge w (0 + m) 0 e
      have hcm := grownCap_le_maxLen w (0 + m) 0 e (by omega)
      have hrun0 : (execOp a.eval { dst := some d, op := .call { callee := .builtin .append, args := #[s, x], argTypes := #[t, tx] }, type := type, pos := pos, after := after, guard := guard }).run P w =
          .ok (.value (.slice (some ⟨w.heap.size, 0, none⟩) (0 + m) (grownCap w (0 + m) 0 e))) (w.drew.alloc (.cells (([] ++ vsN).toArray ++ Builtin.zeroCells z.cells (grownCap w (0 + m) 0 e - (0 + m))) e)) := by
        simp [execOp, resolve, invoke, builtin, es, hrun, Result.andThen]
      simp only [Oper.wp, hrun0, Oper.upon]
      have hcells : (([] ++ vsN).toArray ++ Builtin.zeroCells z.cells (grownCap w (0 + m) 0 e - (0 + m))) = (flat ρ [.vals (vsN ++ (Builtin.zeroCells z.cells (grownCap w (0 + m) 0 e - (0 + m))).toList)]).toArray := by
        apply Array.ext'
        rw [flat_vals]
        simp
      rw [hcells]
      have s1 : St C ρ l H a w.drew := hst.drew
      have hbel : Below w.heap.size w (w.drew.alloc (.cells (flat ρ [.vals (vsN ++ (Builtin.zeroCells z.cells (grownCap w (0 + m) 0 e - (0 + m))).toList)]).toArray e)) := ⟨rfl, rfl, rfl, by simp, fun j hj => Below.heap_alloc w.drew _ j hj⟩
      have s2 := hst.grow hbel
      have s3 := s2.add (d := d) (g := w.heap.size) (cs := [.vals (vsN ++ (Builtin.zeroCells z.cells (grownCap w (0 + m) 0 e - (0 + m))).toList)]) (t := e) (heap_alloc_new w.drew _) (fun hX => absurd (hst.ag _ hX).1 (Nat.lt_irrefl _))
        (fun j b hb e' => by have := hst.lt hb; omega) (.inl hst.keep.size) c1 c2 rfl (okCs_vals _) hd
      have s4 := s3.put (d := d) (e := .s (.a (.ls d 0 m (grownCap w (0 + m) 0 e)))) hd trivial
      have e0 : (EV.s (.a (.ls d 0 m (grownCap w (0 + m) 0 e)))).conc (upd ρ d w.heap.size) = .slice (some ⟨w.heap.size, 0, none⟩) (0 + m) (grownCap w (0 + m) 0 e) := by simp [EV.conc, SV.conc, AV.conc, upd]
      rw [e0] at s4
      refine hK (grownCap w (0 + m) 0 e, (Builtin.zeroCells z.cells (grownCap w (0 + m) 0 e - (0 + m))).toList) _ _ _ ⟨by omega, hcm, ?_⟩ (CExt.refl C) (agr_upd c2) s4
      rw [zeroCells_len, hzs]
      simp
/-- Nothing is appended. -/
theorem rd_append_none {o : Oper} {s x : Operand} {t tx e : TypeId} {size n cap : Nat} {ad : Option Addr} {v : SV} (hop : o.op = .call { callee := .builtin .append, args := #[s, x], argTypes := #[t, tx] })
    (h1 : P.underlying t = some (.slice e)) (hi : (P.info? e).map (·.size) = some size) (hs : ev l s = some (.s v)) (hv : ∀ ρ, ∃ ad, v.conc ρ = .slice ad n cap) (hok : v.ok) (hnc : n ≤ cap) (hsrc : SrcOf P C l H size tx x 0 []) :
    ∀ ρ a w, Sv C ρ l H a w → (execOp a.eval o).run P w = .ok (.value ((EV.s v).conc ρ)) w ∧ (EV.s v).ok := by
  intro ρ a w h
  refine ⟨?_, hok⟩
  obtain ⟨dst, op, type, pos, after, guard⟩ := o
  simp only at hop
  subst hop
  obtain ⟨ad, hv⟩ := hv ρ
  cases hq : P.info? e with
  | none => simp [hq] at hi
  | some i =>
    have hsz : i.size = size := by simpa [hq] using hi
    subst hsz
    have es : a.eval s = .slice ad n cap := (h.ev hs).1.trans hv
    have hrun := run_append_nothing (P := P) w t tx type e i h1 hq ad n cap hnc (a.eval x) (hsrc ρ a w h)
    rw [show (EV.s v).conc ρ = .slice ad n cap from hv]
    simp [execOp, resolve, invoke, builtin, es, hrun, Result.andThen]
/-- append to an own row, from whatever source. -/
theorem ox_appendS {o : Oper} {s x : Operand} {t tx e : TypeId} {size bytes m : Nat} (d k n cap : Nat) (vsL vsN rest : List Value) (ks : List Nat)
    (hop : o.op = .call { callee := .builtin .append, args := #[s, x], argTypes := #[t, tx] }) (hdst : o.dst = some d)
    (h1 : P.underlying t = some (.slice e)) (hi : (P.info? e).map (fun i => (i.size, i.bytes)) = some (size, bytes)) (hz : ((P.info? e).bind (·.zero)).map (·.cells.size) = some size)
    (hs : ev l s = some (.s (.a (.ls k 0 n cap)))) (hk : getH H k = some ⟨[.vals (vsL ++ rest)], e⟩)
    (lenL : vsL.length = n * size) (hr : rest.length = (cap - n) * size) (hnc : n ≤ cap) (hcap : cap ≤ maxLen)
    (hsrc : SrcOf P C l H size tx x m vsN)
    (b1 : n + m ≤ maxLen) (b2 : (n + m) * bytes ≤ 140737488355328)
    (hchk : (noRefE d l && noRefH d H && Nat.blt d C.N && ks.all (fun j => !(Nat.beq j k))) = true) :
    OX P Q C o l H (fun x : Nat × List Value => n + m ≤ x.1 ∧ x.1 ≤ maxLen ∧ x.2.length = (x.1 - (n + m)) * size) (fun _ => C)
      (fun x => putE l d (.s (.a (.ls d 0 (n + m) x.1)))) (fun x => (d, ⟨[.vals (vsL ++ vsN ++ x.2)], e⟩) :: restH H ks) := by
  intro ρ a w hst K hK
  simp only [Bool.and_eq_true] at hchk
  obtain ⟨⟨⟨c1, c2⟩, c3⟩, c4⟩ := hchk
  have hd : d < C.N := Nat.le_of_ble_eq_true c3
  have hkk : k ∉ ks := fun hm => by
    have := List.all_eq_true.1 c4 k hm
    simp at this
  have hfresh : noRefH d (restH H ks) = true := by
    have : ∀ L : List Nat, noRefH d (restH H L) = true := by
      intro L
      induction L with
      | nil => rfl
      | cons j r ih =>
        simp only [restH]
        split
        · rename_i v hv
          obtain ⟨q1, q2⟩ := noRefH_get c2 hv
          simp only [noRefH, Bool.and_eq_true, Bool.not_eq_true']
          exact ⟨⟨nbeq_false q1, q2⟩, ih⟩
        · exact ih
    exact this ks
  obtain ⟨dst, op, type, pos, after, guard⟩ := o
  simp only at hop hdst
  subst hop; subst hdst
  cases hq : P.info? e with
  | none => simp [hq] at hi
  | some i =>
    have hsb : i.size = size ∧ i.bytes = bytes := by simpa [hq] using hi
    obtain ⟨rfl, rfl⟩ := hsb
    cases hzz : i.zero with
    | none => simp [hq, hzz] at hz
    | some z =>
      have hzs : z.cells.size = i.size := by simpa [hq, hzz] using hz
      obtain ⟨p1, p2⟩ := hst.hp k _ hk
      obtain ⟨o1, o2⟩ := hst.own k _ hk
      have hS := hsrc ρ a w hst.toSv
      have lenN := hS.newsLen
      have es : a.eval s = .slice (some ⟨ρ k, 0, none⟩) n cap := (hst.ev hs).1
      simp only at p1
      rw [flat_vals] at p1
      have hrun0 : ∀ {v : Value} {w' : World}, (Builtin.append_ #[t, tx] type #[.slice (some ⟨ρ k, 0, none⟩) n cap, a.eval x]).run P w = .ok v w' →
          (execOp a.eval { dst := some d, op := .call { callee := .builtin .append, args := #[s, x], argTypes := #[t, tx] }, type := type, pos := pos, after := after, guard := guard }).run P w = .ok (.value v) w' := by
        intro v w' hrun
        simp [execOp, resolve, invoke, builtin, es, hrun, Result.andThen]
      by_cases hroom : n + m ≤ cap
      · have hmr : m * i.size ≤ rest.length := by rw [hr]; exact Nat.mul_le_mul_right _ (by omega)
        have hrun := run_append_room_src (P := P) w t tx type e i h1 hq (ρ k) 0 n cap (a.eval x) m vsN hS hroom
          (fun j hj => by
            rw [cell_of_row w (ρ k) _ _ e (0, 0) p1]
            simp only [List.getElem?_toArray, Option.isSome_iff_exists]
            refine ⟨_, List.getElem?_eq_getElem (by rw [List.length_append, lenL]; omega)⟩)
          (fun j hj => frozen_of_row w (ρ k) _ _ e p1)
        have hw : w.setCells (ρ k) (0 + n * i.size) vsN = w.setRow (ρ k) (flat ρ [.vals (vsL ++ vsN ++ rest.drop (m * i.size))]).toArray := by
          rw [setCells_row (ρ k) e (0, 0) vsN (0 + n * i.size) (vsL ++ rest) w p1 (by rw [List.length_append, lenL, lenN]; omega)]
          congr 2
          rw [flat_vals]
          congr 1
          · congr 1
            rw [Nat.zero_add, ← lenL, List.take_left]
          · rw [Nat.zero_add, lenN, ← lenL, List.drop_append]
            rw [List.drop_of_length_le (by omega), List.nil_append]
            congr 1
            omega
        rw [hw] at hrun
        simp only [Oper.wp, hrun0 hrun, Oper.upon]
        have s1 := hst.setRow hk (cs' := [.vals (vsL ++ vsN ++ rest.drop (m * i.size))]) (okCs_vals _)
        have s2 : St C ρ l (restH H ks) a (w.setRow (ρ k) (flat ρ [.vals (vsL ++ vsN ++ rest.drop (m * i.size))]).toArray) := s1.weaken (fun _ _ h => h) (fun j b hb => (getH_restH_ne hkk hb).2)
        have hkeep := (s1.hp k _ (getH_setH_same hk)).1
        have s3 := s2.add (d := d) (g := ρ k) hkeep o1 (fun j b hb he => by
            obtain ⟨q1, q2⟩ := getH_restH_ne (c := ⟨[.vals (vsL ++ vsN ++ rest.drop (m * i.size))], e⟩) hkk hb
            exact q1 (hst.inj j k b _ (restH_get hb) hk he)) o2 c1 hfresh rfl (okCs_vals _) hd
        have s4 := s3.put (d := d) (e := .s (.a (.ls d 0 (n + m) cap))) hd trivial
        have e0 : (EV.s (.a (.ls d 0 (n + m) cap))).conc (upd ρ d (ρ k)) = .slice (some ⟨ρ k, 0, none⟩) (n + m) cap := by simp [EV.conc, SV.conc, AV.conc, upd]
        rw [e0] at s4
        refine hK (cap, rest.drop (m * i.size)) _ _ _ ⟨hroom, hcap, ?_⟩ (CExt.refl C) (agr_upd c2) s4
        simp only [List.length_drop, hr]
        rw [← Nat.sub_mul]
        congr 1
        omega
      · have hold : (Builtin.firstCells i.size n (.slice (some ⟨ρ k, 0, none⟩) n cap)).run P w.drew = .ok vsL.toArray w.drew :=
          run_firstCells_some w.drew i.size n ⟨ρ k, 0, none⟩ n cap vsL lenL (fun j u hj => by
            have e1 : (⟨ρ k, 0, none⟩ : Addr).add j = ⟨ρ k, 0 + j, none⟩ := Addr.add_mid ..
            have hp' : w.drew.heap[ρ k]? = some (.cells (vsL ++ rest).toArray e (0, 0)) := p1
            rw [e1, cell_of_row w.drew (ρ k) _ _ e (0, 0) hp']
            simp only [List.getElem?_toArray, Nat.zero_add]
            have hj' : j < vsL.length := by
              rcases Nat.lt_or_ge j vsL.length with h | h
              · exact h
              · rw [List.getElem?_eq_none h] at hj; cases hj
            rw [List.getElem?_append_left hj', hj])
        have hrun := run_append_grow_src (P := P) w t tx type e i z h1 hq hzz (some ⟨ρ k, 0, none⟩) n cap vsL hold (a.eval x) m vsN hS (by omega) (by simp only [maxLen] at b1; omega) (growslice_fits (by omega) b2)
        have hge := grownCap_ge w (n + m) cap e
        have hcm := grownCap_le_maxLen w (n + m) cap e b1
        simp only [Oper.wp, hrun0 hrun, Oper.upon]
        have hcells : ((vsL ++ vsN).toArray ++ Builtin.zeroCells z.cells (grownCap w (n + m) cap e - (n + m))) = (flat ρ [.vals (vsL ++ vsN ++ (Builtin.zeroCells z.cells (grownCap w (n + m) cap e - (n + m))).toList)]).toArray := by
          apply Array.ext'
          rw [flat_vals]
          simp
        rw [hcells]
        have hbel : Below w.heap.size w (w.drew.alloc (.cells (flat ρ [.vals (vsL ++ vsN ++ (Builtin.zeroCells z.cells (grownCap w (n + m) cap e - (n + m))).toList)]).toArray e)) := ⟨rfl, rfl, rfl, by simp, fun j hj => Below.heap_alloc w.drew _ j hj⟩
        have s2 : St C ρ l (restH H ks) a _ := (hst.grow hbel).weaken (fun _ _ h => h) (fun j b hb => restH_get hb)
        have s3 := s2.add (d := d) (g := w.heap.size) (cs := [.vals (vsL ++ vsN ++ (Builtin.zeroCells z.cells (grownCap w (n + m) cap e - (n + m))).toList)]) (t := e) (heap_alloc_new w.drew _) (fun hX => absurd (hst.ag _ hX).1 (Nat.lt_irrefl _))
          (fun j b hb e' => by have := hst.lt (restH_get hb); omega) (.inl hst.keep.size) c1 hfresh rfl (okCs_vals _) hd
        have s4 := s3.put (d := d) (e := .s (.a (.ls d 0 (n + m) (grownCap w (n + m) cap e)))) hd trivial
        have e0 : (EV.s (.a (.ls d 0 (n + m) (grownCap w (n + m) cap e)))).conc (upd ρ d w.heap.size) = .slice (some ⟨w.heap.size, 0, none⟩) (n + m) (grownCap w (n + m) cap e) := by simp [EV.conc, SV.conc, AV.conc, upd]
        rw [e0] at s4
        refine hK (grownCap w (n + m) cap e, (Builtin.zeroCells z.cells (grownCap w (n + m) cap e - (n + m))).toList) _ _ _ ⟨hge, hcm, ?_⟩ (CExt.refl C) (agr_upd c2) s4
        rw [zeroCells_len, hzs]
theorem madeCells_rep (z : Value) (v : Value) (hz : z.cells = #[v]) (n : Nat) : (madeCells z.cells (n * 1)).toList = List.replicate n v := by
  unfold madeCells
  rw [hz]
  simp
  apply List.ext_getElem
  · simp
  · intro i h1 h2
    simp [Nat.mod_one]
/-- make, of elements of one cell. -/
theorem ot_make {o : Oper} {t e : TypeId} {x y : Operand} {d L c bytes : Nat} {kl kc : IntKind} {X Y : Int} {v : Value} (hop : o.op = .makeSlice t x y) (hdst : o.dst = some d) (hu : P.underlying t = some (.slice e)) (hi : (P.info? e).map (fun i => (i.size, i.bytes)) = some (1, bytes)) (hz : ((P.info? e).bind (·.zero)).map (·.cells) = some #[v])
    (hx : ev l x = some (.s (.a (.v (.int kl X))))) (hy : ev l y = some (.s (.a (.v (.int kc Y))))) (hX : X = (L : Int)) (hY : Y = (c : Int)) (hlc : L ≤ c) (hb : bytes * c ≤ 281474976710656) (hm : c ≤ maxLen)
    (hchk : (noRefE d l && noRefH d H && Nat.blt d C.N) = true) :
    OT P Q C o l H (putE l d (.s (.a (.ls d 0 L c)))) ((d, ⟨[.vals (List.replicate c v)], e⟩) :: H) := by
  intro ρ a w hst K hK
  simp only [Bool.and_eq_true] at hchk
  obtain ⟨⟨c1, c2⟩, c3⟩ := hchk
  have hd : d < C.N := Nat.le_of_ble_eq_true c3
  obtain ⟨dst, op, type, pos, after, guard⟩ := o
  simp only at hop hdst
  subst hop; subst hdst; subst hX; subst hY
  have ex := (hst.ev hx).1
  have ey := (hst.ev hy).1
  cases hq : P.info? e with
  | none => simp [hq] at hi
  | some i =>
    have hsb : i.size = 1 ∧ i.bytes = bytes := by simpa [hq] using hi
    obtain ⟨hsz, rfl⟩ := hsb
    cases hzz : i.zero with
    | none => simp [hq, hzz] at hz
    | some z =>
      have hzs : z.cells = #[v] := by simpa [hq, hzz] using hz
      have hb' : (i.bytes : Int) * (c : Int) ≤ 281474976710656 := by
        have h : ((i.bytes * c : Nat) : Int) ≤ 281474976710656 := by omega
        rwa [Int.natCast_mul] at h
      have hrun := run_make (P := P) w t e i z hu hq hzz kl kc L c (by omega) (by omega) hb' (by simp only [maxLen] at hm; omega)
      simp only [Int.toNat_natCast, hsz] at hrun
      have hcells : madeCells z.cells (c * 1) = (flat ρ [.vals (List.replicate c v)]).toArray := by
        apply Array.ext'
        rw [flat_vals, madeCells_rep z v hzs]
      rw [hcells] at hrun
      have hrun0 : (execOp a.eval { dst := some d, op := .makeSlice t x y, type := type, pos := pos, after := after, guard := guard }).run P w =
          .ok (.value (.slice (some ⟨w.heap.size, 0, none⟩) L c)) (w.alloc (.cells (flat ρ [.vals (List.replicate c v)]).toArray e)) := by
        simp only [EV.conc, SV.conc, AV.conc] at ex ey
        simp [execOp, ex, ey, hrun, Result.andThen]
      simp only [Oper.wp, hrun0, Oper.upon]
      have hbel : Below w.heap.size w (w.alloc (.cells (flat ρ [.vals (List.replicate c v)]).toArray e)) := ⟨rfl, rfl, rfl, by simp, fun j hj => Below.heap_alloc w _ j hj⟩
      have s3 := (hst.grow hbel).add (d := d) (g := w.heap.size) (cs := [.vals (List.replicate c v)]) (t := e) (heap_alloc_new w _) (fun hX => absurd (hst.ag _ hX).1 (Nat.lt_irrefl _))
        (fun j b hb e' => by have := hst.lt hb; omega) (.inl hst.keep.size) c1 c2 rfl (okCs_vals _) hd
      have s4 := s3.put (d := d) (e := .s (.a (.ls d 0 L c))) hd trivial
      have e0 : (EV.s (.a (.ls d 0 L c))).conc (upd ρ d w.heap.size) = .slice (some ⟨w.heap.size, 0, none⟩) L c := by simp [EV.conc, SV.conc, AV.conc, upd]
      rw [e0] at s4
      exact hK (upd ρ d w.heap.size) _ _ (agr_upd c2) s4
end
end Go.Sx
