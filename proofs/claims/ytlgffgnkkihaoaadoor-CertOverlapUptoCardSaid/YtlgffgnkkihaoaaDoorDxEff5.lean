/- make, copy, strings to bytes; all steps together. -/
import Derived.Test.YtlgffgnkkihaoaaDoorDxEff4
import Derived.Laws.IdiomStrings
namespace Go.Dx
open Go.RowKit
set_option linter.unusedVariables false
set_option linter.unusedSimpArgs false
section
variable {P : Program} {C : Ctx} {F : Nat → Prop} {ρ : Nat → Loc} {l : Env} {H : Heap} {a : Act} {w : World} {G : List (Nat × List DC)}

/-- Blocks that nobody owns are only read from now on. -/
theorem St.addF (h : St C F ρ l H a w) (Z : Nat → Prop) (hZ : ∀ i, Z i → i < w.heap.size ∧ (C.w0.heap.size ≤ i ∨ C.S i) ∧ ∀ j b, getH H j = some b → ¬ (ρ j).Z i) : St C (fun i => F i ∨ Z i) ρ l H a w := by
  have hle : Mem.le ⟨w, F⟩ ⟨w, fun i => F i ∨ Z i⟩ := Mem.le_of (fun _ hF => .inl hF) fun i hF => rfl
  refine { h with env := fun t v hv => (h.env t v hv).mono hle, hp := fun j c hj => (h.hp j c hj).mono hle fun i hi => rfl, own := fun j c hj i hi => ⟨fun hF => ?_, (h.own j c hj i hi).2⟩, frz := fun i hi => ?_, gl := h.gl.mono hle, f0 := fun i hi => .inl (h.f0 i hi), f1 := fun i hi => ?_ }
  · rcases hF with hF | hF
    · exact (h.own j c hj i hi).1 hF
    · exact (hZ i hF).2.2 j c hj hi
  · rcases hi with hi | hi
    · exact h.frz i hi
    · exact (hZ i hi).1
  · rcases hi with hi | hi
    · exact h.f1 i hi
    · exact .inr (hZ i hi).2.1
def makeV (P : Program) (N : Nat) (l : Env) (H : Heap) (t d : Nat) (X Y : Int) : Option (List Prop × Env × Heap) :=
  match P.underlying t with
  | some (.slice e) => match P.underlying e, P.info? e, freshN d N l H && (Nat.blt d N && elemOk P e 1) with
    | some (.int k), some i, true => match (i.zero.map Value.cells) with
      | some ⟨[.int k' z]⟩ => match kindB k k' with
        | true => some ([0 ≤ X ∧ X ≤ Y ∧ Y ≤ lim], putE l d (S1 (.rw d)), (d, .row (.ints k (List.replicate X.toNat z)) e) :: H)
        | false => none
      | _ => none
    | _, _, _ => none
  | _ => none
theorem madeCells_rep (z : Value) (v : Value) (hz : z.cells = #[v]) (n : Nat) : (madeCells z.cells (n * 1)).toList = List.replicate n v := by
  unfold madeCells
  rw [hz]
  simp
  apply List.ext_getElem
  · simp
  · intro i h1 h2
    simp [Nat.mod_one]
theorem makeV_ok {o : Oper} {t d : Nat} {x y : Operand} {kx ky : IntKind} {X Y : Int} {ps : List Prop} {l' : Env} {H' : Heap} (hG : C.G = G) (hop : o.op = .makeSlice t x y) (hdst : o.dst = some d) (hx : intOf (ev G l x) = some (kx, X)) (hy : intOf (ev G l y) = some (ky, Y))
    (h : makeV P C.N l H t d X Y = some (ps, l', H')) : StepOk P C o l H ps l' H' (fun i => i = d) := by
  intro hp F ρ a w hs Q K hK
  unfold makeV at h
  split at h
  · rename_i e hu
    split at h
    · rename_i k i he hi hb
      simp only [Bool.and_eq_true] at hb
      obtain ⟨i', z, hi', hz, hsz, hby, hzs, hzo⟩ := elemOk_spec hb.2.2
      obtain rfl : i = i' := Option.some.inj (hi.symm.trans hi')
      split at h
      · rename_i k' zz hzz
        split at h
        · rename_i hkk
          have := kind_eq _ _ hkk; subst this
          simp only [Option.some.injEq, Prod.mk.injEq] at h; obtain ⟨rfl, rfl, rfl⟩ := h
          have hzc : z.cells = #[.int k zz] := by simpa [hz] using hzz
          obtain ⟨p1, p2, p3⟩ := hp.1
          simp only [lim] at p3
          have hrun := run_make (P := P) (w := w) t e i z hu hi hz kx ky X Y p1 p2 (by have : (i.bytes : Int) * Y ≤ 2048 * 68719476736 := Int.mul_le_mul (by omega) p3 (by omega) (by omega); exact Int.le_trans this (by decide)) (by omega)
          rw [hsz] at hrun
          have hcells : madeCells z.cells (Y.toNat * 1) = ((List.replicate X.toNat zz).map (Value.int k) ++ List.replicate (Y.toNat - X.toNat) (Value.int k zz)).toArray := by
            apply Array.ext'
            rw [madeCells_rep z _ hzc]
            simp only [List.map_replicate, List.replicate_append_replicate]
            rw [show X.toNat + (Y.toNat - X.toNat) = Y.toNat by omega]
          rw [hcells] at hrun
          obtain ⟨ρ', h6, hfr⟩ := new_row (t := e) (cap := Y.toNat) (ad := some ⟨w.heap.size, 0, none⟩) (c := .ints k (List.replicate X.toNat zz)) (vs := (List.replicate X.toNat zz).map (Value.int k)) (rest := List.replicate (Y.toNat - X.toNat) (Value.int k zz)) hs (alloc_below w _)
            ⟨by simp [Cont.len, Cont.sz], fun v hv => by obtain ⟨_, _, rfl⟩ := List.mem_map.1 hv; rfl, rfl⟩ (fun v hv => by rw [List.eq_of_mem_replicate hv]; rfl) (by simp [Cont.sz]; omega) (by simp [Cont.len]; omega) hb.1 (Nat.le_of_ble_eq_true hb.2.1) (.inl ⟨alloc_at w _, rfl⟩)
          have hrun' : (execOp a.eval o).run P w = .ok (.value (.slice (some ⟨w.heap.size, 0, none⟩) X.toNat Y.toNat)) (w.alloc (.cells ((List.replicate X.toNat zz).map (Value.int k) ++ List.replicate (Y.toNat - X.toNat) (Value.int k zz)).toArray e)) := by
            obtain ⟨dst, op, type, pos, after, guard⟩ := o
            simp only at hop; subst hop
            simp only [execOp, intOf_run hs hG hx, intOf_run hs hG hy, Sem.run_bind, hrun, Result.andThen_ok, Sem.run_pure]
          simp only [Oper.wp, hrun', Oper.upon]
          rw [hdst]
          rw [hdst] at hK
          simp only [Cont.len, List.length_replicate] at h6
          exact hK _ _ _ _ h6 hfr
        · cases h
      · cases h
    · cases h
  · cases h

/-! copy -/
def copyV (P : Program) (H : Heap) (dT sT : TypeId) (x : AV) (k : IntKind) (L : List Int) : Option (Heap × Nat) :=
  match P.underlying dT, P.underlying sT with
  | some (.slice e), some (.slice _) => match szT P e with
    | some 1 => match x with
      | .ls kb off n i len => match getH H kb with
        | some (.cells cs ty) => match atI cs off with
          | some (kd, m, xs) => match Nat.beq m n && kindB kd k with
            | true => match setI cs off (xs.take i ++ L.take (min L.length len) ++ xs.drop (i + min L.length len)) with
              | some cs' => some (setH H kb (.cells cs' ty), min L.length len)
              | none => none
            | false => none
          | none => none
        | _ => none
      | _ => none
    | _ => none
  | _, _ => none
theorem copyV_ok {o : Oper} {dT sT : Nat} {x y : Operand} {p q : AV} {k : IntKind} {L : List Int} {m : Nat} {H' : Heap} (hG : C.G = G) (hop : o.op = .call { callee := .builtin .copy, args := #[x, y], argTypes := #[dT, sT] }) (hd : dstOk C.N o.dst = true)
    (hx : aOf (ev G l x) = some p) (hy : aOf (ev G l y) = some q) (hL : seesI H q = some (k, L)) (h : copyV P H dT sT p k L = some (H', m)) : StepOk P C o l H [] (putO l o.dst (eI .i64 (m : Nat))) H' (fun _ => False) := by
  intro _ F ρ a w hs Q K hK
  have hxv := aOf_rep hs hG hx
  have hsrc := seesI_spec hL hs.toHOk (aOf_rep hs hG hy)
  unfold copyV at h
  split at h
  · rename_i e e' hu hu'
    split at h
    · rename_i hsz
      split at h
      · rename_i kb off n i len
        split at h
        · rename_i cs ty hg
          split at h
          · rename_i kd mm xs hat
            split at h
            · rename_i hb
              simp only [Bool.and_eq_true] at hb
              have e1 := Nat.eq_of_beq_eq_true hb.1
              have e2 := kind_eq _ _ hb.2
              subst e1; subst e2
              split at h
              · rename_i cs' hset
                simp only [Option.some.injEq, Prod.mk.injEq] at h; obtain ⟨rfl, rfl⟩ := h
                obtain ⟨vs, h1, h2⟩ := hs.hp kb _ hg
                obtain ⟨h3, A, B, rfl, h5, h6⟩ := atI_rep h2 hat
                obtain ⟨ex, hle⟩ := hxv
                have hml : min L.length len ≤ len := Nat.min_le_right _ _
                have hmL : min L.length len ≤ L.length := Nat.min_le_left _ _
                obtain ⟨r, h7, h8⟩ := h6 (xs.take i ++ L.take (min L.length len) ++ xs.drop (i + min L.length len)) (by simp; omega)
                rw [hset] at h7
                simp only [Option.some.injEq] at h7; subst h7
                have hrow : (A ++ xs.map (Value.int kd) ++ B).take (off + i) ++ (L.take (min L.length len)).map (Value.int kd) ++ (A ++ xs.map (Value.int kd) ++ B).drop (off + i + ((L.take (min L.length len)).map (Value.int kd)).length) = A ++ (xs.take i ++ L.take (min L.length len) ++ xs.drop (i + min L.length len)).map (Value.int kd) ++ B := by
                  have hl : ((L.take (min L.length len)).map (Value.int kd)).length = min L.length len := by simp
                  rw [hl, List.append_assoc A, ← h5, List.take_length_add_append, List.take_append_of_le_length (by simp; omega), show A.length + i + min L.length len = A.length + (i + min L.length len) by omega, List.drop_length_add_append, List.drop_append_of_le_length (by simp; omega)]
                  simp only [List.map_append, List.map_take, List.map_drop, List.append_assoc]
                obtain ⟨ad, cap, ey, hc1, hc2⟩ := hsrc
                have hrun : (Builtin.copy_ #[dT, sT] o.type #[a.eval x, a.eval y]).run P w = .ok (goInt (min L.length len : Nat)) (w.setRow (ρ kb).b (A ++ (xs.take i ++ L.take (min L.length len) ++ xs.drop (i + min L.length len)).map (Value.int kd) ++ B).toArray) := by
                  rw [ex, ey]
                  cases ad with
                  | none =>
                    have hL0 : L = [] := by
                      cases L with
                      | nil => rfl
                      | cons z L => obtain ⟨b, o2, cells, ty2, fr, e0, _⟩ := hc2 (by simp); cases e0
                    subst hL0
                    have : (w.setRow (ρ kb).b (A ++ (xs.take i ++ ([] : List Int).take (min 0 len) ++ xs.drop (i + min 0 len)).map (Value.int kd) ++ B).toArray) = w := by
                      simp only [List.take_nil, List.append_nil, Nat.zero_min, Nat.add_zero, List.take_append_drop]
                      exact setRow_self w _ _ ty (0, 0) h1.1
                    simp only [List.length_nil] at this ⊢
                    rw [this]
                    exact run_copy_none w dT sT o.type e _ none len _ 0 cap hu hsz (by simp)
                  | some p =>
                    have := run_copy_row P w dT sT o.type e (ρ kb).b (off + i) len (mm - i) p L.length cap (A ++ xs.map (Value.int kd) ++ B).toArray ty ((L.take (min L.length len)).map (Value.int kd)) hu hsz h1.1 (by simp)
                      (fun j v hj => by
                        cases L with
                        | nil => simp at hj
                        | cons z L =>
                          obtain ⟨b, o2, cells, ty2, fr, e0, hg2, hc3⟩ := hc2 (by simp)
                          simp only [Option.some.injEq] at e0; subst e0
                          have e3 : (⟨b, o2, none⟩ : Addr).add j = ⟨b, o2 + j, none⟩ := Addr.add_mid ..
                          rw [e3, cell_of_row w b _ _ ty2 fr hg2]
                          rw [List.getElem?_map, List.getElem?_take] at hj
                          split at hj
                          · cases hz : (z :: L)[j]? with
                            | none => simp [hz] at hj
                            | some y => simp only [hz, Option.map_some, Option.some.injEq] at hj; subst hj; exact hc3 j y hz
                          · cases hj)
                      (by simp; omega) (fun v hv => by obtain ⟨_, _, rfl⟩ := List.mem_map.1 hv; rfl)
                    rw [this]
                    simp only [List.toList_toArray]
                    rw [hrow]
                    simp
                have hrun' : (execOp a.eval o).run P w = .ok (.value (goInt (min L.length len : Nat))) (w.setRow (ρ kb).b (A ++ (xs.take i ++ L.take (min L.length len) ++ xs.drop (i + min L.length len)).map (Value.int kd) ++ B).toArray) := by
                  obtain ⟨dst, op, type, pos, after, guard⟩ := o
                  simp only at hop hrun; subst hop
                  simp [execOp, resolve, invoke, builtin, hrun, Result.andThen]
                simp only [Oper.wp, hrun', Oper.upon]
                have s1 := hs.setRow (b' := .cells cs' ty) hg h1 (fun w' hle' hb' => ⟨_, hb', h8.mono hle'⟩)
                exact hK _ _ _ _ (s1.putO hd (e := eI .i64 (min L.length len : Nat)) rfl) (oneBlk_row hg h1).fr
              · cases h
            · cases h
          · cases h
        · cases h
      · cases h
    · cases h
  · cases h

/-! bytes of strings -/
def numsOf (s : ByteArray) : List Int := s.data.toList.map fun b => (b.toNat : Int)
def strB (P : Program) (t t' : TypeId) : Bool :=
  match P.underlying t, P.underlying t' with
  | some .string, some (.slice e) => match P.underlying e with
    | some (.int .u8) => true
    | _ => false
  | _, _ => false
theorem strB_ok {o : Oper} {t t' : TypeId} {x : Operand} {s : ByteArray} (hG : C.G = G) (hop : o.op = .convert t t' x) (hd : dstOk C.N o.dst = true) (hx : aOf (ev G l x) = some (.d (.v (.string s)))) (h : strB P t t' = true) : StepOk P C o l H [] (putO l o.dst (S1 (.d (.si .u8 (numsOf s))))) H (fun _ => False) := by
  intro _ F ρ a w hs Q K hK
  unfold strB at h
  split at h
  · rename_i e hu hu'
    split at h
    · rename_i he
      have ex : a.eval x = .string s := aOf_rep hs hG hx
      have hrun := run_bytes_of_string (P := P) w t t' e s hu hu' he
      have hrun' : (execOp a.eval o).run P w = .ok (.value (.slice (some ⟨w.heap.size, 0, none⟩) s.size (grownCap w s.size 0 e))) (w.drew.alloc (.cells (bytesRow s (grownCap w s.size 0 e)) e ((bytesRow s (grownCap w s.size 0 e)).size, (bytesRow s (grownCap w s.size 0 e)).size + 1))) := by
        obtain ⟨dst, op, type, pos, after, guard⟩ := o
        simp only at hop; subst hop
        simp only [execOp, ex, Sem.run_bind, hrun, Result.andThen_ok, Sem.run_pure]
      have hge := grownCap_ge w s.size 0 e
      generalize hcap : grownCap w s.size 0 e = cap at *
      generalize hW : w.drew.alloc (.cells (bytesRow s cap) e ((bytesRow s cap).size, (bytesRow s cap).size + 1)) = W at *
      have hB : Below w.heap.size w W := by subst hW; exact ⟨rfl, rfl, rfl, by simp, fun j hj => Below.heap_alloc w.drew _ j hj⟩
      have hat : W.heap[w.heap.size]? = some (.cells (bytesRow s cap) e ((bytesRow s cap).size, (bytesRow s cap).size + 1)) := by subst hW; exact heap_alloc_new w.drew _
      have hlt : w.heap.size < W.heap.size := (Array.getElem?_eq_some_iff.1 hat).1
      have s1 := hs.fz_new (G := fun i => i = w.heap.size) hB (fun i hi => by obtain rfl : i = _ := hi; exact ⟨Nat.le_refl _, hlt⟩)
      simp only [Oper.wp, hrun', Oper.upon]
      have hlen : (numsOf s).length = s.size := by simp [numsOf]
      refine hK _ _ _ _ (s1.putO hd (e := S1 (.d (.si .u8 (numsOf s)))) ?_) ⟨hB.os, hB.tape, hB.output, hB.size, fun i hi _ => hB.block i hi, fun i hi => .inl hi, fun i hi => hi.elim .inl fun h => .inr (.inl (by omega)), fun _ _ => rfl, fun k b hk i hi => .inr ⟨k, b, hk, hi⟩⟩
      refine ⟨_, _, by rw [hlen], by rw [hlen]; exact hge, fun _ => ⟨w.heap.size, 0, (bytesRow s cap).toList, rfl, ⟨.inr rfl, e, _, by simpa using hat⟩, fun i x hx => ?_⟩⟩
      simp only [bytesRow, Array.toList_append, Array.toList_map, Nat.zero_add]
      unfold numsOf at hx
      rw [List.getElem?_map] at hx
      cases hz : s.data.toList[i]? with
      | none => simp [hz] at hx
      | some b =>
        simp only [hz, Option.map_some, Option.some.injEq] at hx; subst hx
        have hil : i < s.data.toList.length := by
          rcases Nat.lt_or_ge i s.data.toList.length with h | h
          · exact h
          · rw [List.getElem?_eq_none h] at hz; cases hz
        rw [List.getElem?_append_left (by simpa using hil), List.getElem?_map, hz]; rfl
    · cases h
  · cases h
/-- A literal of bytes: it is only read from now on. -/
def litB (P : Program) (H : Heap) (t t' : TypeId) (x : AV) : Option (Nat × List Int) :=
  match P.underlying t, Nat.beq t t', x with
  | some (.slice e), true, .rw k => match P.underlying e, getH H k with
    | some (.int .u8), some (.row (.ints .u8 L) _) => some (k, L)
    | _, _ => none
  | _, _, _ => none
theorem freeze_heap (w : World) (g o : Nat) (cs : Array Value) (ty : TypeId) (hg : w.heap[g]? = some (.cells cs ty (0, 0))) : (w.freeze ⟨g, o, none⟩ 1).heap.size = w.heap.size ∧ (∀ i, i ≠ g → (w.freeze ⟨g, o, none⟩ 1).heap[i]? = w.heap[i]?) ∧ (w.freeze ⟨g, o, none⟩ 1).heap[g]? = some (.cells cs ty (o, o + 1)) := by
  unfold World.freeze
  rw [if_neg (by decide)]
  refine ⟨by simp, fun i hi => ?_, ?_⟩
  · simp only [Array.getElem?_modify]
    rw [if_neg (Ne.symm hi)]
  · simp only [Array.getElem?_modify, if_true, hg, Option.map_some]
    rfl
theorem litB_ok {o : Oper} {t t' : TypeId} {x : Operand} {p : AV} {k : Nat} {L : List Int} (hG : C.G = G) (hop : o.op = .convert t t' x) (hd : dstOk C.N o.dst = true) (hx : aOf (ev G l x) = some p) (h : litB P H t t' p = some (k, L)) :
    StepOk P C o l H [0 < L.length] (putO l o.dst (S1 (.d (.si .u8 L)))) (delH H k) (fun _ => False) := by
  intro hp F ρ a w hs Q K hK
  have ex := aOf_rep hs hG hx
  unfold litB at h
  split at h
  · rename_i e k' hu hb
    split at h
    · rename_i L' ty he hk
      simp only [Option.some.injEq, Prod.mk.injEq] at h; obtain ⟨rfl, rfl⟩ := h
      have := Nat.eq_of_beq_eq_true hb; subst this
      have hpos := hp.1
      obtain ⟨vs, rest, hrow, ⟨_, _, hv⟩, hrest, hl, hn, hcap⟩ := hs.hp k' _ hk
      obtain rfl : vs = _ := hv
      simp only [Cont.len] at hn hcap
      obtain ⟨⟨h1, hZ⟩, had⟩ := hrow.real (by omega)
      have ex' : a.eval x = .slice (some ⟨(ρ k').b, 0, none⟩) L'.length (ρ k').cap := by rw [hn, ← had]; exact ex
      have hsh : w.shape? (ρ k').b = some (ty, (L'.map (Value.int .u8) ++ rest).toArray.size) := by
        have h1' : w.heap[(ρ k').b]? = _ := h1
        unfold World.shape?; rw [h1']
      obtain ⟨f1, f2, f3⟩ := freeze_heap w (ρ k').b (L'.map (Value.int .u8) ++ rest).toArray.size _ _ h1
      have hr : (convert t t (.slice (some ⟨(ρ k').b, 0, none⟩) L'.length (ρ k').cap)).run P w = .ok (.slice (some ⟨(ρ k').b, 0, none⟩) L'.length (ρ k').cap) (w.freeze ⟨(ρ k').b, (L'.map (Value.int .u8) ++ rest).toArray.size, none⟩ 1) := by
        simp [convert, run_underlying hu, run_underlying he, markStringish, hsh]
      have hrun' : (execOp a.eval o).run P w = .ok (.value (.slice (some ⟨(ρ k').b, 0, none⟩) L'.length (ρ k').cap)) (w.freeze ⟨(ρ k').b, (L'.map (Value.int .u8) ++ rest).toArray.size, none⟩ 1) := by
        obtain ⟨dst, op, type, pos, after, guard⟩ := o
        simp only at hop; subst hop
        simp only [execOp, ex', Sem.run_bind, hr, Result.andThen_ok, Sem.run_pure]
      simp only [Oper.wp, hrun', Oper.upon]
      generalize hW : w.freeze ⟨(ρ k').b, (L'.map (Value.int .u8) ++ rest).toArray.size, none⟩ 1 = W at *
      have hos : W.os = w.os ∧ W.tape = w.tape ∧ W.output = w.output := by
        subst hW; unfold World.freeze; rw [if_neg (by decide)]; exact ⟨rfl, rfl, rfl⟩
      have hs0 : St C F ρ l (delH H k') a w := hs.heap_map fun j b hj => ⟨b, (getH_del_some hj).2, fun h => h⟩
      have hZ' : ∀ i, (ρ k').Z i → ∀ j b, getH (delH H k') j = some b → ¬ (ρ j).Z i := fun i hi j b hj => hs.dis k' j _ b hk (getH_del_some hj).2 (Ne.symm (getH_del_some hj).1) i hi
      have s1 := hs0.chg (w' := W) (ρ k').Z (fun i hi => ⟨(hs.own k' _ hk i hi).1, hs.mine k' _ hk i hi, hZ' i hi⟩) hos.1 hos.2.1 hos.2.2 f1 (fun i hi => f2 i (fun e => hi (by rw [hZ]; exact e)))
      have s2 := s1.addF (ρ k').Z (fun i hi => ⟨by rw [f1]; exact (hs.own k' _ hk i hi).2, hs.mine k' _ hk i hi, hZ' i hi⟩)
      refine hK _ _ _ _ (s2.putO hd (e := S1 (.d (.si .u8 L'))) ?_) ⟨hos.1, hos.2.1, hos.2.2, Nat.le_of_eq f1.symm, fun i hi hz => f2 i (fun e => hz k' _ hk (by rw [hZ]; exact e)), fun i hi => .inl hi, fun i hi => hi.elim .inl fun h => .inr (.inr ⟨k', _, hk, h⟩), fun _ _ => rfl, fun j b hj i hi => .inr ⟨j, b, (getH_del_some hj).2, hi⟩⟩
      refine ⟨_, _, rfl, hcap, fun _ => ⟨(ρ k').b, 0, L'.map (Value.int .u8) ++ rest, rfl, ⟨.inr (by rw [hZ]), ty, _, f3⟩, fun i x hx => ?_⟩⟩
      have hil : i < L'.length := by
        rcases Nat.lt_or_ge i L'.length with h | h
        · exact h
        · rw [List.getElem?_eq_none h] at hx; cases hx
      rw [Nat.zero_add, List.getElem?_append_left (by simpa using hil), List.getElem?_map, hx]; rfl
    · cases h
  · cases h
/-! maps -/
def allQ (p : Nat → Bool) : List Nat → Bool
  | [] => true
  | k :: r => p k && allQ p r
theorem allQ_of {p : Nat → Bool} : ∀ {l : List Nat}, allQ p l = true → ∀ k ∈ l, p k = true
  | j :: r, h, k, hk => by
    simp only [allQ, Bool.and_eq_true] at h
    rcases List.mem_cons.1 hk with rfl | hk
    · exact h.1
    · exact allQ_of h.2 k hk
theorem memN_iff' {k : Nat} : ∀ {l : List Nat}, memN k l = true → k ∈ l
  | j :: r, h => by
    simp only [memN, Bool.or_eq_true] at h
    rcases h with h | h
    · rw [Nat.eq_of_beq_eq_true h]; simp
    · exact List.mem_cons_of_mem _ (memN_iff' h)
def flatK (P : Program) : Nat → TypeId → Option (List AS)
  | 0, _ => none
  | d + 1, t => match P.underlying t with
    | some (.int k) => some [.i k]
    | some .string => some [.s]
    | some .bool => some [.b]
    | some (.array n e) => match P.underlying e with
      | some (.int k) => some [.r k n]
      | _ => none
    | some (.struct fs) => fs.toList.foldr (fun f acc => match flatK P d f.type, acc with
      | some a, some b => some (a ++ b)
      | _, _ => none) (some [])
    | _ => none
def newMap (P : Program) (N : Nat) (l : Env) (H : Heap) (t d : Nat) : Option (Env × Heap) :=
  match P.underlying t with
  | some (.map kt et) => match isAggB P kt, flatK P 20 kt, zeroA P et with
    | some ag, some qs, some (.d z) => match freshN d N l H && Nat.blt d N with
      | true => some (putE l d (S1 (.mp d)), (d, .mp t ag qs (fun _ => false) (fun _ => .d z) [] []) :: H)
      | false => none
    | _, _, _ => none
  | _ => none
theorem newMap_ok {o : Oper} {t d : Nat} {l' : Env} {H' : Heap} (hop : o.op = .makeMap t none) (hdst : o.dst = some d) (h : newMap P C.N l H t d = some (l', H')) : StepOk P C o l H [] l' H' (fun i => i = d) := by
  intro _ F ρ a w hs Q K hK
  unfold newMap at h
  split at h
  · rename_i kt et ht
    split at h
    · rename_i ag qs z hag hqs hz
      split at h
      · rename_i hb
        simp only [Option.some.injEq, Prod.mk.injEq] at h; obtain ⟨rfl, rfl⟩ := h
        simp only [Bool.and_eq_true] at hb
        have h1 := hs.alloc (k := d) (n := 0) (cap := 0) (b := .mp t ag qs (fun _ => false) (fun _ => .d z) [] []) (o := .map #[] 0) hb.1 rfl
          (fun hle => ⟨#[], 0, alloc_at w _, rfl, (fun e he => by cases he), (fun kk _ hh => by cases hh), List.Pairwise.nil, (fun kk k hk => by simp [AV.refs] at hk)⟩)
        have hrun : (execOp a.eval o).run P w = .ok (.value (.map (some w.heap.size))) (w.alloc (.map #[] 0)) := by
          obtain ⟨dst, op, type, pos, after, guard⟩ := o
          simp only at hop; subst hop
          simp only [execOp, Instr.makeMap, Option.map_none]
          rfl
        simp only [Oper.wp, hrun, Oper.upon]
        rw [hdst]
        rw [hdst] at hK
        exact hK _ _ _ _ (h1.put (Nat.le_of_ble_eq_true hb.2) (by simp [ERep, SRep, ARep, updL, loc1])) (Fr.new hs (alloc_below w _) (fun i hi => by obtain rfl : i = _ := hi; exact Nat.le_refl _) cons_cases)
      · cases h
    · cases h
  · cases h
def updMap (P : Program) (H : Heap) (t : TypeId) (x : AV) (y : SV) (z : SV) : Option (List Prop × Heap) :=
  match x, z with
  | .mp k, .a v0 => match getH H k, P.underlying t with
    | some (.mp mt ag qs has v rf gh), some (.map kt et) => match keySV ag qs y, okQ ag qs && (oneSV y && allQ (fun j => memN j rf) v0.refs) with
      | some kk, true => some ([KeyOk P kt ag qs], setH H k (.mp mt ag qs (hasU has kk) (valU v kk v0) rf gh))
      | _, _ => none
    | _, _ => none
  | _, _ => none
theorem updMap_ok {o : Oper} {t : TypeId} {x ix y : Operand} {p : AV} {q r : SV} {ps : List Prop} {H' : Heap} (hG : C.G = G) (hop : o.op = .mapUpdate t x ix y) (hdst : o.dst = none) (hx : aOf (ev G l x) = some p) (hq : ev G l ix = some (.s q)) (hr : ev G l y = some (.s r)) (h : updMap P H t p q r = some (ps, H')) : StepOk P C o l H ps l H' (fun _ => False) := by
  intro hp F ρ a w hs Q K hK
  have ex := aOf_rep hs hG hx
  have eq := hs.ev hG hq
  have er := hs.ev hG hr
  unfold updMap at h
  split at h
  · rename_i k v0
    split at h
    · rename_i mt ag qs has v rf gh kt et hk ht
      split at h
      · rename_i kk hkey hb
        simp only [Bool.and_eq_true] at hb
        simp only [Option.some.injEq, Prod.mk.injEq] at h; obtain ⟨rfl, rfl⟩ := h
        have hb0 := hs.hp k _ hk
        obtain ⟨e1, e2⟩ := keySV_rep hkey eq (oneSV_one hb.2.1 eq)
        obtain ⟨ob, h1, h2⟩ := update_run (val := a.eval y) ht hb.1 hp.1 e2 (fun j hj => memN_iff' (allQ_of hb.2.2 j hj)) hb0 er
        have hZ : (ρ k).Z = fun i => i = (ρ k).b := by obtain ⟨_, _, _, h2, _⟩ := hb0; exact h2
        have hrun : (execOp a.eval o).run P w = .ok .skip { w with heap := w.heap.setIfInBounds (ρ k).b ob } := by
          obtain ⟨dst, op, type, pos, after, guard⟩ := o
          simp only at hop; subst hop
          have ex' : a.eval x = .map (some (ρ k).b) := ex
          simp only [execOp, ex', e1, Sem.run_bind, h1, Result.andThen_ok]
          rfl
        simp only [Oper.wp, hrun, Oper.upon]
        rw [hdst]
        rw [hdst] at hK
        have hoth : ∀ i, ¬ (ρ k).Z i → (w.heap.setIfInBounds (ρ k).b ob)[i]? = w.heap[i]? := fun i hi => by
          rw [hZ] at hi
          rw [Array.getElem?_setIfInBounds, if_neg (fun e => hi e.symm)]
        have s1 := hs.write (w' := { w with heap := w.heap.setIfInBounds (ρ k).b ob }) (b' := .mp mt ag qs (hasU has kk) (valU v kk v0) rf gh) hk rfl rfl rfl (by simp) hoth h2
        exact hK _ _ (.tuple #[]) _ s1 (OneBlk.fr ⟨rfl, rfl, rfl, by simp, hoth, ⟨_, hk⟩, fun j c hj => by
          rw [getH_set] at hj
          by_cases e : j = k
          · subst e; exact ⟨_, hk⟩
          · simp [e] at hj; exact ⟨c, hj⟩⟩)
      · cases h
    · cases h
  · cases h
end
end Go.Dx
