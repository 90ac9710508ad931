/- Stores, variables, literals of slices, append, make, copy. -/
import Derived.Test.YtlgffgnkkihaoaaDoorDxEff
namespace Go.Dx
open Go.RowKit
set_option linter.unusedVariables false
set_option linter.unusedSimpArgs false
section
variable {P : Program} {C : Ctx} {F : Nat → Prop} {ρ : Nat → Loc} {l : Env} {H : Heap} {a : Act} {w : World} {G : List (Nat × List DC)}

theorem setCells_row (g : Nat) (t : TypeId) (fr : Nat × Nat) : ∀ (vs : List Value) (o : Nat) (cur : List Value) (w : World), w.heap[g]? = some (.cells cur.toArray t fr) → o + vs.length ≤ cur.length →
    w.setCells g o vs = w.setRow g (cur.take o ++ vs ++ cur.drop (o + vs.length)).toArray
  | [], o, cur, w, hg, hl => by
    have e : (cur.take o ++ [] ++ cur.drop (o + ([] : List Value).length)).toArray = cur.toArray := by simp
    rw [e]
    have hlt : g < w.heap.size := (Array.getElem?_eq_some_iff.1 hg).1
    have hv : w.heap[g] = .cells cur.toArray t fr := (Array.getElem?_eq_some_iff.1 hg).2
    unfold World.setCells World.setRow
    cases w with
    | mk heap tape drawn os output =>
      congr 1
      apply Array.ext
      · simp
      · intro k h1 h2
        simp only [Array.getElem_modify]
        split
        · rename_i hk; subst hk; simp at hv; simp [hv]
        · rfl
  | v :: r, o, cur, w, hg, hl => by
    simp only [List.length_cons] at hl
    rw [World.setCells, setCell_eq_setRow w g o cur.toArray t fr v hg]
    have hs : cur.toArray.setIfInBounds o v = (cur.set o v).toArray := by simp
    rw [hs, setCells_row g t fr r (o + 1) (cur.set o v) _ (setRow_heap w g _ _ t fr hg) (by simp; omega), setRow_setRow]
    congr 2
    have e1 : (cur.set o v).take (o + 1) = cur.take o ++ [v] := by
      rw [List.take_succ_eq_append_getElem (by simp; omega)]
      simp [List.take_set_of_le]
    have e2 : (cur.set o v).drop (o + 1 + r.length) = cur.drop (o + (r.length + 1)) := by
      rw [List.drop_set_of_lt (by omega), show o + 1 + r.length = o + (r.length + 1) by omega]
    simp [e1, e2]
/-- A store at a place of an own block: the world behind it. -/
theorem store_run {t : TypeId} {b o ty : Nat} {vs us : List Value} {u : Value} (hg : w.heap[b]? = some (.cells vs.toArray ty (0, 0))) (hc : u.cells = us.toArray) (h1 : ∀ v ∈ us, v.oneCell' = true) (hsz : szT P t = some us.length) (hle : o + us.length ≤ vs.length) :
    (storeVar t ⟨b, o, none⟩ u).run P w = .ok () (w.setRow b (vs.take o ++ us ++ vs.drop (o + us.length)).toArray) := by
  have hst := run_storeCells_cells (P := P) b o us 0 w
    (fun j hj => by
      simp only [Nat.add_zero]
      rw [cell_of_row w b (o + j) _ ty (0, 0) hg]
      simp only [List.getElem?_toArray]
      rw [List.getElem?_eq_getElem (by omega)]
      rfl)
    (fun j hj => frozen_of_row w b _ _ ty hg) h1
  simp only [Nat.add_zero] at hst
  rw [setCells_row b ty (0, 0) us o vs w hg hle] at hst
  simp only [storeVar, Sem.run_bind, szT_run hsz, Result.andThen_ok, hc, List.size_toArray]
  rw [if_neg (by simp)]
  simpa using hst
/-- The state behind a row's being written anew. -/
theorem St.setRow (h : St C F ρ l H a w) {k ty : Nat} {b b' : Blk} {vs vs' : List Value} (hk : getH H k = some b) (h1 : Blk1 ⟨w, F⟩ (ρ k) vs ty) (hb : ∀ w', Mem.le ⟨w, F⟩ ⟨w', F⟩ → Blk1 ⟨w', F⟩ (ρ k) vs' ty → BRep ⟨w', F⟩ ρ (ρ k) b') :
    St C F ρ l (setH H k b') a (w.setRow (ρ k).b vs'.toArray) :=
  h.write hk rfl rfl rfl (by simp) (fun i hi => setRow_other _ _ _ _ (fun e => hi (by rw [h1.2]; exact e))) fun hle => hb _ hle ⟨setRow_heap w _ _ _ ty (0, 0) h1.1, h1.2⟩

/-- What a store changes. -/
def OneBlk (H H' : Heap) (k : Nat) (ρ : Nat → Loc) (w w' : World) : Prop := w'.os = w.os ∧ w'.tape = w.tape ∧ w'.output = w.output ∧ w'.heap.size = w.heap.size ∧ (∀ i, ¬ (ρ k).Z i → w'.heap[i]? = w.heap[i]?) ∧ (∃ b, getH H k = some b) ∧ ∀ j c, getH H' j = some c → ∃ c0, getH H j = some c0
theorem OneBlk.fr {H H' : Heap} {k : Nat} {w w' : World} (h : OneBlk H H' k ρ w w') : Fr H H' (fun _ => False) F ρ w F ρ w' := by
  obtain ⟨h1, h2, h3, h4, h5, ⟨b, hb⟩, h6⟩ := h
  exact ⟨h1, h2, h3, Nat.le_of_eq h4.symm, fun i _ hz => h5 i (hz k b hb), fun _ h => h, fun _ h => .inl h, fun _ _ => rfl, fun j c hj i hi => let ⟨c0, e⟩ := h6 j c hj; .inr ⟨j, c0, e, hi⟩⟩
theorem oneBlk_row {H : Heap} {k ty : Nat} {b b' : Blk} {vs vs' : List Value} (hk : getH H k = some b) (h1 : Blk1 ⟨w, F⟩ (ρ k) vs ty) : OneBlk H (setH H k b') k ρ w (w.setRow (ρ k).b vs'.toArray) :=
  ⟨rfl, rfl, rfl, by simp, fun i hi => setRow_other _ _ _ _ (fun e => hi (by rw [h1.2]; exact e)), ⟨b, hk⟩, fun j c hj => by
    rw [getH_set] at hj
    by_cases e : j = k
    · subst e; exact ⟨b, hk⟩
    · simp [e] at hj; exact ⟨c, hj⟩⟩
def storeV (P : Program) (t : TypeId) (H : Heap) (x : AV) (v : SV) : Option Heap :=
  match x with
  | .lp k off => match getH H k, chunksV v, szT P t with
    | some (.cells cs ty), some new, some n => match Nat.beq n (szC new), putV cs off new with
      | true, some cs' => some (setH H k (.cells cs' ty))
      | _, _ => none
    | _, _, _ => none
  | .lx k off n i => match getH H k, v, szT P t with
    | some (.cells cs ty), .a (.d (.v (.int kd x))), some 1 => match atI cs off with
      | some (kd', m, xs) => match Nat.beq m n && kindB kd' kd with
        | true => match setI cs off (xs.set i x) with
          | some cs' => some (setH H k (.cells cs' ty))
          | none => none
        | false => none
      | none => none
    | _, _, _ => none
  | .re k sz i off => match getH H k, chunksV v, szT P t with
    | some (.row (.st sz' n c) ty), some new, some m => match Nat.beq sz sz' && Nat.beq m (szC new), putV (upC (c i)) off new with
      | true, some r => match downC r with
        | some r' => some (setH H k (.row (.st sz' n (bumpF c i r')) ty))
        | none => none
      | _, _ => none
    | some (.row (.ints kd L) ty), some [.one (.d (.v (.int kd' x)))], some 1 => match Nat.beq sz 1 && (Nat.beq off 0 && kindB kd kd') with
      | true => some (setH H k (.row (.ints kd (L.set i x)) ty))
      | false => none
    | some (.row (.bts Ls) ty), some [.one (.d (.si .u8 L))], some 1 => match Nat.beq sz 1 && Nat.beq off 0 with
      | true => some (setH H k (.row (.bts (Ls.set i L)) ty))
      | false => none
    | _, _, _ => none
  | _ => none
theorem downC_up {m : Mem} {ds : List DC} {vs : List Value} (h : CRep m ds vs) : KRep m ρ (upC ds) vs := upC_rep h
theorem set_as {α : Type} {L : List α} {i : Nat} {x : α} (h : i < L.length) : L.set i x = L.take i ++ [x] ++ L.drop (i + 1) := by
  rw [List.set_eq_take_append_cons_drop, if_pos h]; simp
theorem set_as' {α : Type} {L : List α} {i : Nat} {x : α} (h : i < L.length) : L.take i ++ [x] ++ L.drop (i + [x].length) = L.set i x := (set_as h).symm
theorem storeV_run {t : TypeId} {x : AV} {v : SV} {H' : Heap} {p u : Value} (h : storeV P t H x v = some H') (hs : St C F ρ l H a w) (hp : ARep ⟨w, F⟩ ρ x p) (hv : SRep ⟨w, F⟩ ρ v u) :
    ∃ w' k, (Instr.storeAt t p u).run P w = .ok () w' ∧ St C F ρ l H' a w' ∧ OneBlk H H' k ρ w w' := by
  have run : ∀ (ad : Addr), (Instr.storeAt t (.pointer (some ad)) u).run P w = (storeVar t ad u).run P w := fun ad => by simp [Instr.storeAt, Instr.sureAddr]
  unfold storeV at h
  split at h
  · rename_i k off
    split at h
    · rename_i cs ty new n hk hnew hsz
      split at h
      · rename_i cs' hb hput
        simp only [Option.some.injEq] at h; subst h
        have := Nat.eq_of_beq_eq_true hb
        subst this
        obtain ⟨vs, h1, h2⟩ := hs.hp k _ hk
        obtain ⟨us, hc, hku⟩ := chunksV_spec hnew hv
        obtain ⟨h3, h4⟩ := putV_rep h2 hku hput
        rw [show p = _ from hp, run]
        refine ⟨_, _, store_run h1.1 hc hku.one (by rw [hku.sz]; exact hsz) h3, ?_, oneBlk_row hk h1⟩
        exact hs.setRow hk h1 fun w' hle hb => ⟨_, hb, h4.mono hle⟩
      · cases h
    · cases h
  · rename_i k off n i
    obtain ⟨rfl, hi⟩ := hp
    split at h
    · rename_i cs ty kd x' hk hsz
      split at h
      · rename_i kd' m xs hat
        split at h
        · rename_i hb
          simp only [Bool.and_eq_true] at hb
          have hmn := Nat.eq_of_beq_eq_true hb.1
          have hkd := kind_eq _ _ hb.2
          subst hkd; subst hmn
          split at h
          · rename_i cs' hset
            simp only [Option.some.injEq] at h; subst h
            obtain ⟨vs, h1, h2⟩ := hs.hp k _ hk
            obtain ⟨h3, A, B, rfl, h5, h6⟩ := atI_rep h2 hat
            obtain ⟨r, h7, h8⟩ := h6 (xs.set i x') (by simp [h3])
            rw [hset] at h7
            simp only [Option.some.injEq] at h7; subst h7
            obtain rfl : u = _ := hv
            rw [run]
            refine ⟨_, _, store_run (us := [.int kd' x']) h1.1 rfl (by simp [Value.oneCell']) hsz (by simp; omega), ?_, oneBlk_row hk h1⟩
            refine hs.setRow hk h1 fun w' hle hb' => ⟨_, hb', ?_⟩
            have e : (A ++ xs.map (Value.int kd') ++ B).take (off + i) ++ [Value.int kd' x'] ++ (A ++ xs.map (Value.int kd') ++ B).drop (off + i + [Value.int kd' x'].length) = A ++ (xs.set i x').map (Value.int kd') ++ B := by
              rw [List.map_set, set_as' (by simp; omega), List.append_assoc, List.append_assoc, List.set_append_right _ _ (by omega), List.set_append_left _ _ (by simp; omega), h5, Nat.add_sub_cancel_left]
            rw [e]; exact h8.mono hle
          · cases h
        · cases h
      · cases h
    · cases h
  · rename_i k sz i off
    obtain ⟨rfl, hi⟩ := hp
    split at h
    · rename_i sz' n c ty new m hk hnew hsz
      split at h
      · rename_i r hb hput
        simp only [Bool.and_eq_true] at hb
        have hs1 := Nat.eq_of_beq_eq_true hb.1
        have hs2 := Nat.eq_of_beq_eq_true hb.2
        subst hs1; subst hs2
        split at h
        · rename_i r' hdown
          simp only [Option.some.injEq] at h; subst h
          obtain ⟨vs, rest, hrow, ⟨c1, c2, c3⟩, hrest, hlen, hn, hcap⟩ := hs.hp k _ hk
          simp only [Cont.len, Cont.sz] at c1 c3 hn hcap hlen
          obtain ⟨h1, had⟩ := hrow.real (by omega)
          obtain ⟨us, hc, hku⟩ := chunksV_spec hnew hv
          have hci := c3 i (by omega)
          obtain ⟨h3, h4⟩ := putV_rep (upC_rep (ρ := ρ) hci) hku hput
          have hle1 : (i + 1) * sz ≤ vs.length := by rw [c1]; exact Nat.mul_le_mul_right _ (by omega)
          rw [Nat.add_mul, Nat.one_mul] at hle1
          have hl : ((vs.drop (i * sz)).take sz).length = sz := by simp; omega
          rw [hl] at h3
          rw [run]
          refine ⟨_, _, store_run h1.1 hc hku.one (by rw [hku.sz]; exact hsz) (by simp; omega), ?_, oneBlk_row hk h1⟩
          refine hs.setRow hk h1 fun w' hle hb' => ?_
          refine ⟨vs.take (i * sz + off) ++ us ++ vs.drop (i * sz + off + us.length), rest, .inl ⟨?_, had⟩, ⟨?_, ?_, fun j hj => ?_⟩, hrest, ?_, hn, hcap⟩
          · have e : (vs ++ rest).take (i * sz + off) ++ us ++ (vs ++ rest).drop (i * sz + off + us.length) = vs.take (i * sz + off) ++ us ++ vs.drop (i * sz + off + us.length) ++ rest := by
              rw [List.take_append_of_le_length (by omega), List.drop_append_of_le_length (by omega)]; simp
            rw [← e]; exact hb'
          · simp only [Cont.len, Cont.sz]; simp; omega
          · intro v hv'
            rcases List.mem_append.1 hv' with hv' | hv'
            · rcases List.mem_append.1 hv' with hv' | hv'
              · exact c2 v (List.mem_of_mem_take hv')
              · exact hku.one v hv'
            · exact c2 v (List.mem_of_mem_drop hv')
          · have hnew' := (downC_rep hdown h4).mono hle
            rw [bumpF_eq]
            split
            · rename_i hji
              have := Nat.eq_of_beq_eq_true hji
              subst this
              have e : ((vs.take (j * sz + off) ++ us ++ vs.drop (j * sz + off + us.length)).drop (j * sz)).take sz = ((vs.drop (j * sz)).take sz).take off ++ us ++ ((vs.drop (j * sz)).take sz).drop (off + us.length) := by
                apply List.ext_getElem?
                intro q
                simp only [List.getElem?_take, List.getElem?_drop, List.getElem?_append, List.length_append, List.length_take, List.length_drop]
                by_cases hq : q < sz
                · rw [if_pos hq]
                  by_cases hq1 : q < off
                  · rw [if_pos (by omega), if_pos (by omega), if_pos (by omega), if_pos (by omega), if_pos (by omega), if_pos (by omega), if_pos (by omega)]
                  · by_cases hq2 : q < off + us.length
                    · rw [if_pos (by omega), if_neg (by omega), if_pos (by omega), if_neg (by omega)]
                      congr 1; omega
                    · rw [if_neg (by omega), if_neg (by omega)]
                      rw [if_pos (by omega)]
                      congr 1; omega
                · rw [if_neg hq, if_neg (by omega), if_neg (by omega)]
              rw [e]; exact hnew'
            · rename_i hji
              have hne : j ≠ i := fun e => by subst e; simp at hji
              have e : ((vs.take (i * sz + off) ++ us ++ vs.drop (i * sz + off + us.length)).drop (j * sz)).take sz = (vs.drop (j * sz)).take sz := by
                have hj' : (j + 1) * sz ≤ i * sz ∨ (i + 1) * sz ≤ j * sz := by
                  rcases Nat.lt_or_ge j i with h | h
                  · exact .inl (Nat.mul_le_mul_right _ h)
                  · exact .inr (Nat.mul_le_mul_right _ (by omega))
                simp only [Nat.add_mul, Nat.one_mul] at hj'
                apply List.ext_getElem?
                intro q
                simp only [List.getElem?_take, List.getElem?_drop, List.getElem?_append, List.length_append, List.length_take, List.length_drop]
                by_cases hq : q < sz
                · rw [if_pos hq, if_pos hq]
                  rcases hj' with hj' | hj'
                  · rw [if_pos (by omega), if_pos (by omega), if_pos (by omega)]
                  · rw [if_neg (by omega)]
                    congr 1; omega
                · rw [if_neg hq, if_neg hq]
              rw [e]; exact (c3 j hj).mono hle
          · simp only [Cont.sz]; rw [← hlen]; simp; omega
        · cases h
      · cases h
    · rename_i kd L ty kd' x' hk hnew hsz
      split at h
      · rename_i hb
        simp only [Bool.and_eq_true] at hb
        have hs1 := Nat.eq_of_beq_eq_true hb.1
        have hs2 := Nat.eq_of_beq_eq_true hb.2.1
        have hkd := kind_eq _ _ hb.2.2
        subst hkd; subst hs1; subst hs2
        simp only [Option.some.injEq] at h; subst h
        obtain ⟨vs, rest, hrow, ⟨c1, c2, c3⟩, hrest, hlen, hn, hcap⟩ := hs.hp k _ hk
        obtain rfl : vs = _ := c3
        simp only [Cont.len, Cont.sz] at c1 hn hcap hlen
        obtain ⟨h1, had⟩ := hrow.real (by omega)
        obtain ⟨us, hc, hku⟩ := chunksV_spec hnew hv
        obtain ⟨v0, q, rfl, k2, k3, k4⟩ := hku
        obtain rfl : q = [] := k4
        obtain rfl : v0 = _ := k3
        rw [run]
        refine ⟨_, _, store_run h1.1 hc (by simpa using k2) (by exact hsz) (by simp; omega), ?_, oneBlk_row hk h1⟩
        refine hs.setRow hk h1 fun w' hle hb' => ?_
        have e : (L.map (Value.int kd) ++ rest).take (i * 1 + 0) ++ [Value.int kd x'] ++ (L.map (Value.int kd) ++ rest).drop (i * 1 + 0 + [Value.int kd x'].length) = (L.set i x').map (Value.int kd) ++ rest := by
          rw [Nat.mul_one, Nat.add_zero, set_as' (by simp; omega), List.set_append_left _ _ (by simp; omega), List.map_set]
        rw [e] at hb'
        exact ⟨_, rest, .inl ⟨hb', had⟩, ⟨by simp [Cont.len, Cont.sz], fun v hv => by obtain ⟨_, _, rfl⟩ := List.mem_map.1 hv; rfl, rfl⟩, hrest, by simpa [Cont.sz] using hlen, by simpa [Cont.len] using hn, by simpa [Cont.len] using hcap⟩
      · cases h
    · rename_i Ls ty L hk hnew hsz
      split at h
      · rename_i hb
        simp only [Bool.and_eq_true] at hb
        have hs1 := Nat.eq_of_beq_eq_true hb.1
        have hs2 := Nat.eq_of_beq_eq_true hb.2
        subst hs1; subst hs2
        simp only [Option.some.injEq] at h; subst h
        obtain ⟨vs, rest, hrow, ⟨c1, c2, c3⟩, hrest, hlen, hn, hcap⟩ := hs.hp k _ hk
        simp only [Cont.len, Cont.sz] at c1 c3 hn hcap hlen
        obtain ⟨h1, had⟩ := hrow.real (by omega)
        obtain ⟨us, hc, hku⟩ := chunksV_spec hnew hv
        obtain ⟨v0, q, rfl, k2, k3, k4⟩ := hku
        obtain rfl : q = [] := k4
        rw [run]
        refine ⟨_, _, store_run h1.1 hc (by simpa using k2) (by exact hsz) (by simp; omega), ?_, oneBlk_row hk h1⟩
        refine hs.setRow hk h1 fun w' hle hb' => ?_
        have e : (vs ++ rest).take (i * 1 + 0) ++ [v0] ++ (vs ++ rest).drop (i * 1 + 0 + [v0].length) = vs.set i v0 ++ rest := by
          rw [Nat.mul_one, Nat.add_zero, set_as' (by simp; omega), List.set_append_left _ _ (by omega)]
        rw [e] at hb'
        refine ⟨_, rest, .inl ⟨hb', had⟩, ⟨by simpa [Cont.len, Cont.sz] using c1, fun v hv => ?_, fun j L' hL => ?_⟩, hrest, by simpa [Cont.sz] using hlen, by simpa [Cont.len] using hn, by simpa [Cont.len] using hcap⟩
        · rcases List.mem_or_eq_of_mem_set hv with hv | rfl
          · exact c2 v hv
          · exact k2
        · rw [List.getElem?_set] at hL
          rw [List.getElem?_set]
          by_cases hij : i = j
          · rw [if_pos hij] at hL ⊢
            subst hij
            rw [if_pos (by omega)] at hL ⊢
            simp only [Option.some.injEq] at hL; subst hL
            exact ⟨v0, rfl, IRep.mono hle k3⟩
          · rw [if_neg hij] at hL ⊢
            obtain ⟨y, h5, h6⟩ := c3 j L' hL
            exact ⟨y, h5, h6.mono hle⟩
      · cases h
    · cases h
  · cases h
end
end Go.Dx
