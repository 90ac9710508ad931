/- Operations in every order: how what they do commutes. -/
import Derived.Test.YtlgffgnkkihaoaaDoorDxSeq
namespace Go.Dx
open Go.RowKit
set_option linter.unusedVariables false
set_option linter.unusedSimpArgs false

/-- What one operation looks at, and what it writes. -/
structure Rec where
  i : Nat
  lo : Env
  Ho : Heap
  lw : Env
  W : List Nat
  Hw : Heap
  nn : List Nat
def keysE : Env → List Nat
  | [] => []
  | (k, _) :: r => k :: keysE r
def upE (r : Rec) (l : Env) : Env := r.lw ++ l
def upH (r : Rec) (H : Heap) : Heap := r.Hw ++ delAll r.W H
def EqS (l l' : Env) (H H' : Heap) : Prop := (∀ t, getE l t = getE l' t) ∧ ∀ k, getH H k = getH H' k
def Pre (r : Rec) (l : Env) (H : Heap) : Prop := (∀ t v, getE r.lo t = some v → getE l t = some v) ∧ ∀ k b, getH r.Ho k = some b → getH H k = some b
def Fresh (r : Rec) (l : Env) (H : Heap) : Prop := ∀ k ∈ r.nn, (∀ t v, getE l t = some v → k ∉ v.refs) ∧ ∀ j b, getH H j = some b → j ≠ k ∧ k ∉ b.refs
def DisR (i j : Rec) : Prop := ∀ k ∈ j.nn, k ∉ refsE i.lw ∧ k ∉ refsH i.Hw
structure Ind (i j : Rec) : Prop where
  ee : ∀ t ∈ keysE i.lw, t ∉ keysE j.lw
  eo : ∀ t ∈ keysE i.lw, t ∉ keysE j.lo
  oe : ∀ t ∈ keysE j.lw, t ∉ keysE i.lo
  ww : ∀ k ∈ i.W, k ∉ j.W
  wo : ∀ k ∈ i.W, k ∉ keysH j.Ho
  ow : ∀ k ∈ j.W, k ∉ keysH i.Ho
  ji : DisR j i
def Wf (r : Rec) : Prop := ∀ k ∈ keysH r.Hw, k ∈ r.W

theorem EqS.symm {l l' : Env} {H H' : Heap} (h : EqS l l' H H') : EqS l' l H' H := ⟨fun t => (h.1 t).symm, fun k => (h.2 k).symm⟩
theorem EqS.refl (l : Env) (H : Heap) : EqS l l H H := ⟨fun _ => rfl, fun _ => rfl⟩
theorem EqS.trans {l l' l'' : Env} {H H' H'' : Heap} (h : EqS l l' H H') (k : EqS l' l'' H' H'') : EqS l l'' H H'' := ⟨fun t => (h.1 t).trans (k.1 t), fun t => (h.2 t).trans (k.2 t)⟩
theorem getE_mem : ∀ {l : Env} {t : Nat} {v : EV}, getE l t = some v → t ∈ keysE l
  | (k, e) :: r, t, v, h => by
    simp only [getE] at h
    split at h
    · rename_i hk; have := Nat.eq_of_beq_eq_true hk; subst this; simp [keysE]
    · simp [keysE, getE_mem h]
theorem getH_mem : ∀ {l : Heap} {t : Nat} {v : Blk}, getH l t = some v → t ∈ keysH l
  | (k, e) :: r, t, v, h => by
    simp only [getH] at h
    split at h
    · rename_i hk; have := Nat.eq_of_beq_eq_true hk; subst this; simp [keysH]
    · simp [keysH, getH_mem h]
theorem upE_get (r : Rec) : ∀ (l : Env) (t : Nat), getE (upE r l) t = if t ∈ keysE r.lw then getE r.lw t else getE l t := by
  unfold upE
  generalize r.lw = lw
  induction lw with
  | nil => intro l t; simp [keysE]
  | cons p lw ih =>
    intro l t
    obtain ⟨k, e⟩ := p
    by_cases hk : k = t
    · subst hk; simp [getE, keysE, Nat.beq_refl]
    · simp only [List.cons_append, getE, nbeq_false hk, keysE, List.mem_cons, Ne.symm hk, false_or]
      exact ih l t
theorem delAll_no : ∀ {ks : List Nat} {H : Heap} {k : Nat}, k ∉ ks → getH (delAll ks H) k = getH H k
  | [], H, k, _ => rfl
  | j :: r, H, k, h => by
    simp only [List.mem_cons, not_or] at h
    simp only [delAll]
    rw [delAll_no h.2, getH_del, if_neg h.1]
theorem delAll_in {ks : List Nat} {H : Heap} {k : Nat} (h : k ∈ ks) : getH (delAll ks H) k = none := by
  cases e : getH (delAll ks H) k with
  | none => rfl
  | some b => exact absurd h (delAll_get e).2
theorem getH_none : ∀ {H : Heap} {k : Nat}, k ∉ keysH H → getH H k = none
  | [], _, _ => rfl
  | (j, b) :: r, k, h => by
    simp only [keysH, List.mem_cons, not_or] at h
    simp only [getH, nbeq_false (Ne.symm h.1)]
    exact getH_none h.2
theorem getHA : ∀ (A B : Heap) (k : Nat), getH (A ++ B) k = if k ∈ keysH A then getH A k else getH B k
  | [], B, k => by simp [keysH]
  | (j, b) :: A, B, k => by
    by_cases hk : j = k
    · subst hk; simp [getH, keysH, Nat.beq_refl]
    · simp only [List.cons_append, getH, nbeq_false hk, keysH, List.mem_cons, Ne.symm hk, false_or]
      exact getHA A B k
theorem upH_get {r : Rec} (hw : Wf r) (H : Heap) (k : Nat) : getH (upH r H) k = if k ∈ r.W then getH r.Hw k else getH H k := by
  unfold upH
  rw [getHA]
  by_cases h : k ∈ r.W
  · rw [if_pos h, delAll_in h]
    split
    · rfl
    · rename_i hn; exact (getH_none hn).symm
  · rw [if_neg h, if_neg fun hm => h (hw k hm), delAll_no h]
theorem up_cong (r : Rec) (hw : Wf r) {l l' : Env} {H H' : Heap} (h : EqS l l' H H') : EqS (upE r l) (upE r l') (upH r H) (upH r H') :=
  ⟨fun t => by rw [upE_get, upE_get, h.1], fun k => by rw [upH_get hw, upH_get hw, h.2]⟩
theorem up_comm {i j : Rec} (hi : Wf i) (hj : Wf j) (h : Ind i j) (l : Env) (H : Heap) : EqS (upE i (upE j l)) (upE j (upE i l)) (upH i (upH j H)) (upH j (upH i H)) := by
  refine ⟨fun t => ?_, fun k => ?_⟩
  · simp only [upE_get]
    by_cases h1 : t ∈ keysE i.lw
    · rw [if_pos h1, if_neg (h.ee t h1), if_pos h1]
    · rw [if_neg h1, if_neg h1]
  · simp only [upH_get hi, upH_get hj]
    by_cases h1 : k ∈ i.W
    · rw [if_pos h1, if_neg (h.ww k h1), if_pos h1]
    · rw [if_neg h1, if_neg h1]
theorem Pre.cong {r : Rec} {l l' : Env} {H H' : Heap} (h : EqS l l' H H') (k : Pre r l H) : Pre r l' H' :=
  ⟨fun t v hv => h.1 t ▸ k.1 t v hv, fun t b hb => h.2 t ▸ k.2 t b hb⟩
theorem Fresh.cong {r : Rec} {l l' : Env} {H H' : Heap} (h : EqS l l' H H') (k : Fresh r l H) : Fresh r l' H' := fun n hn =>
  ⟨fun t v hv => (k n hn).1 t v (h.1 t ▸ hv), fun j b hb => (k n hn).2 j b (h.2 j ▸ hb)⟩
/-- What a record that touches nothing of it leaves to another one. -/
theorem Pre.back {i j : Rec} (hi : Wf i) (he : ∀ t ∈ keysE i.lw, t ∉ keysE j.lo) (hH : ∀ k ∈ i.W, k ∉ keysH j.Ho) {l : Env} {H : Heap} : Pre j (upE i l) (upH i H) ↔ Pre j l H := by
  constructor
  · intro h
    refine ⟨fun t v hv => ?_, fun k b hb => ?_⟩
    · have := h.1 t v hv
      rwa [upE_get, if_neg fun hm => he t hm (getE_mem hv)] at this
    · have := h.2 k b hb
      rwa [upH_get hi, if_neg fun hm => hH k hm (getH_mem hb)] at this
  · intro h
    refine ⟨fun t v hv => ?_, fun k b hb => ?_⟩
    · rw [upE_get, if_neg fun hm => he t hm (getE_mem hv)]; exact h.1 t v hv
    · rw [upH_get hi, if_neg fun hm => hH k hm (getH_mem hb)]; exact h.2 k b hb
theorem Fresh.up {i j : Rec} (hi : Wf i) (hd : DisR i j) {l : Env} {H : Heap} (h : Fresh j l H) : Fresh j (upE i l) (upH i H) := fun n hn => by
  obtain ⟨h1, h2⟩ := h n hn
  obtain ⟨d1, d2⟩ := hd n hn
  refine ⟨fun t v hv hm => ?_, fun k b hb => ?_⟩
  · rw [upE_get] at hv
    split at hv
    · exact d1 (refsE_get hv n hm)
    · exact h1 t v hv hm
  · rw [upH_get hi] at hb
    split at hb
    · exact ⟨fun e => d2 (e ▸ (refsH_get hb).1), fun hm => d2 ((refsH_get hb).2 n hm)⟩
    · exact h2 k b hb
/-- A row of records leads on. -/
def OkR (K : Env → Heap → Prop) : List Rec → Env → Heap → Prop
  | [], l, H => K l H
  | r :: rs, l, H => Pre r l H ∧ (∀ q ∈ r :: rs, Fresh q l H) ∧ OkR K rs (upE r l) (upH r H)
section
variable {K : Env → Heap → Prop} (hK : ∀ {l l' : Env} {H H' : Heap}, EqS l l' H H' → K l H → K l' H')
theorem OkR.cong (hK : ∀ {l l' : Env} {H H' : Heap}, EqS l l' H H' → K l H → K l' H') : ∀ {rs : List Rec} {l l' : Env} {H H' : Heap}, (∀ r ∈ rs, Wf r) → EqS l l' H H' → OkR K rs l H → OkR K rs l' H'
  | [], _, _, _, _, _, e, h => hK e h
  | r :: rs, _, _, _, _, hw, e, ⟨h1, h2, h3⟩ => ⟨h1.cong e, fun q hq => (h2 q hq).cong e, OkR.cong hK (fun q hq => hw q (by simp [hq])) (up_cong r (hw r (by simp)) e) h3⟩
theorem OkR.front (hK : ∀ {l l' : Env} {H H' : Heap}, EqS l l' H H' → K l H → K l' H') {r : Rec} {post : List Rec} : ∀ {pre : List Rec} {l : Env} {H : Heap}, (∀ q ∈ pre ++ r :: post, Wf q) → (∀ j ∈ pre, Ind j r) → (∀ q ∈ pre ++ post, DisR r q) → OkR K (pre ++ r :: post) l H → OkR K (r :: (pre ++ post)) l H
  | [], l, H, _, _, _, h => h
  | j :: pre, l, H, hw, hi, hd, h => by
    obtain ⟨h1, h2, h3⟩ := h
    have wr : Wf r := hw r (by simp)
    have wj : Wf j := hw j (by simp)
    have ij := hi j (by simp)
    have h4 := OkR.front hK (pre := pre) (fun q hq => hw q (by simp only [List.cons_append, List.mem_cons]; exact .inr hq)) (fun q hq => hi q (by simp [hq])) (fun q hq => hd q (by simp only [List.cons_append, List.mem_cons]; exact .inr hq)) h3
    obtain ⟨k1, k2, k3⟩ := h4
    have hm : ∀ q ∈ r :: (j :: pre ++ post), q ∈ j :: (pre ++ r :: post) := fun q hq => by
      simp only [List.cons_append, List.mem_cons, List.mem_append] at hq ⊢
      rcases hq with h | h | h | h <;> simp [h]
    refine ⟨(Pre.back wj ij.eo ij.wo).1 k1, fun q hq => h2 q (hm q hq), (Pre.back wr ij.oe ij.ow).2 h1, fun q hq => (h2 q (hm q (by simp only [List.cons_append, List.mem_cons] at hq ⊢; exact .inr hq))).up wr (hd q hq), ?_⟩
    refine OkR.cong (rs := pre ++ post) hK (fun q hq => hw q ?_) (up_comm wj wr ij l H).symm k3
    simp only [List.cons_append, List.mem_cons, List.mem_append] at hq ⊢
    rcases hq with h | h <;> simp [h]
end
/-! the order that is bound -/
def befF (ops : Array Oper) : Nat → Nat → Nat → Bool
  | 0, _, _ => false
  | n + 1, i, j => match ops[j]? with
    | some o => o.after.toList.any fun e => Region.binds .any e && (Nat.beq e.on i || befF ops n i e.on)
    | none => false
def Closed (ops : Array Oper) (D : Nat → Prop) : Prop := ∀ (j : Nat) (o : Oper), D j → ops[j]? = some o → ∀ e ∈ o.after.toList, Region.binds .any e = true → D e.on
theorem befF_closed {ops : Array Oper} {D : Nat → Prop} (hD : Closed ops D) : ∀ {n i j : Nat}, befF ops n i j = true → (∀ o, ops[j]? = some o → ∀ e ∈ o.after.toList, Region.binds .any e = true → D e.on) → D i
  | n + 1, i, j, h, hj => by
    simp only [befF] at h
    split at h
    · rename_i o ho
      simp only [List.any_eq_true, Bool.and_eq_true, Bool.or_eq_true] at h
      obtain ⟨e, he, hb, h | h⟩ := h
      · have := Nat.eq_of_beq_eq_true h; subst this
        exact hj o ho e he hb
      · exact befF_closed hD h fun o' ho' => hD e.on o' (hj o ho e he hb) ho'
    · cases h
/-- Records of a region's operations, one for each. -/
structure Rows (ops : Array Oper) (rs : List Rec) : Prop where
  wf : ∀ r ∈ rs, Wf r
  ord : rs.Pairwise fun i j => i.i < j.i ∧ DisR i j ∧ (Ind i j ∨ befF ops ops.size i.i j.i = true)
def backB (ops : Array Oper) : Bool := (List.range ops.size).all fun j => match ops[j]? with
  | some o => o.after.toList.all fun e => !Region.binds .any e || Nat.blt e.on j
  | none => false
section
variable {P : Program} {ops : Array Oper} {Q : Exit → Act → World → Prop} {C : Ctx}
def RecOk (P : Program) (C : Ctx) (ops : Array Oper) (Q : Exit → Act → World → Prop) (r : Rec) : Prop :=
  ∀ l H, Pre r l H → Fresh r l H → ∀ F ρ a w, St C F ρ l H a w → ∀ K : Act → World → Prop, (∀ F' ρ' a' w', St C F' ρ' (upE r l) (upH r H) a' w' → K a' w') → wpOp P ops Q r.i K a w
theorem ready_iff {listed : Array Bool} {i : Nat} : i ∈ Region.ready .any ops listed ↔ i < ops.size ∧ listed.getD i true = false ∧ ∃ o, ops[i]? = some o ∧ ∀ e ∈ o.after.toList, Region.binds .any e = true → listed.getD e.on false = true := by
  unfold Region.ready
  simp only [List.mem_filter, List.mem_range, Bool.and_eq_true, Bool.not_eq_true']
  constructor
  · rintro ⟨h1, h2, h3⟩
    refine ⟨h1, h2, ops[i], by simp [h1], fun e he hb => ?_⟩
    simp only [Array.getElem?_eq_getElem h1, Option.map_some, Option.getD_some, Array.all_eq_true_iff_forall_mem] at h3
    have := h3 e (Array.mem_toList_iff.1 he)
    simpa [hb] using this
  · rintro ⟨h1, h2, o, ho, h3⟩
    refine ⟨h1, h2, ?_⟩
    simp only [ho, Option.map_some, Option.getD_some, Array.all_eq_true_iff_forall_mem]
    intro e he
    cases hb : Region.binds .any e with
    | false => rfl
    | true => simp [h3 e (Array.mem_toList_iff.2 he) hb]
theorem any_rows (hback : backB ops = true) {K : Env → Heap → Prop} (hK : ∀ {l l' : Env} {H H' : Heap}, EqS l l' H H' → K l H → K l' H') (hQ : ∀ l H, K l H → WS C l H (Q .normal)) :
    ∀ (fuel : Nat) (listed : Array Bool) (rs : List Rec) (l : Env) (H : Heap) (F : Nat → Prop) (ρ : Nat → Loc) (a : Act) (w : World),
      listed.size = ops.size → (∀ i, i < ops.size → (listed.getD i true = false ↔ ∃ r ∈ rs, r.i = i)) → rs.length ≤ fuel → (∀ r ∈ rs, r.i < ops.size) → Closed ops (fun i => i < ops.size → listed.getD i true = true) → (∀ r ∈ rs, RecOk P C ops Q r) → Rows ops rs → OkR K rs l H → St C F ρ l H a w → wpAny P .any ops Q fuel listed a w := by
  have fin : ∀ (listed : Array Bool) (rs : List Rec) (l : Env) (H : Heap) (F : Nat → Prop) (ρ : Nat → Loc) (a : Act) (w : World), listed.size = ops.size → (∀ i, i < ops.size → (listed.getD i true = false ↔ ∃ r ∈ rs, r.i = i)) → (∀ r ∈ rs, r.i < ops.size) → Rows ops rs → OkR K rs l H → St C F ρ l H a w → Region.ready .any ops listed = [] → Q .normal a w := by
    intro listed rs l H F ρ a w hsz hl hlt hR hok hs hr
    cases rs with
    | nil => exact hQ l H hok F ρ a w hs
    | cons r rs =>
      exfalso
      have hri := hlt r (by simp)
      have : r.i ∈ Region.ready .any ops listed := ready_iff.2 ⟨hri, (hl r.i hri).2 ⟨r, by simp, rfl⟩, ops[r.i], by simp [hri], fun e he hb => ?_⟩
      · rw [hr] at this; cases this
      · have hlte : e.on < r.i := by
          unfold backB at hback
          have := (List.all_eq_true.1 hback) r.i (by simp [hri])
          simp only [Array.getElem?_eq_getElem hri, List.all_eq_true] at this
          have := this e he
          simp only [hb, Bool.not_true, Bool.false_or] at this
          exact Nat.le_of_ble_eq_true this
        have hon : e.on < ops.size := Nat.lt_trans hlte hri
        cases hq : listed.getD e.on false with
        | true => rfl
        | false =>
          have hq' : listed.getD e.on true = false := by
            rw [Array.getD_eq_getD_getElem?] at hq ⊢
            have : e.on < listed.size := hsz ▸ hon
            simp [this] at hq ⊢; exact hq
          obtain ⟨q, hqm, hqi⟩ := (hl e.on hon).1 hq'
          rcases List.mem_cons.1 hqm with rfl | hqm
          · omega
          · have := (List.pairwise_cons.1 hR.ord).1 q hqm
            omega
  intro fuel
  induction fuel with
  | zero =>
    intro listed rs l H F ρ a w hsz hl hf hlt hcl hrec hR hok hs
    have : rs = [] := by cases rs <;> simp_all
    subst this
    refine ⟨?_, hQ l H hok F ρ a w hs⟩
    apply List.eq_nil_iff_forall_not_mem.2
    intro i hi
    obtain ⟨h1, h2, _⟩ := ready_iff.1 hi
    obtain ⟨r, hr, _⟩ := (hl i h1).1 h2
    cases hr
  | succ fuel ih =>
    intro listed rs l H F ρ a w hsz hl hf hlt hcl hrec hR hok hs
    refine ⟨fin listed rs l H F ρ a w hsz hl hlt hR hok hs, fun i hi => ?_⟩
    obtain ⟨h1, h2, o, ho, h3⟩ := ready_iff.1 hi
    obtain ⟨r, hr, rfl⟩ := (hl i h1).1 h2
    obtain ⟨pre, post, rfl⟩ := List.append_of_mem hr
    have hpw := List.pairwise_append.1 hR.ord
    have hgd : ∀ k, k < ops.size → listed.getD k false = listed.getD k true := fun k hk => by
      have : k < listed.size := hsz ▸ hk
      rw [Array.getD_eq_getD_getElem?, Array.getD_eq_getD_getElem?]; simp [this]
    have hind : ∀ j ∈ pre, Ind j r := fun j hj => by
      obtain ⟨h4, h5, h6 | h6⟩ := hpw.2.2 j hj r (by simp)
      · exact h6
      · exfalso
        have hjs := hlt j (by simp [hj])
        have := befF_closed hcl h6 (fun o' ho' e he hb hlte => by
          rw [ho] at ho'; simp only [Option.some.injEq] at ho'; subst ho'
          rw [← hgd _ hlte]; exact h3 e he hb) hjs
        have h7 := (hl j.i hjs).2 ⟨j, by simp [hj], rfl⟩
        rw [this] at h7; cases h7
    have hdis : ∀ q ∈ pre ++ post, DisR r q := fun q hq => by
      rcases List.mem_append.1 hq with hq | hq
      · exact (hind q hq).ji
      · exact ((List.pairwise_cons.1 hpw.2.1).1 q hq).2.1
    obtain ⟨k1, k2, k3⟩ := OkR.front hK hR.wf hind hdis hok
    refine hrec r hr l H k1 (k2 r (by simp)) F ρ a w hs _ fun F' ρ' a' w' hs' => ?_
    have hset : ∀ k, (listed.setIfInBounds r.i true).getD k true = if k = r.i then true else listed.getD k true := fun k => by
      rw [Array.getD_eq_getD_getElem?, Array.getElem?_setIfInBounds, Array.getD_eq_getD_getElem?]
      by_cases hk : r.i = k
      · subst hk; simp [hsz, h1]
      · simp [hk, Ne.symm hk]
    have hne : ∀ q ∈ pre ++ post, q.i ≠ r.i := fun q hq e => by
      rcases List.mem_append.1 hq with hq | hq
      · have := (hpw.2.2 q hq r (by simp)).1; omega
      · have := ((List.pairwise_cons.1 hpw.2.1).1 q hq).1; omega
    have hsub : ∀ q ∈ pre ++ post, q ∈ pre ++ r :: post := fun q hq => by
      rcases List.mem_append.1 hq with hq | hq <;> simp [hq]
    refine ih _ (pre ++ post) _ _ F' ρ' a' w' (by simp [hsz]) (fun k hk => ?_) (by simp at hf ⊢; omega) (fun q hq => hlt q (hsub q hq)) (fun j o' hj hoj e he hb hlte => ?_) (fun q hq => hrec q (hsub q hq)) ⟨fun q hq => hR.wf q (hsub q hq), ?_⟩ k3 hs'
    · rw [hset]
      by_cases e : k = r.i
      · subst e
        simp only [if_pos]
        constructor
        · intro h; cases h
        · rintro ⟨q, hq, hqi⟩; exact absurd hqi (hne q hq)
      · rw [if_neg e, hl k hk]
        constructor
        · rintro ⟨q, hq, rfl⟩
          refine ⟨q, ?_, rfl⟩
          simp only [List.mem_append, List.mem_cons] at hq ⊢
          rcases hq with h | h | h
          · exact .inl h
          · subst h; exact absurd rfl e
          · exact .inr h
        · rintro ⟨q, hq, rfl⟩; exact ⟨q, hsub q hq, rfl⟩
    · rw [hset]
      split
      · rfl
      · by_cases hjr : j = r.i
        · subst hjr
          rw [ho] at hoj; simp only [Option.some.injEq] at hoj; subst hoj
          rw [← hgd _ hlte]; exact h3 e he hb
        · refine hcl j o' (fun hjs => ?_) hoj e he hb hlte
          have := hj hjs
          rwa [hset, if_neg hjr] at this
    · have : (pre ++ post).Sublist (pre ++ r :: post) := List.Sublist.append (List.Sublist.refl pre) (List.sublist_cons_self r post)
      exact hR.ord.sublist this
end
end Go.Dx
