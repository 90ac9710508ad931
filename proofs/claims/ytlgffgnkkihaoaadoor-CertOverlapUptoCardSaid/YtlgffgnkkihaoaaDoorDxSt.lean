/- The state of a walk: slots, own blocks, what is only read; how it goes on as the world grows. -/
import Derived.Test.YtlgffgnkkihaoaaDoorDxCore
namespace Go.Dx
open Go.RowKit
set_option linter.unusedVariables false
set_option linter.unusedSimpArgs false

def getE : Env → Nat → Option EV
  | [], _ => none
  | (k, v) :: r, t => match Nat.beq k t with
    | true => some v
    | false => getE r t
def putE (l : Env) (d : Nat) (v : EV) : Env := (d, v) :: l
def getH : Heap → Nat → Option Blk
  | [], _ => none
  | (k, v) :: r, t => match Nat.beq k t with
    | true => some v
    | false => getH r t
def delH : Heap → Nat → Heap
  | [], _ => []
  | (k, v) :: r, t => match Nat.beq k t with
    | true => delH r t
    | false => (k, v) :: delH r t
def setH (H : Heap) (k : Nat) (b : Blk) : Heap := (k, b) :: delH H k
theorem nbeq_false {k t : Nat} (h : k ≠ t) : Nat.beq k t = false := by
  cases hb : Nat.beq k t
  · rfl
  · exact absurd (Nat.eq_of_beq_eq_true hb) h
theorem getE_put_same (l : Env) (d : Nat) (v : EV) : getE (putE l d v) d = some v := by simp [putE, getE]
theorem getE_put_ne (l : Env) {d t : Nat} (v : EV) (h : d ≠ t) : getE (putE l d v) t = getE l t := by
  have hb : Nat.beq d t = false := nbeq_false h
  simp [putE, getE, hb]
theorem getH_del (H : Heap) (t k : Nat) : getH (delH H t) k = if k = t then none else getH H k := by
  induction H with
  | nil => simp [delH, getH]
  | cons p r ih =>
    obtain ⟨j, v⟩ := p
    simp only [delH]
    cases hj : Nat.beq j t with
    | true =>
      have : j = t := Nat.eq_of_beq_eq_true hj
      subst this
      simp only [ih, getH]
      by_cases hk : k = j
      · simp [hk]
      · have : Nat.beq j k = false := nbeq_false (Ne.symm hk)
        simp [this, hk]
    | false =>
      simp only [getH, ih]
      by_cases hk : k = t
      · subst hk; simp [hj]
      · simp [hk]
theorem getH_set (H : Heap) (t : Nat) (b : Blk) (k : Nat) : getH (setH H t b) k = if k = t then some b else getH H k := by
  simp only [setH, getH]
  by_cases hk : k = t
  · subst hk; simp
  · have : Nat.beq t k = false := nbeq_false (Ne.symm hk)
    simp [this, hk, getH_del]
theorem getH_del_some {H : Heap} {t k : Nat} {b : Blk} (h : getH (delH H t) k = some b) : k ≠ t ∧ getH H k = some b := by
  rw [getH_del] at h
  by_cases hk : k = t
  · simp [hk] at h
  · simp [hk] at h; exact ⟨hk, h⟩

/-- What stays as it was since the call began: below B, but for S. -/
structure Keep (B : Nat) (S : Nat → Prop) (w w' : World) : Prop where
  os : w'.os = w.os
  tape : w'.tape = w.tape
  output : w'.output = w.output
  size : w.heap.size ≤ w'.heap.size
  block : ∀ k, k < B → ¬ S k → w'.heap[k]? = w.heap[k]?
theorem Keep.refl (B : Nat) (S : Nat → Prop) (w : World) : Keep B S w w := ⟨rfl, rfl, rfl, Nat.le_refl _, fun _ _ _ => rfl⟩
theorem Keep.trans {B : Nat} {S : Nat → Prop} {a b c : World} (h : Keep B S a b) (k : Keep B S b c) : Keep B S a c :=
  ⟨k.os.trans h.os, k.tape.trans h.tape, k.output.trans h.output, Nat.le_trans h.size k.size, fun i hi hS => (k.block i hi hS).trans (h.block i hi hS)⟩
theorem Keep.of_below {B B' : Nat} {S : Nat → Prop} {a b : World} (h : Below B' a b) (hB : B ≤ B') : Keep B S a b :=
  ⟨h.os, h.tape, h.output, h.size, fun i hi _ => h.block i (Nat.lt_of_lt_of_le hi hB)⟩
theorem Keep.below {B : Nat} {a b : World} (h : Keep B (fun _ => False) a b) : Below B a b :=
  ⟨h.os, h.tape, h.output, h.size, fun i hi => h.block i hi fun e => e⟩

structure Ctx where
  N : Nat
  w0 : World
  S : Nat → Prop
  F0 : Nat → Prop
  r : Nat → Loc
  G : List (Nat × List DC)
  df : List Deferred
def GOk (G : List (Nat × List DC)) (m : Mem) : Prop := ∀ g cs, (g, cs) ∈ G → DRep m (.pt cs) (.pointer (some ⟨g, 0, none⟩))
theorem GOk.mono {G : List (Nat × List DC)} {m m' : Mem} (h : m.le m') (k : GOk G m) : GOk G m' := fun g cs hg => (k g cs hg).mono h

/-- The own blocks, as they lie, apart from one another and from what is only read. -/
structure HOk (w : World) (F : Nat → Prop) (ρ : Nat → Loc) (H : Heap) : Prop where
  hp : ∀ k b, getH H k = some b → BRep ⟨w, F⟩ ρ (ρ k) b
  own : ∀ k b, getH H k = some b → ∀ i, (ρ k).Z i → ¬ F i ∧ i < w.heap.size
  dis : ∀ k k' b b', getH H k = some b → getH H k' = some b' → k ≠ k' → ∀ i, (ρ k).Z i → ¬ (ρ k').Z i
  frz : ∀ i, F i → i < w.heap.size
/-- What a state shows. -/
structure St (C : Ctx) (F : Nat → Prop) (ρ : Nat → Loc) (l : Env) (H : Heap) (a : Act) (w : World) : Prop extends HOk w F ρ H where
  env : ∀ t v, getE l t = some v → ERep ⟨w, F⟩ ρ v (a.tmps.getD t undef)
  gl : GOk C.G ⟨w, F⟩
  mine : ∀ k b, getH H k = some b → ∀ i, (ρ k).Z i → C.w0.heap.size ≤ i ∨ C.S i
  f0 : ∀ i, C.F0 i → F i
  f1 : ∀ i, F i → C.F0 i ∨ C.w0.heap.size ≤ i ∨ C.S i
  keep : Keep C.w0.heap.size C.S C.w0 w
  pin : ∀ k, 100000 ≤ k → ρ k = C.r k
  defers : a.defers = C.df
  size : a.tmps.size = C.N

section
variable {P : Program} {C : Ctx} {F : Nat → Prop} {ρ : Nat → Loc} {l : Env} {H : Heap} {a : Act} {w : World}

theorem St.put (h : St C F ρ l H a w) {d : Nat} {e : EV} {u : Value} (hd : d < C.N) (he : ERep ⟨w, F⟩ ρ e u) : St C F ρ (putE l d e) H (a.put (some d) u) w where
  toHOk := h.toHOk
  env t v hv := by
    by_cases hdt : d = t
    · subst hdt
      rw [getE_put_same] at hv
      simp only [Option.some.injEq] at hv
      subst hv
      have : (a.put (some d) u).tmps.getD d undef = u := by
        simp [Act.put, Array.getD_eq_getD_getElem?, Array.getElem?_setIfInBounds, h.size, hd]
      rw [this]; exact he
    · rw [getE_put_ne l e hdt] at hv
      have : (a.put (some d) u).tmps.getD t undef = a.tmps.getD t undef := by
        simp [Act.put, Array.getD_eq_getD_getElem?, Array.getElem?_setIfInBounds, hdt]
      rw [this]; exact h.env t v hv
  gl := h.gl
  mine := h.mine
  f0 := h.f0
  f1 := h.f1
  keep := h.keep
  pin := h.pin
  defers := h.defers
  size := by simp [Act.put, h.size]
def putO (l : Env) (d : Option Nat) (v : EV) : Env :=
  match d with
  | some d => putE l d v
  | none => l
def dstOk (N : Nat) (d : Option Nat) : Bool :=
  match d with
  | some d => Nat.blt d N
  | none => true
theorem St.putO (h : St C F ρ l H a w) {d : Option Nat} {e : EV} {u : Value} (hd : dstOk C.N d = true) (he : ERep ⟨w, F⟩ ρ e u) : St C F ρ (putO l d e) H (a.put d u) w := by
  cases d with
  | none => exact h
  | some d => exact h.put (Nat.le_of_ble_eq_true hd) he
/-- Known slots, told otherwise. -/
theorem St.env_map (h : St C F ρ l H a w) {l' : Env} (hl : ∀ t v', getE l' t = some v' → ∃ v, getE l t = some v ∧ ∀ u, ERep ⟨w, F⟩ ρ v u → ERep ⟨w, F⟩ ρ v' u) : St C F ρ l' H a w :=
  { h with env := fun t v' hv => let ⟨v, e, k⟩ := hl t v' hv; k _ (h.env t v e) }
/-- Own blocks, told otherwise, or forgotten. -/
theorem St.heap_map (h : St C F ρ l H a w) {H' : Heap} (hH : ∀ k b', getH H' k = some b' → ∃ b, getH H k = some b ∧ (BRep ⟨w, F⟩ ρ (ρ k) b → BRep ⟨w, F⟩ ρ (ρ k) b')) : St C F ρ l H' a w :=
  { h with
    hp := fun k b' hk => let ⟨b, e, r⟩ := hH k b' hk; r (h.hp k b e)
    own := fun k b' hk => let ⟨b, e, _⟩ := hH k b' hk; h.own k b e
    dis := fun k k' b1 b2 h1 h2 => let ⟨b, e, _⟩ := hH k b1 h1; let ⟨b', e', _⟩ := hH k' b2 h2; h.dis k k' b b' e e'
    mine := fun k b' hk => let ⟨b, e, _⟩ := hH k b' hk; h.mine k b e }
/-- The world has changed in what is neither own nor only read, or has grown. -/
theorem St.grow (h : St C F ρ l H a w) {w' : World} (hb : Below w.heap.size w w') : St C F ρ l H a w' := by
  have hle : Mem.le ⟨w, F⟩ ⟨w', F⟩ := Mem.le_of (fun _ hF => hF) fun i hF => hb.block i (h.frz i hF)
  exact { h with
    env := fun t v hv => (h.env t v hv).mono hle
    hp := fun k b hk => (h.hp k b hk).mono hle fun i hi => hb.block i (h.own k b hk i hi).2
    own := fun k b hk i hi => ⟨(h.own k b hk i hi).1, Nat.lt_of_lt_of_le (h.own k b hk i hi).2 hb.size⟩
    frz := fun i hi => Nat.lt_of_lt_of_le (h.frz i hi) hb.size
    gl := h.gl.mono hle
    keep := h.keep.trans (Keep.of_below hb h.keep.size) }
/-- An own block is written. -/
theorem St.write (h : St C F ρ l H a w) {w' : World} {k : Nat} {b b' : Blk} (hk : getH H k = some b) (hos : w'.os = w.os) (htape : w'.tape = w.tape) (hout : w'.output = w.output) (hsz : w'.heap.size = w.heap.size)
    (hw : ∀ i, ¬ (ρ k).Z i → w'.heap[i]? = w.heap[i]?) (hb : Mem.le ⟨w, F⟩ ⟨w', F⟩ → BRep ⟨w', F⟩ ρ (ρ k) b') : St C F ρ l (setH H k b') a w' := by
  have hle : Mem.le ⟨w, F⟩ ⟨w', F⟩ := Mem.le_of (fun _ hF => hF) fun i hF => hw i fun hz => (h.own k b hk i hz).1 hF
  have hg : ∀ j c, getH (setH H k b') j = some c → ∃ c', getH H j = some c' := fun j c hj => by
    rw [getH_set] at hj
    by_cases hjk : j = k
    · subst hjk; exact ⟨b, hk⟩
    · simp [hjk] at hj; exact ⟨c, hj⟩
  refine { h with env := fun t v hv => (h.env t v hv).mono hle, hp := fun j c hj => ?_, own := fun j c hj i hi => ?_, dis := fun j j' c c' hj hj' => ?_, frz := fun i hi => hsz ▸ h.frz i hi, gl := h.gl.mono hle, mine := fun j c hj => ?_, keep := h.keep.trans ⟨hos, htape, hout, Nat.le_of_eq hsz.symm, fun i hi hS => hw i fun hz => ?_⟩ }
  · rw [getH_set] at hj
    by_cases hjk : j = k
    · subst hjk; simp at hj; subst hj; exact hb hle
    · simp [hjk] at hj
      exact (h.hp j c hj).mono hle fun i hi => hw i fun hz => h.dis j k c b hj hk hjk i hi hz
  · obtain ⟨c', e⟩ := hg j c hj; rw [hsz]; exact h.own j c' e i hi
  · obtain ⟨d, e⟩ := hg j c hj; obtain ⟨d', e'⟩ := hg j' c' hj'; exact h.dis j j' d d' e e'
  · obtain ⟨c', e⟩ := hg j c hj; exact h.mine j c' e
  · rcases h.mine k b hk i hz with h1 | h1
    · omega
    · exact hS h1
def updL (ρ : Nat → Loc) (k : Nat) (x : Loc) : Nat → Loc := fun j => if j = k then x else ρ j
def refsE : Env → List Nat
  | [] => []
  | (_, v) :: r => v.refs ++ refsE r
def refsH : Heap → List Nat
  | [] => []
  | (k, b) :: r => k :: (b.refs ++ refsH r)
theorem refsE_get : ∀ {l : Env} {t : Nat} {v : EV}, getE l t = some v → ∀ k ∈ v.refs, k ∈ refsE l
  | (j, x) :: r, t, v, h, k, hk => by
    simp only [getE] at h
    split at h
    · simp only [Option.some.injEq] at h; subst h; simp [refsE, hk]
    · simp [refsE, refsE_get h k hk]
theorem refsH_get : ∀ {H : Heap} {t : Nat} {b : Blk}, getH H t = some b → t ∈ refsH H ∧ ∀ k ∈ b.refs, k ∈ refsH H
  | (j, x) :: r, t, b, h => by
    simp only [getH] at h
    split at h
    · rename_i hj
      have := Nat.eq_of_beq_eq_true hj
      subst this
      simp only [Option.some.injEq] at h; subst h; exact ⟨by simp [refsH], fun k hk => by simp [refsH, hk]⟩
    · obtain ⟨h1, h2⟩ := refsH_get h
      exact ⟨by simp [refsH, h1], fun k hk => by simp [refsH, h2 k hk]⟩
/-- The name k is not in use. -/
def freshN (k N : Nat) (l : Env) (H : Heap) : Bool := Nat.blt k 100000 && (!memN k (refsE l) && !memN k (refsH H))
/-- New names mean what they like. -/
theorem St.rho (h : St C F ρ l H a w) {k : Nat} {x : Loc} (hk : freshN k C.N l H = true) : St C F (updL ρ k x) l H a w := by
  simp only [freshN, Bool.and_eq_true, Bool.not_eq_true'] at hk
  have hE := not_memN hk.2.1
  have hH := not_memN hk.2.2
  have ne : ∀ j, j ≠ k → updL ρ k x j = ρ j := fun j hj => by simp [updL, hj]
  have hg : ∀ j c, getH H j = some c → updL ρ k x j = ρ j := fun j c hj => ne j fun e => hH (e ▸ (refsH_get hj).1)
  exact { h with
    env := fun t v hv => (h.env t v hv).same fun j hj => ne j fun e => hE (e ▸ refsE_get hv j hj)
    hp := fun j c hj => by rw [hg j c hj]; exact (h.hp j c hj).same fun i hi => ne i fun e => hH (e ▸ (refsH_get hj).2 i hi)
    own := fun j c hj => by rw [hg j c hj]; exact h.own j c hj
    dis := fun j j' c c' hj hj' => by rw [hg j c hj, hg j' c' hj']; exact h.dis j j' c c' hj hj'
    mine := fun j c hj => by rw [hg j c hj]; exact h.mine j c hj
    pin := fun j hj => by
      have : k < 100000 := Nat.le_of_ble_eq_true hk.1
      rw [ne j (by omega)]; exact h.pin j hj }
/-- A block that is there, and neither own nor read, is one's own from now on. -/
theorem St.add (h : St C F ρ l H a w) {k : Nat} {b : Blk} (hk : freshN k C.N l H = true) {x : Loc} (hb : BRep ⟨w, F⟩ ρ x b) (href : memN k b.refs = false)
    (hn : ∀ i, x.Z i → ¬ F i ∧ i < w.heap.size ∧ (C.w0.heap.size ≤ i ∨ C.S i)) (hd : ∀ j c, getH H j = some c → ∀ i, x.Z i → ¬ (ρ j).Z i) : St C F (updL ρ k x) l ((k, b) :: H) a w := by
  have h' := h.rho (x := x) hk
  simp only [freshN, Bool.and_eq_true, Bool.not_eq_true'] at hk
  have hH := not_memN hk.2.2
  have ne : ∀ j, j ≠ k → updL ρ k x j = ρ j := fun j hj => by simp [updL, hj]
  have same : updL ρ k x k = x := by simp [updL]
  have hc : ∀ j c, getH ((k, b) :: H) j = some c → (j = k ∧ c = b) ∨ (j ≠ k ∧ getH H j = some c) := fun j c hj => by
    simp only [getH] at hj
    by_cases e : j = k
    · subst e; simp at hj; exact .inl ⟨rfl, hj.symm⟩
    · have : Nat.beq k j = false := nbeq_false (Ne.symm e)
      simp [this] at hj; exact .inr ⟨e, hj⟩
  refine { h' with hp := fun j c hj => ?_, own := fun j c hj i hi => ?_, dis := fun j j' c c' hj hj' hne i hi hi' => ?_, mine := fun j c hj i hi => ?_ }
  · rcases hc j c hj with ⟨rfl, rfl⟩ | ⟨hne, hg⟩
    · rw [same]; exact hb.same fun i hi => ne i fun e => not_memN href (e ▸ hi)
    · exact h'.hp j c hg
  · rcases hc j c hj with ⟨rfl, rfl⟩ | ⟨hne, hg⟩
    · rw [same] at hi; exact ⟨(hn i hi).1, (hn i hi).2.1⟩
    · exact h'.own j c hg i hi
  · rcases hc j c hj with ⟨rfl, rfl⟩ | ⟨hn1, hg⟩
    · rcases hc j' c' hj' with ⟨rfl, rfl⟩ | ⟨hn2, hg'⟩
      · exact hne rfl
      · rw [same] at hi; rw [ne j' hn2] at hi'; exact hd j' c' hg' i hi hi'
    · rcases hc j' c' hj' with ⟨rfl, rfl⟩ | ⟨hn2, hg'⟩
      · rw [same] at hi'; rw [ne j hn1] at hi; exact hd j c hg i hi' hi
      · exact h'.dis j j' c c' hg hg' hne i hi hi'
  · rcases hc j c hj with ⟨rfl, rfl⟩ | ⟨hne, hg⟩
    · rw [same] at hi; exact (hn i hi).2.2
    · exact h'.mine j c hg i hi
def loc1 (b n cap : Nat) : Loc := ⟨b, some ⟨b, 0, none⟩, n, cap, fun i => i = b⟩
theorem alloc_below (w : World) (o : Obj) : Below w.heap.size w (w.alloc o) :=
  ⟨rfl, rfl, rfl, by show w.heap.size ≤ (w.heap.push o).size; simp, fun i hi => by show (w.heap.push o)[i]? = _; rw [Array.getElem?_push, if_neg (Nat.ne_of_lt hi)]⟩
theorem alloc_at (w : World) (o : Obj) : (w.alloc o).heap[w.heap.size]? = some o := by
  show (w.heap.push o)[w.heap.size]? = _
  rw [Array.getElem?_push, if_pos rfl]
/-- A new block of the call's own. -/
theorem St.alloc (h : St C F ρ l H a w) {k n cap : Nat} {b : Blk} {o : Obj} (hk : freshN k C.N l H = true) (href : memN k b.refs = false)
    (hb : Mem.le ⟨w, F⟩ ⟨w.alloc o, F⟩ → BRep ⟨w.alloc o, F⟩ ρ (loc1 w.heap.size n cap) b) : St C F (updL ρ k (loc1 w.heap.size n cap)) l ((k, b) :: H) a (w.alloc o) := by
  have hB := alloc_below w o
  have h' := h.grow hB
  have hle : Mem.le ⟨w, F⟩ ⟨w.alloc o, F⟩ := Mem.le_of (fun _ hF => hF) fun i hF => hB.block i (h.frz i hF)
  refine h'.add hk (hb hle) href (fun i hi => ?_) fun j c hj i hi hz => ?_
  · have : i = w.heap.size := hi
    subst this
    exact ⟨fun hF => absurd (h.frz _ hF) (Nat.lt_irrefl _), by show w.heap.size < (w.heap.push o).size; simp, .inl h.keep.size⟩
  · have : i = w.heap.size := hi
    subst this
    exact absurd (h.own j c hj _ hz).2 (Nat.lt_irrefl _)
/-- New memory that is only read. -/
theorem St.fz_new (h : St C F ρ l H a w) {w' : World} {G : Nat → Prop} (hb : Below w.heap.size w w') (hG : ∀ i, G i → w.heap.size ≤ i ∧ i < w'.heap.size) : St C (fun i => F i ∨ G i) ρ l H a w' := by
  have h' := h.grow hb
  have hle : Mem.le ⟨w', F⟩ ⟨w', fun i => F i ∨ G i⟩ := Mem.le_of (fun _ hF => .inl hF) fun i hF => rfl
  refine { h' with env := fun t v hv => (h'.env t v hv).mono hle, hp := fun k b hk => (h'.hp k b hk).mono hle fun i hi => rfl, own := fun k b hk i hi => ⟨fun hF => ?_, (h'.own k b hk i hi).2⟩, frz := fun i hi => ?_, gl := h'.gl.mono hle, f0 := fun i hi => .inl (h'.f0 i hi), f1 := fun i hi => ?_ }
  · rcases hF with hF | hF
    · exact (h'.own k b hk i hi).1 hF
    · have := (h.own k b hk i hi).2; have := (hG i hF).1; omega
  · rcases hi with hi | hi
    · exact h'.frz i hi
    · exact (hG i hi).2
  · rcases hi with hi | hi
    · exact h'.f1 i hi
    · exact .inr (.inl (Nat.le_trans h.keep.size (hG i hi).1))
/-- An own block is only read from now on. -/
theorem St.freeze (h : St C F ρ l H a w) {k : Nat} {b : Blk} (hk : getH H k = some b) : St C (fun i => F i ∨ (ρ k).Z i) ρ l (delH H k) a w := by
  have hle : Mem.le ⟨w, F⟩ ⟨w, fun i => F i ∨ (ρ k).Z i⟩ := Mem.le_of (fun _ hF => .inl hF) fun i hF => rfl
  refine { h with env := fun t v hv => (h.env t v hv).mono hle, hp := fun j c hj => ?_, own := fun j c hj i hi => ?_, dis := fun j j' c c' hj hj' => ?_, frz := fun i hi => ?_, gl := h.gl.mono hle, mine := fun j c hj => ?_, f0 := fun i hi => .inl (h.f0 i hi), f1 := fun i hi => ?_ }
  · exact (h.hp j c (getH_del_some hj).2).mono hle fun i hi => rfl
  · obtain ⟨hne, hj⟩ := getH_del_some hj
    refine ⟨fun hF => ?_, (h.own j c hj i hi).2⟩
    rcases hF with hF | hF
    · exact (h.own j c hj i hi).1 hF
    · exact h.dis j k c b hj hk hne i hi hF
  · exact h.dis j j' c c' (getH_del_some hj).2 (getH_del_some hj').2
  · rcases hi with hi | hi
    · exact h.frz i hi
    · exact (h.own k b hk i hi).2
  · exact h.mine j c (getH_del_some hj).2
  · rcases hi with hi | hi
    · exact h.f1 i hi
    · exact .inr (h.mine k b hk i hi)
end
end Go.Dx
