/- A small symbolic engine for walks: the frame as a list of named slots, the blocks that the call owns as a list of chunks, all else an unchanged snapshot of the heap. Nothing of the program is named here. -/
import Derived.WalkKit
import Derived.Orders
import Derived.OrdersHeld
import Derived.Laws.Tables
import Derived.Laws.Rows
import Derived.Deep.MidRow
import Derived.Below
namespace Go.Sx
open Go.RowKit
set_option linter.unusedVariables false
set_option linter.unusedSimpArgs false

inductive AV where
  | v (x : Value)
  | lp (k off : Nat)
  | ls (k off len cap : Nat)
  | fn (f : Fn) (caps : List (Nat × Nat))

inductive Chunk where
  | one (a : AV)
  | ints (k : IntKind) (n : Nat) (xs : List Int)
  | vals (vs : List Value)

inductive SV where
  | a (x : AV)
  | agg (cs : List Chunk)

inductive EV where
  | s (x : SV)
  | t (l : List SV)

structure Blk where
  cs : List Chunk
  ty : Nat

abbrev Env := List (Nat × EV)
abbrev Heap := List (Nat × Blk)

def AV.conc (ρ : Nat → Nat) : AV → Value
  | .v x => x
  | .lp k off => .pointer (some ⟨ρ k, off, none⟩)
  | .ls k off len cap => .slice (some ⟨ρ k, off, none⟩) len cap
  | .fn f caps => .func f #[] (caps.map fun p => Value.pointer (some ⟨ρ p.1, p.2, none⟩)).toArray

def flat (ρ : Nat → Nat) : List Chunk → List Value
  | [] => []
  | .one a :: r => a.conc ρ :: flat ρ r
  | .ints k _ xs :: r => xs.map (Value.int k) ++ flat ρ r
  | .vals vs :: r => vs ++ flat ρ r

def sz : List Chunk → Nat
  | [] => 0
  | .one _ :: r => sz r + 1
  | .ints _ n _ :: r => n + sz r
  | .vals vs :: r => vs.length + sz r

def Chunk.ok : Chunk → Prop
  | .one _ => True
  | .ints _ n xs => xs.length = n
  | .vals _ => True

def okCs (cs : List Chunk) : Prop := ∀ c ∈ cs, c.ok

def SV.conc (ρ : Nat → Nat) : SV → Value
  | .a x => x.conc ρ
  | .agg cs => .agg (flat ρ cs).toArray

def SV.ok : SV → Prop
  | .a _ => True
  | .agg cs => okCs cs

def SV.chunks : SV → List Chunk
  | .a x => [.one x]
  | .agg cs => cs

def EV.conc (ρ : Nat → Nat) : EV → Value
  | .s x => x.conc ρ
  | .t l => .tuple (l.map (SV.conc ρ)).toArray

def EV.ok : EV → Prop
  | .s x => x.ok
  | .t l => ∀ x ∈ l, x.ok

def getE : Env → Nat → Option EV
  | [], _ => none
  | (k, v) :: r, t => match Nat.beq k t with
    | true => some v
    | false => getE r t

def delE : Env → Nat → Env
  | [], _ => []
  | (k, v) :: r, t => match Nat.beq k t with
    | true => delE r t
    | false => (k, v) :: delE r t

def putE (l : Env) (d : Nat) (v : EV) : Env := (d, v) :: delE l d

def getH : Heap → Nat → Option Blk
  | [], _ => none
  | (k, v) :: r, t => match Nat.beq k t with
    | true => some v
    | false => getH r t

def setH : Heap → Nat → Blk → Heap
  | [], _, _ => []
  | (k, v) :: r, t, b => match Nat.beq k t with
    | true => (k, b) :: r
    | false => (k, v) :: setH r t b

theorem nbeq_false {k t : Nat} (h : k ≠ t) : Nat.beq k t = false := by
  cases hb : Nat.beq k t
  · rfl
  · exact absurd (Nat.eq_of_beq_eq_true hb) h

theorem getE_del_ne (l : Env) {d t : Nat} (h : d ≠ t) : getE (delE l d) t = getE l t := by
  induction l with
  | nil => rfl
  | cons p r ih =>
    obtain ⟨k, v⟩ := p
    simp only [delE, getE]
    cases hk : Nat.beq k d with
    | true =>
      have : k = d := Nat.eq_of_beq_eq_true hk
      subst this
      have : Nat.beq k t = false := nbeq_false h
      simp [this, ih]
    | false => simp only [getE]; rw [ih]

theorem getE_put_same (l : Env) (d : Nat) (v : EV) : getE (putE l d v) d = some v := by
  simp [putE, getE]

theorem getE_put_ne (l : Env) {d t : Nat} (v : EV) (h : d ≠ t) : getE (putE l d v) t = getE l t := by
  have hb : Nat.beq d t = false := nbeq_false h
  simp [putE, getE, hb, getE_del_ne l h]

theorem getH_set (H : Heap) (t : Nat) (b : Blk) (k : Nat) : getH (setH H t b) k = if k = t then (getH H t).map (fun _ => b) else getH H k := by
  induction H with
  | nil => simp [setH, getH]
  | cons p r ih =>
    obtain ⟨j, v⟩ := p
    simp only [setH]
    cases hj : Nat.beq j t with
    | true =>
      have : j = t := Nat.eq_of_beq_eq_true hj
      subst this
      by_cases hk : k = j
      · subst hk; simp [getH]
      · have : Nat.beq j k = false := nbeq_false (Ne.symm hk)
        simp [getH, this, hk]
    | false =>
      simp only [getH]
      by_cases hk : k = t
      · subst hk; simp [hj, ih]
      · simp only [ih, hk, if_false]

def isOne : AV → Bool
  | .v x => x.oneCell'
  | _ => true

def onesOk : List Chunk → Bool
  | [] => true
  | .one a :: r => isOne a && onesOk r
  | .ints _ _ _ :: r => onesOk r
  | .vals _ :: _ => false

/-! what lies in a row of chunks -/

def dropC : List Chunk → Nat → Option (List Chunk)
  | cs, 0 => some cs
  | [], _ + 1 => none
  | .one _ :: r, n + 1 => dropC r n
  | .ints _ m _ :: r, n + 1 => match Nat.ble m (n + 1) with
    | true => dropC r (n + 1 - m)
    | false => none
  | .vals _ :: _, _ + 1 => none

def takeC : List Chunk → Nat → Option (List Chunk)
  | _, 0 => some []
  | [], _ + 1 => none
  | .one a :: r, n + 1 => match takeC r n with
    | some s => some (.one a :: s)
    | none => none
  | .ints k m xs :: r, n + 1 => match Nat.ble m (n + 1) with
    | true => match takeC r (n + 1 - m) with
      | some s => some (.ints k m xs :: s)
      | none => none
    | false => none
  | .vals _ :: _, _ + 1 => none

def atC : List Chunk → Nat → Option AV
  | [], _ => none
  | .one a :: _, 0 => some a
  | .one _ :: r, n + 1 => atC r n
  | .ints k m xs :: r, n => match Nat.ble m n with
    | true => atC r (n - m)
    | false => some (.v (.int k (xs.getD n 0)))
  | .vals _ :: _, _ => none

def putC : List Chunk → Nat → List Chunk → Option (List Chunk)
  | [], _, _ => none
  | .one a :: r, 0, new => match dropC (.one a :: r) (sz new) with
    | some rest => some (new ++ rest)
    | none => none
  | .one a :: r, off + 1, new => match putC r off new with
    | some s => some (.one a :: s)
    | none => none
  | .ints k n xs :: r, off, new =>
    match Nat.ble n off with
    | true => match putC r (off - n) new with
      | some s => some (.ints k n xs :: s)
      | none => none
    | false => match Nat.beq off 0, dropC (.ints k n xs :: r) (sz new) with
      | true, some rest => some (new ++ rest)
      | _, _ => match new with
        | [.one (.v (.int k' z))] => if k = k' then some (.ints k n (xs.set off z) :: r) else none
        | _ => none
  | .vals _ :: _, _, _ => none

section
variable (ρ : Nat → Nat)

theorem flat_append (a b : List Chunk) : flat ρ (a ++ b) = flat ρ a ++ flat ρ b := by
  induction a with
  | nil => rfl
  | cons c r ih => cases c <;> simp [flat, ih]

theorem sz_append (a b : List Chunk) : sz (a ++ b) = sz a + sz b := by
  induction a with
  | nil => simp [sz]
  | cons c r ih => cases c <;> simp [sz, ih] <;> omega

theorem flat_length {cs : List Chunk} (h : okCs cs) : (flat ρ cs).length = sz cs := by
  induction cs with
  | nil => rfl
  | cons c r ih =>
    have hr := ih fun x hx => h x (by simp [hx])
    cases c with
    | one a => simp [flat, sz, hr]
    | ints k n xs => have := h (.ints k n xs) (by simp); simp [Chunk.ok] at this; simp [flat, sz, hr, this]
    | vals vs => simp [flat, sz, hr]

theorem dropC_flat : ∀ {cs : List Chunk} {n : Nat} {r : List Chunk}, okCs cs → dropC cs n = some r → okCs r ∧ ∃ pre, flat ρ cs = pre ++ flat ρ r ∧ pre.length = n
  | cs, 0, r, hok, h => by simp only [dropC, Option.some.injEq] at h; subst h; exact ⟨hok, [], rfl, rfl⟩
  | [], n + 1, r, hok, h => by simp [dropC] at h
  | .one a :: s, n + 1, r, hok, h => by
    simp only [dropC] at h
    obtain ⟨h1, pre, h2, h3⟩ := dropC_flat (fun x hx => hok x (by simp [hx])) h
    exact ⟨h1, a.conc ρ :: pre, by simp [flat, h2], by simp [h3]⟩
  | .vals vs :: s, n + 1, r, hok, h => by simp [dropC] at h
  | .ints k m xs :: s, n + 1, r, hok, h => by
    simp only [dropC] at h
    cases hb : Nat.ble m (n + 1) with
    | false => simp [hb] at h
    | true =>
      simp only [hb] at h
      have hm : m ≤ n + 1 := Nat.le_of_ble_eq_true hb
      have hl := hok (.ints k m xs) (by simp)
      simp only [Chunk.ok] at hl
      obtain ⟨h1, pre, h2, h3⟩ := dropC_flat (fun x hx => hok x (by simp [hx])) h
      exact ⟨h1, xs.map (Value.int k) ++ pre, by simp [flat, h2], by simp [h3, hl]; omega⟩

theorem takeC_flat : ∀ {cs : List Chunk} {n : Nat} {r : List Chunk}, okCs cs → takeC cs n = some r → okCs r ∧ ∃ post, flat ρ cs = flat ρ r ++ post ∧ (flat ρ r).length = n
  | cs, 0, r, hok, h => by
    simp only [takeC, Option.some.injEq] at h
    subst h; exact ⟨(fun x hx => by cases hx), flat ρ cs, rfl, rfl⟩
  | [], n + 1, r, hok, h => by simp [takeC] at h
  | .one a :: s, n + 1, r, hok, h => by
    simp only [takeC] at h
    cases ht : takeC s n with
    | none => simp [ht] at h
    | some t =>
      simp only [ht, Option.some.injEq] at h
      subst h
      obtain ⟨h1, post, h2, h3⟩ := takeC_flat (fun x hx => hok x (by simp [hx])) ht
      refine ⟨fun x hx => ?_, post, by simp [flat, h2], by simp [flat, h3]⟩
      cases hx with
      | head => trivial
      | tail _ hx => exact h1 x hx
  | .vals vs :: s, n + 1, r, hok, h => by simp [takeC] at h
  | .ints k m xs :: s, n + 1, r, hok, h => by
    simp only [takeC] at h
    cases hb : Nat.ble m (n + 1) with
    | false => simp [hb] at h
    | true =>
      simp only [hb] at h
      have hm : m ≤ n + 1 := Nat.le_of_ble_eq_true hb
      cases ht : takeC s (n + 1 - m) with
      | none => simp [ht] at h
      | some t =>
        simp only [ht, Option.some.injEq] at h
        subst h
        have hl := hok (.ints k m xs) (by simp)
        obtain ⟨h1, post, h2, h3⟩ := takeC_flat (fun x hx => hok x (by simp [hx])) ht
        refine ⟨fun x hx => ?_, post, by simp [flat, h2], by simp only [Chunk.ok] at hl; simp [flat, h3, hl]; omega⟩
        cases hx with
        | head => exact hl
        | tail _ hx => exact h1 x hx

theorem atC_flat : ∀ {cs : List Chunk} {n : Nat} {x : AV}, okCs cs → atC cs n = some x → (flat ρ cs)[n]? = some (x.conc ρ)
  | [], n, x, hok, h => by simp [atC] at h
  | .one a :: s, 0, x, hok, h => by simp only [atC, Option.some.injEq] at h; subst h; simp [flat]
  | .one a :: s, n + 1, x, hok, h => by
    simp only [atC] at h
    simpa [flat] using atC_flat (fun x hx => hok x (by simp [hx])) h
  | .vals vs :: s, n, x, hok, h => by simp [atC] at h
  | .ints k m xs :: s, n, x, hok, h => by
    have hl := hok (.ints k m xs) (by simp)
    simp only [Chunk.ok] at hl
    simp only [atC] at h
    cases hb : Nat.ble m n with
    | true =>
      simp only [hb] at h
      have hm : m ≤ n := Nat.le_of_ble_eq_true hb
      have := atC_flat (fun x hx => hok x (by simp [hx])) h
      simp only [flat]
      rw [List.getElem?_append_right (by simp; omega)]
      simpa [hl] using this
    | false =>
      simp only [hb, Option.some.injEq] at h
      subst h
      have hm : n < m := by
        rcases Nat.lt_or_ge n m with h' | h'
        · exact h'
        · rw [Nat.ble_eq_true_of_le h'] at hb; cases hb
      simp only [flat, AV.conc]
      rw [List.getElem?_append_left (by simp; omega)]
      simp [List.getD, List.getElem?_eq_getElem (show n < xs.length by omega)]

theorem putC_flat : ∀ {cs : List Chunk} {off : Nat} {new r : List Chunk}, okCs cs → okCs new → putC cs off new = some r →
    okCs r ∧ ∃ A M D, flat ρ cs = A ++ M ++ D ∧ A.length = off ∧ M.length = sz new ∧ flat ρ r = A ++ flat ρ new ++ D
  | [], _, _, _, _, _, h => by simp [putC] at h
  | .one a :: s, 0, new, r, hok, hn, h => by
    simp only [putC] at h
    cases hd : dropC (.one a :: s) (sz new) with
    | none => simp [hd] at h
    | some rest =>
      simp only [hd, Option.some.injEq] at h
      subst h
      obtain ⟨h1, pre, h2, h3⟩ := dropC_flat ρ hok hd
      refine ⟨fun x hx => ?_, [], pre, flat ρ rest, by simpa using h2, rfl, h3, by simp [flat_append]⟩
      rcases List.mem_append.1 hx with hx | hx
      · exact hn x hx
      · exact h1 x hx
  | .one a :: s, off + 1, new, r, hok, hn, h => by
    simp only [putC] at h
    cases hp : putC s off new with
    | none => simp [hp] at h
    | some t =>
      simp only [hp, Option.some.injEq] at h
      subst h
      obtain ⟨h1, A, M, D, h2, h3, h4, h5⟩ := putC_flat (fun x hx => hok x (by simp [hx])) hn hp
      refine ⟨fun x hx => ?_, a.conc ρ :: A, M, D, by simp [flat, h2], by simp [h3], h4, by simp [flat, h5]⟩
      cases hx with
      | head => trivial
      | tail _ hx => exact h1 x hx
  | .vals vs :: s, off, new, r, hok, hn, h => by simp [putC] at h
  | .ints k n xs :: s, off, new, r, hok, hn, h => by
    have hl := hok (.ints k n xs) (by simp)
    simp only [Chunk.ok] at hl
    have hs : okCs s := fun x hx => hok x (by simp [hx])
    unfold putC at h
    cases hb : Nat.ble n off with
    | true =>
      simp only [hb] at h
      have hm : n ≤ off := Nat.le_of_ble_eq_true hb
      cases hp : putC s (off - n) new with
      | none => simp [hp] at h
      | some t =>
        simp only [hp, Option.some.injEq] at h
        subst h
        obtain ⟨h1, A, M, D, h2, h3, h4, h5⟩ := putC_flat hs hn hp
        refine ⟨fun x hx => ?_, xs.map (Value.int k) ++ A, M, D, by simp [flat, h2], by simp [h3, hl]; omega, h4, by simp [flat, h5]⟩
        cases hx with
        | head => exact hl
        | tail _ hx => exact h1 x hx
    | false =>
      simp only [hb] at h
      have hm : off < n := by
        rcases Nat.lt_or_ge off n with h' | h'
        · exact h'
        · rw [Nat.ble_eq_true_of_le h'] at hb; cases hb
      split at h
      · rename_i rest hz hd
        simp only [Option.some.injEq] at h
        subst h
        have hz' : off = 0 := Nat.eq_of_beq_eq_true hz
        subst hz'
        obtain ⟨h1, pre, h2, h3⟩ := dropC_flat ρ hok hd
        refine ⟨fun x hx => ?_, [], pre, flat ρ rest, by simpa using h2, rfl, h3, by simp [flat_append]⟩
        rcases List.mem_append.1 hx with hx | hx
        · exact hn x hx
        · exact h1 x hx
      · split at h
        · rename_i k' z
          split at h
          · rename_i hk
            subst hk
            simp only [Option.some.injEq] at h
            subst h
            refine ⟨fun x hx => ?_, (xs.map (Value.int k)).take off, [Value.int k (xs.getD off 0)], (xs.map (Value.int k)).drop (off + 1) ++ flat ρ s, ?_, by simp; omega, by simp [sz], ?_⟩
            · cases hx with
              | head => simpa [Chunk.ok] using hl
              | tail _ hx => exact hs x hx
            · have hlt : off < (xs.map (Value.int k)).length := by simp; omega
              have : xs.map (Value.int k) = (xs.map (Value.int k)).take off ++ [Value.int k (xs.getD off 0)] ++ (xs.map (Value.int k)).drop (off + 1) := by
                conv => lhs; rw [← List.take_append_drop off (xs.map (Value.int k)), List.drop_eq_getElem_cons hlt]
                simp [List.getD, List.getElem?_eq_getElem (show off < xs.length by omega)]
              simp only [flat]
              rw [← List.append_assoc, ← this]
            · simp only [flat, AV.conc, List.map_set]
              rw [List.set_eq_take_append_cons_drop, if_pos (by simp; omega)]
              simp
          · cases h
        · cases h

theorem onesOk_cell : ∀ {cs : List Chunk}, onesOk cs = true → ∀ v ∈ flat ρ cs, v.oneCell' = true
  | [], _, v, hv => by cases hv
  | .one a :: r, h, v, hv => by
    simp only [onesOk, Bool.and_eq_true] at h
    simp only [flat, List.mem_cons] at hv
    rcases hv with rfl | hv
    · cases a <;> first | exact h.1 | rfl
    · exact onesOk_cell h.2 v hv
  | .vals vs :: r, h, v, hv => by simp [onesOk] at h
  | .ints k n xs :: r, h, v, hv => by
    simp only [onesOk] at h
    simp only [flat, List.mem_append, List.mem_map] at hv
    rcases hv with ⟨x, _, rfl⟩ | hv
    · rfl
    · exact onesOk_cell h v hv

theorem cells_of_chunks {x : SV} (h : onesOk x.chunks = true) : (x.conc ρ).cells = (flat ρ x.chunks).toArray := by
  cases x with
  | agg cs => rfl
  | a y =>
    simp only [SV.chunks, onesOk, Bool.and_true] at h
    simp only [SV.conc, SV.chunks, flat]
    cases y with
    | v z => simp only [isOne] at h; simp only [AV.conc]; cases z <;> first | rfl | (simp [Value.oneCell'] at h)
    | _ => rfl
end

/-- A row of truth values, told by the lengths of its runs (the first run is 'true'). -/
def runs : List Nat → Bool → List Bool
  | [], _ => []
  | n :: r, b => List.replicate n b ++ runs r (!b)
abbrev bs (ns : List Nat) : Array Bool := ⟨runs ns true⟩

end Go.Sx
