/- Votes and certificates: what the document says, in plain Lean. -/
import Derived.Test.YtlgffgnkkihaoaaDoorGbB
namespace Go.Proofs.YtlgffgnkkihaoaaDoor
open Go.ChangeShapes Go.WideShapes Go.RowKit Go.Dx
set_option linter.unusedVariables false
set_option linter.unusedSimpArgs false
theorem set_okD {L : List Int} (h : OkB L) (i : Nat) (x : Int) : OkB (L.set i (IntKind.wrap .u8 x)) := fun y hy => by
  rcases List.mem_or_eq_of_mem_set hy with h1 | h1
  · exact h y h1
  · subst h1; rw [IntKind.wrap_u8]; omega
theorem sumB_okD (L : List Int) : OkB (sumB shaK L) := by
  have : ∀ (h : List Int) (i : Nat), OkB (digF h i) := fun h i => by
    induction i with
    | zero =>
      intro x hx
      rw [(List.mem_replicate.1 hx).2]; decide
    | succ i ih =>
      show OkB (put4 (digF h i) _ _)
      unfold put4
      exact set_okD (set_okD (set_okD (set_okD ih _ _) _ _) _ _) _ _
  unfold sumB sumH
  exact this _ 8
attribute [local irreducible] sumB joinB
/-- A signature: index, tag. -/
abbrev SI := Int × List Int
def siE (x : SI) : List DC := [.one (.v (.int .i64 x.1)), .ints .u8 32 x.2]
def siG : List DC → SI
  | [.one (.v (.int _ i)), .ints _ _ g] => (i, g)
  | _ => (0, [])
theorem siG_siE (x : SI) : siG (siE x) = x := rfl
abbrev siZ : SI := (0, [])
/-- A header. -/
structure HD where
  ch : Int
  ep : Int
  ht : Int
  vw : Int
  par : List Int
  txs : List Int
  root : List Int
  pr : Int
def hdE (x : HD) : List DC := [.one (.v (.int .i64 x.ch)), .one (.v (.int .i64 x.ep)), .one (.v (.int .i64 x.ht)), .one (.v (.int .i64 x.vw)), .ints .u8 32 x.par, .ints .u8 32 x.txs, .ints .u8 32 x.root, .one (.v (.int .i64 x.pr))]
abbrev hdZ : HD := ⟨0, 0, 0, 0, [], [], [], 0⟩
def hdG : List DC → HD
  | [.one (.v (.int _ a)), .one (.v (.int _ b)), .one (.v (.int _ c)), .one (.v (.int _ d)), .ints _ _ p, .ints _ _ t, .ints _ _ r, .one (.v (.int _ e))] => ⟨a, b, c, d, p, t, r, e⟩
  | _ => hdZ
theorem hdG_hdE (x : HD) : hdG (hdE x) = x := rfl
/-- A certificate. -/
structure QC where
  ch : Int
  ep : Int
  vw : Int
  blk : List Int
  who : List Int
  sigs : List SI
/-- A record. -/
structure RC where
  ep : Int
  mem : List Int
  seats : List (List Int)
/-- A vote. -/
structure VT where
  ch : Int
  ep : Int
  vw : Int
  blk : List Int
  who : Int
  sig : SI
/-- A row of numbers as an element. -/
def nuE (x : List Int) : List DC := [.one (.si .i64 x)]
def nuG : List DC → List Int
  | [.one (.si _ x)] => x
  | _ => []
theorem nuG_nuE (x : List Int) : nuG (nuE x) = x := rfl
def n8 (n : Int) : List Int := be8 (IntKind.wrap .u64 n)
def numsB (l : List Int) : List Int := joinB (l.map n8)
def sigB (s : SI) : List Int := joinB [n8 s.1, s.2]
def hdB (h : HD) : List Int := joinB [n8 h.ch, n8 h.ep, n8 h.ht, n8 h.vw, h.par, h.txs, h.root, n8 h.pr]
def digH (h : HD) : List Int := sumB shaK (joinB [[98, 108, 111, 99, 107], hdB h])
def qcB (q : QC) : List Int := joinB [n8 q.ch, n8 q.ep, n8 q.vw, q.blk, numsB q.who, joinB (q.sigs.map sigB)]
def cmB (p : List HD) (q : QC) : List Int := joinB [joinB (p.map hdB), qcB q]
def voteB (ch ep vw : Int) (b : List Int) : List Int := joinB [[118, 111, 116, 101], n8 ch, n8 ep, n8 vw, b]
def tmoB (ch ep vw hi : Int) : List Int := joinB [[116, 105, 109, 101, 111, 117, 116], n8 ch, n8 ep, n8 vw, n8 hi]
def prpB (h : HD) : List Int := joinB [[112, 114, 111, 112, 111, 115, 101], digH h]
/-- The first that is not nought. -/
def scan (f : Nat → Int) (n : Nat) : Int := (((List.range n).map f).find? fun x => decide (x ≠ 0)).getD 0
theorem scan_hit {f : Nat → Int} {n t : Nat} (h : ∀ i, i < t → f i = 0) (ht : t < n) (hf : f t ≠ 0) : scan f n = f t := by
  unfold scan
  have e : List.range n = List.range t ++ (List.range (n - t)).map (t + ·) := by
    rw [← List.range_add]; congr 1; omega
  rw [e, List.map_append, List.find?_append]
  have h1 : ((List.range t).map f).find? (fun x => decide (x ≠ 0)) = none := by
    rw [List.find?_eq_none]
    intro x hx
    obtain ⟨i, hi, rfl⟩ := List.mem_map.1 hx
    simp [h i (List.mem_range.1 hi)]
  rw [h1, Option.none_or]
  have e2 : n - t = (n - t - 1) + 1 := by omega
  rw [e2, List.range_succ_eq_map, List.map_cons, List.map_cons, List.find?_cons_of_pos (by simpa using hf)]
  rfl
theorem scan_all {f : Nat → Int} {n : Nat} (h : ∀ i, i < n → f i = 0) : scan f n = 0 := by
  unfold scan
  have h1 : ((List.range n).map f).find? (fun x => decide (x ≠ 0)) = none := by
    rw [List.find?_eq_none]
    intro x hx
    obtain ⟨i, hi, rfl⟩ := List.mem_map.1 hx
    simp [h i (List.mem_range.1 hi)]
  rw [h1]; rfl
theorem scan_congr {f g : Nat → Int} {n : Nat} (h : ∀ i, i < n → f i = g i) : scan f n = scan g n := by
  unfold scan
  rw [List.map_congr_left fun i hi => h i (List.mem_range.1 hi)]
theorem scan_zero {f : Nat → Int} {n : Nat} (h : scan f n = 0) : ∀ i, i < n → f i = 0 := fun i => by
  induction i using Nat.strongRecOn with
  | ind i ih =>
    intro hi
    by_cases hf : f i = 0
    · exact hf
    · rw [scan_hit (fun j hj => ih j hj (by omega)) hi hf] at h; exact absurd h hf
/-! who is right -/
def seatsP (c : RC) (ch : Int) : List Int := if ch < 0 ∨ (c.seats.length : Int) ≤ ch then [] else c.seats.getD ch.toNat []
def frameP (c : RC) (ch ep vw : Int) : Int := if c.ep ≠ ep then 10 else if (seatsP c ch).length = 0 then 9 else if vw < 1 then 11 else 0
def sigOk (L : List SG) (k : Int) (t : List Int) (s : SI) : Bool := madB L (k, s.1, strOfNums t) && (s.2 == tagB k s.1 t)
def signP (L : List SG) (S : List Int) (k : Int) (t : List Int) (s : SI) : Int := if S.contains k = false then 14 else if sigOk L k t s = false then 16 else 0
def voteP (L : List SG) (c : RC) (v : VT) : Int := if frameP c v.ch v.ep v.vw ≠ 0 then frameP c v.ch v.ep v.vw else signP L (seatsP c v.ch) v.who (voteB v.ch v.ep v.vw v.blk) v.sig
def tmoP (L : List SG) (c : RC) (ch ep vw hi k : Int) (s : SI) : Int := if frameP c ch ep vw ≠ 0 then frameP c ch ep vw else signP L (seatsP c ch) k (tmoB ch ep vw hi) s
/-- The signers rise, and sit. -/
def whoE (S w : List Int) (i : Nat) : Int := if (0 < i ∧ w.getD i 0 ≤ w.getD (i - 1) 0) ∨ S.contains (w.getD i 0) = false then 14 else 0
def qcP (L : List SG) (c : RC) (q : QC) : Int :=
  if frameP c q.ch q.ep q.vw ≠ 0 then frameP c q.ch q.ep q.vw
  else if q.who.length ≠ q.sigs.length then 14
  else if scan (whoE (seatsP c q.ch) q.who) q.who.length ≠ 0 then 14
  else if q.who.length < 3 then 15
  else scan (fun i => signP L (seatsP c q.ch) (q.who.getD i 0) (voteB q.ch q.ep q.vw q.blk) (q.sigs.getD i siZ)) q.who.length
/-! commits -/
def ne1 (b : Bool) (e : Int) : Int := if b then e else 0
def cmE (p : List HD) (q : QC) : Int :=
  let n := p.length
  let g := fun i => p.getD i hdZ
  if scan (fun i => ne1 (decide ((g i).ch ≠ (g 0).ch ∨ q.ch ≠ (g 0).ch)) 9) n ≠ 0 then 9
  else if scan (fun i => ne1 (decide ((g i).ep ≠ (g 0).ep ∨ q.ep ≠ (g 0).ep)) 10) n ≠ 0 then 10
  else if scan (fun i => ne1 (decide ((g i).ht ≥ (g (i + 1)).ht ∨ (g i).ht ≠ (g (i + 1)).ht - 1)) 12) (n - 1) ≠ 0 then 12
  else if scan (fun i => ne1 (decide ((g (i + 1)).par ≠ digH (g i))) 13) (n - 1) ≠ 0 then 13
  else if (g 0).vw ≤ 0 then 11
  else if scan (fun i => ne1 (decide ((g i).vw ≥ (g (i + 1)).vw ∨ (n ≤ i + 3 ∧ (g i).vw ≠ (g (i + 1)).vw - 1))) 11) (n - 1) ≠ 0 then 11
  else if q.blk ≠ digH (g (n - 1)) ∨ q.vw ≠ (g (n - 1)).vw then 15 else 0
def cmP (L : List SG) (c : RC) (p : List HD) (q : QC) : Int :=
  if p.length < 3 ∨ 64 < p.length then 5 else if cmE p q ≠ 0 then cmE p q else qcP L c q
end Go.Proofs.YtlgffgnkkihaoaaDoor
