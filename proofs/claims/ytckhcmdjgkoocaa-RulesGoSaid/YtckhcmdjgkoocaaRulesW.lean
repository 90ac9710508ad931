/- A run of four validators: small facts for the walks of the three laws. -/
import Derived.Test.YtckhcmdjgkoocaaRulesU
import Derived.Test.YtckhcmdjgkoocaaSxUnr
namespace Go.Proofs.Ytckhcmdjgkoocaa
open Go.RowKit Go.Sx
set_option linter.unusedVariables false
set_option linter.unusedSimpArgs false
abbrev cM (m : Mv) : List Chunk := [cI .i64 m.kind, cI .i64 m.who, cI .i64 m.block, cI .i64 m.view]
theorem mv_of {R : TypeId → Value → Prop} : ∀ {cs : List Chunk}, MatchL R [.i .i64, .i .i64, .i .i64, .i .i64] cs → ∃ m : Mv, cs = cM m
  | [.one (.v (.int _ a)), .one (.v (.int _ b)), .one (.v (.int _ c)), .one (.v (.int _ d))], ⟨rfl, _, rfl, _, rfl, _, rfl, _, _⟩ => ⟨⟨a, b, c, d⟩, rfl⟩
def gD (d : Nat) : List Value := [.int .i64 (d : Int)]
theorem gD_len (d : Nat) : (gD d).length = 1 := rfl
theorem d_at {D : List Nat} {rest : List Value} {i : Nat} (h : i < D.length) (ρ : Nat → Nat) : (flat ρ [.vals (rowV gD D ++ rest)])[0 + i * 1]? = some ((AV.v (.int .i64 ((D.getD i 0 : Nat) : Int))).conc ρ) := by
  rw [flat_vals, row_get gD_len (L := D) (i := i) (a := D.getD i 0) (by simp [h]) (j := 0) (by omega) (by omega)]; rfl
theorem getD_mem {D : List Nat} {i : Nat} (h : i < D.length) : D.getD i 0 ∈ D := by
  rw [List.getD_eq_getElem?_getD, List.getElem?_eq_getElem h]
  exact List.getElem_mem h
theorem rowD_push (D : List Nat) {v : Int} (h : 0 ≤ v) (rest : List Value) : rowV gD D ++ [.int .i64 v] ++ rest = rowV gD (D ++ [v.toNat]) ++ rest := by
  rw [rowV_app]
  have : ((v.toNat : Nat) : Int) = v := by omega
  simp [rowV, gD, this]
theorem head_push {r : Run} {D : List Nat} (hD : ∀ d, d ∈ D → Head r d) {i : Nat} (hi : i < r.n) (h : firstI r.L i > 0) : ∀ d, d ∈ D ++ [(firstI r.L i).toNat] → Head r d := by
  intro d hd
  rcases List.mem_append.1 hd with hd | hd
  · exact hD d hd
  · have := List.mem_singleton.1 hd
    subst this
    exact ⟨by omega, i, hi, by omega⟩
def mxI (a b : Int) : Int := if b > a then b else a
theorem mx_ge (a b : Int) : a ≤ mxI a b ∧ b ≤ mxI a b := by unfold mxI; split <;> omega
theorem mx_le {a b c : Int} (h1 : a ≤ c) (h2 : b ≤ c) : mxI a b ≤ c := by unfold mxI; split <;> omega
theorem Best.go3 {r : Run} (h : Good r) {best : Nat} {view : Int} (hb : Best r r.L.length best view) : GoI r best (mxI (mxI (mxI view r.s0.v) r.s1.v) r.s2.v) 0 := by
  have a0 : r.s0.v ≤ 1200 := h.2.vs 0 (by decide)
  have a1 : r.s1.v ≤ 1200 := h.2.vs 1 (by decide)
  have a2 : r.s2.v ≤ 1200 := h.2.vs 2 (by decide)
  have b0 := mx_ge view r.s0.v
  have b1 := mx_ge (mxI view r.s0.v) r.s1.v
  have b2 := mx_ge (mxI (mxI view r.s0.v) r.s1.v) r.s2.v
  refine hb.go h (by omega) (fun k hk => ?_) (mx_le (mx_le (mx_le hb.small a0) a1) a2)
  have : k = 0 ∨ k = 1 ∨ k = 2 := by omega
  rcases this with rfl | rfl | rfl
  · show r.s0.v ≤ _; omega
  · show r.s1.v ≤ _; omega
  · show r.s2.v ≤ _; omega
theorem GoI.pos {r : Run} {best c : Nat} {view : Int} (h : GoI r best view c) : 0 ≤ view := by
  have := h.vw 0 h.inv.wf.1
  rw [h.inv.vw0] at this; exact this
theorem push_row (r : Run) (u : Nat) (v : Int) (rest : List Value) : rowV gB (pushR r u v).L ++ rest = rowV gB r.L ++ [.int .i64 u, .int .i64 v, .bool false, .bool false, .bool false, .bool false] ++ rest := by
  show rowV gB (r.L ++ [_]) ++ rest = _
  rw [row_push]
theorem len_less {n : Nat} (h : n ≤ 490) : IntKind.wrap .i64 (((n + 1 : Nat) : Int) - 1) = ((n : Nat) : Int) := by
  rw [i64_of (by omega) (by omega)]; omega
end Go.Proofs.Ytckhcmdjgkoocaa
