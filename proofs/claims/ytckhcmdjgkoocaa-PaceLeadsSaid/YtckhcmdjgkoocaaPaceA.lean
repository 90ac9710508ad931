/- The walks over the pacemaker's functions. -/
import Derived.Test.YtckhcmdjgkoocaaProg
import Derived.KernelRfl
import Derived.Test.YtckhcmdjgkoocaaSxOps
namespace Go.Proofs.Ytckhcmdjgkoocaa.Pc
open Go.RowKit Go.Sx
set_option linter.unusedVariables false
set_option linter.unusedSimpArgs false

structure Pace where
  span : Int
  left : Int
  view : Int
  first : Int
  most : Int
def lay (p : Pace) (x : Int) : Pace := ⟨x, x, p.view, p.first, p.most⟩
def pnew (f m : Int) : Pace := ⟨if 1 > f then 1 else f, if 1 > f then 1 else f, 1, if 1 > f then 1 else f, if (if 1 > f then 1 else f) > m then (if 1 > f then 1 else f) else m⟩
def tick (p : Pace) : Pace × Bool :=
  if IntKind.wrap .i64 (p.left - 1) > 0 then (⟨p.span, IntKind.wrap .i64 (p.left - 1), p.view, p.first, p.most⟩, false)
  else if p.span > IntKind.wrap .i64 (Int.tdiv p.most 2) then (⟨p.most, p.most, p.view, p.first, p.most⟩, true)
  else (⟨IntKind.wrap .i64 (2 * p.span), IntKind.wrap .i64 (2 * p.span), p.view, p.first, p.most⟩, true)
def enter (p : Pace) (v : Int) (g : Bool) : Pace × Bool :=
  if v ≤ p.view then (p, false) else if g then (⟨p.first, p.first, v, p.first, p.most⟩, true) else (⟨p.span, p.span, v, p.first, p.most⟩, true)
def rnew (f m : Int) : Pace := ⟨if f < 1 then 1 else f, if f < 1 then 1 else f, 1, if f < 1 then 1 else f, if m < (if f < 1 then 1 else f) then (if f < 1 then 1 else f) else m⟩
def rtick (p : Pace) : Pace × Bool :=
  if IntKind.wrap .i64 (p.left - 1) > 0 then (⟨p.span, IntKind.wrap .i64 (p.left - 1), p.view, p.first, p.most⟩, false)
  else if p.span ≥ IntKind.wrap .i64 (p.most - p.span) then (⟨p.most, p.most, p.view, p.first, p.most⟩, true)
  else (⟨IntKind.wrap .i64 (p.span + p.span), IntKind.wrap .i64 (p.span + p.span), p.view, p.first, p.most⟩, true)
def renter (p : Pace) (v : Int) (g : Bool) : Pace × Bool :=
  if v ≤ p.view then (p, false) else if g then (⟨p.first, p.first, v, p.first, p.most⟩, true) else (⟨p.span, p.span, v, p.first, p.most⟩, true)
def psame (p m : Pace) : Bool := p.view == m.view && (p.span == m.span && p.left == m.left)
/-- Whose turn it is. -/
def leadIx (len : Nat) (view : Int) : Nat := (view - 1).toNat / 4 % len
def leader (len : Nat) (x : Nat → Int) (view : Int) : Int := if len = 0 ∨ view < 1 then -1 else x (leadIx len view)
theorem wrap_id {a : Int} (h1 : -9223372036854775808 ≤ a) (h2 : a < 9223372036854775808) : IntKind.wrap .i64 a = a := by rw [IntKind.wrap_i64]; omega
theorem lead_ix {len : Nat} {view : Int} (h0 : ¬ ((len : Nat) : Int) = 0) (h1 : ¬ view < 1) (h2 : view ≤ 9223372036854775807) :
    Int.tmod (IntKind.wrap .i64 (Int.tdiv (IntKind.wrap .i64 (view - 1)) 4)) ((len : Nat) : Int) = ((leadIx len view : Nat) : Int) := by
  obtain ⟨n, hn⟩ : ∃ n : Nat, view - 1 = (n : Int) := ⟨(view - 1).toNat, by omega⟩
  have e : leadIx len view = n / 4 % len := by unfold leadIx; rw [hn]; rfl
  have d : Int.tdiv ((n : Nat) : Int) 4 = ((n / 4 : Nat) : Int) := rfl
  rw [wrap_id (a := view - 1) (by omega) (by omega), hn, d, wrap_id (by omega) (by omega), e]
  rfl
theorem rlead_ix {len : Nat} {view : Int} (h0 : ¬ ((len : Nat) : Int) = 0) (h1 : ¬ view < 1) (h2 : view ≤ 9223372036854775807) :
    IntKind.wrap .i64 (IntKind.wrap .i64 (Int.tdiv (IntKind.wrap .i64 (view - 1)) 4) - IntKind.wrap .i64 (IntKind.wrap .i64 (Int.tdiv (IntKind.wrap .i64 (Int.tdiv (IntKind.wrap .i64 (view - 1)) 4)) ((len : Nat) : Int)) * ((len : Nat) : Int))) = ((leadIx len view : Nat) : Int) := by
  obtain ⟨n, hn⟩ : ∃ n : Nat, view - 1 = (n : Int) := ⟨(view - 1).toNat, by omega⟩
  have e : leadIx len view = n / 4 % len := by unfold leadIx; rw [hn]; rfl
  have d : Int.tdiv ((n : Nat) : Int) 4 = ((n / 4 : Nat) : Int) := rfl
  have d2 : Int.tdiv ((n / 4 : Nat) : Int) (len : Int) = ((n / 4 / len : Nat) : Int) := rfl
  have q3 : n / 4 = n / 4 / len * len + n / 4 % len := by rw [Nat.mul_comm]; exact (Nat.div_add_mod _ _).symm
  have q2 : n / 4 / len ≤ n / 4 := Nat.div_le_self _ _
  rw [wrap_id (a := view - 1) (by omega) (by omega), hn, d, wrap_id (a := ((n / 4 : Nat) : Int)) (by omega) (by omega), d2, e]
  clear e d d2
  generalize n / 4 % len = r at *
  generalize n / 4 / len = t at *
  rw [wrap_id (a := ((t : Nat) : Int)) (by omega) (by omega), ← Int.natCast_mul]
  generalize t * len = u at *
  rw [wrap_id (a := ((u : Nat) : Int)) (by omega) (by omega), wrap_id (by omega) (by omega)]
  omega
theorem lead_lt {len : Nat} {view : Int} (h0 : ¬ ((len : Nat) : Int) = 0) : leadIx len view < len := Nat.mod_lt _ (by omega)
abbrev z77 : List Chunk := [cI .i64 0, cI .i64 0, cI .i64 0, cI .i64 0, cI .i64 0]
theorem z77_zero' : (Try.prog.info? 77).bind (·.zero) = some (SV.conc (fun _ => 0) (.agg z77)) := by kernel_rfl
theorem z77_zero : (Try.prog.info? 77).bind (·.zero) = some (SV.conc (fun _ => 0) (.agg z77)) ∨ ∃ v, (Try.prog.info? 77).bind (·.zero) = some v ∧ z77 = [.one (.v v)] ∧ v.oneCell' = true := .inl z77_zero'
theorem z77_ok : okCs z77 := okc_one (okc_one (okc_one (okc_one (okc_one (okc_nil)))))
abbrev z89 : List Chunk := [cI .i64 0, cI .i64 0, cI .i64 0, cI .i64 0, cI .i64 0]
theorem z89_zero' : (Try.prog.info? 89).bind (·.zero) = some (SV.conc (fun _ => 0) (.agg z89)) := by kernel_rfl
theorem z89_zero : (Try.prog.info? 89).bind (·.zero) = some (SV.conc (fun _ => 0) (.agg z89)) ∨ ∃ v, (Try.prog.info? 89).bind (·.zero) = some v ∧ z89 = [.one (.v v)] ∧ v.oneCell' = true := .inl z89_zero'
theorem z89_ok : okCs z89 := okc_one (okc_one (okc_one (okc_one (okc_one (okc_nil)))))

set_option maxHeartbeats 4000000 in
theorem lay_any (p : Pace) (x : Int) (w : World) (ρ : Nat → Nat) (hH : HeapAt ρ [(100000, ⟨[cI .i64 p.span, cI .i64 p.left, cI .i64 p.view, cI .i64 p.first, cI .i64 p.most], 77⟩)] w) :
    Calls Try.prog 45 ([sL 100000 0, sI .i64 x].map (SV.conc ρ)).toArray w fun r w' => ∃ (x0 : Unit) (σ : Nat → Nat), True ∧ r = .returned (EV.conc σ (.t [])) ∧ Ran ρ [(100000, ⟨[cI .i64 p.span, cI .i64 p.left, cI .i64 p.view, cI .i64 p.first, cI .i64 p.most], 77⟩)] [(100000, ⟨[cI .i64 (lay p x).span, cI .i64 (lay p x).left, cI .i64 (lay p x).view, cI .i64 (lay p x).first, cI .i64 (lay p x).most], 77⟩)] w w' σ := by
  refine calls_enter (vs := [sL 100000 0, sI .i64 x]) (N := 12) [(100000, ⟨[cI .i64 p.span, cI .i64 p.left, cI .i64 p.view, cI .i64 p.first, cI .i64 p.most], 77⟩)] ρ Try.func45 rfl rfl (Nat.le_of_ble_eq_true rfl) (okv_a (okv_a (okv_nil))) hH.hp hH.inj ?_ _ rfl
  refine wc_reg [0, 1, 2, 3, 4, 5, 6, 7, 8, 9] (by kernel_rfl) ?_
  refine wo_run [0, 1, 2, 3, 4, 5, 6, 7, 8, 9] [] [100000] (l' := []) (H' := [(100000, ⟨[cI .i64 x, cI .i64 x, cI .i64 p.view, cI .i64 p.first, cI .i64 p.most], 77⟩)]) (by kernel_rfl) ?_
  refine wo_nil ?_
  refine we_rest [] [100000] (l' := []) (H' := [(100000, ⟨[cI .i64 x, cI .i64 x, cI .i64 p.view, cI .i64 p.first, cI .i64 p.most], 77⟩)]) (by kernel_rfl) (by kernel_rfl) ?_
  refine we_ret (.inr rfl) (v := .t []) (by kernel_rfl) ?_
  intro σ w' hf
  exact ⟨(), σ, trivial, rfl, hf.ran rfl rfl⟩

set_option maxHeartbeats 4000000 in
theorem new_any (f m : Int) (w : World) (ρ : Nat → Nat) :
    Calls Try.prog 30 ([sI .i64 f, sI .i64 m].map (SV.conc ρ)).toArray w fun r w' => ∃ (x0 : Unit) (σ : Nat → Nat), True ∧ r = .returned (EV.conc σ (eL 13 0)) ∧ Ran ρ [] [(13, ⟨[cI .i64 (pnew f m).span, cI .i64 (pnew f m).left, cI .i64 (pnew f m).view, cI .i64 (pnew f m).first, cI .i64 (pnew f m).most], 77⟩)] w w' σ := by
  refine calls_enter (vs := [sI .i64 f, sI .i64 m]) (N := 20) [] ρ Try.func30 rfl rfl (Nat.le_of_ble_eq_true rfl) (okv_a (okv_a (okv_nil))) noH noH2 ?_ _ rfl
  refine wc_seq ?_
  refine wc_reg [0] (by kernel_rfl) ?_
  refine wo_run [0] [0, 1] [] (l' := [(0, eI .i64 f), (1, eI .i64 m)]) (H' := []) (by kernel_rfl) ?_
  refine wo_nil ?_
  refine we_then ?_
  refine wc_seq ?_
  refine wc_reg [0, 1, 2] (by kernel_rfl) ?_
  refine wo_run [0, 1, 2] [0, 1] [] (l' := [(0, eI .i64 (if 1 > f then 1 else f)), (1, eI .i64 m)]) (H' := []) (by kernel_rfl) ?_
  refine wo_nil ?_
  refine we_then ?_
  refine wc_seq ?_
  refine wc_reg [0, 1, 2, 3, 4, 5, 6] (by kernel_rfl) ?_
  refine wo_run [0, 1, 2, 3] [0, 8, 11] [] (l' := [(0, eI .i64 (if 1 > f then 1 else f)), (8, eI .i64 (if 1 > f then 1 else f)), (11, eI .i64 (if (if 1 > f then 1 else f) > m then (if 1 > f then 1 else f) else m))]) (H' := []) (by kernel_rfl) ?_
  refine wo_op rfl rfl (ot_rd rfl (rd_build (zc := z77) [cI .i64 0, cI .i64 0, cI .i64 1, cI .i64 (if 1 > f then 1 else f), cI .i64 (if (if 1 > f then 1 else f) > m then (if 1 > f then 1 else f) else m)] rfl z77_zero' z77_ok (fun _ => rfl) (by kernel_rfl) (by kernel_rfl))) ?_
  refine wo_run [5, 6] [0, 5] [13] (l' := [(0, eI .i64 (if 1 > f then 1 else f)), (5, eL 13 0)]) (H' := [(13, ⟨[cI .i64 0, cI .i64 0, cI .i64 1, cI .i64 (if 1 > f then 1 else f), cI .i64 (if (if 1 > f then 1 else f) > m then (if 1 > f then 1 else f) else m)], 77⟩)]) (by kernel_rfl) ?_
  refine wo_nil ?_
  refine we_then ?_
  refine wc_seq ?_
  refine wc_reg [0, 1, 2, 3, 4] (by kernel_rfl) ?_
  refine wo_run [0, 1, 2, 3] [5, 16, 17] [13] (l' := [(5, eL 13 0), (16, eL 13 0), (17, eI .i64 (if 1 > f then 1 else f))]) (H' := [(13, ⟨[cI .i64 0, cI .i64 0, cI .i64 1, cI .i64 (if 1 > f then 1 else f), cI .i64 (if (if 1 > f then 1 else f) > m then (if 1 > f then 1 else f) else m)], 77⟩)]) (by kernel_rfl) ?_
  refine wo_ox rfl rfl (ox_callm (τ := Unit) (φ := fun _ => True) [sL 100000 0, sI .i64 (if 1 > f then 1 else f)] [(100000, ⟨[cI .i64 (⟨0, 0, 1, (if 1 > f then 1 else f), (if (if 1 > f then 1 else f) > m then (if 1 > f then 1 else f) else m)⟩ : Pace).span, cI .i64 (⟨0, 0, 1, (if 1 > f then 1 else f), (if (if 1 > f then 1 else f) > m then (if 1 > f then 1 else f) else m)⟩ : Pace).left, cI .i64 (⟨0, 0, 1, (if 1 > f then 1 else f), (if (if 1 > f then 1 else f) > m then (if 1 > f then 1 else f) else m)⟩ : Pace).view, cI .i64 (⟨0, 0, 1, (if 1 > f then 1 else f), (if (if 1 > f then 1 else f) > m then (if 1 > f then 1 else f) else m)⟩ : Pace).first, cI .i64 (⟨0, 0, 1, (if 1 > f then 1 else f), (if (if 1 > f then 1 else f) > m then (if 1 > f then 1 else f) else m)⟩ : Pace).most], 77⟩)] [(100000, 13)] [] [] (fun _ => .t []) (fun _ => [(100000, ⟨[cI .i64 (lay (⟨0, 0, 1, (if 1 > f then 1 else f), (if (if 1 > f then 1 else f) > m then (if 1 > f then 1 else f) else m)⟩ : Pace) (if 1 > f then 1 else f)).span, cI .i64 (lay (⟨0, 0, 1, (if 1 > f then 1 else f), (if (if 1 > f then 1 else f) > m then (if 1 > f then 1 else f) else m)⟩ : Pace) (if 1 > f then 1 else f)).left, cI .i64 (lay (⟨0, 0, 1, (if 1 > f then 1 else f), (if (if 1 > f then 1 else f) > m then (if 1 > f then 1 else f) else m)⟩ : Pace) (if 1 > f then 1 else f)).view, cI .i64 (lay (⟨0, 0, 1, (if 1 > f then 1 else f), (if (if 1 > f then 1 else f) > m then (if 1 > f then 1 else f) else m)⟩ : Pace) (if 1 > f then 1 else f)).first, cI .i64 (lay (⟨0, 0, 1, (if 1 > f then 1 else f), (if (if 1 > f then 1 else f) > m then (if 1 > f then 1 else f) else m)⟩ : Pace) (if 1 > f then 1 else f)).most], 77⟩)]) rfl (by kernel_rfl) rfl Try.func45 (by kernel_rfl) (by kernel_rfl) (by kernel_rfl) (by kernel_rfl) (by kernel_rfl) (by kernel_rfl) (⟨⟨by kernel_rfl, by kernel_rfl, by kernel_rfl⟩, trivial⟩) (fun _ => by kernel_rfl) (fun _ => by kernel_rfl) (fun _ _ => okv_nil) (fun ρ w _ hh => lay_any (⟨0, 0, 1, (if 1 > f then 1 else f), (if (if 1 > f then 1 else f) > m then (if 1 > f then 1 else f) else m)⟩ : Pace) (if 1 > f then 1 else f) w _ hh)) (fun _ _ _ => ?_)
  refine wo_run [] [5] [13] (l' := [(5, eL 13 0)]) (H' := [(13, ⟨[cI .i64 (lay (⟨0, 0, 1, (if 1 > f then 1 else f), (if (if 1 > f then 1 else f) > m then (if 1 > f then 1 else f) else m)⟩ : Pace) (if 1 > f then 1 else f)).span, cI .i64 (lay (⟨0, 0, 1, (if 1 > f then 1 else f), (if (if 1 > f then 1 else f) > m then (if 1 > f then 1 else f) else m)⟩ : Pace) (if 1 > f then 1 else f)).left, cI .i64 (lay (⟨0, 0, 1, (if 1 > f then 1 else f), (if (if 1 > f then 1 else f) > m then (if 1 > f then 1 else f) else m)⟩ : Pace) (if 1 > f then 1 else f)).view, cI .i64 (lay (⟨0, 0, 1, (if 1 > f then 1 else f), (if (if 1 > f then 1 else f) > m then (if 1 > f then 1 else f) else m)⟩ : Pace) (if 1 > f then 1 else f)).first, cI .i64 (lay (⟨0, 0, 1, (if 1 > f then 1 else f), (if (if 1 > f then 1 else f) > m then (if 1 > f then 1 else f) else m)⟩ : Pace) (if 1 > f then 1 else f)).most], 77⟩)]) (by kernel_rfl) ?_
  refine wo_nil ?_
  refine we_then ?_
  refine wc_seq ?_
  refine wc_reg [0, 1] (by kernel_rfl) ?_
  refine wo_run [0, 1] [4] [13] (l' := [(4, eL 13 0)]) (H' := [(13, ⟨[cI .i64 (lay (⟨0, 0, 1, (if 1 > f then 1 else f), (if (if 1 > f then 1 else f) > m then (if 1 > f then 1 else f) else m)⟩ : Pace) (if 1 > f then 1 else f)).span, cI .i64 (lay (⟨0, 0, 1, (if 1 > f then 1 else f), (if (if 1 > f then 1 else f) > m then (if 1 > f then 1 else f) else m)⟩ : Pace) (if 1 > f then 1 else f)).left, cI .i64 (lay (⟨0, 0, 1, (if 1 > f then 1 else f), (if (if 1 > f then 1 else f) > m then (if 1 > f then 1 else f) else m)⟩ : Pace) (if 1 > f then 1 else f)).view, cI .i64 (lay (⟨0, 0, 1, (if 1 > f then 1 else f), (if (if 1 > f then 1 else f) > m then (if 1 > f then 1 else f) else m)⟩ : Pace) (if 1 > f then 1 else f)).first, cI .i64 (lay (⟨0, 0, 1, (if 1 > f then 1 else f), (if (if 1 > f then 1 else f) > m then (if 1 > f then 1 else f) else m)⟩ : Pace) (if 1 > f then 1 else f)).most], 77⟩)]) (by kernel_rfl) ?_
  refine wo_nil ?_
  refine we_then ?_
  refine wc_ret ?_
  refine we_rest [4] [13] (l' := [(4, eL 13 0)]) (H' := [(13, ⟨[cI .i64 (lay (⟨0, 0, 1, (if 1 > f then 1 else f), (if (if 1 > f then 1 else f) > m then (if 1 > f then 1 else f) else m)⟩ : Pace) (if 1 > f then 1 else f)).span, cI .i64 (lay (⟨0, 0, 1, (if 1 > f then 1 else f), (if (if 1 > f then 1 else f) > m then (if 1 > f then 1 else f) else m)⟩ : Pace) (if 1 > f then 1 else f)).left, cI .i64 (lay (⟨0, 0, 1, (if 1 > f then 1 else f), (if (if 1 > f then 1 else f) > m then (if 1 > f then 1 else f) else m)⟩ : Pace) (if 1 > f then 1 else f)).view, cI .i64 (lay (⟨0, 0, 1, (if 1 > f then 1 else f), (if (if 1 > f then 1 else f) > m then (if 1 > f then 1 else f) else m)⟩ : Pace) (if 1 > f then 1 else f)).first, cI .i64 (lay (⟨0, 0, 1, (if 1 > f then 1 else f), (if (if 1 > f then 1 else f) > m then (if 1 > f then 1 else f) else m)⟩ : Pace) (if 1 > f then 1 else f)).most], 77⟩)]) (by kernel_rfl) (by kernel_rfl) ?_
  refine we_ret (.inl rfl) (v := eL 13 0) (by kernel_rfl) ?_
  intro σ w' hf
  exact ⟨(), σ, trivial, rfl, hf.ran rfl rfl⟩

set_option maxHeartbeats 4000000 in
theorem tick_any (p : Pace) (w : World) (ρ : Nat → Nat) (hH : HeapAt ρ [(100000, ⟨[cI .i64 p.span, cI .i64 p.left, cI .i64 p.view, cI .i64 p.first, cI .i64 p.most], 77⟩)] w) :
    Calls Try.prog 35 ([sL 100000 0].map (SV.conc ρ)).toArray w fun r w' => ∃ (x0 : Unit) (σ : Nat → Nat), True ∧ r = .returned (EV.conc σ (eB (tick p).2)) ∧ Ran ρ [(100000, ⟨[cI .i64 p.span, cI .i64 p.left, cI .i64 p.view, cI .i64 p.first, cI .i64 p.most], 77⟩)] [(100000, ⟨[cI .i64 (tick p).1.span, cI .i64 (tick p).1.left, cI .i64 (tick p).1.view, cI .i64 (tick p).1.first, cI .i64 (tick p).1.most], 77⟩)] w w' σ := by
  refine calls_enter (vs := [sL 100000 0]) (N := 47) [(100000, ⟨[cI .i64 p.span, cI .i64 p.left, cI .i64 p.view, cI .i64 p.first, cI .i64 p.most], 77⟩)] ρ Try.func35 rfl rfl (Nat.le_of_ble_eq_true rfl) (okv_a (okv_nil)) hH.hp hH.inj ?_ _ rfl
  refine wc_seq ?_
  refine wc_reg [0] (by kernel_rfl) ?_
  refine wo_run [0] [0] [100000] (l' := [(0, eL 100000 0)]) (H' := [(100000, ⟨[cI .i64 p.span, cI .i64 p.left, cI .i64 p.view, cI .i64 p.first, cI .i64 p.most], 77⟩)]) (by kernel_rfl) ?_
  refine wo_nil ?_
  refine we_then ?_
  refine wc_seq ?_
  refine wc_reg [0, 1, 2, 3, 4, 5, 6, 7, 8, 9] (by kernel_rfl) ?_
  refine wo_run [0, 1, 2, 3, 4, 5, 6, 7, 8, 9] [0] [100000] (l' := [(0, eL 100000 0)]) (H' := [(100000, ⟨[cI .i64 p.span, cI .i64 (IntKind.wrap .i64 (p.left - 1)), cI .i64 p.view, cI .i64 p.first, cI .i64 p.most], 77⟩)]) (by kernel_rfl) ?_
  refine wo_nil ?_
  refine we_then ?_
  refine wc_seq ?_
  refine wc_seq ?_
  refine wc_reg [0, 1, 2, 3, 4, 5] (by kernel_rfl) ?_
  refine wo_run [0, 1, 2, 3, 4, 5] [0, 17] [100000] (l' := [(0, eL 100000 0), (17, eB (decide ((IntKind.wrap .i64 (p.left - 1)) > 0)))]) (H' := [(100000, ⟨[cI .i64 p.span, cI .i64 (IntKind.wrap .i64 (p.left - 1)), cI .i64 p.view, cI .i64 p.first, cI .i64 p.most], 77⟩)]) (by kernel_rfl) ?_
  refine wo_nil ?_
  refine we_then ?_
  refine wc_cond rfl (fun h1 => ?_) (fun h1 => ?_)
  · replace h1 := of_decide_eq_true h1
    refine wc_seq ?_
    refine wc_reg [0] (by kernel_rfl) ?_
    refine wo_run [0] [2] [100000] (l' := [(2, eB false)]) (H' := [(100000, ⟨[cI .i64 p.span, cI .i64 (IntKind.wrap .i64 (p.left - 1)), cI .i64 p.view, cI .i64 p.first, cI .i64 p.most], 77⟩)]) (by kernel_rfl) ?_
    refine wo_nil ?_
    refine we_then ?_
    refine wc_ret ?_
    refine we_then_ret ?_
    refine we_rest [2] [100000] (l' := [(2, eB false)]) (H' := [(100000, ⟨[cI .i64 p.span, cI .i64 (IntKind.wrap .i64 (p.left - 1)), cI .i64 p.view, cI .i64 p.first, cI .i64 p.most], 77⟩)]) (by kernel_rfl) (by kernel_rfl) ?_
    refine we_ret (.inl rfl) (v := eB false) (by kernel_rfl) ?_
    intro σ w' hf
    have hq : tick p = ((⟨p.span, (IntKind.wrap .i64 (p.left - 1)), p.view, p.first, p.most⟩ : Pace), false) := by unfold tick; simp [lay, h1]
    rw [hq]
    exact ⟨(), σ, trivial, rfl, hf.ran rfl rfl⟩
  · replace h1 := of_decide_eq_false h1
    refine wc_skip ?_
    refine we_then ?_
    refine wc_seq ?_
    refine wc_seq ?_
    refine wc_rest [0] [100000] (l' := [(0, eL 100000 0)]) (H' := [(100000, ⟨[cI .i64 p.span, cI .i64 (IntKind.wrap .i64 (p.left - 1)), cI .i64 p.view, cI .i64 p.first, cI .i64 p.most], 77⟩)]) (by kernel_rfl) ?_
    refine wc_draw (n := 11) [(100000, ⟨[cI .i64 p.span, cI .i64 (IntKind.wrap .i64 (p.left - 1)), cI .i64 p.view, cI .i64 p.first, cI .i64 p.most], 77⟩)] (by kernel_rfl) rfl (sub_of [100000] (by kernel_rfl)) (fun ρ0 => ?_)
    refine wa_takes (fuel := 0) [0, 1, 2, 3, 4, 5, 6, 7, 8, 9, 10] [0, 28] (listed' := #[true, true, true, true, true, true, true, true, true, true, true]) (l' := [(0, eL 100000 0), (28, eB (decide (p.span > (IntKind.wrap .i64 (Int.tdiv p.most 2)))))]) (pk_then (pk_then pk_body)) rfl (by kernel_rfl) ?_
    refine wa_done (by kernel_rfl) ?_
    refine we_rest [0, 28] [100000] (l' := [(0, eL 100000 0), (28, eB (decide (p.span > (IntKind.wrap .i64 (Int.tdiv p.most 2)))))]) (H' := [(100000, ⟨[cI .i64 p.span, cI .i64 (IntKind.wrap .i64 (p.left - 1)), cI .i64 p.view, cI .i64 p.first, cI .i64 p.most], 77⟩)]) (by kernel_rfl) (by kernel_rfl) ?_
    refine we_then ?_
    refine wc_cond rfl (fun h2 => ?_) (fun h2 => ?_)
    · replace h2 := of_decide_eq_true h2
      refine wc_rest [0] [100000] (l' := [(0, eL 100000 0)]) (H' := [(100000, ⟨[cI .i64 p.span, cI .i64 (IntKind.wrap .i64 (p.left - 1)), cI .i64 p.view, cI .i64 p.first, cI .i64 p.most], 77⟩)]) (by kernel_rfl) ?_
      refine wc_draw (n := 8) [] (by kernel_rfl) rfl (sub_of [] (by kernel_rfl)) (fun ρ0 => ?_)
      refine wa_takes (fuel := 2) [0, 1, 2, 3, 4, 5] [31, 34] (listed' := #[true, true, true, true, true, true, false, false]) (l' := [(31, eL 100000 0), (34, eL 100000 4)]) (pk_then pk_body) rfl (by kernel_rfl) ?_
      refine wa_all [6] (by kernel_rfl) rfl (all1 ?_)
      refine wi_op rfl rfl (ot_val1 (e := eI .i64 p.most) rfl (by kernel_rfl)) (sub_of [] (by kernel_rfl)) ?_
      refine wa_all [7] (by kernel_rfl) rfl (all1 ?_)
      refine wi_ox rfl rfl (ox_callm (τ := Unit) (φ := fun _ => True) [sL 100000 0, sI .i64 p.most] [(100000, ⟨[cI .i64 (⟨p.span, (IntKind.wrap .i64 (p.left - 1)), p.view, p.first, p.most⟩ : Pace).span, cI .i64 (⟨p.span, (IntKind.wrap .i64 (p.left - 1)), p.view, p.first, p.most⟩ : Pace).left, cI .i64 (⟨p.span, (IntKind.wrap .i64 (p.left - 1)), p.view, p.first, p.most⟩ : Pace).view, cI .i64 (⟨p.span, (IntKind.wrap .i64 (p.left - 1)), p.view, p.first, p.most⟩ : Pace).first, cI .i64 (⟨p.span, (IntKind.wrap .i64 (p.left - 1)), p.view, p.first, p.most⟩ : Pace).most], 77⟩)] [(100000, 100000)] [] [] (fun _ => .t []) (fun _ => [(100000, ⟨[cI .i64 (lay (⟨p.span, (IntKind.wrap .i64 (p.left - 1)), p.view, p.first, p.most⟩ : Pace) p.most).span, cI .i64 (lay (⟨p.span, (IntKind.wrap .i64 (p.left - 1)), p.view, p.first, p.most⟩ : Pace) p.most).left, cI .i64 (lay (⟨p.span, (IntKind.wrap .i64 (p.left - 1)), p.view, p.first, p.most⟩ : Pace) p.most).view, cI .i64 (lay (⟨p.span, (IntKind.wrap .i64 (p.left - 1)), p.view, p.first, p.most⟩ : Pace) p.most).first, cI .i64 (lay (⟨p.span, (IntKind.wrap .i64 (p.left - 1)), p.view, p.first, p.most⟩ : Pace) p.most).most], 77⟩)]) rfl (by kernel_rfl) rfl Try.func45 (by kernel_rfl) (by kernel_rfl) (by kernel_rfl) (by kernel_rfl) (by kernel_rfl) (by kernel_rfl) (⟨⟨by kernel_rfl, by kernel_rfl, by kernel_rfl⟩, trivial⟩) (fun _ => by kernel_rfl) (fun _ => by kernel_rfl) (fun _ _ => okv_nil) (fun ρ w _ hh => lay_any (⟨p.span, (IntKind.wrap .i64 (p.left - 1)), p.view, p.first, p.most⟩ : Pace) p.most w _ hh)) (fun _ => (sub_of [] (by kernel_rfl))) (fun _ _ _ => ?_)
      refine wa_done (by kernel_rfl) ?_
      refine we_rest [] [100000] (l' := []) (H' := [(100000, ⟨[cI .i64 (lay (⟨p.span, (IntKind.wrap .i64 (p.left - 1)), p.view, p.first, p.most⟩ : Pace) p.most).span, cI .i64 (lay (⟨p.span, (IntKind.wrap .i64 (p.left - 1)), p.view, p.first, p.most⟩ : Pace) p.most).left, cI .i64 (lay (⟨p.span, (IntKind.wrap .i64 (p.left - 1)), p.view, p.first, p.most⟩ : Pace) p.most).view, cI .i64 (lay (⟨p.span, (IntKind.wrap .i64 (p.left - 1)), p.view, p.first, p.most⟩ : Pace) p.most).first, cI .i64 (lay (⟨p.span, (IntKind.wrap .i64 (p.left - 1)), p.view, p.first, p.most⟩ : Pace) p.most).most], 77⟩)]) (by kernel_rfl) (by kernel_rfl) ?_
      refine we_then ?_
      refine wc_seq ?_
      refine wc_reg [0] (by kernel_rfl) ?_
      refine wo_run [0] [2] [100000] (l' := [(2, eB true)]) (H' := [(100000, ⟨[cI .i64 (lay (⟨p.span, (IntKind.wrap .i64 (p.left - 1)), p.view, p.first, p.most⟩ : Pace) p.most).span, cI .i64 (lay (⟨p.span, (IntKind.wrap .i64 (p.left - 1)), p.view, p.first, p.most⟩ : Pace) p.most).left, cI .i64 (lay (⟨p.span, (IntKind.wrap .i64 (p.left - 1)), p.view, p.first, p.most⟩ : Pace) p.most).view, cI .i64 (lay (⟨p.span, (IntKind.wrap .i64 (p.left - 1)), p.view, p.first, p.most⟩ : Pace) p.most).first, cI .i64 (lay (⟨p.span, (IntKind.wrap .i64 (p.left - 1)), p.view, p.first, p.most⟩ : Pace) p.most).most], 77⟩)]) (by kernel_rfl) ?_
      refine wo_nil ?_
      refine we_then ?_
      refine wc_ret ?_
      refine we_rest [2] [100000] (l' := [(2, eB true)]) (H' := [(100000, ⟨[cI .i64 (lay (⟨p.span, (IntKind.wrap .i64 (p.left - 1)), p.view, p.first, p.most⟩ : Pace) p.most).span, cI .i64 (lay (⟨p.span, (IntKind.wrap .i64 (p.left - 1)), p.view, p.first, p.most⟩ : Pace) p.most).left, cI .i64 (lay (⟨p.span, (IntKind.wrap .i64 (p.left - 1)), p.view, p.first, p.most⟩ : Pace) p.most).view, cI .i64 (lay (⟨p.span, (IntKind.wrap .i64 (p.left - 1)), p.view, p.first, p.most⟩ : Pace) p.most).first, cI .i64 (lay (⟨p.span, (IntKind.wrap .i64 (p.left - 1)), p.view, p.first, p.most⟩ : Pace) p.most).most], 77⟩)]) (by kernel_rfl) (by kernel_rfl) ?_
      refine we_ret (.inl rfl) (v := eB true) (by kernel_rfl) ?_
      intro σ w' hf
      have hq : tick p = ((lay (⟨p.span, (IntKind.wrap .i64 (p.left - 1)), p.view, p.first, p.most⟩ : Pace) p.most), true) := by unfold tick; simp [lay, h1, h2]
      rw [hq]
      exact ⟨(), σ, trivial, rfl, hf.ran rfl rfl⟩
    · replace h2 := of_decide_eq_false h2
      refine wc_rest [0] [100000] (l' := [(0, eL 100000 0)]) (H' := [(100000, ⟨[cI .i64 p.span, cI .i64 (IntKind.wrap .i64 (p.left - 1)), cI .i64 p.view, cI .i64 p.first, cI .i64 p.most], 77⟩)]) (by kernel_rfl) ?_
      refine wc_draw (n := 10) [] (by kernel_rfl) rfl (sub_of [] (by kernel_rfl)) (fun ρ0 => ?_)
      refine wa_takes (fuel := 3) [0, 1, 2, 3, 4, 5, 6] [39, 43] (listed' := #[true, true, true, true, true, true, true, false, false, false]) (l' := [(39, eL 100000 0), (43, eL 100000 0)]) (pk_then pk_body) rfl (by kernel_rfl) ?_
      refine wa_all [7] (by kernel_rfl) rfl (all1 ?_)
      refine wi_op rfl rfl (ot_val1 (e := eI .i64 p.span) rfl (by kernel_rfl)) (sub_of [] (by kernel_rfl)) ?_
      refine wa_takes (fuel := 1) [8] [39, 45] (listed' := #[true, true, true, true, true, true, true, true, true, false]) (l' := [(39, eL 100000 0), (45, eI .i64 (IntKind.wrap .i64 (2 * p.span)))]) (pk_then pk_body) rfl (by kernel_rfl) ?_
      refine wa_all [9] (by kernel_rfl) rfl (all1 ?_)
      refine wi_ox rfl rfl (ox_callm (τ := Unit) (φ := fun _ => True) [sL 100000 0, sI .i64 (IntKind.wrap .i64 (2 * p.span))] [(100000, ⟨[cI .i64 (⟨p.span, (IntKind.wrap .i64 (p.left - 1)), p.view, p.first, p.most⟩ : Pace).span, cI .i64 (⟨p.span, (IntKind.wrap .i64 (p.left - 1)), p.view, p.first, p.most⟩ : Pace).left, cI .i64 (⟨p.span, (IntKind.wrap .i64 (p.left - 1)), p.view, p.first, p.most⟩ : Pace).view, cI .i64 (⟨p.span, (IntKind.wrap .i64 (p.left - 1)), p.view, p.first, p.most⟩ : Pace).first, cI .i64 (⟨p.span, (IntKind.wrap .i64 (p.left - 1)), p.view, p.first, p.most⟩ : Pace).most], 77⟩)] [(100000, 100000)] [] [] (fun _ => .t []) (fun _ => [(100000, ⟨[cI .i64 (lay (⟨p.span, (IntKind.wrap .i64 (p.left - 1)), p.view, p.first, p.most⟩ : Pace) (IntKind.wrap .i64 (2 * p.span))).span, cI .i64 (lay (⟨p.span, (IntKind.wrap .i64 (p.left - 1)), p.view, p.first, p.most⟩ : Pace) (IntKind.wrap .i64 (2 * p.span))).left, cI .i64 (lay (⟨p.span, (IntKind.wrap .i64 (p.left - 1)), p.view, p.first, p.most⟩ : Pace) (IntKind.wrap .i64 (2 * p.span))).view, cI .i64 (lay (⟨p.span, (IntKind.wrap .i64 (p.left - 1)), p.view, p.first, p.most⟩ : Pace) (IntKind.wrap .i64 (2 * p.span))).first, cI .i64 (lay (⟨p.span, (IntKind.wrap .i64 (p.left - 1)), p.view, p.first, p.most⟩ : Pace) (IntKind.wrap .i64 (2 * p.span))).most], 77⟩)]) rfl (by kernel_rfl) rfl Try.func45 (by kernel_rfl) (by kernel_rfl) (by kernel_rfl) (by kernel_rfl) (by kernel_rfl) (by kernel_rfl) (⟨⟨by kernel_rfl, by kernel_rfl, by kernel_rfl⟩, trivial⟩) (fun _ => by kernel_rfl) (fun _ => by kernel_rfl) (fun _ _ => okv_nil) (fun ρ w _ hh => lay_any (⟨p.span, (IntKind.wrap .i64 (p.left - 1)), p.view, p.first, p.most⟩ : Pace) (IntKind.wrap .i64 (2 * p.span)) w _ hh)) (fun _ => (sub_of [] (by kernel_rfl))) (fun _ _ _ => ?_)
      refine wa_done (by kernel_rfl) ?_
      refine we_rest [] [100000] (l' := []) (H' := [(100000, ⟨[cI .i64 (lay (⟨p.span, (IntKind.wrap .i64 (p.left - 1)), p.view, p.first, p.most⟩ : Pace) (IntKind.wrap .i64 (2 * p.span))).span, cI .i64 (lay (⟨p.span, (IntKind.wrap .i64 (p.left - 1)), p.view, p.first, p.most⟩ : Pace) (IntKind.wrap .i64 (2 * p.span))).left, cI .i64 (lay (⟨p.span, (IntKind.wrap .i64 (p.left - 1)), p.view, p.first, p.most⟩ : Pace) (IntKind.wrap .i64 (2 * p.span))).view, cI .i64 (lay (⟨p.span, (IntKind.wrap .i64 (p.left - 1)), p.view, p.first, p.most⟩ : Pace) (IntKind.wrap .i64 (2 * p.span))).first, cI .i64 (lay (⟨p.span, (IntKind.wrap .i64 (p.left - 1)), p.view, p.first, p.most⟩ : Pace) (IntKind.wrap .i64 (2 * p.span))).most], 77⟩)]) (by kernel_rfl) (by kernel_rfl) ?_
      refine we_then ?_
      refine wc_seq ?_
      refine wc_reg [0] (by kernel_rfl) ?_
      refine wo_run [0] [2] [100000] (l' := [(2, eB true)]) (H' := [(100000, ⟨[cI .i64 (lay (⟨p.span, (IntKind.wrap .i64 (p.left - 1)), p.view, p.first, p.most⟩ : Pace) (IntKind.wrap .i64 (2 * p.span))).span, cI .i64 (lay (⟨p.span, (IntKind.wrap .i64 (p.left - 1)), p.view, p.first, p.most⟩ : Pace) (IntKind.wrap .i64 (2 * p.span))).left, cI .i64 (lay (⟨p.span, (IntKind.wrap .i64 (p.left - 1)), p.view, p.first, p.most⟩ : Pace) (IntKind.wrap .i64 (2 * p.span))).view, cI .i64 (lay (⟨p.span, (IntKind.wrap .i64 (p.left - 1)), p.view, p.first, p.most⟩ : Pace) (IntKind.wrap .i64 (2 * p.span))).first, cI .i64 (lay (⟨p.span, (IntKind.wrap .i64 (p.left - 1)), p.view, p.first, p.most⟩ : Pace) (IntKind.wrap .i64 (2 * p.span))).most], 77⟩)]) (by kernel_rfl) ?_
      refine wo_nil ?_
      refine we_then ?_
      refine wc_ret ?_
      refine we_rest [2] [100000] (l' := [(2, eB true)]) (H' := [(100000, ⟨[cI .i64 (lay (⟨p.span, (IntKind.wrap .i64 (p.left - 1)), p.view, p.first, p.most⟩ : Pace) (IntKind.wrap .i64 (2 * p.span))).span, cI .i64 (lay (⟨p.span, (IntKind.wrap .i64 (p.left - 1)), p.view, p.first, p.most⟩ : Pace) (IntKind.wrap .i64 (2 * p.span))).left, cI .i64 (lay (⟨p.span, (IntKind.wrap .i64 (p.left - 1)), p.view, p.first, p.most⟩ : Pace) (IntKind.wrap .i64 (2 * p.span))).view, cI .i64 (lay (⟨p.span, (IntKind.wrap .i64 (p.left - 1)), p.view, p.first, p.most⟩ : Pace) (IntKind.wrap .i64 (2 * p.span))).first, cI .i64 (lay (⟨p.span, (IntKind.wrap .i64 (p.left - 1)), p.view, p.first, p.most⟩ : Pace) (IntKind.wrap .i64 (2 * p.span))).most], 77⟩)]) (by kernel_rfl) (by kernel_rfl) ?_
      refine we_ret (.inl rfl) (v := eB true) (by kernel_rfl) ?_
      intro σ w' hf
      have hq : tick p = ((lay (⟨p.span, (IntKind.wrap .i64 (p.left - 1)), p.view, p.first, p.most⟩ : Pace) (IntKind.wrap .i64 (2 * p.span))), true) := by unfold tick; simp [lay, h1, h2]
      rw [hq]
      exact ⟨(), σ, trivial, rfl, hf.ran rfl rfl⟩

set_option maxHeartbeats 4000000 in
theorem enter_any (p : Pace) (v : Int) (g : Bool) (w : World) (ρ : Nat → Nat) (hH : HeapAt ρ [(100000, ⟨[cI .i64 p.span, cI .i64 p.left, cI .i64 p.view, cI .i64 p.first, cI .i64 p.most], 77⟩)] w) :
    Calls Try.prog 37 ([sL 100000 0, sI .i64 v, sB g].map (SV.conc ρ)).toArray w fun r w' => ∃ (x0 : Unit) (σ : Nat → Nat), True ∧ r = .returned (EV.conc σ (eB (enter p v g).2)) ∧ Ran ρ [(100000, ⟨[cI .i64 p.span, cI .i64 p.left, cI .i64 p.view, cI .i64 p.first, cI .i64 p.most], 77⟩)] [(100000, ⟨[cI .i64 (enter p v g).1.span, cI .i64 (enter p v g).1.left, cI .i64 (enter p v g).1.view, cI .i64 (enter p v g).1.first, cI .i64 (enter p v g).1.most], 77⟩)] w w' σ := by
  refine calls_enter (vs := [sL 100000 0, sI .i64 v, sB g]) (N := 35) [(100000, ⟨[cI .i64 p.span, cI .i64 p.left, cI .i64 p.view, cI .i64 p.first, cI .i64 p.most], 77⟩)] ρ Try.func37 rfl rfl (Nat.le_of_ble_eq_true rfl) (okv_a (okv_a (okv_a (okv_nil)))) hH.hp hH.inj ?_ _ rfl
  refine wc_seq ?_
  refine wc_reg [0] (by kernel_rfl) ?_
  refine wo_run [0] [0, 1, 2] [100000] (l' := [(0, eL 100000 0), (1, eI .i64 v), (2, eB g)]) (H' := [(100000, ⟨[cI .i64 p.span, cI .i64 p.left, cI .i64 p.view, cI .i64 p.first, cI .i64 p.most], 77⟩)]) (by kernel_rfl) ?_
  refine wo_nil ?_
  refine we_then ?_
  refine wc_seq ?_
  refine wc_seq ?_
  refine wc_reg [0, 1, 2, 3, 4, 5] (by kernel_rfl) ?_
  refine wo_run [0, 1, 2, 3, 4, 5] [0, 1, 2, 12] [100000] (l' := [(0, eL 100000 0), (1, eI .i64 v), (2, eB g), (12, eB (decide (v ≤ p.view)))]) (H' := [(100000, ⟨[cI .i64 p.span, cI .i64 p.left, cI .i64 p.view, cI .i64 p.first, cI .i64 p.most], 77⟩)]) (by kernel_rfl) ?_
  refine wo_nil ?_
  refine we_then ?_
  refine wc_cond rfl (fun h1 => ?_) (fun h1 => ?_)
  · replace h1 := of_decide_eq_true h1
    refine wc_seq ?_
    refine wc_reg [0] (by kernel_rfl) ?_
    refine wo_run [0] [6] [100000] (l' := [(6, eB false)]) (H' := [(100000, ⟨[cI .i64 p.span, cI .i64 p.left, cI .i64 p.view, cI .i64 p.first, cI .i64 p.most], 77⟩)]) (by kernel_rfl) ?_
    refine wo_nil ?_
    refine we_then ?_
    refine wc_ret ?_
    refine we_then_ret ?_
    refine we_rest [6] [100000] (l' := [(6, eB false)]) (H' := [(100000, ⟨[cI .i64 p.span, cI .i64 p.left, cI .i64 p.view, cI .i64 p.first, cI .i64 p.most], 77⟩)]) (by kernel_rfl) (by kernel_rfl) ?_
    refine we_ret (.inl rfl) (v := eB false) (by kernel_rfl) ?_
    intro σ w' hf
    have hq : enter p v g = (p, false) := by unfold enter; simp [lay, h1]
    rw [hq]
    exact ⟨(), σ, trivial, rfl, hf.ran rfl rfl⟩
  · replace h1 := of_decide_eq_false h1
    refine wc_skip ?_
    refine we_then ?_
    refine wc_seq ?_
    refine wc_reg [0, 1, 2, 3, 4] (by kernel_rfl) ?_
    refine wo_run [0, 1, 2, 3, 4] [0, 2] [100000] (l' := [(0, eL 100000 0), (2, eB g)]) (H' := [(100000, ⟨[cI .i64 p.span, cI .i64 p.left, cI .i64 v, cI .i64 p.first, cI .i64 p.most], 77⟩)]) (by kernel_rfl) ?_
    refine wo_nil ?_
    refine we_then ?_
    refine wc_seq ?_
    refine wc_seq ?_
    refine wc_reg [0] (by kernel_rfl) ?_
    refine wo_run [0] [0, 17] [100000] (l' := [(0, eL 100000 0), (17, eB g)]) (H' := [(100000, ⟨[cI .i64 p.span, cI .i64 p.left, cI .i64 v, cI .i64 p.first, cI .i64 p.most], 77⟩)]) (by kernel_rfl) ?_
    refine wo_nil ?_
    refine we_then ?_
    refine wc_cond rfl (fun h2 => ?_) (fun h2 => ?_)
    · refine wc_rest [0] [100000] (l' := [(0, eL 100000 0)]) (H' := [(100000, ⟨[cI .i64 p.span, cI .i64 p.left, cI .i64 v, cI .i64 p.first, cI .i64 p.most], 77⟩)]) (by kernel_rfl) ?_
      refine wc_draw (n := 8) [] (by kernel_rfl) rfl (sub_of [] (by kernel_rfl)) (fun ρ0 => ?_)
      refine wa_takes (fuel := 2) [0, 1, 2, 3, 4, 5] [20, 23] (listed' := #[true, true, true, true, true, true, false, false]) (l' := [(20, eL 100000 0), (23, eL 100000 3)]) (pk_then pk_body) rfl (by kernel_rfl) ?_
      refine wa_all [6] (by kernel_rfl) rfl (all1 ?_)
      refine wi_op rfl rfl (ot_val1 (e := eI .i64 p.first) rfl (by kernel_rfl)) (sub_of [] (by kernel_rfl)) ?_
      refine wa_all [7] (by kernel_rfl) rfl (all1 ?_)
      refine wi_ox rfl rfl (ox_callm (τ := Unit) (φ := fun _ => True) [sL 100000 0, sI .i64 p.first] [(100000, ⟨[cI .i64 (⟨p.span, p.left, v, p.first, p.most⟩ : Pace).span, cI .i64 (⟨p.span, p.left, v, p.first, p.most⟩ : Pace).left, cI .i64 (⟨p.span, p.left, v, p.first, p.most⟩ : Pace).view, cI .i64 (⟨p.span, p.left, v, p.first, p.most⟩ : Pace).first, cI .i64 (⟨p.span, p.left, v, p.first, p.most⟩ : Pace).most], 77⟩)] [(100000, 100000)] [] [] (fun _ => .t []) (fun _ => [(100000, ⟨[cI .i64 (lay (⟨p.span, p.left, v, p.first, p.most⟩ : Pace) p.first).span, cI .i64 (lay (⟨p.span, p.left, v, p.first, p.most⟩ : Pace) p.first).left, cI .i64 (lay (⟨p.span, p.left, v, p.first, p.most⟩ : Pace) p.first).view, cI .i64 (lay (⟨p.span, p.left, v, p.first, p.most⟩ : Pace) p.first).first, cI .i64 (lay (⟨p.span, p.left, v, p.first, p.most⟩ : Pace) p.first).most], 77⟩)]) rfl (by kernel_rfl) rfl Try.func45 (by kernel_rfl) (by kernel_rfl) (by kernel_rfl) (by kernel_rfl) (by kernel_rfl) (by kernel_rfl) (⟨⟨by kernel_rfl, by kernel_rfl, by kernel_rfl⟩, trivial⟩) (fun _ => by kernel_rfl) (fun _ => by kernel_rfl) (fun _ _ => okv_nil) (fun ρ w _ hh => lay_any (⟨p.span, p.left, v, p.first, p.most⟩ : Pace) p.first w _ hh)) (fun _ => (sub_of [] (by kernel_rfl))) (fun _ _ _ => ?_)
      refine wa_done (by kernel_rfl) ?_
      refine we_rest [] [100000] (l' := []) (H' := [(100000, ⟨[cI .i64 (lay (⟨p.span, p.left, v, p.first, p.most⟩ : Pace) p.first).span, cI .i64 (lay (⟨p.span, p.left, v, p.first, p.most⟩ : Pace) p.first).left, cI .i64 (lay (⟨p.span, p.left, v, p.first, p.most⟩ : Pace) p.first).view, cI .i64 (lay (⟨p.span, p.left, v, p.first, p.most⟩ : Pace) p.first).first, cI .i64 (lay (⟨p.span, p.left, v, p.first, p.most⟩ : Pace) p.first).most], 77⟩)]) (by kernel_rfl) (by kernel_rfl) ?_
      refine we_then ?_
      refine wc_seq ?_
      refine wc_reg [0] (by kernel_rfl) ?_
      refine wo_run [0] [6] [100000] (l' := [(6, eB true)]) (H' := [(100000, ⟨[cI .i64 (lay (⟨p.span, p.left, v, p.first, p.most⟩ : Pace) p.first).span, cI .i64 (lay (⟨p.span, p.left, v, p.first, p.most⟩ : Pace) p.first).left, cI .i64 (lay (⟨p.span, p.left, v, p.first, p.most⟩ : Pace) p.first).view, cI .i64 (lay (⟨p.span, p.left, v, p.first, p.most⟩ : Pace) p.first).first, cI .i64 (lay (⟨p.span, p.left, v, p.first, p.most⟩ : Pace) p.first).most], 77⟩)]) (by kernel_rfl) ?_
      refine wo_nil ?_
      refine we_then ?_
      refine wc_ret ?_
      refine we_rest [6] [100000] (l' := [(6, eB true)]) (H' := [(100000, ⟨[cI .i64 (lay (⟨p.span, p.left, v, p.first, p.most⟩ : Pace) p.first).span, cI .i64 (lay (⟨p.span, p.left, v, p.first, p.most⟩ : Pace) p.first).left, cI .i64 (lay (⟨p.span, p.left, v, p.first, p.most⟩ : Pace) p.first).view, cI .i64 (lay (⟨p.span, p.left, v, p.first, p.most⟩ : Pace) p.first).first, cI .i64 (lay (⟨p.span, p.left, v, p.first, p.most⟩ : Pace) p.first).most], 77⟩)]) (by kernel_rfl) (by kernel_rfl) ?_
      refine we_ret (.inl rfl) (v := eB true) (by kernel_rfl) ?_
      intro σ w' hf
      have hq : enter p v g = ((lay (⟨p.span, p.left, v, p.first, p.most⟩ : Pace) p.first), true) := by unfold enter; simp [lay, h1, h2]
      rw [hq]
      exact ⟨(), σ, trivial, rfl, hf.ran rfl rfl⟩
    · refine wc_rest [0] [100000] (l' := [(0, eL 100000 0)]) (H' := [(100000, ⟨[cI .i64 p.span, cI .i64 p.left, cI .i64 v, cI .i64 p.first, cI .i64 p.most], 77⟩)]) (by kernel_rfl) ?_
      refine wc_draw (n := 9) [] (by kernel_rfl) rfl (sub_of [] (by kernel_rfl)) (fun ρ0 => ?_)
      refine wa_takes (fuel := 2) [0, 1, 2, 3, 4, 5, 6] [28, 32] (listed' := #[true, true, true, true, true, true, true, false, false]) (l' := [(28, eL 100000 0), (32, eL 100000 0)]) (pk_then pk_body) rfl (by kernel_rfl) ?_
      refine wa_all [7] (by kernel_rfl) rfl (all1 ?_)
      refine wi_op rfl rfl (ot_val1 (e := eI .i64 p.span) rfl (by kernel_rfl)) (sub_of [] (by kernel_rfl)) ?_
      refine wa_all [8] (by kernel_rfl) rfl (all1 ?_)
      refine wi_ox rfl rfl (ox_callm (τ := Unit) (φ := fun _ => True) [sL 100000 0, sI .i64 p.span] [(100000, ⟨[cI .i64 (⟨p.span, p.left, v, p.first, p.most⟩ : Pace).span, cI .i64 (⟨p.span, p.left, v, p.first, p.most⟩ : Pace).left, cI .i64 (⟨p.span, p.left, v, p.first, p.most⟩ : Pace).view, cI .i64 (⟨p.span, p.left, v, p.first, p.most⟩ : Pace).first, cI .i64 (⟨p.span, p.left, v, p.first, p.most⟩ : Pace).most], 77⟩)] [(100000, 100000)] [] [] (fun _ => .t []) (fun _ => [(100000, ⟨[cI .i64 (lay (⟨p.span, p.left, v, p.first, p.most⟩ : Pace) p.span).span, cI .i64 (lay (⟨p.span, p.left, v, p.first, p.most⟩ : Pace) p.span).left, cI .i64 (lay (⟨p.span, p.left, v, p.first, p.most⟩ : Pace) p.span).view, cI .i64 (lay (⟨p.span, p.left, v, p.first, p.most⟩ : Pace) p.span).first, cI .i64 (lay (⟨p.span, p.left, v, p.first, p.most⟩ : Pace) p.span).most], 77⟩)]) rfl (by kernel_rfl) rfl Try.func45 (by kernel_rfl) (by kernel_rfl) (by kernel_rfl) (by kernel_rfl) (by kernel_rfl) (by kernel_rfl) (⟨⟨by kernel_rfl, by kernel_rfl, by kernel_rfl⟩, trivial⟩) (fun _ => by kernel_rfl) (fun _ => by kernel_rfl) (fun _ _ => okv_nil) (fun ρ w _ hh => lay_any (⟨p.span, p.left, v, p.first, p.most⟩ : Pace) p.span w _ hh)) (fun _ => (sub_of [] (by kernel_rfl))) (fun _ _ _ => ?_)
      refine wa_done (by kernel_rfl) ?_
      refine we_rest [] [100000] (l' := []) (H' := [(100000, ⟨[cI .i64 (lay (⟨p.span, p.left, v, p.first, p.most⟩ : Pace) p.span).span, cI .i64 (lay (⟨p.span, p.left, v, p.first, p.most⟩ : Pace) p.span).left, cI .i64 (lay (⟨p.span, p.left, v, p.first, p.most⟩ : Pace) p.span).view, cI .i64 (lay (⟨p.span, p.left, v, p.first, p.most⟩ : Pace) p.span).first, cI .i64 (lay (⟨p.span, p.left, v, p.first, p.most⟩ : Pace) p.span).most], 77⟩)]) (by kernel_rfl) (by kernel_rfl) ?_
      refine we_then ?_
      refine wc_seq ?_
      refine wc_reg [0] (by kernel_rfl) ?_
      refine wo_run [0] [6] [100000] (l' := [(6, eB true)]) (H' := [(100000, ⟨[cI .i64 (lay (⟨p.span, p.left, v, p.first, p.most⟩ : Pace) p.span).span, cI .i64 (lay (⟨p.span, p.left, v, p.first, p.most⟩ : Pace) p.span).left, cI .i64 (lay (⟨p.span, p.left, v, p.first, p.most⟩ : Pace) p.span).view, cI .i64 (lay (⟨p.span, p.left, v, p.first, p.most⟩ : Pace) p.span).first, cI .i64 (lay (⟨p.span, p.left, v, p.first, p.most⟩ : Pace) p.span).most], 77⟩)]) (by kernel_rfl) ?_
      refine wo_nil ?_
      refine we_then ?_
      refine wc_ret ?_
      refine we_rest [6] [100000] (l' := [(6, eB true)]) (H' := [(100000, ⟨[cI .i64 (lay (⟨p.span, p.left, v, p.first, p.most⟩ : Pace) p.span).span, cI .i64 (lay (⟨p.span, p.left, v, p.first, p.most⟩ : Pace) p.span).left, cI .i64 (lay (⟨p.span, p.left, v, p.first, p.most⟩ : Pace) p.span).view, cI .i64 (lay (⟨p.span, p.left, v, p.first, p.most⟩ : Pace) p.span).first, cI .i64 (lay (⟨p.span, p.left, v, p.first, p.most⟩ : Pace) p.span).most], 77⟩)]) (by kernel_rfl) (by kernel_rfl) ?_
      refine we_ret (.inl rfl) (v := eB true) (by kernel_rfl) ?_
      intro σ w' hf
      have hq : enter p v g = ((lay (⟨p.span, p.left, v, p.first, p.most⟩ : Pace) p.span), true) := by unfold enter; simp [lay, h1, h2]
      rw [hq]
      exact ⟨(), σ, trivial, rfl, hf.ran rfl rfl⟩

set_option maxHeartbeats 4000000 in
theorem view_any (p : Pace) (w : World) (ρ : Nat → Nat) (hH : HeapAt ρ [(100000, ⟨[cI .i64 p.span, cI .i64 p.left, cI .i64 p.view, cI .i64 p.first, cI .i64 p.most], 77⟩)] w) :
    Calls Try.prog 39 ([sL 100000 0].map (SV.conc ρ)).toArray w fun r w' => r = .returned (EV.conc ρ (eI .i64 p.view)) ∧ Below w.heap.size w w' := by
  refine calls_enter (vs := [sL 100000 0]) (N := 7) [(100000, ⟨[cI .i64 p.span, cI .i64 p.left, cI .i64 p.view, cI .i64 p.first, cI .i64 p.most], 77⟩)] ρ Try.func39 rfl rfl (Nat.le_of_ble_eq_true rfl) (okv_a (okv_nil)) hH.hp hH.inj ?_ _ rfl
  refine wc_seq ?_
  refine wc_reg [0] (by kernel_rfl) ?_
  refine wo_run [0] [0] [100000] (l' := [(0, eL 100000 0)]) (H' := [(100000, ⟨[cI .i64 p.span, cI .i64 p.left, cI .i64 p.view, cI .i64 p.first, cI .i64 p.most], 77⟩)]) (by kernel_rfl) ?_
  refine wo_nil ?_
  refine we_then ?_
  refine wc_seq ?_
  refine wc_reg [0, 1, 2, 3, 4] (by kernel_rfl) ?_
  refine wo_run [0, 1, 2, 3, 4] [2] [100000] (l' := [(2, eI .i64 p.view)]) (H' := [(100000, ⟨[cI .i64 p.span, cI .i64 p.left, cI .i64 p.view, cI .i64 p.first, cI .i64 p.most], 77⟩)]) (by kernel_rfl) ?_
  refine wo_nil ?_
  refine we_then ?_
  refine wc_ret ?_
  refine we_ret (.inl rfl) (v := eI .i64 p.view) (by kernel_rfl) ?_
  intro σ w' hf
  exact ⟨rfl, hf.same rfl rfl hH ⟨⟨rfl, rfl, fun _ _ => rfl⟩, trivial⟩⟩

set_option maxHeartbeats 4000000 in
theorem span_any (p : Pace) (w : World) (ρ : Nat → Nat) (hH : HeapAt ρ [(100000, ⟨[cI .i64 p.span, cI .i64 p.left, cI .i64 p.view, cI .i64 p.first, cI .i64 p.most], 77⟩)] w) :
    Calls Try.prog 40 ([sL 100000 0].map (SV.conc ρ)).toArray w fun r w' => r = .returned (EV.conc ρ (eI .i64 p.span)) ∧ Below w.heap.size w w' := by
  refine calls_enter (vs := [sL 100000 0]) (N := 7) [(100000, ⟨[cI .i64 p.span, cI .i64 p.left, cI .i64 p.view, cI .i64 p.first, cI .i64 p.most], 77⟩)] ρ Try.func40 rfl rfl (Nat.le_of_ble_eq_true rfl) (okv_a (okv_nil)) hH.hp hH.inj ?_ _ rfl
  refine wc_seq ?_
  refine wc_reg [0] (by kernel_rfl) ?_
  refine wo_run [0] [0] [100000] (l' := [(0, eL 100000 0)]) (H' := [(100000, ⟨[cI .i64 p.span, cI .i64 p.left, cI .i64 p.view, cI .i64 p.first, cI .i64 p.most], 77⟩)]) (by kernel_rfl) ?_
  refine wo_nil ?_
  refine we_then ?_
  refine wc_seq ?_
  refine wc_reg [0, 1, 2, 3, 4] (by kernel_rfl) ?_
  refine wo_run [0, 1, 2, 3, 4] [2] [100000] (l' := [(2, eI .i64 p.span)]) (H' := [(100000, ⟨[cI .i64 p.span, cI .i64 p.left, cI .i64 p.view, cI .i64 p.first, cI .i64 p.most], 77⟩)]) (by kernel_rfl) ?_
  refine wo_nil ?_
  refine we_then ?_
  refine wc_ret ?_
  refine we_ret (.inl rfl) (v := eI .i64 p.span) (by kernel_rfl) ?_
  intro σ w' hf
  exact ⟨rfl, hf.same rfl rfl hH ⟨⟨rfl, rfl, fun _ _ => rfl⟩, trivial⟩⟩

set_option maxHeartbeats 4000000 in
theorem left_any (p : Pace) (w : World) (ρ : Nat → Nat) (hH : HeapAt ρ [(100000, ⟨[cI .i64 p.span, cI .i64 p.left, cI .i64 p.view, cI .i64 p.first, cI .i64 p.most], 77⟩)] w) :
    Calls Try.prog 41 ([sL 100000 0].map (SV.conc ρ)).toArray w fun r w' => r = .returned (EV.conc ρ (eI .i64 p.left)) ∧ Below w.heap.size w w' := by
  refine calls_enter (vs := [sL 100000 0]) (N := 7) [(100000, ⟨[cI .i64 p.span, cI .i64 p.left, cI .i64 p.view, cI .i64 p.first, cI .i64 p.most], 77⟩)] ρ Try.func41 rfl rfl (Nat.le_of_ble_eq_true rfl) (okv_a (okv_nil)) hH.hp hH.inj ?_ _ rfl
  refine wc_seq ?_
  refine wc_reg [0] (by kernel_rfl) ?_
  refine wo_run [0] [0] [100000] (l' := [(0, eL 100000 0)]) (H' := [(100000, ⟨[cI .i64 p.span, cI .i64 p.left, cI .i64 p.view, cI .i64 p.first, cI .i64 p.most], 77⟩)]) (by kernel_rfl) ?_
  refine wo_nil ?_
  refine we_then ?_
  refine wc_seq ?_
  refine wc_reg [0, 1, 2, 3, 4] (by kernel_rfl) ?_
  refine wo_run [0, 1, 2, 3, 4] [2] [100000] (l' := [(2, eI .i64 p.left)]) (H' := [(100000, ⟨[cI .i64 p.span, cI .i64 p.left, cI .i64 p.view, cI .i64 p.first, cI .i64 p.most], 77⟩)]) (by kernel_rfl) ?_
  refine wo_nil ?_
  refine we_then ?_
  refine wc_ret ?_
  refine we_ret (.inl rfl) (v := eI .i64 p.left) (by kernel_rfl) ?_
  intro σ w' hf
  exact ⟨rfl, hf.same rfl rfl hH ⟨⟨rfl, rfl, fun _ _ => rfl⟩, trivial⟩⟩

set_option maxHeartbeats 4000000 in
theorem rnew_any (f m : Int) (w : World) (ρ : Nat → Nat) :
    Calls Try.prog 31 ([sI .i64 f, sI .i64 m].map (SV.conc ρ)).toArray w fun r w' => ∃ (x0 : Unit) (σ : Nat → Nat), True ∧ r = .returned (EV.conc σ (eL 16 0)) ∧ Ran ρ [] [(16, ⟨[cI .i64 (rnew f m).view, cI .i64 (rnew f m).first, cI .i64 (rnew f m).most, cI .i64 (rnew f m).span, cI .i64 (rnew f m).left], 89⟩)] w w' σ := by
  refine calls_enter (vs := [sI .i64 f, sI .i64 m]) (N := 17) [] ρ Try.func31 rfl rfl (Nat.le_of_ble_eq_true rfl) (okv_a (okv_a (okv_nil))) noH noH2 ?_ _ rfl
  refine wc_seq ?_
  refine wc_reg [0] (by kernel_rfl) ?_
  refine wo_run [0] [0, 1] [] (l' := [(0, eI .i64 f), (1, eI .i64 m)]) (H' := []) (by kernel_rfl) ?_
  refine wo_nil ?_
  refine we_then ?_
  refine wc_seq ?_
  refine wc_seq ?_
  refine wc_reg [0, 1] (by kernel_rfl) ?_
  refine wo_run [0, 1] [0, 1, 6] [] (l' := [(0, eI .i64 f), (1, eI .i64 m), (6, eB (decide (f < 1)))]) (H' := []) (by kernel_rfl) ?_
  refine wo_nil ?_
  refine we_then ?_
  refine wc_cond rfl (fun h1 => ?_) (fun h1 => ?_)
  · replace h1 := of_decide_eq_true h1
    refine wc_reg [0] (by kernel_rfl) ?_
    refine wo_run [0] [0, 1] [] (l' := [(0, eI .i64 1), (1, eI .i64 m)]) (H' := []) (by kernel_rfl) ?_
    refine wo_nil ?_
    refine we_then ?_
    refine wc_seq ?_
    refine wc_seq ?_
    refine wc_reg [0, 1, 2] (by kernel_rfl) ?_
    refine wo_run [0, 1, 2] [0, 1, 9] [] (l' := [(0, eI .i64 1), (1, eI .i64 m), (9, eB (decide (m < 1)))]) (H' := []) (by kernel_rfl) ?_
    refine wo_nil ?_
    refine we_then ?_
    refine wc_cond rfl (fun h2 => ?_) (fun h2 => ?_)
    · replace h2 := of_decide_eq_true h2
      refine wc_reg [0, 1] (by kernel_rfl) ?_
      refine wo_run [0, 1] [0, 1] [] (l' := [(0, eI .i64 1), (1, eI .i64 1)]) (H' := []) (by kernel_rfl) ?_
      refine wo_nil ?_
      refine we_then ?_
      refine wc_seq ?_
      refine wc_reg [0, 1, 2, 3, 4, 5, 6] (by kernel_rfl) ?_
      refine wo_run [0, 1, 2, 3] [11, 12, 13, 14] [] (l' := [(11, eI .i64 1), (12, eI .i64 1), (13, eI .i64 1), (14, eI .i64 1)]) (H' := []) (by kernel_rfl) ?_
      refine wo_op rfl rfl (ot_rd rfl (rd_build (zc := z89) [cI .i64 1, cI .i64 1, cI .i64 1, cI .i64 1, cI .i64 1] rfl z89_zero' z89_ok (fun _ => rfl) (by kernel_rfl) (by kernel_rfl))) ?_
      refine wo_run [5, 6] [4] [16] (l' := [(4, eL 16 0)]) (H' := [(16, ⟨[cI .i64 1, cI .i64 1, cI .i64 1, cI .i64 1, cI .i64 1], 89⟩)]) (by kernel_rfl) ?_
      refine wo_nil ?_
      refine we_then ?_
      refine wc_ret ?_
      refine we_rest [4] [16] (l' := [(4, eL 16 0)]) (H' := [(16, ⟨[cI .i64 1, cI .i64 1, cI .i64 1, cI .i64 1, cI .i64 1], 89⟩)]) (by kernel_rfl) (by kernel_rfl) ?_
      refine we_ret (.inl rfl) (v := eL 16 0) (by kernel_rfl) ?_
      intro σ w' hf
      have hq : rnew f m = (⟨1, 1, 1, 1, 1⟩ : Pace) := by unfold rnew; simp [h1, h2]
      rw [hq]
      exact ⟨(), σ, trivial, rfl, hf.ran rfl rfl⟩
    · replace h2 := of_decide_eq_false h2
      refine wc_skip ?_
      refine we_then ?_
      refine wc_seq ?_
      refine wc_reg [0, 1, 2, 3, 4, 5, 6] (by kernel_rfl) ?_
      refine wo_run [0, 1, 2, 3] [11, 12, 13, 14] [] (l' := [(11, eI .i64 1), (12, eI .i64 m), (13, eI .i64 1), (14, eI .i64 1)]) (H' := []) (by kernel_rfl) ?_
      refine wo_op rfl rfl (ot_rd rfl (rd_build (zc := z89) [cI .i64 1, cI .i64 1, cI .i64 m, cI .i64 1, cI .i64 1] rfl z89_zero' z89_ok (fun _ => rfl) (by kernel_rfl) (by kernel_rfl))) ?_
      refine wo_run [5, 6] [4] [16] (l' := [(4, eL 16 0)]) (H' := [(16, ⟨[cI .i64 1, cI .i64 1, cI .i64 m, cI .i64 1, cI .i64 1], 89⟩)]) (by kernel_rfl) ?_
      refine wo_nil ?_
      refine we_then ?_
      refine wc_ret ?_
      refine we_rest [4] [16] (l' := [(4, eL 16 0)]) (H' := [(16, ⟨[cI .i64 1, cI .i64 1, cI .i64 m, cI .i64 1, cI .i64 1], 89⟩)]) (by kernel_rfl) (by kernel_rfl) ?_
      refine we_ret (.inl rfl) (v := eL 16 0) (by kernel_rfl) ?_
      intro σ w' hf
      have hq : rnew f m = (⟨1, 1, 1, 1, m⟩ : Pace) := by unfold rnew; simp [h1, h2]
      rw [hq]
      exact ⟨(), σ, trivial, rfl, hf.ran rfl rfl⟩
  · replace h1 := of_decide_eq_false h1
    refine wc_skip ?_
    refine we_then ?_
    refine wc_seq ?_
    refine wc_seq ?_
    refine wc_reg [0, 1, 2] (by kernel_rfl) ?_
    refine wo_run [0, 1, 2] [0, 1, 9] [] (l' := [(0, eI .i64 f), (1, eI .i64 m), (9, eB (decide (m < f)))]) (H' := []) (by kernel_rfl) ?_
    refine wo_nil ?_
    refine we_then ?_
    refine wc_cond rfl (fun h3 => ?_) (fun h3 => ?_)
    · replace h3 := of_decide_eq_true h3
      refine wc_reg [0, 1] (by kernel_rfl) ?_
      refine wo_run [0, 1] [0, 1] [] (l' := [(0, eI .i64 f), (1, eI .i64 f)]) (H' := []) (by kernel_rfl) ?_
      refine wo_nil ?_
      refine we_then ?_
      refine wc_seq ?_
      refine wc_reg [0, 1, 2, 3, 4, 5, 6] (by kernel_rfl) ?_
      refine wo_run [0, 1, 2, 3] [11, 12, 13, 14] [] (l' := [(11, eI .i64 f), (12, eI .i64 f), (13, eI .i64 f), (14, eI .i64 f)]) (H' := []) (by kernel_rfl) ?_
      refine wo_op rfl rfl (ot_rd rfl (rd_build (zc := z89) [cI .i64 1, cI .i64 f, cI .i64 f, cI .i64 f, cI .i64 f] rfl z89_zero' z89_ok (fun _ => rfl) (by kernel_rfl) (by kernel_rfl))) ?_
      refine wo_run [5, 6] [4] [16] (l' := [(4, eL 16 0)]) (H' := [(16, ⟨[cI .i64 1, cI .i64 f, cI .i64 f, cI .i64 f, cI .i64 f], 89⟩)]) (by kernel_rfl) ?_
      refine wo_nil ?_
      refine we_then ?_
      refine wc_ret ?_
      refine we_rest [4] [16] (l' := [(4, eL 16 0)]) (H' := [(16, ⟨[cI .i64 1, cI .i64 f, cI .i64 f, cI .i64 f, cI .i64 f], 89⟩)]) (by kernel_rfl) (by kernel_rfl) ?_
      refine we_ret (.inl rfl) (v := eL 16 0) (by kernel_rfl) ?_
      intro σ w' hf
      have hq : rnew f m = (⟨f, f, 1, f, f⟩ : Pace) := by unfold rnew; simp [h1, h3]
      rw [hq]
      exact ⟨(), σ, trivial, rfl, hf.ran rfl rfl⟩
    · replace h3 := of_decide_eq_false h3
      refine wc_skip ?_
      refine we_then ?_
      refine wc_seq ?_
      refine wc_reg [0, 1, 2, 3, 4, 5, 6] (by kernel_rfl) ?_
      refine wo_run [0, 1, 2, 3] [11, 12, 13, 14] [] (l' := [(11, eI .i64 f), (12, eI .i64 m), (13, eI .i64 f), (14, eI .i64 f)]) (H' := []) (by kernel_rfl) ?_
      refine wo_op rfl rfl (ot_rd rfl (rd_build (zc := z89) [cI .i64 1, cI .i64 f, cI .i64 m, cI .i64 f, cI .i64 f] rfl z89_zero' z89_ok (fun _ => rfl) (by kernel_rfl) (by kernel_rfl))) ?_
      refine wo_run [5, 6] [4] [16] (l' := [(4, eL 16 0)]) (H' := [(16, ⟨[cI .i64 1, cI .i64 f, cI .i64 m, cI .i64 f, cI .i64 f], 89⟩)]) (by kernel_rfl) ?_
      refine wo_nil ?_
      refine we_then ?_
      refine wc_ret ?_
      refine we_rest [4] [16] (l' := [(4, eL 16 0)]) (H' := [(16, ⟨[cI .i64 1, cI .i64 f, cI .i64 m, cI .i64 f, cI .i64 f], 89⟩)]) (by kernel_rfl) (by kernel_rfl) ?_
      refine we_ret (.inl rfl) (v := eL 16 0) (by kernel_rfl) ?_
      intro σ w' hf
      have hq : rnew f m = (⟨f, f, 1, f, m⟩ : Pace) := by unfold rnew; simp [h1, h3]
      rw [hq]
      exact ⟨(), σ, trivial, rfl, hf.ran rfl rfl⟩

set_option maxHeartbeats 4000000 in
theorem rtick_any (p : Pace) (w : World) (ρ : Nat → Nat) (hH : HeapAt ρ [(100000, ⟨[cI .i64 p.view, cI .i64 p.first, cI .i64 p.most, cI .i64 p.span, cI .i64 p.left], 89⟩)] w) :
    Calls Try.prog 36 ([sL 100000 0].map (SV.conc ρ)).toArray w fun r w' => ∃ (x0 : Unit) (σ : Nat → Nat), True ∧ r = .returned (EV.conc σ (eB (rtick p).2)) ∧ Ran ρ [(100000, ⟨[cI .i64 p.view, cI .i64 p.first, cI .i64 p.most, cI .i64 p.span, cI .i64 p.left], 89⟩)] [(100000, ⟨[cI .i64 (rtick p).1.view, cI .i64 (rtick p).1.first, cI .i64 (rtick p).1.most, cI .i64 (rtick p).1.span, cI .i64 (rtick p).1.left], 89⟩)] w w' σ := by
  refine calls_enter (vs := [sL 100000 0]) (N := 55) [(100000, ⟨[cI .i64 p.view, cI .i64 p.first, cI .i64 p.most, cI .i64 p.span, cI .i64 p.left], 89⟩)] ρ Try.func36 rfl rfl (Nat.le_of_ble_eq_true rfl) (okv_a (okv_nil)) hH.hp hH.inj ?_ _ rfl
  refine wc_seq ?_
  refine wc_reg [0] (by kernel_rfl) ?_
  refine wo_run [0] [0] [100000] (l' := [(0, eL 100000 0)]) (H' := [(100000, ⟨[cI .i64 p.view, cI .i64 p.first, cI .i64 p.most, cI .i64 p.span, cI .i64 p.left], 89⟩)]) (by kernel_rfl) ?_
  refine wo_nil ?_
  refine we_then ?_
  refine wc_seq ?_
  refine wc_reg [0, 1, 2, 3, 4, 5, 6, 7] (by kernel_rfl) ?_
  refine wo_run [0, 1, 2, 3, 4, 5, 6, 7] [0] [100000] (l' := [(0, eL 100000 0)]) (H' := [(100000, ⟨[cI .i64 p.view, cI .i64 p.first, cI .i64 p.most, cI .i64 p.span, cI .i64 (IntKind.wrap .i64 (p.left - 1))], 89⟩)]) (by kernel_rfl) ?_
  refine wo_nil ?_
  refine we_then ?_
  refine wc_seq ?_
  refine wc_seq ?_
  refine wc_reg [0, 1, 2, 3, 4] (by kernel_rfl) ?_
  refine wo_run [0, 1, 2, 3, 4] [0, 14] [100000] (l' := [(0, eL 100000 0), (14, eB (decide ((IntKind.wrap .i64 (p.left - 1)) > 0)))]) (H' := [(100000, ⟨[cI .i64 p.view, cI .i64 p.first, cI .i64 p.most, cI .i64 p.span, cI .i64 (IntKind.wrap .i64 (p.left - 1))], 89⟩)]) (by kernel_rfl) ?_
  refine wo_nil ?_
  refine we_then ?_
  refine wc_cond rfl (fun h1 => ?_) (fun h1 => ?_)
  · replace h1 := of_decide_eq_true h1
    refine wc_seq ?_
    refine wc_reg [0] (by kernel_rfl) ?_
    refine wo_run [0] [2] [100000] (l' := [(2, eB false)]) (H' := [(100000, ⟨[cI .i64 p.view, cI .i64 p.first, cI .i64 p.most, cI .i64 p.span, cI .i64 (IntKind.wrap .i64 (p.left - 1))], 89⟩)]) (by kernel_rfl) ?_
    refine wo_nil ?_
    refine we_then ?_
    refine wc_ret ?_
    refine we_then_ret ?_
    refine we_rest [2] [100000] (l' := [(2, eB false)]) (H' := [(100000, ⟨[cI .i64 p.view, cI .i64 p.first, cI .i64 p.most, cI .i64 p.span, cI .i64 (IntKind.wrap .i64 (p.left - 1))], 89⟩)]) (by kernel_rfl) (by kernel_rfl) ?_
    refine we_ret (.inl rfl) (v := eB false) (by kernel_rfl) ?_
    intro σ w' hf
    have hq : rtick p = ((⟨p.span, (IntKind.wrap .i64 (p.left - 1)), p.view, p.first, p.most⟩ : Pace), false) := by unfold rtick; simp [h1]
    rw [hq]
    exact ⟨(), σ, trivial, rfl, hf.ran rfl rfl⟩
  · replace h1 := of_decide_eq_false h1
    refine wc_skip ?_
    refine we_then ?_
    refine wc_seq ?_
    refine wc_seq ?_
    refine wc_rest [0] [100000] (l' := [(0, eL 100000 0)]) (H' := [(100000, ⟨[cI .i64 p.view, cI .i64 p.first, cI .i64 p.most, cI .i64 p.span, cI .i64 (IntKind.wrap .i64 (p.left - 1))], 89⟩)]) (by kernel_rfl) ?_
    refine wc_draw (n := 14) [(100000, ⟨[cI .i64 p.view, cI .i64 p.first, cI .i64 p.most, cI .i64 p.span, cI .i64 (IntKind.wrap .i64 (p.left - 1))], 89⟩)] (by kernel_rfl) rfl (sub_of [100000] (by kernel_rfl)) (fun ρ0 => ?_)
    refine wa_takes (fuel := 0) [0, 1, 2, 3, 4, 5, 6, 7, 8, 9, 10, 11, 12, 13] [0, 28] (listed' := #[true, true, true, true, true, true, true, true, true, true, true, true, true, true]) (l' := [(0, eL 100000 0), (28, eB (decide (p.span ≥ (IntKind.wrap .i64 (p.most - p.span)))))]) (pk_then (pk_then pk_body)) rfl (by kernel_rfl) ?_
    refine wa_done (by kernel_rfl) ?_
    refine we_rest [0, 28] [100000] (l' := [(0, eL 100000 0), (28, eB (decide (p.span ≥ (IntKind.wrap .i64 (p.most - p.span)))))]) (H' := [(100000, ⟨[cI .i64 p.view, cI .i64 p.first, cI .i64 p.most, cI .i64 p.span, cI .i64 (IntKind.wrap .i64 (p.left - 1))], 89⟩)]) (by kernel_rfl) (by kernel_rfl) ?_
    refine we_then ?_
    refine wc_cond rfl (fun h2 => ?_) (fun h2 => ?_)
    · replace h2 := of_decide_eq_true h2
      refine wc_reg [0, 1, 2, 3, 4, 5, 6, 7] (by kernel_rfl) ?_
      refine wo_run [0, 1, 2, 3, 4, 5, 6, 7] [0] [100000] (l' := [(0, eL 100000 0)]) (H' := [(100000, ⟨[cI .i64 p.view, cI .i64 p.first, cI .i64 p.most, cI .i64 p.most, cI .i64 (IntKind.wrap .i64 (p.left - 1))], 89⟩)]) (by kernel_rfl) ?_
      refine wo_nil ?_
      refine we_then ?_
      refine wc_seq ?_
      refine wc_reg [0, 1, 2, 3, 4, 5, 6, 7] (by kernel_rfl) ?_
      refine wo_run [0, 1, 2, 3, 4, 5, 6, 7] [] [100000] (l' := []) (H' := [(100000, ⟨[cI .i64 p.view, cI .i64 p.first, cI .i64 p.most, cI .i64 p.most, cI .i64 p.most], 89⟩)]) (by kernel_rfl) ?_
      refine wo_nil ?_
      refine we_then ?_
      refine wc_seq ?_
      refine wc_reg [0] (by kernel_rfl) ?_
      refine wo_run [0] [2] [100000] (l' := [(2, eB true)]) (H' := [(100000, ⟨[cI .i64 p.view, cI .i64 p.first, cI .i64 p.most, cI .i64 p.most, cI .i64 p.most], 89⟩)]) (by kernel_rfl) ?_
      refine wo_nil ?_
      refine we_then ?_
      refine wc_ret ?_
      refine we_rest [2] [100000] (l' := [(2, eB true)]) (H' := [(100000, ⟨[cI .i64 p.view, cI .i64 p.first, cI .i64 p.most, cI .i64 p.most, cI .i64 p.most], 89⟩)]) (by kernel_rfl) (by kernel_rfl) ?_
      refine we_ret (.inl rfl) (v := eB true) (by kernel_rfl) ?_
      intro σ w' hf
      have hq : rtick p = ((⟨p.most, p.most, p.view, p.first, p.most⟩ : Pace), true) := by unfold rtick; simp [h1, h2]
      rw [hq]
      exact ⟨(), σ, trivial, rfl, hf.ran rfl rfl⟩
    · replace h2 := of_decide_eq_false h2
      refine wc_rest [0] [100000] (l' := [(0, eL 100000 0)]) (H' := [(100000, ⟨[cI .i64 p.view, cI .i64 p.first, cI .i64 p.most, cI .i64 p.span, cI .i64 (IntKind.wrap .i64 (p.left - 1))], 89⟩)]) (by kernel_rfl) ?_
      refine wc_draw (n := 13) [] (by kernel_rfl) rfl (sub_of [] (by kernel_rfl)) (fun ρ0 => ?_)
      refine wa_takes (fuel := 6) [0, 1, 2, 3, 5, 6, 7] [0, 36, 39, 43] (listed' := #[true, true, true, true, false, true, true, true, false, false, false, false, false]) (l' := [(0, eL 100000 0), (36, eL 100000 0), (39, eL 100000 3), (43, eL 100000 3)]) (pk_then pk_body) rfl (by kernel_rfl) ?_
      refine wa_all [4, 8] (by kernel_rfl) rfl (allc ?_ (all1 ?_))
      · refine wi_op rfl rfl (ot_val1 (e := eI .i64 p.span) rfl (by kernel_rfl)) (sub_of [] (by kernel_rfl)) ?_
        refine wa_all [8] (by kernel_rfl) rfl (all1 ?_)
        refine wi_op rfl rfl (ot_val1 (e := eI .i64 p.span) rfl (by kernel_rfl)) (sub_of [] (by kernel_rfl)) ?_
        refine wa_takes (fuel := 1) [9, 10, 11] [0, 45, 47] (listed' := #[true, true, true, true, true, true, true, true, true, true, true, true, false]) (l' := [(0, eL 100000 0), (45, eI .i64 (IntKind.wrap .i64 (p.span + p.span))), (47, eL 100000 3)]) (pk_then pk_body) rfl (by kernel_rfl) ?_
        refine wa_all [12] (by kernel_rfl) rfl (all1 ?_)
        refine wi_op rfl rfl (ot_eff (l' := [(0, eL 100000 0), (45, eI .i64 (IntKind.wrap .i64 (p.span + p.span))), (47, eL 100000 3)]) (H' := [(100000, ⟨[cI .i64 p.view, cI .i64 p.first, cI .i64 p.most, cI .i64 (IntKind.wrap .i64 (p.span + p.span)), cI .i64 (IntKind.wrap .i64 (p.left - 1))], 89⟩)]) (by kernel_rfl)) (sub_of [] (by kernel_rfl)) ?_
        refine wa_done (by kernel_rfl) ?_
        refine we_rest [0] [100000] (l' := [(0, eL 100000 0)]) (H' := [(100000, ⟨[cI .i64 p.view, cI .i64 p.first, cI .i64 p.most, cI .i64 (IntKind.wrap .i64 (p.span + p.span)), cI .i64 (IntKind.wrap .i64 (p.left - 1))], 89⟩)]) (by kernel_rfl) (by kernel_rfl) ?_
        refine we_then ?_
        refine wc_seq ?_
        refine wc_reg [0, 1, 2, 3, 4, 5, 6, 7] (by kernel_rfl) ?_
        refine wo_run [0, 1, 2, 3, 4, 5, 6, 7] [] [100000] (l' := []) (H' := [(100000, ⟨[cI .i64 p.view, cI .i64 p.first, cI .i64 p.most, cI .i64 (IntKind.wrap .i64 (p.span + p.span)), cI .i64 (IntKind.wrap .i64 (p.span + p.span))], 89⟩)]) (by kernel_rfl) ?_
        refine wo_nil ?_
        refine we_then ?_
        refine wc_seq ?_
        refine wc_reg [0] (by kernel_rfl) ?_
        refine wo_run [0] [2] [100000] (l' := [(2, eB true)]) (H' := [(100000, ⟨[cI .i64 p.view, cI .i64 p.first, cI .i64 p.most, cI .i64 (IntKind.wrap .i64 (p.span + p.span)), cI .i64 (IntKind.wrap .i64 (p.span + p.span))], 89⟩)]) (by kernel_rfl) ?_
        refine wo_nil ?_
        refine we_then ?_
        refine wc_ret ?_
        refine we_rest [2] [100000] (l' := [(2, eB true)]) (H' := [(100000, ⟨[cI .i64 p.view, cI .i64 p.first, cI .i64 p.most, cI .i64 (IntKind.wrap .i64 (p.span + p.span)), cI .i64 (IntKind.wrap .i64 (p.span + p.span))], 89⟩)]) (by kernel_rfl) (by kernel_rfl) ?_
        refine we_ret (.inl rfl) (v := eB true) (by kernel_rfl) ?_
        intro σ w' hf
        have hq : rtick p = ((⟨(IntKind.wrap .i64 (p.span + p.span)), (IntKind.wrap .i64 (p.span + p.span)), p.view, p.first, p.most⟩ : Pace), true) := by unfold rtick; simp [h1, h2]
        rw [hq]
        exact ⟨(), σ, trivial, rfl, hf.ran rfl rfl⟩
      · refine wi_op rfl rfl (ot_val1 (e := eI .i64 p.span) rfl (by kernel_rfl)) (sub_of [] (by kernel_rfl)) ?_
        refine wa_all [4] (by kernel_rfl) rfl (all1 ?_)
        refine wi_op rfl rfl (ot_val1 (e := eI .i64 p.span) rfl (by kernel_rfl)) (sub_of [] (by kernel_rfl)) ?_
        refine wa_takes (fuel := 1) [9, 10, 11] [0, 45, 47] (listed' := #[true, true, true, true, true, true, true, true, true, true, true, true, false]) (l' := [(0, eL 100000 0), (45, eI .i64 (IntKind.wrap .i64 (p.span + p.span))), (47, eL 100000 3)]) (pk_then pk_body) rfl (by kernel_rfl) ?_
        refine wa_all [12] (by kernel_rfl) rfl (all1 ?_)
        refine wi_op rfl rfl (ot_eff (l' := [(0, eL 100000 0), (45, eI .i64 (IntKind.wrap .i64 (p.span + p.span))), (47, eL 100000 3)]) (H' := [(100000, ⟨[cI .i64 p.view, cI .i64 p.first, cI .i64 p.most, cI .i64 (IntKind.wrap .i64 (p.span + p.span)), cI .i64 (IntKind.wrap .i64 (p.left - 1))], 89⟩)]) (by kernel_rfl)) (sub_of [] (by kernel_rfl)) ?_
        refine wa_done (by kernel_rfl) ?_
        refine we_rest [0] [100000] (l' := [(0, eL 100000 0)]) (H' := [(100000, ⟨[cI .i64 p.view, cI .i64 p.first, cI .i64 p.most, cI .i64 (IntKind.wrap .i64 (p.span + p.span)), cI .i64 (IntKind.wrap .i64 (p.left - 1))], 89⟩)]) (by kernel_rfl) (by kernel_rfl) ?_
        refine we_then ?_
        refine wc_seq ?_
        refine wc_reg [0, 1, 2, 3, 4, 5, 6, 7] (by kernel_rfl) ?_
        refine wo_run [0, 1, 2, 3, 4, 5, 6, 7] [] [100000] (l' := []) (H' := [(100000, ⟨[cI .i64 p.view, cI .i64 p.first, cI .i64 p.most, cI .i64 (IntKind.wrap .i64 (p.span + p.span)), cI .i64 (IntKind.wrap .i64 (p.span + p.span))], 89⟩)]) (by kernel_rfl) ?_
        refine wo_nil ?_
        refine we_then ?_
        refine wc_seq ?_
        refine wc_reg [0] (by kernel_rfl) ?_
        refine wo_run [0] [2] [100000] (l' := [(2, eB true)]) (H' := [(100000, ⟨[cI .i64 p.view, cI .i64 p.first, cI .i64 p.most, cI .i64 (IntKind.wrap .i64 (p.span + p.span)), cI .i64 (IntKind.wrap .i64 (p.span + p.span))], 89⟩)]) (by kernel_rfl) ?_
        refine wo_nil ?_
        refine we_then ?_
        refine wc_ret ?_
        refine we_rest [2] [100000] (l' := [(2, eB true)]) (H' := [(100000, ⟨[cI .i64 p.view, cI .i64 p.first, cI .i64 p.most, cI .i64 (IntKind.wrap .i64 (p.span + p.span)), cI .i64 (IntKind.wrap .i64 (p.span + p.span))], 89⟩)]) (by kernel_rfl) (by kernel_rfl) ?_
        refine we_ret (.inl rfl) (v := eB true) (by kernel_rfl) ?_
        intro σ w' hf
        have hq : rtick p = ((⟨(IntKind.wrap .i64 (p.span + p.span)), (IntKind.wrap .i64 (p.span + p.span)), p.view, p.first, p.most⟩ : Pace), true) := by unfold rtick; simp [h1, h2]
        rw [hq]
        exact ⟨(), σ, trivial, rfl, hf.ran rfl rfl⟩

set_option maxHeartbeats 4000000 in
theorem renter_any (p : Pace) (v : Int) (g : Bool) (w : World) (ρ : Nat → Nat) (hH : HeapAt ρ [(100000, ⟨[cI .i64 p.view, cI .i64 p.first, cI .i64 p.most, cI .i64 p.span, cI .i64 p.left], 89⟩)] w) :
    Calls Try.prog 38 ([sL 100000 0, sI .i64 v, sB g].map (SV.conc ρ)).toArray w fun r w' => ∃ (x0 : Unit) (σ : Nat → Nat), True ∧ r = .returned (EV.conc σ (eB (renter p v g).2)) ∧ Ran ρ [(100000, ⟨[cI .i64 p.view, cI .i64 p.first, cI .i64 p.most, cI .i64 p.span, cI .i64 p.left], 89⟩)] [(100000, ⟨[cI .i64 (renter p v g).1.view, cI .i64 (renter p v g).1.first, cI .i64 (renter p v g).1.most, cI .i64 (renter p v g).1.span, cI .i64 (renter p v g).1.left], 89⟩)] w w' σ := by
  refine calls_enter (vs := [sL 100000 0, sI .i64 v, sB g]) (N := 32) [(100000, ⟨[cI .i64 p.view, cI .i64 p.first, cI .i64 p.most, cI .i64 p.span, cI .i64 p.left], 89⟩)] ρ Try.func38 rfl rfl (Nat.le_of_ble_eq_true rfl) (okv_a (okv_a (okv_a (okv_nil)))) hH.hp hH.inj ?_ _ rfl
  refine wc_seq ?_
  refine wc_reg [0] (by kernel_rfl) ?_
  refine wo_run [0] [0, 1, 2] [100000] (l' := [(0, eL 100000 0), (1, eI .i64 v), (2, eB g)]) (H' := [(100000, ⟨[cI .i64 p.view, cI .i64 p.first, cI .i64 p.most, cI .i64 p.span, cI .i64 p.left], 89⟩)]) (by kernel_rfl) ?_
  refine wo_nil ?_
  refine we_then ?_
  refine wc_seq ?_
  refine wc_seq ?_
  refine wc_reg [0, 1, 2, 3, 4, 5] (by kernel_rfl) ?_
  refine wo_run [0, 1, 2, 3, 4, 5] [0, 1, 2, 12] [100000] (l' := [(0, eL 100000 0), (1, eI .i64 v), (2, eB g), (12, eB (decide (v ≤ p.view)))]) (H' := [(100000, ⟨[cI .i64 p.view, cI .i64 p.first, cI .i64 p.most, cI .i64 p.span, cI .i64 p.left], 89⟩)]) (by kernel_rfl) ?_
  refine wo_nil ?_
  refine we_then ?_
  refine wc_cond rfl (fun h1 => ?_) (fun h1 => ?_)
  · replace h1 := of_decide_eq_true h1
    refine wc_seq ?_
    refine wc_reg [0] (by kernel_rfl) ?_
    refine wo_run [0] [6] [100000] (l' := [(6, eB false)]) (H' := [(100000, ⟨[cI .i64 p.view, cI .i64 p.first, cI .i64 p.most, cI .i64 p.span, cI .i64 p.left], 89⟩)]) (by kernel_rfl) ?_
    refine wo_nil ?_
    refine we_then ?_
    refine wc_ret ?_
    refine we_then_ret ?_
    refine we_rest [6] [100000] (l' := [(6, eB false)]) (H' := [(100000, ⟨[cI .i64 p.view, cI .i64 p.first, cI .i64 p.most, cI .i64 p.span, cI .i64 p.left], 89⟩)]) (by kernel_rfl) (by kernel_rfl) ?_
    refine we_ret (.inl rfl) (v := eB false) (by kernel_rfl) ?_
    intro σ w' hf
    have hq : renter p v g = (p, false) := by unfold renter; simp [h1]
    rw [hq]
    exact ⟨(), σ, trivial, rfl, hf.ran rfl rfl⟩
  · replace h1 := of_decide_eq_false h1
    refine wc_skip ?_
    refine we_then ?_
    refine wc_seq ?_
    refine wc_reg [0, 1, 2, 3, 4] (by kernel_rfl) ?_
    refine wo_run [0, 1, 2, 3, 4] [0, 2] [100000] (l' := [(0, eL 100000 0), (2, eB g)]) (H' := [(100000, ⟨[cI .i64 v, cI .i64 p.first, cI .i64 p.most, cI .i64 p.span, cI .i64 p.left], 89⟩)]) (by kernel_rfl) ?_
    refine wo_nil ?_
    refine we_then ?_
    refine wc_seq ?_
    refine wc_seq ?_
    refine wc_reg [0] (by kernel_rfl) ?_
    refine wo_run [0] [0, 17] [100000] (l' := [(0, eL 100000 0), (17, eB g)]) (H' := [(100000, ⟨[cI .i64 v, cI .i64 p.first, cI .i64 p.most, cI .i64 p.span, cI .i64 p.left], 89⟩)]) (by kernel_rfl) ?_
    refine wo_nil ?_
    refine we_then ?_
    refine wc_cond rfl (fun h2 => ?_) (fun h2 => ?_)
    · refine wc_reg [0, 1, 2, 3, 4, 5, 6, 7] (by kernel_rfl) ?_
      refine wo_run [0, 1, 2, 3, 4, 5, 6, 7] [0] [100000] (l' := [(0, eL 100000 0)]) (H' := [(100000, ⟨[cI .i64 v, cI .i64 p.first, cI .i64 p.most, cI .i64 p.first, cI .i64 p.left], 89⟩)]) (by kernel_rfl) ?_
      refine wo_nil ?_
      refine we_then ?_
      refine wc_seq ?_
      refine wc_reg [0, 1, 2, 3, 4, 5, 6, 7] (by kernel_rfl) ?_
      refine wo_run [0, 1, 2, 3, 4, 5, 6, 7] [] [100000] (l' := []) (H' := [(100000, ⟨[cI .i64 v, cI .i64 p.first, cI .i64 p.most, cI .i64 p.first, cI .i64 p.first], 89⟩)]) (by kernel_rfl) ?_
      refine wo_nil ?_
      refine we_then ?_
      refine wc_seq ?_
      refine wc_reg [0] (by kernel_rfl) ?_
      refine wo_run [0] [6] [100000] (l' := [(6, eB true)]) (H' := [(100000, ⟨[cI .i64 v, cI .i64 p.first, cI .i64 p.most, cI .i64 p.first, cI .i64 p.first], 89⟩)]) (by kernel_rfl) ?_
      refine wo_nil ?_
      refine we_then ?_
      refine wc_ret ?_
      refine we_rest [6] [100000] (l' := [(6, eB true)]) (H' := [(100000, ⟨[cI .i64 v, cI .i64 p.first, cI .i64 p.most, cI .i64 p.first, cI .i64 p.first], 89⟩)]) (by kernel_rfl) (by kernel_rfl) ?_
      refine we_ret (.inl rfl) (v := eB true) (by kernel_rfl) ?_
      intro σ w' hf
      have hq : renter p v g = ((⟨p.first, p.first, v, p.first, p.most⟩ : Pace), true) := by unfold renter; simp [h1, h2]
      rw [hq]
      exact ⟨(), σ, trivial, rfl, hf.ran rfl rfl⟩
    · refine wc_skip ?_
      refine we_then ?_
      refine wc_seq ?_
      refine wc_reg [0, 1, 2, 3, 4, 5, 6, 7] (by kernel_rfl) ?_
      refine wo_run [0, 1, 2, 3, 4, 5, 6, 7] [] [100000] (l' := []) (H' := [(100000, ⟨[cI .i64 v, cI .i64 p.first, cI .i64 p.most, cI .i64 p.span, cI .i64 p.span], 89⟩)]) (by kernel_rfl) ?_
      refine wo_nil ?_
      refine we_then ?_
      refine wc_seq ?_
      refine wc_reg [0] (by kernel_rfl) ?_
      refine wo_run [0] [6] [100000] (l' := [(6, eB true)]) (H' := [(100000, ⟨[cI .i64 v, cI .i64 p.first, cI .i64 p.most, cI .i64 p.span, cI .i64 p.span], 89⟩)]) (by kernel_rfl) ?_
      refine wo_nil ?_
      refine we_then ?_
      refine wc_ret ?_
      refine we_rest [6] [100000] (l' := [(6, eB true)]) (H' := [(100000, ⟨[cI .i64 v, cI .i64 p.first, cI .i64 p.most, cI .i64 p.span, cI .i64 p.span], 89⟩)]) (by kernel_rfl) (by kernel_rfl) ?_
      refine we_ret (.inl rfl) (v := eB true) (by kernel_rfl) ?_
      intro σ w' hf
      have hq : renter p v g = ((⟨p.span, p.span, v, p.first, p.most⟩ : Pace), true) := by unfold renter; simp [h1, h2]
      rw [hq]
      exact ⟨(), σ, trivial, rfl, hf.ran rfl rfl⟩

set_option maxHeartbeats 4000000 in
theorem same_any (p m : Pace) (w : World) (ρ : Nat → Nat) (hH : HeapAt ρ [(100000, ⟨[cI .i64 p.span, cI .i64 p.left, cI .i64 p.view, cI .i64 p.first, cI .i64 p.most], 77⟩), (100001, ⟨[cI .i64 m.view, cI .i64 m.first, cI .i64 m.most, cI .i64 m.span, cI .i64 m.left], 89⟩)] w) :
    Calls Try.prog 32 ([sL 100000 0, sL 100001 0].map (SV.conc ρ)).toArray w fun r w' => r = .returned (EV.conc ρ (eB (psame p m))) ∧ Below w.heap.size w w' := by
  refine calls_enter (vs := [sL 100000 0, sL 100001 0]) (N := 34) [(100000, ⟨[cI .i64 p.span, cI .i64 p.left, cI .i64 p.view, cI .i64 p.first, cI .i64 p.most], 77⟩), (100001, ⟨[cI .i64 m.view, cI .i64 m.first, cI .i64 m.most, cI .i64 m.span, cI .i64 m.left], 89⟩)] ρ Try.func32 rfl rfl (Nat.le_of_ble_eq_true rfl) (okv_a (okv_a (okv_nil))) hH.hp hH.inj ?_ _ rfl
  refine wc_seq ?_
  refine wc_reg [0] (by kernel_rfl) ?_
  refine wo_run [0] [0, 1] [100000, 100001] (l' := [(0, eL 100000 0), (1, eL 100001 0)]) (H' := [(100000, ⟨[cI .i64 p.span, cI .i64 p.left, cI .i64 p.view, cI .i64 p.first, cI .i64 p.most], 77⟩), (100001, ⟨[cI .i64 m.view, cI .i64 m.first, cI .i64 m.most, cI .i64 m.span, cI .i64 m.left], 89⟩)]) (by kernel_rfl) ?_
  refine wo_nil ?_
  refine we_then ?_
  refine wc_seq ?_
  refine wc_draw (n := 30) [(100000, ⟨[cI .i64 p.span, cI .i64 p.left, cI .i64 p.view, cI .i64 p.first, cI .i64 p.most], 77⟩), (100001, ⟨[cI .i64 m.view, cI .i64 m.first, cI .i64 m.most, cI .i64 m.span, cI .i64 m.left], 89⟩)] (by kernel_rfl) rfl (sub_of [100000, 100001] (by kernel_rfl)) (fun ρ0 => ?_)
  refine wa_takes (fuel := 25) [0, 2, 3, 4, 5] [0, 1, 5, 10] (listed' := #[true, false, true, true, true, true, false, false, false, false, false, false, false, false, false, false, false, false, false, false, false, false, false, false, false, false, false, false, false, false]) (l' := [(0, eL 100000 0), (1, eL 100001 0), (5, eL 100000 0), (10, eI .i64 m.view)]) (pk_then pk_body) rfl (by kernel_rfl) ?_
  refine wa_all [1] (by kernel_rfl) rfl (all1 ?_)
  refine wi_op rfl rfl (ot_call (vs := [sL 100000 0]) rfl rfl rfl Try.func39 (by kernel_rfl) (by kernel_rfl) (by kernel_rfl) (eI .i64 p.view) (trivial) (fun ρ w h => view_any p w (fun k => ρ (Sx.look [(100000, 100000)] k)) (h.heap (π := [(100000, 100000)]) (Hc := [(100000, ⟨[cI .i64 p.span, cI .i64 p.left, cI .i64 p.view, cI .i64 p.first, cI .i64 p.most], 77⟩)]) rfl (⟨⟨by kernel_rfl, by kernel_rfl, by kernel_rfl⟩, trivial⟩)))) (sub_of [100000, 100001] (by kernel_rfl)) ?_
  refine wa_takes (fuel := 22) [6, 7] [0, 1, 12] (listed' := #[true, true, true, true, true, true, true, true, false, false, false, false, false, false, false, false, false, false, false, false, false, false, false, false, false, false, false, false, false, false]) (l' := [(0, eL 100000 0), (1, eL 100001 0), (12, eB (p.view == m.view))]) (pk_then pk_body) rfl (by kernel_rfl) ?_
  refine wa_bool 12 rfl (fun h1 => ?_) (fun h1 => ?_)
  · replace h1 := eq_of_beq h1
    refine wa_takes (fuel := 15) [8, 9, 10, 12, 13, 14, 15] [0, 1, 12, 15, 20] (listed' := #[true, true, true, true, true, true, true, true, true, true, true, false, true, true, true, true, false, false, false, false, false, false, false, false, false, false, false, false, false, false]) (l' := [(0, eL 100000 0), (1, eL 100001 0), (12, eB true), (15, eL 100000 0), (20, eI .i64 m.span)]) (pk_then pk_body) rfl (by kernel_rfl) ?_
    refine wa_all [11] (by kernel_rfl) rfl (all1 ?_)
    refine wi_op rfl rfl (ot_call (vs := [sL 100000 0]) rfl rfl rfl Try.func40 (by kernel_rfl) (by kernel_rfl) (by kernel_rfl) (eI .i64 p.span) (trivial) (fun ρ w h => span_any p w (fun k => ρ (Sx.look [(100000, 100000)] k)) (h.heap (π := [(100000, 100000)]) (Hc := [(100000, ⟨[cI .i64 p.span, cI .i64 p.left, cI .i64 p.view, cI .i64 p.first, cI .i64 p.most], 77⟩)]) rfl (⟨⟨by kernel_rfl, by kernel_rfl, by kernel_rfl⟩, trivial⟩)))) (sub_of [100000, 100001] (by kernel_rfl)) ?_
    refine wa_takes (fuel := 11) [16, 17, 18] [0, 1, 23] (listed' := #[true, true, true, true, true, true, true, true, true, true, true, true, true, true, true, true, true, true, true, false, false, false, false, false, false, false, false, false, false, false]) (l' := [(0, eL 100000 0), (1, eL 100001 0), (23, eB (p.span == m.span))]) (pk_then pk_body) rfl (by kernel_rfl) ?_
    refine wa_bool 23 rfl (fun h2 => ?_) (fun h2 => ?_)
    · replace h2 := eq_of_beq h2
      refine wa_takes (fuel := 4) [19, 20, 21, 23, 24, 25, 26] [23, 26, 31] (listed' := #[true, true, true, true, true, true, true, true, true, true, true, true, true, true, true, true, true, true, true, true, true, true, false, true, true, true, true, false, false, false]) (l' := [(23, eB true), (26, eL 100000 0), (31, eI .i64 m.left)]) (pk_then pk_body) rfl (by kernel_rfl) ?_
      refine wa_all [22] (by kernel_rfl) rfl (all1 ?_)
      refine wi_op rfl rfl (ot_call (vs := [sL 100000 0]) rfl rfl rfl Try.func41 (by kernel_rfl) (by kernel_rfl) (by kernel_rfl) (eI .i64 p.left) (trivial) (fun ρ w h => left_any p w (fun k => ρ (Sx.look [(100000, 100000)] k)) (h.heap (π := [(100000, 100000)]) (Hc := [(100000, ⟨[cI .i64 p.span, cI .i64 p.left, cI .i64 p.view, cI .i64 p.first, cI .i64 p.most], 77⟩)]) rfl (⟨⟨by kernel_rfl, by kernel_rfl, by kernel_rfl⟩, trivial⟩)))) (sub_of [100000, 100001] (by kernel_rfl)) ?_
      refine wa_takes (fuel := 0) [27, 28, 29] [4] (listed' := #[true, true, true, true, true, true, true, true, true, true, true, true, true, true, true, true, true, true, true, true, true, true, true, true, true, true, true, true, true, true]) (l' := [(4, eB (p.left == m.left))]) (pk_then pk_body) rfl (by kernel_rfl) ?_
      refine wa_done (by kernel_rfl) ?_
      refine we_rest [4] [100000, 100001] (l' := [(4, eB (p.left == m.left))]) (H' := [(100000, ⟨[cI .i64 p.span, cI .i64 p.left, cI .i64 p.view, cI .i64 p.first, cI .i64 p.most], 77⟩), (100001, ⟨[cI .i64 m.view, cI .i64 m.first, cI .i64 m.most, cI .i64 m.span, cI .i64 m.left], 89⟩)]) (by kernel_rfl) (by kernel_rfl) ?_
      refine we_then ?_
      refine wc_ret ?_
      refine we_ret (.inl rfl) (v := eB (p.left == m.left)) (by kernel_rfl) ?_
      intro σ w' hf
      refine ⟨?_, hf.same rfl rfl hH ⟨⟨rfl, rfl, fun _ _ => rfl⟩, ⟨⟨rfl, rfl, fun _ _ => rfl⟩, trivial⟩⟩⟩
      exact congrArg (fun b => Ending.returned (EV.conc ρ (eB b))) (by simp_all [psame])
    · replace h2 := ne_of_beq_false h2
      refine wa_takes (fuel := 0) [19, 20, 21, 22, 23, 24, 25, 26, 27, 28, 29] [4] (listed' := #[true, true, true, true, true, true, true, true, true, true, true, true, true, true, true, true, true, true, true, true, true, true, true, true, true, true, true, true, true, true]) (l' := [(4, eB false)]) (pk_then pk_body) rfl (by kernel_rfl) ?_
      refine wa_done (by kernel_rfl) ?_
      refine we_rest [4] [100000, 100001] (l' := [(4, eB false)]) (H' := [(100000, ⟨[cI .i64 p.span, cI .i64 p.left, cI .i64 p.view, cI .i64 p.first, cI .i64 p.most], 77⟩), (100001, ⟨[cI .i64 m.view, cI .i64 m.first, cI .i64 m.most, cI .i64 m.span, cI .i64 m.left], 89⟩)]) (by kernel_rfl) (by kernel_rfl) ?_
      refine we_then ?_
      refine wc_ret ?_
      refine we_ret (.inl rfl) (v := eB false) (by kernel_rfl) ?_
      intro σ w' hf
      refine ⟨?_, hf.same rfl rfl hH ⟨⟨rfl, rfl, fun _ _ => rfl⟩, ⟨⟨rfl, rfl, fun _ _ => rfl⟩, trivial⟩⟩⟩
      exact congrArg (fun b => Ending.returned (EV.conc ρ (eB b))) (by simp_all [psame])
  · replace h1 := ne_of_beq_false h1
    refine wa_takes (fuel := 0) [8, 9, 10, 11, 12, 13, 14, 15, 16, 17, 18, 19, 20, 21, 22, 23, 24, 25, 26, 27, 28, 29] [4] (listed' := #[true, true, true, true, true, true, true, true, true, true, true, true, true, true, true, true, true, true, true, true, true, true, true, true, true, true, true, true, true, true]) (l' := [(4, eB false)]) (pk_then pk_body) rfl (by kernel_rfl) ?_
    refine wa_done (by kernel_rfl) ?_
    refine we_rest [4] [100000, 100001] (l' := [(4, eB false)]) (H' := [(100000, ⟨[cI .i64 p.span, cI .i64 p.left, cI .i64 p.view, cI .i64 p.first, cI .i64 p.most], 77⟩), (100001, ⟨[cI .i64 m.view, cI .i64 m.first, cI .i64 m.most, cI .i64 m.span, cI .i64 m.left], 89⟩)]) (by kernel_rfl) (by kernel_rfl) ?_
    refine we_then ?_
    refine wc_ret ?_
    refine we_ret (.inl rfl) (v := eB false) (by kernel_rfl) ?_
    intro σ w' hf
    refine ⟨?_, hf.same rfl rfl hH ⟨⟨rfl, rfl, fun _ _ => rfl⟩, ⟨⟨rfl, rfl, fun _ _ => rfl⟩, trivial⟩⟩⟩
    exact congrArg (fun b => Ending.returned (EV.conc ρ (eB b))) (by simp_all [psame])

set_option maxHeartbeats 4000000 in
theorem leader_any (a : Option Addr) (len cap b off : Nat) (x : Nat → Int) (view : Int) (hv : view ≤ 9223372036854775807) (w : World) (hb : 0 < len → a = some ⟨b, off, none⟩ ∧ b < w.heap.size) (hc : ∀ i, i < len → CellsAt w b (off + i * 1) [cI .i64 (x i)]) (ρ : Nat → Nat) :
    Calls Try.prog 33 ([sV (.slice a len cap), sI .i64 view].map (SV.conc ρ)).toArray w fun r w' => r = .returned (EV.conc ρ (eI .i64 (leader len x view))) ∧ Below w.heap.size w w' := by
  refine calls_enter (vs := [sV (.slice a len cap), sI .i64 view]) (N := 21) [] ρ Try.func33 rfl rfl (Nat.le_of_ble_eq_true rfl) (okv_a (okv_a (okv_nil))) noH noH2 ?_ _ rfl
  refine wc_seq ?_
  refine wc_reg [0] (by kernel_rfl) ?_
  refine wo_run [0] [0, 1] [] (l' := [(0, eV (.slice a len cap)), (1, eI .i64 view)]) (H' := []) (by kernel_rfl) ?_
  refine wo_nil ?_
  refine we_then ?_
  refine wc_seq ?_
  refine wc_seq ?_
  refine wc_reg [0, 1, 2, 3, 4, 5, 6] (by kernel_rfl) ?_
  refine wo_run [0, 1, 2, 3] [0, 1, 8] [] (l' := [(0, eV (.slice a len cap)), (1, eI .i64 view), (8, eB (((len : Nat) : Int) == 0))]) (H' := []) (by kernel_rfl) ?_
  refine wo_bool 8 rfl (fun h1 => ?_) (fun h1 => ?_)
  · replace h1 := eq_of_beq h1
    refine wo_run [4, 5, 6] [0, 1, 11] [] (l' := [(0, eV (.slice a len cap)), (1, eI .i64 view), (11, eB true)]) (H' := []) (by kernel_rfl) ?_
    refine wo_nil ?_
    refine we_then ?_
    refine wc_true rfl ?_
    refine wc_seq ?_
    refine wc_reg [0] (by kernel_rfl) ?_
    refine wo_run [0] [4] [] (l' := [(4, eI .i64 (-1))]) (H' := []) (by kernel_rfl) ?_
    refine wo_nil ?_
    refine we_then ?_
    refine wc_ret ?_
    refine we_then_ret ?_
    refine we_ret (.inl rfl) (v := eI .i64 (-1)) (by kernel_rfl) ?_
    intro ρ' w' hf
    refine ⟨?_, hf.below noS⟩
    exact congrArg (fun b => Ending.returned (EV.conc ρ (eI .i64 b))) (by unfold leader; first | rw [if_pos (by omega)] | rw [if_neg (by omega)])
  · replace h1 := ne_of_beq_false h1
    refine wo_run [4, 5, 6] [0, 1, 11] [] (l' := [(0, eV (.slice a len cap)), (1, eI .i64 view), (11, eB (decide (view < 1)))]) (H' := []) (by kernel_rfl) ?_
    refine wo_nil ?_
    refine we_then ?_
    refine wc_cond rfl (fun h2 => ?_) (fun h2 => ?_)
    · replace h2 := of_decide_eq_true h2
      refine wc_seq ?_
      refine wc_reg [0] (by kernel_rfl) ?_
      refine wo_run [0] [4] [] (l' := [(4, eI .i64 (-1))]) (H' := []) (by kernel_rfl) ?_
      refine wo_nil ?_
      refine we_then ?_
      refine wc_ret ?_
      refine we_then_ret ?_
      refine we_ret (.inl rfl) (v := eI .i64 (-1)) (by kernel_rfl) ?_
      intro ρ' w' hf
      refine ⟨?_, hf.below noS⟩
      exact congrArg (fun b => Ending.returned (EV.conc ρ (eI .i64 b))) (by unfold leader; first | rw [if_pos (by omega)] | rw [if_neg (by omega)])
    · replace h2 := of_decide_eq_false h2
      refine wc_skip ?_
      refine we_then ?_
      refine wc_seq ?_
      refine wc_reg [0, 1, 2, 3, 4, 5, 6, 7, 8, 9] (by kernel_rfl) ?_
      refine wo_run [0, 1, 2, 3, 4, 5] [12, 15, 17] [] (l' := [(12, eV (.slice a len cap)), (15, eI .i64 (IntKind.wrap .i64 (Int.tdiv (IntKind.wrap .i64 (view - 1)) 4))), (17, eI .i64 ((len : Nat) : Int))]) (H' := []) (by kernel_rfl) ?_
      refine wo_op rfl rfl (ot_rd rfl (rd_rem (k := .i64) (X := (IntKind.wrap .i64 (Int.tdiv (IntKind.wrap .i64 (view - 1)) 4))) (Y := ((len : Nat) : Int)) rfl rfl rfl (h1))) ?_
      refine wo_op rfl rfl (ot_rd rfl (rd_indexI (e := 3) b off 1 (leadIx len view) (Int.tmod (IntKind.wrap .i64 (Int.tdiv (IntKind.wrap .i64 (view - 1)) 4)) ((len : Nat) : Int)) rfl (by kernel_rfl) (by kernel_rfl) rfl rfl (lead_ix h1 h2 hv) ((lead_lt (view := view) h1)) ((hb (Nat.zero_lt_of_lt (lead_lt (view := view) h1))).1))) ?_
      refine wo_op rfl rfl (ot_rd rfl (rd_load (v := (sI .i64 (x (leadIx len view)))) b (off + (leadIx len view) * 1) 0 [cI .i64 (x (leadIx len view))] rfl (off + (leadIx len view) * 1) rfl rfl ((xI (hb (Nat.zero_lt_of_lt (lead_lt (view := view) h1))).2)) (hc (leadIx len view) (lead_lt (view := view) h1)) (okc_one okc_nil) (fun _ => rfl) (by kernel_rfl))) ?_
      refine wo_run [9] [4] [] (l' := [(4, eI .i64 (x (leadIx len view)))]) (H' := []) (by kernel_rfl) ?_
      refine wo_nil ?_
      refine we_then ?_
      refine wc_ret ?_
      refine we_ret (.inl rfl) (v := eI .i64 (x (leadIx len view))) (by kernel_rfl) ?_
      intro ρ' w' hf
      refine ⟨?_, hf.below noS⟩
      exact congrArg (fun b => Ending.returned (EV.conc ρ (eI .i64 b))) (by unfold leader; first | rw [if_pos (by omega)] | rw [if_neg (by omega)])

set_option maxHeartbeats 4000000 in
theorem rleader_any (a : Option Addr) (len cap b off : Nat) (x : Nat → Int) (view : Int) (hv : view ≤ 9223372036854775807) (w : World) (hb : 0 < len → a = some ⟨b, off, none⟩ ∧ b < w.heap.size) (hc : ∀ i, i < len → CellsAt w b (off + i * 1) [cI .i64 (x i)]) (ρ : Nat → Nat) :
    Calls Try.prog 34 ([sV (.slice a len cap), sI .i64 view].map (SV.conc ρ)).toArray w fun r w' => r = .returned (EV.conc ρ (eI .i64 (leader len x view))) ∧ Below w.heap.size w w' := by
  refine calls_enter (vs := [sV (.slice a len cap), sI .i64 view]) (N := 28) [] ρ Try.func34 rfl rfl (Nat.le_of_ble_eq_true rfl) (okv_a (okv_a (okv_nil))) noH noH2 ?_ _ rfl
  refine wc_seq ?_
  refine wc_reg [0] (by kernel_rfl) ?_
  refine wo_run [0] [0, 1] [] (l' := [(0, eV (.slice a len cap)), (1, eI .i64 view)]) (H' := []) (by kernel_rfl) ?_
  refine wo_nil ?_
  refine we_then ?_
  refine wc_seq ?_
  refine wc_seq ?_
  refine wc_reg [0, 1, 2, 3, 4, 5, 6] (by kernel_rfl) ?_
  refine wo_run [0, 1, 2, 3] [0, 1, 9] [] (l' := [(0, eV (.slice a len cap)), (1, eI .i64 view), (9, eB (((len : Nat) : Int) == 0))]) (H' := []) (by kernel_rfl) ?_
  refine wo_bool 9 rfl (fun h1 => ?_) (fun h1 => ?_)
  · replace h1 := eq_of_beq h1
    refine wo_run [4, 5, 6] [0, 1, 12] [] (l' := [(0, eV (.slice a len cap)), (1, eI .i64 view), (12, eB true)]) (H' := []) (by kernel_rfl) ?_
    refine wo_nil ?_
    refine we_then ?_
    refine wc_true rfl ?_
    refine wc_seq ?_
    refine wc_reg [0] (by kernel_rfl) ?_
    refine wo_run [0] [4] [] (l' := [(4, eI .i64 (-1))]) (H' := []) (by kernel_rfl) ?_
    refine wo_nil ?_
    refine we_then ?_
    refine wc_ret ?_
    refine we_then_ret ?_
    refine we_ret (.inl rfl) (v := eI .i64 (-1)) (by kernel_rfl) ?_
    intro ρ' w' hf
    refine ⟨?_, hf.below noS⟩
    exact congrArg (fun b => Ending.returned (EV.conc ρ (eI .i64 b))) (by unfold leader; first | rw [if_pos (by omega)] | rw [if_neg (by omega)])
  · replace h1 := ne_of_beq_false h1
    refine wo_run [4, 5, 6] [0, 1, 12] [] (l' := [(0, eV (.slice a len cap)), (1, eI .i64 view), (12, eB (decide (view < 1)))]) (H' := []) (by kernel_rfl) ?_
    refine wo_nil ?_
    refine we_then ?_
    refine wc_cond rfl (fun h2 => ?_) (fun h2 => ?_)
    · replace h2 := of_decide_eq_true h2
      refine wc_seq ?_
      refine wc_reg [0] (by kernel_rfl) ?_
      refine wo_run [0] [4] [] (l' := [(4, eI .i64 (-1))]) (H' := []) (by kernel_rfl) ?_
      refine wo_nil ?_
      refine we_then ?_
      refine wc_ret ?_
      refine we_then_ret ?_
      refine we_ret (.inl rfl) (v := eI .i64 (-1)) (by kernel_rfl) ?_
      intro ρ' w' hf
      refine ⟨?_, hf.below noS⟩
      exact congrArg (fun b => Ending.returned (EV.conc ρ (eI .i64 b))) (by unfold leader; first | rw [if_pos (by omega)] | rw [if_neg (by omega)])
    · replace h2 := of_decide_eq_false h2
      refine wc_skip ?_
      refine we_then ?_
      refine wc_seq ?_
      refine wc_reg [0, 1, 2, 3] (by kernel_rfl) ?_
      refine wo_run [0, 1, 2, 3] [0, 5] [] (l' := [(0, eV (.slice a len cap)), (5, eI .i64 (IntKind.wrap .i64 (Int.tdiv (IntKind.wrap .i64 (view - 1)) 4)))]) (H' := []) (by kernel_rfl) ?_
      refine wo_nil ?_
      refine we_then ?_
      refine wc_seq ?_
      refine wc_reg [0, 1, 2, 3, 4, 5, 6, 7, 8, 9, 10, 11, 12] (by kernel_rfl) ?_
      refine wo_run [0, 1, 2, 3, 4] [0, 16, 17, 18, 20] [] (l' := [(0, eV (.slice a len cap)), (16, eV (.slice a len cap)), (17, eI .i64 (IntKind.wrap .i64 (Int.tdiv (IntKind.wrap .i64 (view - 1)) 4))), (18, eI .i64 (IntKind.wrap .i64 (Int.tdiv (IntKind.wrap .i64 (view - 1)) 4))), (20, eI .i64 ((len : Nat) : Int))]) (H' := []) (by kernel_rfl) ?_
      refine wo_op rfl rfl (ot_rd rfl (rd_quo (k := .i64) (X := (IntKind.wrap .i64 (Int.tdiv (IntKind.wrap .i64 (view - 1)) 4))) (Y := ((len : Nat) : Int)) rfl rfl rfl (h1))) ?_
      refine wo_run [6, 7, 8, 9] [16, 25] [] (l' := [(16, eV (.slice a len cap)), (25, eI .i64 (IntKind.wrap .i64 ((IntKind.wrap .i64 (Int.tdiv (IntKind.wrap .i64 (view - 1)) 4)) - (IntKind.wrap .i64 ((IntKind.wrap .i64 (Int.tdiv (IntKind.wrap .i64 (Int.tdiv (IntKind.wrap .i64 (view - 1)) 4)) ((len : Nat) : Int))) * ((len : Nat) : Int))))))]) (H' := []) (by kernel_rfl) ?_
      refine wo_op rfl rfl (ot_rd rfl (rd_indexI (e := 3) b off 1 (leadIx len view) (IntKind.wrap .i64 ((IntKind.wrap .i64 (Int.tdiv (IntKind.wrap .i64 (view - 1)) 4)) - (IntKind.wrap .i64 ((IntKind.wrap .i64 (Int.tdiv (IntKind.wrap .i64 (Int.tdiv (IntKind.wrap .i64 (view - 1)) 4)) ((len : Nat) : Int))) * ((len : Nat) : Int))))) rfl (by kernel_rfl) (by kernel_rfl) rfl rfl (rlead_ix h1 h2 hv) ((lead_lt (view := view) h1)) ((hb (Nat.zero_lt_of_lt (lead_lt (view := view) h1))).1))) ?_
      refine wo_op rfl rfl (ot_rd rfl (rd_load (v := (sI .i64 (x (leadIx len view)))) b (off + (leadIx len view) * 1) 0 [cI .i64 (x (leadIx len view))] rfl (off + (leadIx len view) * 1) rfl rfl ((xI (hb (Nat.zero_lt_of_lt (lead_lt (view := view) h1))).2)) (hc (leadIx len view) (lead_lt (view := view) h1)) (okc_one okc_nil) (fun _ => rfl) (by kernel_rfl))) ?_
      refine wo_run [12] [4] [] (l' := [(4, eI .i64 (x (leadIx len view)))]) (H' := []) (by kernel_rfl) ?_
      refine wo_nil ?_
      refine we_then ?_
      refine wc_ret ?_
      refine we_ret (.inl rfl) (v := eI .i64 (x (leadIx len view))) (by kernel_rfl) ?_
      intro ρ' w' hf
      refine ⟨?_, hf.below noS⟩
      exact congrArg (fun b => Ending.returned (EV.conc ρ (eI .i64 b))) (by unfold leader; first | rw [if_pos (by omega)] | rw [if_neg (by omega)])

end Go.Proofs.Ytckhcmdjgkoocaa.Pc
