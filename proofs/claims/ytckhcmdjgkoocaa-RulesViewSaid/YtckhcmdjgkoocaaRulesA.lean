/- The walks over the rules' functions. -/
import Derived.Test.YtckhcmdjgkoocaaProg
import Derived.KernelRfl
import Derived.Test.YtckhcmdjgkoocaaSxRow
namespace Go.Proofs.Ytckhcmdjgkoocaa
open Go.RowKit Go.Sx
set_option linter.unusedVariables false
set_option linter.unusedSimpArgs false

structure Safe where
  e : Int
  v : Int
  l : Int
  d : List Int
def Safe.ok (s : Safe) : Prop := s.d.length = 32
abbrev cS (s : Safe) : List Chunk := [cI .i64 s.e, cI .i64 s.v, cI .i64 s.l, .ints .u8 32 s.d]
abbrev eS (s : Safe) : EV := eA (cS s)
def see (s : Safe) (view : Int) (D : List Int) : Safe := if view > s.l then ⟨s.e, s.v, view, D⟩ else s
def giveUp (s : Safe) (view : Int) : Safe := if view > s.v then ⟨s.e, view, s.l, s.d⟩ else s
def vote (s : Safe) (view justify : Int) (x : Bool) : Safe × Bool := if view ≤ s.v ∨ (x = false ∧ justify ≤ s.l) then (s, false) else (⟨s.e, view, s.l, s.d⟩, true)
abbrev eSB (p : Safe × Bool) : EV := .t [.agg (cS p.1), sB p.2]
def safeEq (s t : Safe) : Bool := s.e == t.e && (s.v == t.v && (s.l == t.l && s.d == t.d))
structure Step where
  kind : Int
  view : Int
  justify : Int
  block : List Int
  ext : Bool
abbrev cX (x : Step) : List Chunk := [cI .i64 x.kind, cI .i64 x.view, cI .i64 x.justify, .ints .u8 32 x.block, cB x.ext]
def Step.ok (x : Step) : Prop := x.block.length = 32
def doStep (s : Safe) (x : Step) : Safe × Bool := if x.kind = 0 then (see s x.view x.block, false) else if x.kind = 1 then vote s x.view x.justify x.ext else (giveUp s x.view, false)
theorem safe_of {R : TypeId → Value → Prop} : ∀ {cs : List Chunk}, MatchL R [.i .i64, .i .i64, .i .i64, .is .u8 32] cs → ∃ s : Safe, cs = cS s ∧ s.ok
  | [.one (.v (.int _ e)), .one (.v (.int _ v)), .one (.v (.int _ l)), .ints _ _ d], ⟨rfl, _, rfl, _, rfl, _, rfl, rfl, h, _, _⟩ => ⟨⟨e, v, l, d⟩, rfl, h⟩
theorem step_of {R : TypeId → Value → Prop} : ∀ {cs : List Chunk}, MatchL R [.i .i64, .i .i64, .i .i64, .is .u8 32, .b] cs → ∃ x : Step, cs = cX x ∧ x.ok
  | [.one (.v (.int _ e)), .one (.v (.int _ v)), .one (.v (.int _ l)), .ints _ _ d, .one (.v (.bool b))], ⟨rfl, _, rfl, _, rfl, _, rfl, rfl, h, _, _⟩ => ⟨⟨e, v, l, d, b⟩, rfl, h⟩
theorem dig_of {R : TypeId → Value → Prop} : ∀ {cs : List Chunk}, MatchL R [.is .u8 32] cs → ∃ d : List Int, cs = [.ints .u8 32 d] ∧ d.length = 32
  | [.ints _ _ d], ⟨rfl, rfl, h, _, _⟩ => ⟨d, rfl, h⟩
theorem giveUp_ok {s : Safe} {view : Int} (h : s.ok) : (giveUp s view).ok := by unfold giveUp; split <;> exact h
theorem see_ok {s : Safe} {view : Int} {D : List Int} (h : s.ok) (hD : D.length = 32) : (see s view D).ok := by unfold see; split <;> first | exact h | exact hD
theorem vote_ok {s : Safe} {view justify : Int} {x : Bool} (h : s.ok) : (vote s view justify x).1.ok := by unfold vote; split <;> exact h
theorem giveUp_ne (s : Safe) (view : Int) (h : view > s.v) : (!((giveUp s view).e == s.e && ((giveUp s view).v == s.v && ((giveUp s view).l == s.l && ((giveUp s view).d == s.d && true))))) = true := by
  have : ¬ view = s.v := by omega
  simp [giveUp, h, this]
theorem doStep_ok {s : Safe} {x : Step} (h : s.ok) (hx : x.ok) : (doStep s x).1.ok := by
  unfold doStep; split
  · exact see_ok h hx
  · split
    · exact vote_ok h
    · exact giveUp_ok h
theorem once_facts (s : Safe) (x : Step) : s.v ≤ (doStep s x).1.v ∧ s.l ≤ (doStep s x).1.l ∧ (doStep s x).1.e = s.e ∧ ((doStep s x).2 = true → s.v < x.view ∧ (doStep s x).1.v = x.view) ∧ ((doStep s x).2 = false → x.kind = 1 → (doStep s x).1 = s) ∧ (x.kind ≠ 0 → x.kind ≠ 1 → (vote (doStep s x).1 x.view x.justify true).2 = false) := by
  unfold doStep see vote giveUp
  by_cases h0 : x.kind = 0
  · rw [if_pos h0]; split <;> simp_all <;> omega
  · rw [if_neg h0]
    by_cases h1 : x.kind = 1
    · rw [if_pos h1]; split <;> simp_all <;> omega
    · rw [if_neg h1]; simp only []; split <;> simp_all <;> omega
theorem giveUp_v (s : Safe) (view : Int) : (⟨s.e, if view > s.v then view else s.v, s.l, s.d⟩ : Safe) = giveUp s view := by
  unfold giveUp; split <;> rfl
abbrev z23 : List Chunk := [.ints .u8 32 (List.replicate 32 0)]
theorem z23_zero' : (Try.prog.info? 23).bind (·.zero) = some (SV.conc (fun _ => 0) (.agg z23)) := by kernel_rfl
theorem z23_zero : (Try.prog.info? 23).bind (·.zero) = some (SV.conc (fun _ => 0) (.agg z23)) ∨ ∃ v, (Try.prog.info? 23).bind (·.zero) = some v ∧ z23 = [.one (.v v)] ∧ v.oneCell' = true := .inl z23_zero'
theorem z23_ok : okCs z23 := okc_ints (List.length_replicate) (okc_nil)
abbrev z25 : List Chunk := [cI .i64 0, cI .i64 0, cI .i64 0, .ints .u8 32 (List.replicate 32 0)]
theorem z25_zero' : (Try.prog.info? 25).bind (·.zero) = some (SV.conc (fun _ => 0) (.agg z25)) := by kernel_rfl
theorem z25_zero : (Try.prog.info? 25).bind (·.zero) = some (SV.conc (fun _ => 0) (.agg z25)) ∨ ∃ v, (Try.prog.info? 25).bind (·.zero) = some v ∧ z25 = [.one (.v v)] ∧ v.oneCell' = true := .inl z25_zero'
theorem z25_ok : okCs z25 := okc_one (okc_one (okc_one (okc_ints (List.length_replicate) (okc_nil))))
abbrev z29 : List Chunk := [cI .i64 0, cI .i64 0, cI .i64 0, .ints .u8 32 (List.replicate 32 0)]
theorem z29_zero' : (Try.prog.info? 29).bind (·.zero) = some (SV.conc (fun _ => 0) (.agg z29)) := by kernel_rfl
theorem z29_zero : (Try.prog.info? 29).bind (·.zero) = some (SV.conc (fun _ => 0) (.agg z29)) ∨ ∃ v, (Try.prog.info? 29).bind (·.zero) = some v ∧ z29 = [.one (.v v)] ∧ v.oneCell' = true := .inl z29_zero'
theorem z29_ok : okCs z29 := okc_one (okc_one (okc_one (okc_ints (List.length_replicate) (okc_nil))))

set_option maxHeartbeats 4000000 in
theorem new_any (e : Int) (D : List Int) (hD : D.length = 32) (w : World) (ρ : Nat → Nat) :
    Calls Try.prog 20 ([sI .i64 e, .agg [.ints .u8 32 D]].map (SV.conc ρ)).toArray w fun r w' => r = .returned (EV.conc ρ (eA [cI .i64 e, cI .i64 0, cI .i64 0, .ints .u8 32 D])) ∧ Below w.heap.size w w' := by
  refine calls_enter (vs := [sI .i64 e, .agg [.ints .u8 32 D]]) (N := 8) [] ρ Try.func20 rfl rfl (Nat.le_of_ble_eq_true rfl) (okv_a (okv_agg (okc_ints (hD) (okc_nil)) (okv_nil))) noH noH2 ?_ _ rfl
  refine wc_seq ?_
  refine wc_reg [0, 1] (by kernel_rfl) ?_
  refine wo_run [0] [0, 3] [3] (l' := [(0, eI .i64 e), (3, eL 3 0)]) (H' := [(3, ⟨[.ints .u8 32 D], 23⟩)]) (by kernel_rfl) ?_
  refine wo_op rfl rfl (ot_alloc (d := 4) (cs := z25) rfl rfl z25_zero rfl z25_ok (fun _ => rfl)) ?_
  refine wo_nil ?_
  refine we_then ?_
  refine wc_seq ?_
  refine wc_reg [0, 1, 2, 3] (by kernel_rfl) ?_
  refine wo_run [0, 1] [4, 5, 6] [4] (l' := [(4, eL 4 0), (5, eI .i64 e), (6, eA [.ints .u8 32 D])]) (H' := [(4, ⟨[cI .i64 0, cI .i64 0, cI .i64 0, .ints .u8 32 (List.replicate 32 0)], 25⟩)]) (by kernel_rfl) ?_
  refine wo_op rfl rfl (ot_rd rfl (rd_build (zc := z25) [cI .i64 e, cI .i64 0, cI .i64 0, .ints .u8 32 D] rfl z25_zero' z25_ok (fun _ => rfl) (by kernel_rfl) (by kernel_rfl))) ?_
  refine wo_run [3] [4] [4] (l' := [(4, eL 4 0)]) (H' := [(4, ⟨[cI .i64 e, cI .i64 0, cI .i64 0, .ints .u8 32 D], 25⟩)]) (by kernel_rfl) ?_
  refine wo_nil ?_
  refine we_then ?_
  refine wc_ret ?_
  refine we_ret (.inl rfl) (v := eA [cI .i64 e, cI .i64 0, cI .i64 0, .ints .u8 32 D]) (by kernel_rfl) ?_
  intro ρ' w' hf
  refine ⟨?_, hf.below noS⟩
  rfl

set_option maxHeartbeats 4000000 in
theorem giveUp_any (s : Safe) (hs : s.ok) (view : Int) (w : World) (ρ : Nat → Nat) :
    Calls Try.prog 43 ([.agg [cI .i64 s.e, cI .i64 s.v, cI .i64 s.l, .ints .u8 32 s.d], sI .i64 view].map (SV.conc ρ)).toArray w fun r w' => r = .returned (EV.conc ρ (eS (giveUp s view))) ∧ Below w.heap.size w w' := by
  refine calls_enter (vs := [.agg [cI .i64 s.e, cI .i64 s.v, cI .i64 s.l, .ints .u8 32 s.d], sI .i64 view]) (N := 11) [] ρ Try.func43 rfl rfl (Nat.le_of_ble_eq_true rfl) (okv_agg (okc_one (okc_one (okc_one (okc_ints (hs) (okc_nil))))) (okv_a (okv_nil))) noH noH2 ?_ _ rfl
  refine wc_seq ?_
  refine wc_reg [0, 1] (by kernel_rfl) ?_
  refine wo_run [0] [1, 2] [2] (l' := [(1, eI .i64 view), (2, eL 2 0)]) (H' := [(2, ⟨[cI .i64 s.e, cI .i64 s.v, cI .i64 s.l, .ints .u8 32 s.d], 25⟩)]) (by kernel_rfl) ?_
  refine wo_op rfl rfl (ot_alloc (d := 4) (cs := z25) rfl rfl z25_zero rfl z25_ok (fun _ => rfl)) ?_
  refine wo_nil ?_
  refine we_then ?_
  refine wc_seq ?_
  refine wc_reg [0, 1, 2, 3, 4, 5] (by kernel_rfl) ?_
  refine wo_run [0, 1, 2, 3, 4, 5] [2, 4] [2, 4] (l' := [(2, eL 2 0), (4, eL 4 0)]) (H' := [(2, ⟨[cI .i64 s.e, cI .i64 (if view > s.v then view else s.v), cI .i64 s.l, .ints .u8 32 s.d], 25⟩), (4, ⟨[cI .i64 0, cI .i64 0, cI .i64 0, .ints .u8 32 (List.replicate 32 0)], 25⟩)]) (by kernel_rfl) ?_
  refine wo_nil ?_
  refine we_then ?_
  refine wc_seq ?_
  refine wc_reg [0, 1] (by kernel_rfl) ?_
  refine wo_run [0, 1] [4] [4] (l' := [(4, eL 4 0)]) (H' := [(4, ⟨[cI .i64 s.e, cI .i64 (if view > s.v then view else s.v), cI .i64 s.l, .ints .u8 32 s.d], 25⟩)]) (by kernel_rfl) ?_
  refine wo_nil ?_
  refine we_then ?_
  refine wc_ret ?_
  refine we_ret (.inl rfl) (v := eA [cI .i64 s.e, cI .i64 (if view > s.v then view else s.v), cI .i64 s.l, .ints .u8 32 s.d]) (by kernel_rfl) ?_
  intro ρ' w' hf
  refine ⟨?_, hf.below noS⟩
  exact congrArg (fun x => Ending.returned (EV.conc ρ (eS x))) (giveUp_v s view)

set_option maxHeartbeats 4000000 in
theorem see_any (s : Safe) (hs : s.ok) (view : Int) (D : List Int) (hD : D.length = 32) (w : World) (ρ : Nat → Nat) :
    Calls Try.prog 42 ([.agg [cI .i64 s.e, cI .i64 s.v, cI .i64 s.l, .ints .u8 32 s.d], sI .i64 view, .agg [.ints .u8 32 D]].map (SV.conc ρ)).toArray w fun r w' => r = .returned (EV.conc ρ (eS (see s view D))) ∧ Below w.heap.size w w' := by
  refine calls_enter (vs := [.agg [cI .i64 s.e, cI .i64 s.v, cI .i64 s.l, .ints .u8 32 s.d], sI .i64 view, .agg [.ints .u8 32 D]]) (N := 16) [] ρ Try.func42 rfl rfl (Nat.le_of_ble_eq_true rfl) (okv_agg (okc_one (okc_one (okc_one (okc_ints (hs) (okc_nil))))) (okv_a (okv_agg (okc_ints (hD) (okc_nil)) (okv_nil)))) noH noH2 ?_ _ rfl
  refine wc_seq ?_
  refine wc_reg [0, 1, 2] (by kernel_rfl) ?_
  refine wo_run [0, 1] [1, 3, 5] [3, 5] (l' := [(1, eI .i64 view), (3, eL 3 0), (5, eL 5 0)]) (H' := [(3, ⟨[cI .i64 s.e, cI .i64 s.v, cI .i64 s.l, .ints .u8 32 s.d], 25⟩), (5, ⟨[.ints .u8 32 D], 23⟩)]) (by kernel_rfl) ?_
  refine wo_op rfl rfl (ot_alloc (d := 6) (cs := z25) rfl rfl z25_zero rfl z25_ok (fun _ => rfl)) ?_
  refine wo_nil ?_
  refine we_then ?_
  refine wc_seq ?_
  refine wc_seq ?_
  refine wc_reg [0, 1, 2, 3] (by kernel_rfl) ?_
  refine wo_run [0, 1, 2, 3] [1, 3, 5, 6, 10] [3, 5, 6] (l' := [(1, eI .i64 view), (3, eL 3 0), (5, eL 5 0), (6, eL 6 0), (10, eB (decide (view > s.l)))]) (H' := [(3, ⟨[cI .i64 s.e, cI .i64 s.v, cI .i64 s.l, .ints .u8 32 s.d], 25⟩), (5, ⟨[.ints .u8 32 D], 23⟩), (6, ⟨[cI .i64 0, cI .i64 0, cI .i64 0, .ints .u8 32 (List.replicate 32 0)], 25⟩)]) (by kernel_rfl) ?_
  refine wo_nil ?_
  refine we_then ?_
  refine wc_cond rfl (fun h1 => ?_) (fun h1 => ?_)
  · replace h1 := of_decide_eq_true h1
    refine wc_rest [1, 3, 5, 6] [3, 5, 6] (l' := [(1, eI .i64 view), (3, eL 3 0), (5, eL 5 0), (6, eL 6 0)]) (H' := [(3, ⟨[cI .i64 s.e, cI .i64 s.v, cI .i64 s.l, .ints .u8 32 s.d], 25⟩), (5, ⟨[.ints .u8 32 D], 23⟩), (6, ⟨[cI .i64 0, cI .i64 0, cI .i64 0, .ints .u8 32 (List.replicate 32 0)], 25⟩)]) (by kernel_rfl) ?_
    refine wc_draw (n := 6) [(5, ⟨[.ints .u8 32 D], 23⟩), (6, ⟨[cI .i64 0, cI .i64 0, cI .i64 0, .ints .u8 32 (List.replicate 32 0)], 25⟩)] (by kernel_rfl) rfl (sub_of [5, 6] (by kernel_rfl)) (fun ρ0 => ?_)
    refine wa_takes (fuel := 3) [0, 1, 2] [3, 6, 11, 12, 13] (listed' := #[true, true, true, false, false, false]) (l' := [(3, eL 3 0), (6, eL 6 0), (11, eI .i64 view), (12, eA [.ints .u8 32 D]), (13, eL 3 2)]) (pk_then pk_body) rfl (by kernel_rfl) ?_
    refine wa_all [3] (by kernel_rfl) rfl (all1 ?_)
    refine wi_op rfl rfl (ot_eff (l' := [(3, eL 3 0), (6, eL 6 0), (11, eI .i64 view), (12, eA [.ints .u8 32 D]), (13, eL 3 2)]) (H' := [(3, ⟨[cI .i64 s.e, cI .i64 s.v, cI .i64 view, .ints .u8 32 s.d], 25⟩), (5, ⟨[.ints .u8 32 D], 23⟩), (6, ⟨[cI .i64 0, cI .i64 0, cI .i64 0, .ints .u8 32 (List.replicate 32 0)], 25⟩)]) (by kernel_rfl)) (sub_of [5, 6] (by kernel_rfl)) ?_
    refine wa_takes (fuel := 1) [4] [3, 6, 12, 14] (listed' := #[true, true, true, true, true, false]) (l' := [(3, eL 3 0), (6, eL 6 0), (12, eA [.ints .u8 32 D]), (14, eL 3 3)]) (pk_then pk_body) rfl (by kernel_rfl) ?_
    refine wa_all [5] (by kernel_rfl) rfl (all1 ?_)
    refine wi_op rfl rfl (ot_eff (l' := [(3, eL 3 0), (6, eL 6 0), (12, eA [.ints .u8 32 D]), (14, eL 3 3)]) (H' := [(3, ⟨[cI .i64 s.e, cI .i64 s.v, cI .i64 view, .ints .u8 32 D], 25⟩), (5, ⟨[.ints .u8 32 D], 23⟩), (6, ⟨[cI .i64 0, cI .i64 0, cI .i64 0, .ints .u8 32 (List.replicate 32 0)], 25⟩)]) (by kernel_rfl)) (sub_of [5, 6] (by kernel_rfl)) ?_
    refine wa_done (by kernel_rfl) ?_
    refine we_rest [3, 6] [3, 6] (l' := [(3, eL 3 0), (6, eL 6 0)]) (H' := [(3, ⟨[cI .i64 s.e, cI .i64 s.v, cI .i64 view, .ints .u8 32 D], 25⟩), (6, ⟨[cI .i64 0, cI .i64 0, cI .i64 0, .ints .u8 32 (List.replicate 32 0)], 25⟩)]) (by kernel_rfl) (by kernel_rfl) ?_
    refine we_then ?_
    refine wc_seq ?_
    refine wc_reg [0, 1] (by kernel_rfl) ?_
    refine wo_run [0, 1] [6] [6] (l' := [(6, eL 6 0)]) (H' := [(6, ⟨[cI .i64 s.e, cI .i64 s.v, cI .i64 view, .ints .u8 32 D], 25⟩)]) (by kernel_rfl) ?_
    refine wo_nil ?_
    refine we_then ?_
    refine wc_ret ?_
    refine we_ret (.inl rfl) (v := eA [cI .i64 s.e, cI .i64 s.v, cI .i64 view, .ints .u8 32 D]) (by kernel_rfl) ?_
    intro ρ' w' hf
    refine ⟨?_, hf.below noS⟩
    simp only [see, *, if_true, if_false]; rfl
  · replace h1 := of_decide_eq_false h1
    refine wc_skip ?_
    refine we_then ?_
    refine wc_seq ?_
    refine wc_reg [0, 1] (by kernel_rfl) ?_
    refine wo_run [0, 1] [6] [6] (l' := [(6, eL 6 0)]) (H' := [(6, ⟨[cI .i64 s.e, cI .i64 s.v, cI .i64 s.l, .ints .u8 32 s.d], 25⟩)]) (by kernel_rfl) ?_
    refine wo_nil ?_
    refine we_then ?_
    refine wc_ret ?_
    refine we_ret (.inl rfl) (v := eA [cI .i64 s.e, cI .i64 s.v, cI .i64 s.l, .ints .u8 32 s.d]) (by kernel_rfl) ?_
    intro ρ' w' hf
    refine ⟨?_, hf.below noS⟩
    simp only [see, *, if_true, if_false]; rfl

set_option maxHeartbeats 4000000 in
theorem vote_any (s : Safe) (hs : s.ok) (view justify : Int) (x : Bool) (w : World) (ρ : Nat → Nat) :
    Calls Try.prog 22 ([.agg [cI .i64 s.e, cI .i64 s.v, cI .i64 s.l, .ints .u8 32 s.d], sI .i64 view, sI .i64 justify, sB x].map (SV.conc ρ)).toArray w fun r w' => r = .returned (EV.conc ρ (eSB (vote s view justify x))) ∧ Below w.heap.size w w' := by
  refine calls_enter (vs := [.agg [cI .i64 s.e, cI .i64 s.v, cI .i64 s.l, .ints .u8 32 s.d], sI .i64 view, sI .i64 justify, sB x]) (N := 33) [] ρ Try.func22 rfl rfl (Nat.le_of_ble_eq_true rfl) (okv_agg (okc_one (okc_one (okc_one (okc_ints (hs) (okc_nil))))) (okv_a (okv_a (okv_a (okv_nil))))) noH noH2 ?_ _ rfl
  refine wc_seq ?_
  refine wc_reg [0, 1, 2] (by kernel_rfl) ?_
  refine wo_run [0] [1, 2, 3, 4] [4] (l' := [(1, eI .i64 view), (2, eI .i64 justify), (3, eB x), (4, eL 4 0)]) (H' := [(4, ⟨[cI .i64 s.e, cI .i64 s.v, cI .i64 s.l, .ints .u8 32 s.d], 25⟩)]) (by kernel_rfl) ?_
  refine wo_op rfl rfl (ot_alloc (d := 8) (cs := z25) rfl rfl z25_zero rfl z25_ok (fun _ => rfl)) ?_
  refine wo_run [2] [1, 2, 3, 4, 8] [4, 8] (l' := [(1, eI .i64 view), (2, eI .i64 justify), (3, eB x), (4, eL 4 0), (8, eL 8 0)]) (H' := [(4, ⟨[cI .i64 s.e, cI .i64 s.v, cI .i64 s.l, .ints .u8 32 s.d], 25⟩), (8, ⟨[cI .i64 0, cI .i64 0, cI .i64 0, .ints .u8 32 (List.replicate 32 0)], 25⟩)]) (by kernel_rfl) ?_
  refine wo_nil ?_
  refine we_then ?_
  refine wc_seq ?_
  refine wc_seq ?_
  refine wc_reg [0, 1, 2, 3, 4, 5, 6, 7, 8, 9, 10, 11, 12, 13] (by kernel_rfl) ?_
  refine wo_run [0, 1, 2, 3, 4] [1, 2, 3, 4, 8, 15] [4, 8] (l' := [(1, eI .i64 view), (2, eI .i64 justify), (3, eB x), (4, eL 4 0), (8, eL 8 0), (15, eB (decide (view ≤ s.v)))]) (H' := [(4, ⟨[cI .i64 s.e, cI .i64 s.v, cI .i64 s.l, .ints .u8 32 s.d], 25⟩), (8, ⟨[cI .i64 0, cI .i64 0, cI .i64 0, .ints .u8 32 (List.replicate 32 0)], 25⟩)]) (by kernel_rfl) ?_
  refine wo_bool 15 rfl (fun h1 => ?_) (fun h1 => ?_)
  · replace h1 := of_decide_eq_true h1
    refine wo_run [5, 6, 7, 8, 9, 10, 11, 12, 13] [1, 4, 8, 24] [4, 8] (l' := [(1, eI .i64 view), (4, eL 4 0), (8, eL 8 0), (24, eB true)]) (H' := [(4, ⟨[cI .i64 s.e, cI .i64 s.v, cI .i64 s.l, .ints .u8 32 s.d], 25⟩), (8, ⟨[cI .i64 0, cI .i64 0, cI .i64 0, .ints .u8 32 (List.replicate 32 0)], 25⟩)]) (by kernel_rfl) ?_
    refine wo_nil ?_
    refine we_then ?_
    refine wc_true rfl ?_
    refine wc_seq ?_
    refine wc_reg [0, 1, 2] (by kernel_rfl) ?_
    refine wo_run [0, 1, 2] [8, 9] [8] (l' := [(8, eL 8 0), (9, eB false)]) (H' := [(8, ⟨[cI .i64 s.e, cI .i64 s.v, cI .i64 s.l, .ints .u8 32 s.d], 25⟩)]) (by kernel_rfl) ?_
    refine wo_nil ?_
    refine we_then ?_
    refine wc_ret ?_
    refine we_then_ret ?_
    refine we_ret (.inl rfl) (v := .t [.agg [cI .i64 s.e, cI .i64 s.v, cI .i64 s.l, .ints .u8 32 s.d], sB false]) (by kernel_rfl) ?_
    intro ρ' w' hf
    refine ⟨?_, hf.below noS⟩
    rw [show vote s view justify x = (s, false) from by unfold vote; rw [if_pos (by simp_all)]]
    rfl
  · replace h1 := of_decide_eq_false h1
    refine wo_run [5, 6, 7] [1, 2, 4, 8, 15, 18] [4, 8] (l' := [(1, eI .i64 view), (2, eI .i64 justify), (4, eL 4 0), (8, eL 8 0), (15, eB false), (18, eB (!x))]) (H' := [(4, ⟨[cI .i64 s.e, cI .i64 s.v, cI .i64 s.l, .ints .u8 32 s.d], 25⟩), (8, ⟨[cI .i64 0, cI .i64 0, cI .i64 0, .ints .u8 32 (List.replicate 32 0)], 25⟩)]) (by kernel_rfl) ?_
    refine wo_bool 18 rfl (fun h2 => ?_) (fun h2 => ?_)
    · replace h2 := not_t h2
      refine wo_run [8, 9, 10, 11, 12, 13] [1, 4, 8, 24] [4, 8] (l' := [(1, eI .i64 view), (4, eL 4 0), (8, eL 8 0), (24, eB (decide (justify ≤ s.l)))]) (H' := [(4, ⟨[cI .i64 s.e, cI .i64 s.v, cI .i64 s.l, .ints .u8 32 s.d], 25⟩), (8, ⟨[cI .i64 0, cI .i64 0, cI .i64 0, .ints .u8 32 (List.replicate 32 0)], 25⟩)]) (by kernel_rfl) ?_
      refine wo_nil ?_
      refine we_then ?_
      refine wc_cond rfl (fun h3 => ?_) (fun h3 => ?_)
      · replace h3 := of_decide_eq_true h3
        refine wc_seq ?_
        refine wc_reg [0, 1, 2] (by kernel_rfl) ?_
        refine wo_run [0, 1, 2] [8, 9] [8] (l' := [(8, eL 8 0), (9, eB false)]) (H' := [(8, ⟨[cI .i64 s.e, cI .i64 s.v, cI .i64 s.l, .ints .u8 32 s.d], 25⟩)]) (by kernel_rfl) ?_
        refine wo_nil ?_
        refine we_then ?_
        refine wc_ret ?_
        refine we_then_ret ?_
        refine we_ret (.inl rfl) (v := .t [.agg [cI .i64 s.e, cI .i64 s.v, cI .i64 s.l, .ints .u8 32 s.d], sB false]) (by kernel_rfl) ?_
        intro ρ' w' hf
        refine ⟨?_, hf.below noS⟩
        rw [show vote s view justify x = (s, false) from by unfold vote; rw [if_pos (by simp_all)]]
        rfl
      · replace h3 := of_decide_eq_false h3
        refine wc_skip ?_
        refine we_then ?_
        refine wc_seq ?_
        refine wc_reg [0, 1, 2, 3, 4] (by kernel_rfl) ?_
        refine wo_run [0, 1] [4, 8, 26, 27] [4, 8] (l' := [(4, eL 4 0), (8, eL 8 0), (26, eA [cI .i64 s.e, cI .i64 s.v, cI .i64 s.l, .ints .u8 32 s.d]), (27, eI .i64 view)]) (H' := [(4, ⟨[cI .i64 s.e, cI .i64 s.v, cI .i64 s.l, .ints .u8 32 s.d], 25⟩), (8, ⟨[cI .i64 0, cI .i64 0, cI .i64 0, .ints .u8 32 (List.replicate 32 0)], 25⟩)]) (by kernel_rfl) ?_
        refine wo_op rfl rfl (ot_call (vs := [.agg [cI .i64 s.e, cI .i64 s.v, cI .i64 s.l, .ints .u8 32 s.d], sI .i64 view]) rfl rfl rfl Try.func43 (by kernel_rfl) (by kernel_rfl) (by kernel_rfl) (eA [cI .i64 (giveUp s view).e, cI .i64 (giveUp s view).v, cI .i64 (giveUp s view).l, .ints .u8 32 ((giveUp s view).d)]) (okc_one (okc_one (okc_one (okc_ints (by (show Safe.ok _; repeat' (first | assumption | apply giveUp_ok | apply see_ok | apply vote_ok | apply doStep_ok | (simp [Safe.ok, Step.ok]; done)))) (okc_nil))))) (fun ρ w _ => giveUp_any s (hs) view w ρ)) ?_
        refine wo_op rfl rfl (ot_alloc (d := 10) (cs := z25) rfl rfl z25_zero rfl z25_ok (fun _ => rfl)) ?_
        refine wo_run [4] [4, 8, 10] [4, 8, 10] (l' := [(4, eL 4 0), (8, eL 8 0), (10, eL 10 0)]) (H' := [(4, ⟨[cI .i64 s.e, cI .i64 s.v, cI .i64 s.l, .ints .u8 32 s.d], 25⟩), (8, ⟨[cI .i64 0, cI .i64 0, cI .i64 0, .ints .u8 32 (List.replicate 32 0)], 25⟩), (10, ⟨[cI .i64 (giveUp s view).e, cI .i64 (giveUp s view).v, cI .i64 (giveUp s view).l, .ints .u8 32 ((giveUp s view).d)], 25⟩)]) (by kernel_rfl) ?_
        refine wo_nil ?_
        refine we_then ?_
        refine wc_seq ?_
        refine wc_draw (n := 6) [(4, ⟨[cI .i64 s.e, cI .i64 s.v, cI .i64 s.l, .ints .u8 32 s.d], 25⟩), (10, ⟨[cI .i64 (giveUp s view).e, cI .i64 (giveUp s view).v, cI .i64 (giveUp s view).l, .ints .u8 32 ((giveUp s view).d)], 25⟩)] (by kernel_rfl) rfl (sub_of [4, 10] (by kernel_rfl)) (fun ρ0 => ?_)
        refine wa_takes (fuel := 3) [0, 1, 2] [8, 29, 30, 31] (listed' := #[true, true, true, false, false, false]) (l' := [(8, eL 8 0), (29, eA [cI .i64 (giveUp s view).e, cI .i64 (giveUp s view).v, cI .i64 (giveUp s view).l, .ints .u8 32 ((giveUp s view).d)]), (30, eA [cI .i64 (giveUp s view).e, cI .i64 (giveUp s view).v, cI .i64 (giveUp s view).l, .ints .u8 32 ((giveUp s view).d)]), (31, eA [cI .i64 s.e, cI .i64 s.v, cI .i64 s.l, .ints .u8 32 s.d])]) (pk_then pk_body) rfl (by kernel_rfl) ?_
        refine wa_take 3 (pk_then pk_body) rfl (by kernel_rfl) rfl rfl (rd_eq (b := (((giveUp s view).e == s.e) && (((giveUp s view).v == s.v) && (((giveUp s view).l == s.l) && (((giveUp s view).d == s.d) && true))))) 9 (!(((giveUp s view).e == s.e) && (((giveUp s view).v == s.v) && (((giveUp s view).l == s.l) && (((giveUp s view).d == s.d) && true))))) rfl rfl rfl (by kernel_rfl) rfl (by kernel_rfl) (.inr ⟨rfl, rfl⟩)) ?_
        refine wa_all [4] (by kernel_rfl) rfl (all1 ?_)
        refine wi_op rfl rfl (ot_eff (l' := [(32, eB (!(((giveUp s view).e == s.e) && (((giveUp s view).v == s.v) && (((giveUp s view).l == s.l) && (((giveUp s view).d == s.d) && true)))))), (8, eL 8 0), (29, eA [cI .i64 (giveUp s view).e, cI .i64 (giveUp s view).v, cI .i64 (giveUp s view).l, .ints .u8 32 ((giveUp s view).d)]), (30, eA [cI .i64 (giveUp s view).e, cI .i64 (giveUp s view).v, cI .i64 (giveUp s view).l, .ints .u8 32 ((giveUp s view).d)]), (31, eA [cI .i64 s.e, cI .i64 s.v, cI .i64 s.l, .ints .u8 32 s.d])]) (H' := [(4, ⟨[cI .i64 s.e, cI .i64 s.v, cI .i64 s.l, .ints .u8 32 s.d], 25⟩), (8, ⟨[cI .i64 (giveUp s view).e, cI .i64 (giveUp s view).v, cI .i64 (giveUp s view).l, .ints .u8 32 ((giveUp s view).d)], 25⟩), (10, ⟨[cI .i64 (giveUp s view).e, cI .i64 (giveUp s view).v, cI .i64 (giveUp s view).l, .ints .u8 32 ((giveUp s view).d)], 25⟩)]) (by kernel_rfl)) (sub_of [4, 10] (by kernel_rfl)) ?_
        refine wa_takes (fuel := 0) [5] [8, 9] (listed' := #[true, true, true, true, true, true]) (l' := [(8, eL 8 0), (9, eB (!(((giveUp s view).e == s.e) && (((giveUp s view).v == s.v) && (((giveUp s view).l == s.l) && (((giveUp s view).d == s.d) && true))))))]) (pk_then pk_body) rfl (by kernel_rfl) ?_
        refine wa_done (by kernel_rfl) ?_
        refine we_rest [8, 9] [8] (l' := [(8, eL 8 0), (9, eB (!(((giveUp s view).e == s.e) && (((giveUp s view).v == s.v) && (((giveUp s view).l == s.l) && (((giveUp s view).d == s.d) && true))))))]) (H' := [(8, ⟨[cI .i64 (giveUp s view).e, cI .i64 (giveUp s view).v, cI .i64 (giveUp s view).l, .ints .u8 32 ((giveUp s view).d)], 25⟩)]) (by kernel_rfl) (by kernel_rfl) ?_
        refine we_then ?_
        refine wc_ret ?_
        refine we_ret (.inl rfl) (v := .t [.agg [cI .i64 (giveUp s view).e, cI .i64 (giveUp s view).v, cI .i64 (giveUp s view).l, .ints .u8 32 ((giveUp s view).d)], sB (!(((giveUp s view).e == s.e) && (((giveUp s view).v == s.v) && (((giveUp s view).l == s.l) && (((giveUp s view).d == s.d) && true)))))]) (by kernel_rfl) ?_
        intro ρ' w' hf
        refine ⟨?_, hf.below noS⟩
        have hv : view > s.v := by omega
        rw [show vote s view justify x = (giveUp s view, true) from by unfold vote; rw [if_neg (by simp_all)]; simp only [giveUp, if_pos hv]]
        rw [giveUp_ne s view hv]
        rfl
    · replace h2 := not_f h2
      refine wo_run [8, 9, 10, 11, 12, 13] [1, 4, 8, 24] [4, 8] (l' := [(1, eI .i64 view), (4, eL 4 0), (8, eL 8 0), (24, eB false)]) (H' := [(4, ⟨[cI .i64 s.e, cI .i64 s.v, cI .i64 s.l, .ints .u8 32 s.d], 25⟩), (8, ⟨[cI .i64 0, cI .i64 0, cI .i64 0, .ints .u8 32 (List.replicate 32 0)], 25⟩)]) (by kernel_rfl) ?_
      refine wo_nil ?_
      refine we_then ?_
      refine wc_false rfl ?_
      refine wc_skip ?_
      refine we_then ?_
      refine wc_seq ?_
      refine wc_reg [0, 1, 2, 3, 4] (by kernel_rfl) ?_
      refine wo_run [0, 1] [4, 8, 26, 27] [4, 8] (l' := [(4, eL 4 0), (8, eL 8 0), (26, eA [cI .i64 s.e, cI .i64 s.v, cI .i64 s.l, .ints .u8 32 s.d]), (27, eI .i64 view)]) (H' := [(4, ⟨[cI .i64 s.e, cI .i64 s.v, cI .i64 s.l, .ints .u8 32 s.d], 25⟩), (8, ⟨[cI .i64 0, cI .i64 0, cI .i64 0, .ints .u8 32 (List.replicate 32 0)], 25⟩)]) (by kernel_rfl) ?_
      refine wo_op rfl rfl (ot_call (vs := [.agg [cI .i64 s.e, cI .i64 s.v, cI .i64 s.l, .ints .u8 32 s.d], sI .i64 view]) rfl rfl rfl Try.func43 (by kernel_rfl) (by kernel_rfl) (by kernel_rfl) (eA [cI .i64 (giveUp s view).e, cI .i64 (giveUp s view).v, cI .i64 (giveUp s view).l, .ints .u8 32 ((giveUp s view).d)]) (okc_one (okc_one (okc_one (okc_ints (by (show Safe.ok _; repeat' (first | assumption | apply giveUp_ok | apply see_ok | apply vote_ok | apply doStep_ok | (simp [Safe.ok, Step.ok]; done)))) (okc_nil))))) (fun ρ w _ => giveUp_any s (hs) view w ρ)) ?_
      refine wo_op rfl rfl (ot_alloc (d := 10) (cs := z25) rfl rfl z25_zero rfl z25_ok (fun _ => rfl)) ?_
      refine wo_run [4] [4, 8, 10] [4, 8, 10] (l' := [(4, eL 4 0), (8, eL 8 0), (10, eL 10 0)]) (H' := [(4, ⟨[cI .i64 s.e, cI .i64 s.v, cI .i64 s.l, .ints .u8 32 s.d], 25⟩), (8, ⟨[cI .i64 0, cI .i64 0, cI .i64 0, .ints .u8 32 (List.replicate 32 0)], 25⟩), (10, ⟨[cI .i64 (giveUp s view).e, cI .i64 (giveUp s view).v, cI .i64 (giveUp s view).l, .ints .u8 32 ((giveUp s view).d)], 25⟩)]) (by kernel_rfl) ?_
      refine wo_nil ?_
      refine we_then ?_
      refine wc_seq ?_
      refine wc_draw (n := 6) [(4, ⟨[cI .i64 s.e, cI .i64 s.v, cI .i64 s.l, .ints .u8 32 s.d], 25⟩), (10, ⟨[cI .i64 (giveUp s view).e, cI .i64 (giveUp s view).v, cI .i64 (giveUp s view).l, .ints .u8 32 ((giveUp s view).d)], 25⟩)] (by kernel_rfl) rfl (sub_of [4, 10] (by kernel_rfl)) (fun ρ0 => ?_)
      refine wa_takes (fuel := 3) [0, 1, 2] [8, 29, 30, 31] (listed' := #[true, true, true, false, false, false]) (l' := [(8, eL 8 0), (29, eA [cI .i64 (giveUp s view).e, cI .i64 (giveUp s view).v, cI .i64 (giveUp s view).l, .ints .u8 32 ((giveUp s view).d)]), (30, eA [cI .i64 (giveUp s view).e, cI .i64 (giveUp s view).v, cI .i64 (giveUp s view).l, .ints .u8 32 ((giveUp s view).d)]), (31, eA [cI .i64 s.e, cI .i64 s.v, cI .i64 s.l, .ints .u8 32 s.d])]) (pk_then pk_body) rfl (by kernel_rfl) ?_
      refine wa_take 3 (pk_then pk_body) rfl (by kernel_rfl) rfl rfl (rd_eq (b := (((giveUp s view).e == s.e) && (((giveUp s view).v == s.v) && (((giveUp s view).l == s.l) && (((giveUp s view).d == s.d) && true))))) 9 (!(((giveUp s view).e == s.e) && (((giveUp s view).v == s.v) && (((giveUp s view).l == s.l) && (((giveUp s view).d == s.d) && true))))) rfl rfl rfl (by kernel_rfl) rfl (by kernel_rfl) (.inr ⟨rfl, rfl⟩)) ?_
      refine wa_all [4] (by kernel_rfl) rfl (all1 ?_)
      refine wi_op rfl rfl (ot_eff (l' := [(32, eB (!(((giveUp s view).e == s.e) && (((giveUp s view).v == s.v) && (((giveUp s view).l == s.l) && (((giveUp s view).d == s.d) && true)))))), (8, eL 8 0), (29, eA [cI .i64 (giveUp s view).e, cI .i64 (giveUp s view).v, cI .i64 (giveUp s view).l, .ints .u8 32 ((giveUp s view).d)]), (30, eA [cI .i64 (giveUp s view).e, cI .i64 (giveUp s view).v, cI .i64 (giveUp s view).l, .ints .u8 32 ((giveUp s view).d)]), (31, eA [cI .i64 s.e, cI .i64 s.v, cI .i64 s.l, .ints .u8 32 s.d])]) (H' := [(4, ⟨[cI .i64 s.e, cI .i64 s.v, cI .i64 s.l, .ints .u8 32 s.d], 25⟩), (8, ⟨[cI .i64 (giveUp s view).e, cI .i64 (giveUp s view).v, cI .i64 (giveUp s view).l, .ints .u8 32 ((giveUp s view).d)], 25⟩), (10, ⟨[cI .i64 (giveUp s view).e, cI .i64 (giveUp s view).v, cI .i64 (giveUp s view).l, .ints .u8 32 ((giveUp s view).d)], 25⟩)]) (by kernel_rfl)) (sub_of [4, 10] (by kernel_rfl)) ?_
      refine wa_takes (fuel := 0) [5] [8, 9] (listed' := #[true, true, true, true, true, true]) (l' := [(8, eL 8 0), (9, eB (!(((giveUp s view).e == s.e) && (((giveUp s view).v == s.v) && (((giveUp s view).l == s.l) && (((giveUp s view).d == s.d) && true))))))]) (pk_then pk_body) rfl (by kernel_rfl) ?_
      refine wa_done (by kernel_rfl) ?_
      refine we_rest [8, 9] [8] (l' := [(8, eL 8 0), (9, eB (!(((giveUp s view).e == s.e) && (((giveUp s view).v == s.v) && (((giveUp s view).l == s.l) && (((giveUp s view).d == s.d) && true))))))]) (H' := [(8, ⟨[cI .i64 (giveUp s view).e, cI .i64 (giveUp s view).v, cI .i64 (giveUp s view).l, .ints .u8 32 ((giveUp s view).d)], 25⟩)]) (by kernel_rfl) (by kernel_rfl) ?_
      refine we_then ?_
      refine wc_ret ?_
      refine we_ret (.inl rfl) (v := .t [.agg [cI .i64 (giveUp s view).e, cI .i64 (giveUp s view).v, cI .i64 (giveUp s view).l, .ints .u8 32 ((giveUp s view).d)], sB (!(((giveUp s view).e == s.e) && (((giveUp s view).v == s.v) && (((giveUp s view).l == s.l) && (((giveUp s view).d == s.d) && true)))))]) (by kernel_rfl) ?_
      intro ρ' w' hf
      refine ⟨?_, hf.below noS⟩
      have hv : view > s.v := by omega
      rw [show vote s view justify x = (giveUp s view, true) from by unfold vote; rw [if_neg (by simp_all)]; simp only [giveUp, if_pos hv]]
      rw [giveUp_ne s view hv]
      rfl

set_option maxHeartbeats 4000000 in
theorem rsee_any (s : Safe) (hs : s.ok) (view : Int) (D : List Int) (hD : D.length = 32) (w : World) (ρ : Nat → Nat) :
    Calls Try.prog 17 ([.agg [cI .i64 s.e, cI .i64 s.v, cI .i64 s.l, .ints .u8 32 s.d], sI .i64 view, .agg [.ints .u8 32 D]].map (SV.conc ρ)).toArray w fun r w' => r = .returned (EV.conc ρ (eS (see s view D))) ∧ Below w.heap.size w w' := by
  refine calls_enter (vs := [.agg [cI .i64 s.e, cI .i64 s.v, cI .i64 s.l, .ints .u8 32 s.d], sI .i64 view, .agg [.ints .u8 32 D]]) (N := 19) [] ρ Try.func17 rfl rfl (Nat.le_of_ble_eq_true rfl) (okv_agg (okc_one (okc_one (okc_one (okc_ints (hs) (okc_nil))))) (okv_a (okv_agg (okc_ints (hD) (okc_nil)) (okv_nil)))) noH noH2 ?_ _ rfl
  refine wc_seq ?_
  refine wc_reg [0, 1, 2] (by kernel_rfl) ?_
  refine wo_run [0, 1] [1, 3, 5] [3, 5] (l' := [(1, eI .i64 view), (3, eL 3 0), (5, eL 5 0)]) (H' := [(3, ⟨[cI .i64 s.e, cI .i64 s.v, cI .i64 s.l, .ints .u8 32 s.d], 29⟩), (5, ⟨[.ints .u8 32 D], 23⟩)]) (by kernel_rfl) ?_
  refine wo_op rfl rfl (ot_alloc (d := 6) (cs := z29) rfl rfl z29_zero rfl z29_ok (fun _ => rfl)) ?_
  refine wo_nil ?_
  refine we_then ?_
  refine wc_seq ?_
  refine wc_seq ?_
  refine wc_reg [0, 1, 2, 3] (by kernel_rfl) ?_
  refine wo_run [0, 1, 2, 3] [1, 3, 5, 6, 10] [3, 5, 6] (l' := [(1, eI .i64 view), (3, eL 3 0), (5, eL 5 0), (6, eL 6 0), (10, eB (decide (view > s.l)))]) (H' := [(3, ⟨[cI .i64 s.e, cI .i64 s.v, cI .i64 s.l, .ints .u8 32 s.d], 29⟩), (5, ⟨[.ints .u8 32 D], 23⟩), (6, ⟨[cI .i64 0, cI .i64 0, cI .i64 0, .ints .u8 32 (List.replicate 32 0)], 29⟩)]) (by kernel_rfl) ?_
  refine wo_nil ?_
  refine we_then ?_
  refine wc_cond rfl (fun h1 => ?_) (fun h1 => ?_)
  · replace h1 := of_decide_eq_true h1
    refine wc_seq ?_
    refine wc_reg [0, 1, 2, 3, 4, 5, 6, 7] (by kernel_rfl) ?_
    refine wo_run [0, 1, 2, 3, 4, 5] [6, 12, 14, 15, 16] [6] (l' := [(6, eL 6 0), (12, eI .i64 s.e), (14, eI .i64 s.v), (15, eI .i64 view), (16, eA [.ints .u8 32 D])]) (H' := [(6, ⟨[cI .i64 0, cI .i64 0, cI .i64 0, .ints .u8 32 (List.replicate 32 0)], 29⟩)]) (by kernel_rfl) ?_
    refine wo_op rfl rfl (ot_rd rfl (rd_build (zc := z29) [cI .i64 s.e, cI .i64 s.v, cI .i64 view, .ints .u8 32 D] rfl z29_zero' z29_ok (fun _ => rfl) (by kernel_rfl) (by kernel_rfl))) ?_
    refine wo_run [7] [6] [6] (l' := [(6, eL 6 0)]) (H' := [(6, ⟨[cI .i64 s.e, cI .i64 s.v, cI .i64 view, .ints .u8 32 D], 29⟩)]) (by kernel_rfl) ?_
    refine wo_nil ?_
    refine we_then ?_
    refine wc_ret ?_
    refine we_then_ret ?_
    refine we_ret (.inl rfl) (v := eA [cI .i64 s.e, cI .i64 s.v, cI .i64 view, .ints .u8 32 D]) (by kernel_rfl) ?_
    intro ρ' w' hf
    refine ⟨?_, hf.below noS⟩
    simp only [see, *, if_true, if_false]; rfl
  · replace h1 := of_decide_eq_false h1
    refine wc_skip ?_
    refine we_then ?_
    refine wc_seq ?_
    refine wc_reg [0, 1] (by kernel_rfl) ?_
    refine wo_run [0, 1] [6] [6] (l' := [(6, eL 6 0)]) (H' := [(6, ⟨[cI .i64 s.e, cI .i64 s.v, cI .i64 s.l, .ints .u8 32 s.d], 29⟩)]) (by kernel_rfl) ?_
    refine wo_nil ?_
    refine we_then ?_
    refine wc_ret ?_
    refine we_ret (.inl rfl) (v := eA [cI .i64 s.e, cI .i64 s.v, cI .i64 s.l, .ints .u8 32 s.d]) (by kernel_rfl) ?_
    intro ρ' w' hf
    refine ⟨?_, hf.below noS⟩
    simp only [see, *, if_true, if_false]; rfl

set_option maxHeartbeats 4000000 in
theorem rgiveUp_any (s : Safe) (hs : s.ok) (view : Int) (w : World) (ρ : Nat → Nat) :
    Calls Try.prog 19 ([.agg [cI .i64 s.e, cI .i64 s.v, cI .i64 s.l, .ints .u8 32 s.d], sI .i64 view].map (SV.conc ρ)).toArray w fun r w' => r = .returned (EV.conc ρ (eS (giveUp s view))) ∧ Below w.heap.size w w' := by
  refine calls_enter (vs := [.agg [cI .i64 s.e, cI .i64 s.v, cI .i64 s.l, .ints .u8 32 s.d], sI .i64 view]) (N := 18) [] ρ Try.func19 rfl rfl (Nat.le_of_ble_eq_true rfl) (okv_agg (okc_one (okc_one (okc_one (okc_ints (hs) (okc_nil))))) (okv_a (okv_nil))) noH noH2 ?_ _ rfl
  refine wc_seq ?_
  refine wc_reg [0, 1] (by kernel_rfl) ?_
  refine wo_run [0] [1, 2] [2] (l' := [(1, eI .i64 view), (2, eL 2 0)]) (H' := [(2, ⟨[cI .i64 s.e, cI .i64 s.v, cI .i64 s.l, .ints .u8 32 s.d], 29⟩)]) (by kernel_rfl) ?_
  refine wo_op rfl rfl (ot_alloc (d := 4) (cs := z29) rfl rfl z29_zero rfl z29_ok (fun _ => rfl)) ?_
  refine wo_nil ?_
  refine we_then ?_
  refine wc_seq ?_
  refine wc_seq ?_
  refine wc_reg [0, 1, 2, 3] (by kernel_rfl) ?_
  refine wo_run [0, 1, 2, 3] [1, 2, 4, 8] [2, 4] (l' := [(1, eI .i64 view), (2, eL 2 0), (4, eL 4 0), (8, eB (decide (view > s.v)))]) (H' := [(2, ⟨[cI .i64 s.e, cI .i64 s.v, cI .i64 s.l, .ints .u8 32 s.d], 29⟩), (4, ⟨[cI .i64 0, cI .i64 0, cI .i64 0, .ints .u8 32 (List.replicate 32 0)], 29⟩)]) (by kernel_rfl) ?_
  refine wo_nil ?_
  refine we_then ?_
  refine wc_cond rfl (fun h1 => ?_) (fun h1 => ?_)
  · replace h1 := of_decide_eq_true h1
    refine wc_seq ?_
    refine wc_reg [0, 1, 2, 3, 4, 5, 6, 7, 8] (by kernel_rfl) ?_
    refine wo_run [0, 1, 2, 3, 4, 5, 6] [4, 10, 11, 13, 15] [4] (l' := [(4, eL 4 0), (10, eI .i64 s.e), (11, eI .i64 view), (13, eI .i64 s.l), (15, eA [.ints .u8 32 s.d])]) (H' := [(4, ⟨[cI .i64 0, cI .i64 0, cI .i64 0, .ints .u8 32 (List.replicate 32 0)], 29⟩)]) (by kernel_rfl) ?_
    refine wo_op rfl rfl (ot_rd rfl (rd_build (zc := z29) [cI .i64 s.e, cI .i64 view, cI .i64 s.l, .ints .u8 32 s.d] rfl z29_zero' z29_ok (fun _ => rfl) (by kernel_rfl) (by kernel_rfl))) ?_
    refine wo_run [8] [4] [4] (l' := [(4, eL 4 0)]) (H' := [(4, ⟨[cI .i64 s.e, cI .i64 view, cI .i64 s.l, .ints .u8 32 s.d], 29⟩)]) (by kernel_rfl) ?_
    refine wo_nil ?_
    refine we_then ?_
    refine wc_ret ?_
    refine we_then_ret ?_
    refine we_ret (.inl rfl) (v := eA [cI .i64 s.e, cI .i64 view, cI .i64 s.l, .ints .u8 32 s.d]) (by kernel_rfl) ?_
    intro ρ' w' hf
    refine ⟨?_, hf.below noS⟩
    simp only [giveUp, *, if_true, if_false]; rfl
  · replace h1 := of_decide_eq_false h1
    refine wc_skip ?_
    refine we_then ?_
    refine wc_seq ?_
    refine wc_reg [0, 1] (by kernel_rfl) ?_
    refine wo_run [0, 1] [4] [4] (l' := [(4, eL 4 0)]) (H' := [(4, ⟨[cI .i64 s.e, cI .i64 s.v, cI .i64 s.l, .ints .u8 32 s.d], 29⟩)]) (by kernel_rfl) ?_
    refine wo_nil ?_
    refine we_then ?_
    refine wc_ret ?_
    refine we_ret (.inl rfl) (v := eA [cI .i64 s.e, cI .i64 s.v, cI .i64 s.l, .ints .u8 32 s.d]) (by kernel_rfl) ?_
    intro ρ' w' hf
    refine ⟨?_, hf.below noS⟩
    simp only [giveUp, *, if_true, if_false]; rfl

set_option maxHeartbeats 4000000 in
theorem rvote_any (s : Safe) (hs : s.ok) (view justify : Int) (x : Bool) (w : World) (ρ : Nat → Nat) :
    Calls Try.prog 18 ([.agg [cI .i64 s.e, cI .i64 s.v, cI .i64 s.l, .ints .u8 32 s.d], sI .i64 view, sI .i64 justify, sB x].map (SV.conc ρ)).toArray w fun r w' => r = .returned (EV.conc ρ (eSB (vote s view justify x))) ∧ Below w.heap.size w w' := by
  refine calls_enter (vs := [.agg [cI .i64 s.e, cI .i64 s.v, cI .i64 s.l, .ints .u8 32 s.d], sI .i64 view, sI .i64 justify, sB x]) (N := 32) [] ρ Try.func18 rfl rfl (Nat.le_of_ble_eq_true rfl) (okv_agg (okc_one (okc_one (okc_one (okc_ints (hs) (okc_nil))))) (okv_a (okv_a (okv_a (okv_nil))))) noH noH2 ?_ _ rfl
  refine wc_seq ?_
  refine wc_reg [0, 1, 2] (by kernel_rfl) ?_
  refine wo_run [0] [1, 2, 3, 4] [4] (l' := [(1, eI .i64 view), (2, eI .i64 justify), (3, eB x), (4, eL 4 0)]) (H' := [(4, ⟨[cI .i64 s.e, cI .i64 s.v, cI .i64 s.l, .ints .u8 32 s.d], 29⟩)]) (by kernel_rfl) ?_
  refine wo_op rfl rfl (ot_alloc (d := 8) (cs := z29) rfl rfl z29_zero rfl z29_ok (fun _ => rfl)) ?_
  refine wo_run [2] [1, 2, 3, 4, 8] [4, 8] (l' := [(1, eI .i64 view), (2, eI .i64 justify), (3, eB x), (4, eL 4 0), (8, eL 8 0)]) (H' := [(4, ⟨[cI .i64 s.e, cI .i64 s.v, cI .i64 s.l, .ints .u8 32 s.d], 29⟩), (8, ⟨[cI .i64 0, cI .i64 0, cI .i64 0, .ints .u8 32 (List.replicate 32 0)], 29⟩)]) (by kernel_rfl) ?_
  refine wo_nil ?_
  refine we_then ?_
  refine wc_seq ?_
  refine wc_seq ?_
  refine wc_reg [0, 1, 2, 3, 4, 5, 6, 7, 8, 9, 10, 11, 12] (by kernel_rfl) ?_
  refine wo_run [0, 1, 2, 3, 4] [1, 2, 3, 4, 8, 14] [4, 8] (l' := [(1, eI .i64 view), (2, eI .i64 justify), (3, eB x), (4, eL 4 0), (8, eL 8 0), (14, eB (decide (view > s.v)))]) (H' := [(4, ⟨[cI .i64 s.e, cI .i64 s.v, cI .i64 s.l, .ints .u8 32 s.d], 29⟩), (8, ⟨[cI .i64 0, cI .i64 0, cI .i64 0, .ints .u8 32 (List.replicate 32 0)], 29⟩)]) (by kernel_rfl) ?_
  refine wo_bool 14 rfl (fun h1 => ?_) (fun h1 => ?_)
  · replace h1 := of_decide_eq_true h1
    refine wo_run [5, 6] [1, 2, 4, 8, 14, 16] [4, 8] (l' := [(1, eI .i64 view), (2, eI .i64 justify), (4, eL 4 0), (8, eL 8 0), (14, eB true), (16, eB x)]) (H' := [(4, ⟨[cI .i64 s.e, cI .i64 s.v, cI .i64 s.l, .ints .u8 32 s.d], 29⟩), (8, ⟨[cI .i64 0, cI .i64 0, cI .i64 0, .ints .u8 32 (List.replicate 32 0)], 29⟩)]) (by kernel_rfl) ?_
    refine wo_bool 16 rfl (fun h2 => ?_) (fun h2 => ?_)
    · refine wo_run [7, 8, 9, 10, 11, 12] [1, 4, 8, 22] [4, 8] (l' := [(1, eI .i64 view), (4, eL 4 0), (8, eL 8 0), (22, eB true)]) (H' := [(4, ⟨[cI .i64 s.e, cI .i64 s.v, cI .i64 s.l, .ints .u8 32 s.d], 29⟩), (8, ⟨[cI .i64 0, cI .i64 0, cI .i64 0, .ints .u8 32 (List.replicate 32 0)], 29⟩)]) (by kernel_rfl) ?_
      refine wo_nil ?_
      refine we_then ?_
      refine wc_true rfl ?_
      refine wc_seq ?_
      refine wc_reg [0, 1, 2, 3, 4, 5, 6, 7, 8, 9] (by kernel_rfl) ?_
      refine wo_run [0, 1, 2, 3, 4, 5, 6] [8, 24, 25, 27, 29] [8] (l' := [(8, eL 8 0), (24, eI .i64 s.e), (25, eI .i64 view), (27, eI .i64 s.l), (29, eA [.ints .u8 32 s.d])]) (H' := [(8, ⟨[cI .i64 0, cI .i64 0, cI .i64 0, .ints .u8 32 (List.replicate 32 0)], 29⟩)]) (by kernel_rfl) ?_
      refine wo_op rfl rfl (ot_rd rfl (rd_build (zc := z29) [cI .i64 s.e, cI .i64 view, cI .i64 s.l, .ints .u8 32 s.d] rfl z29_zero' z29_ok (fun _ => rfl) (by kernel_rfl) (by kernel_rfl))) ?_
      refine wo_run [8, 9] [8, 9] [8] (l' := [(8, eL 8 0), (9, eB true)]) (H' := [(8, ⟨[cI .i64 s.e, cI .i64 view, cI .i64 s.l, .ints .u8 32 s.d], 29⟩)]) (by kernel_rfl) ?_
      refine wo_nil ?_
      refine we_then ?_
      refine wc_ret ?_
      refine we_then_ret ?_
      refine we_ret (.inl rfl) (v := .t [.agg [cI .i64 s.e, cI .i64 view, cI .i64 s.l, .ints .u8 32 s.d], sB true]) (by kernel_rfl) ?_
      intro ρ' w' hf
      refine ⟨?_, hf.below noS⟩
      rw [show vote s view justify x = (⟨s.e, view, s.l, s.d⟩, true) from by unfold vote; rw [if_neg (by simp_all)]]
      rfl
    · refine wo_run [7, 8, 9, 10, 11, 12] [1, 4, 8, 22] [4, 8] (l' := [(1, eI .i64 view), (4, eL 4 0), (8, eL 8 0), (22, eB (decide (justify > s.l)))]) (H' := [(4, ⟨[cI .i64 s.e, cI .i64 s.v, cI .i64 s.l, .ints .u8 32 s.d], 29⟩), (8, ⟨[cI .i64 0, cI .i64 0, cI .i64 0, .ints .u8 32 (List.replicate 32 0)], 29⟩)]) (by kernel_rfl) ?_
      refine wo_nil ?_
      refine we_then ?_
      refine wc_cond rfl (fun h3 => ?_) (fun h3 => ?_)
      · replace h3 := of_decide_eq_true h3
        refine wc_seq ?_
        refine wc_reg [0, 1, 2, 3, 4, 5, 6, 7, 8, 9] (by kernel_rfl) ?_
        refine wo_run [0, 1, 2, 3, 4, 5, 6] [8, 24, 25, 27, 29] [8] (l' := [(8, eL 8 0), (24, eI .i64 s.e), (25, eI .i64 view), (27, eI .i64 s.l), (29, eA [.ints .u8 32 s.d])]) (H' := [(8, ⟨[cI .i64 0, cI .i64 0, cI .i64 0, .ints .u8 32 (List.replicate 32 0)], 29⟩)]) (by kernel_rfl) ?_
        refine wo_op rfl rfl (ot_rd rfl (rd_build (zc := z29) [cI .i64 s.e, cI .i64 view, cI .i64 s.l, .ints .u8 32 s.d] rfl z29_zero' z29_ok (fun _ => rfl) (by kernel_rfl) (by kernel_rfl))) ?_
        refine wo_run [8, 9] [8, 9] [8] (l' := [(8, eL 8 0), (9, eB true)]) (H' := [(8, ⟨[cI .i64 s.e, cI .i64 view, cI .i64 s.l, .ints .u8 32 s.d], 29⟩)]) (by kernel_rfl) ?_
        refine wo_nil ?_
        refine we_then ?_
        refine wc_ret ?_
        refine we_then_ret ?_
        refine we_ret (.inl rfl) (v := .t [.agg [cI .i64 s.e, cI .i64 view, cI .i64 s.l, .ints .u8 32 s.d], sB true]) (by kernel_rfl) ?_
        intro ρ' w' hf
        refine ⟨?_, hf.below noS⟩
        rw [show vote s view justify x = (⟨s.e, view, s.l, s.d⟩, true) from by unfold vote; rw [if_neg (by simp_all)]]
        rfl
      · replace h3 := of_decide_eq_false h3
        refine wc_skip ?_
        refine we_then ?_
        refine wc_seq ?_
        refine wc_reg [0, 1, 2] (by kernel_rfl) ?_
        refine wo_run [0, 1, 2] [8, 9] [8] (l' := [(8, eL 8 0), (9, eB false)]) (H' := [(8, ⟨[cI .i64 s.e, cI .i64 s.v, cI .i64 s.l, .ints .u8 32 s.d], 29⟩)]) (by kernel_rfl) ?_
        refine wo_nil ?_
        refine we_then ?_
        refine wc_ret ?_
        refine we_ret (.inl rfl) (v := .t [.agg [cI .i64 s.e, cI .i64 s.v, cI .i64 s.l, .ints .u8 32 s.d], sB false]) (by kernel_rfl) ?_
        intro ρ' w' hf
        refine ⟨?_, hf.below noS⟩
        rw [show vote s view justify x = (s, false) from by unfold vote; rw [if_pos (by simp_all)]]
        rfl
  · replace h1 := of_decide_eq_false h1
    refine wo_run [5, 6, 7, 8, 9, 10, 11, 12] [1, 4, 8, 22] [4, 8] (l' := [(1, eI .i64 view), (4, eL 4 0), (8, eL 8 0), (22, eB false)]) (H' := [(4, ⟨[cI .i64 s.e, cI .i64 s.v, cI .i64 s.l, .ints .u8 32 s.d], 29⟩), (8, ⟨[cI .i64 0, cI .i64 0, cI .i64 0, .ints .u8 32 (List.replicate 32 0)], 29⟩)]) (by kernel_rfl) ?_
    refine wo_nil ?_
    refine we_then ?_
    refine wc_false rfl ?_
    refine wc_skip ?_
    refine we_then ?_
    refine wc_seq ?_
    refine wc_reg [0, 1, 2] (by kernel_rfl) ?_
    refine wo_run [0, 1, 2] [8, 9] [8] (l' := [(8, eL 8 0), (9, eB false)]) (H' := [(8, ⟨[cI .i64 s.e, cI .i64 s.v, cI .i64 s.l, .ints .u8 32 s.d], 29⟩)]) (by kernel_rfl) ?_
    refine wo_nil ?_
    refine we_then ?_
    refine wc_ret ?_
    refine we_ret (.inl rfl) (v := .t [.agg [cI .i64 s.e, cI .i64 s.v, cI .i64 s.l, .ints .u8 32 s.d], sB false]) (by kernel_rfl) ?_
    intro ρ' w' hf
    refine ⟨?_, hf.below noS⟩
    rw [show vote s view justify x = (s, false) from by unfold vote; rw [if_pos (by simp_all)]]
    rfl

set_option maxHeartbeats 4000000 in
theorem same_any (s : Safe) (hs : s.ok) (t : Safe) (ht : t.ok) (w : World) (ρ : Nat → Nat) :
    Calls Try.prog 21 ([.agg [cI .i64 s.e, cI .i64 s.v, cI .i64 s.l, .ints .u8 32 s.d], .agg [cI .i64 t.e, cI .i64 t.v, cI .i64 t.l, .ints .u8 32 t.d]].map (SV.conc ρ)).toArray w fun r w' => r = .returned (EV.conc ρ (eB (safeEq s t))) ∧ Below w.heap.size w w' := by
  refine calls_enter (vs := [.agg [cI .i64 s.e, cI .i64 s.v, cI .i64 s.l, .ints .u8 32 s.d], .agg [cI .i64 t.e, cI .i64 t.v, cI .i64 t.l, .ints .u8 32 t.d]]) (N := 31) [] ρ Try.func21 rfl rfl (Nat.le_of_ble_eq_true rfl) (okv_agg (okc_one (okc_one (okc_one (okc_ints (hs) (okc_nil))))) (okv_agg (okc_one (okc_one (okc_one (okc_ints (ht) (okc_nil))))) (okv_nil))) noH noH2 ?_ _ rfl
  refine wc_seq ?_
  refine wc_reg [0, 1, 2] (by kernel_rfl) ?_
  refine wo_run [0, 1, 2] [2, 3] [2, 3] (l' := [(2, eL 2 0), (3, eL 3 0)]) (H' := [(2, ⟨[cI .i64 s.e, cI .i64 s.v, cI .i64 s.l, .ints .u8 32 s.d], 25⟩), (3, ⟨[cI .i64 t.e, cI .i64 t.v, cI .i64 t.l, .ints .u8 32 t.d], 29⟩)]) (by kernel_rfl) ?_
  refine wo_nil ?_
  refine we_then ?_
  refine wc_seq ?_
  refine wc_reg [0, 1, 2, 3, 4, 5, 6, 7, 8, 9, 10, 11, 12, 13, 14, 15, 16, 17, 18, 19, 20, 21, 22, 23, 24, 25, 26] (by kernel_rfl) ?_
  refine wo_run [0, 1, 2, 3, 4, 5] [2, 3, 10] [2, 3] (l' := [(2, eL 2 0), (3, eL 3 0), (10, eB (s.e == t.e))]) (H' := [(2, ⟨[cI .i64 s.e, cI .i64 s.v, cI .i64 s.l, .ints .u8 32 s.d], 25⟩), (3, ⟨[cI .i64 t.e, cI .i64 t.v, cI .i64 t.l, .ints .u8 32 t.d], 29⟩)]) (by kernel_rfl) ?_
  refine wo_bool 10 rfl (fun h1 => ?_) (fun h1 => ?_)
  · replace h1 := eq_of_beq h1
    refine wo_run [6, 7, 8, 9, 10, 11, 12] [2, 3, 17] [2, 3] (l' := [(2, eL 2 0), (3, eL 3 0), (17, eB (s.v == t.v))]) (H' := [(2, ⟨[cI .i64 s.e, cI .i64 s.v, cI .i64 s.l, .ints .u8 32 s.d], 25⟩), (3, ⟨[cI .i64 t.e, cI .i64 t.v, cI .i64 t.l, .ints .u8 32 t.d], 29⟩)]) (by kernel_rfl) ?_
    refine wo_bool 17 rfl (fun h2 => ?_) (fun h2 => ?_)
    · replace h2 := eq_of_beq h2
      refine wo_run [13, 14, 15, 16, 17, 18, 19] [2, 3, 24] [2, 3] (l' := [(2, eL 2 0), (3, eL 3 0), (24, eB (s.l == t.l))]) (H' := [(2, ⟨[cI .i64 s.e, cI .i64 s.v, cI .i64 s.l, .ints .u8 32 s.d], 25⟩), (3, ⟨[cI .i64 t.e, cI .i64 t.v, cI .i64 t.l, .ints .u8 32 t.d], 29⟩)]) (by kernel_rfl) ?_
      refine wo_bool 24 rfl (fun h3 => ?_) (fun h3 => ?_)
      · replace h3 := eq_of_beq h3
        refine wo_run [20, 21, 22, 23] [24, 26, 28] [] (l' := [(24, eB true), (26, eA [.ints .u8 32 s.d]), (28, eA [.ints .u8 32 t.d])]) (H' := []) (by kernel_rfl) ?_
        refine wo_op rfl rfl (ot_rd rfl (rd_eq (b := (s.d == t.d)) 9 (s.d == t.d) rfl rfl rfl (by kernel_rfl) rfl (by kernel_rfl) (.inl ⟨rfl, rfl⟩))) ?_
        refine wo_run [25, 26] [4] [] (l' := [(4, eB (s.d == t.d))]) (H' := []) (by kernel_rfl) ?_
        refine wo_nil ?_
        refine we_then ?_
        refine wc_ret ?_
        refine we_ret (.inl rfl) (v := eB (s.d == t.d)) (by kernel_rfl) ?_
        intro ρ' w' hf
        refine ⟨?_, hf.below noS⟩
        exact congrArg (fun b => Ending.returned (EV.conc ρ (eB b))) (by simp_all [safeEq])
      · replace h3 := ne_of_beq_false h3
        refine wo_run [20, 21, 22, 23, 24, 25, 26] [4] [] (l' := [(4, eB false)]) (H' := []) (by kernel_rfl) ?_
        refine wo_nil ?_
        refine we_then ?_
        refine wc_ret ?_
        refine we_ret (.inl rfl) (v := eB false) (by kernel_rfl) ?_
        intro ρ' w' hf
        refine ⟨?_, hf.below noS⟩
        exact congrArg (fun b => Ending.returned (EV.conc ρ (eB b))) (by simp_all [safeEq])
    · replace h2 := ne_of_beq_false h2
      refine wo_run [13, 14, 15, 16, 17, 18, 19, 20, 21, 22, 23, 24, 25, 26] [4] [] (l' := [(4, eB false)]) (H' := []) (by kernel_rfl) ?_
      refine wo_nil ?_
      refine we_then ?_
      refine wc_ret ?_
      refine we_ret (.inl rfl) (v := eB false) (by kernel_rfl) ?_
      intro ρ' w' hf
      refine ⟨?_, hf.below noS⟩
      exact congrArg (fun b => Ending.returned (EV.conc ρ (eB b))) (by simp_all [safeEq])
  · replace h1 := ne_of_beq_false h1
    refine wo_run [6, 7, 8, 9, 10, 11, 12, 13, 14, 15, 16, 17, 18, 19, 20, 21, 22, 23, 24, 25, 26] [4] [] (l' := [(4, eB false)]) (H' := []) (by kernel_rfl) ?_
    refine wo_nil ?_
    refine we_then ?_
    refine wc_ret ?_
    refine we_ret (.inl rfl) (v := eB false) (by kernel_rfl) ?_
    intro ρ' w' hf
    refine ⟨?_, hf.below noS⟩
    exact congrArg (fun b => Ending.returned (EV.conc ρ (eB b))) (by simp_all [safeEq])

set_option maxHeartbeats 4000000 in
theorem do_any (s : Safe) (hs : s.ok) (x : Step) (hx : x.ok) (w : World) (ρ : Nat → Nat) :
    Calls Try.prog 16 ([.agg [cI .i64 s.e, cI .i64 s.v, cI .i64 s.l, .ints .u8 32 s.d], .agg [cI .i64 x.kind, cI .i64 x.view, cI .i64 x.justify, .ints .u8 32 x.block, cB x.ext]].map (SV.conc ρ)).toArray w fun r w' => r = .returned (EV.conc ρ (eSB (doStep s x))) ∧ Below w.heap.size w w' := by
  refine calls_enter (vs := [.agg [cI .i64 s.e, cI .i64 s.v, cI .i64 s.l, .ints .u8 32 s.d], .agg [cI .i64 x.kind, cI .i64 x.view, cI .i64 x.justify, .ints .u8 32 x.block, cB x.ext]]) (N := 36) [] ρ Try.func16 rfl rfl (Nat.le_of_ble_eq_true rfl) (okv_agg (okc_one (okc_one (okc_one (okc_ints (hs) (okc_nil))))) (okv_agg (okc_one (okc_one (okc_one (okc_ints (hx) (okc_one (okc_nil)))))) (okv_nil))) noH noH2 ?_ _ rfl
  refine wc_seq ?_
  refine wc_reg [0, 1, 2, 3] (by kernel_rfl) ?_
  refine wo_run [0, 1] [2, 3] [2, 3] (l' := [(2, eL 2 0), (3, eL 3 0)]) (H' := [(2, ⟨[cI .i64 s.e, cI .i64 s.v, cI .i64 s.l, .ints .u8 32 s.d], 25⟩), (3, ⟨[cI .i64 x.kind, cI .i64 x.view, cI .i64 x.justify, .ints .u8 32 x.block, cB x.ext], 27⟩)]) (by kernel_rfl) ?_
  refine wo_op rfl rfl (ot_alloc (d := 4) (cs := z25) rfl rfl z25_zero rfl z25_ok (fun _ => rfl)) ?_
  refine wo_run [3] [2, 3, 4] [2, 3, 4] (l' := [(2, eL 2 0), (3, eL 3 0), (4, eL 4 0)]) (H' := [(2, ⟨[cI .i64 s.e, cI .i64 s.v, cI .i64 s.l, .ints .u8 32 s.d], 25⟩), (3, ⟨[cI .i64 x.kind, cI .i64 x.view, cI .i64 x.justify, .ints .u8 32 x.block, cB x.ext], 27⟩), (4, ⟨[cI .i64 0, cI .i64 0, cI .i64 0, .ints .u8 32 (List.replicate 32 0)], 25⟩)]) (by kernel_rfl) ?_
  refine wo_nil ?_
  refine we_then ?_
  refine wc_seq ?_
  refine wc_reg [0] (by kernel_rfl) ?_
  refine wo_run [0] [2, 3, 4, 6] [2, 3, 4] (l' := [(2, eL 2 0), (3, eL 3 0), (4, eL 4 0), (6, eB false)]) (H' := [(2, ⟨[cI .i64 s.e, cI .i64 s.v, cI .i64 s.l, .ints .u8 32 s.d], 25⟩), (3, ⟨[cI .i64 x.kind, cI .i64 x.view, cI .i64 x.justify, .ints .u8 32 x.block, cB x.ext], 27⟩), (4, ⟨[cI .i64 0, cI .i64 0, cI .i64 0, .ints .u8 32 (List.replicate 32 0)], 25⟩)]) (by kernel_rfl) ?_
  refine wo_nil ?_
  refine we_then ?_
  refine wc_seq ?_
  refine wc_seq ?_
  refine wc_reg [0, 1] (by kernel_rfl) ?_
  refine wo_run [0, 1] [2, 3, 4, 6, 8] [2, 3, 4] (l' := [(2, eL 2 0), (3, eL 3 0), (4, eL 4 0), (6, eB false), (8, eI .i64 x.kind)]) (H' := [(2, ⟨[cI .i64 s.e, cI .i64 s.v, cI .i64 s.l, .ints .u8 32 s.d], 25⟩), (3, ⟨[cI .i64 x.kind, cI .i64 x.view, cI .i64 x.justify, .ints .u8 32 x.block, cB x.ext], 27⟩), (4, ⟨[cI .i64 0, cI .i64 0, cI .i64 0, .ints .u8 32 (List.replicate 32 0)], 25⟩)]) (by kernel_rfl) ?_
  refine wo_nil ?_
  refine we_then ?_
  refine wc_block ?_
  refine wc_seq ?_
  refine wc_reg [0, 1] (by kernel_rfl) ?_
  refine wo_run [0, 1] [2, 3, 4, 6, 8, 13] [2, 3, 4] (l' := [(2, eL 2 0), (3, eL 3 0), (4, eL 4 0), (6, eB false), (8, eI .i64 x.kind), (13, eB (x.kind == 0))]) (H' := [(2, ⟨[cI .i64 s.e, cI .i64 s.v, cI .i64 s.l, .ints .u8 32 s.d], 25⟩), (3, ⟨[cI .i64 x.kind, cI .i64 x.view, cI .i64 x.justify, .ints .u8 32 x.block, cB x.ext], 27⟩), (4, ⟨[cI .i64 0, cI .i64 0, cI .i64 0, .ints .u8 32 (List.replicate 32 0)], 25⟩)]) (by kernel_rfl) ?_
  refine wo_nil ?_
  refine we_then ?_
  refine wc_cond rfl (fun h1 => ?_) (fun h1 => ?_)
  · replace h1 := eq_of_beq h1
    refine wc_reg [0, 1, 2, 3, 4, 5, 6] (by kernel_rfl) ?_
    refine wo_run [0, 1, 2, 3, 4] [2, 4, 6, 15, 17, 19] [2, 4] (l' := [(2, eL 2 0), (4, eL 4 0), (6, eB false), (15, eA [cI .i64 s.e, cI .i64 s.v, cI .i64 s.l, .ints .u8 32 s.d]), (17, eI .i64 x.view), (19, eA [.ints .u8 32 x.block])]) (H' := [(2, ⟨[cI .i64 s.e, cI .i64 s.v, cI .i64 s.l, .ints .u8 32 s.d], 25⟩), (4, ⟨[cI .i64 0, cI .i64 0, cI .i64 0, .ints .u8 32 (List.replicate 32 0)], 25⟩)]) (by kernel_rfl) ?_
    refine wo_op rfl rfl (ot_call (vs := [.agg [cI .i64 s.e, cI .i64 s.v, cI .i64 s.l, .ints .u8 32 s.d], sI .i64 x.view, .agg [.ints .u8 32 x.block]]) rfl rfl rfl Try.func42 (by kernel_rfl) (by kernel_rfl) (by kernel_rfl) (eA [cI .i64 (see s x.view x.block).e, cI .i64 (see s x.view x.block).v, cI .i64 (see s x.view x.block).l, .ints .u8 32 ((see s x.view x.block).d)]) (okc_one (okc_one (okc_one (okc_ints (by (show Safe.ok _; repeat' (first | assumption | apply giveUp_ok | apply see_ok | apply vote_ok | apply doStep_ok | (simp [Safe.ok, Step.ok]; done)))) (okc_nil))))) (fun ρ w _ => see_any s (hs) x.view x.block (hx) w ρ)) ?_
    refine wo_run [6] [2, 4, 6] [2, 4] (l' := [(2, eL 2 0), (4, eL 4 0), (6, eB false)]) (H' := [(2, ⟨[cI .i64 (see s x.view x.block).e, cI .i64 (see s x.view x.block).v, cI .i64 (see s x.view x.block).l, .ints .u8 32 ((see s x.view x.block).d)], 25⟩), (4, ⟨[cI .i64 0, cI .i64 0, cI .i64 0, .ints .u8 32 (List.replicate 32 0)], 25⟩)]) (by kernel_rfl) ?_
    refine wo_nil ?_
    refine we_block ?_
    refine we_then ?_
    refine wc_seq ?_
    refine wc_reg [0, 1, 2, 3] (by kernel_rfl) ?_
    refine wo_run [0, 1, 2, 3] [4, 5] [4] (l' := [(4, eL 4 0), (5, eB false)]) (H' := [(4, ⟨[cI .i64 (see s x.view x.block).e, cI .i64 (see s x.view x.block).v, cI .i64 (see s x.view x.block).l, .ints .u8 32 ((see s x.view x.block).d)], 25⟩)]) (by kernel_rfl) ?_
    refine wo_nil ?_
    refine we_then ?_
    refine wc_ret ?_
    refine we_ret (.inl rfl) (v := .t [.agg [cI .i64 (see s x.view x.block).e, cI .i64 (see s x.view x.block).v, cI .i64 (see s x.view x.block).l, .ints .u8 32 ((see s x.view x.block).d)], sB false]) (by kernel_rfl) ?_
    intro ρ' w' hf
    refine ⟨?_, hf.below noS⟩
    simp only [doStep, *, if_true, if_false]; rfl
  · replace h1 := ne_of_beq_false h1
    refine wc_seq ?_
    refine wc_reg [0, 1] (by kernel_rfl) ?_
    refine wo_run [0, 1] [2, 3, 4, 6, 21] [2, 3, 4] (l' := [(2, eL 2 0), (3, eL 3 0), (4, eL 4 0), (6, eB false), (21, eB (x.kind == 1))]) (H' := [(2, ⟨[cI .i64 s.e, cI .i64 s.v, cI .i64 s.l, .ints .u8 32 s.d], 25⟩), (3, ⟨[cI .i64 x.kind, cI .i64 x.view, cI .i64 x.justify, .ints .u8 32 x.block, cB x.ext], 27⟩), (4, ⟨[cI .i64 0, cI .i64 0, cI .i64 0, .ints .u8 32 (List.replicate 32 0)], 25⟩)]) (by kernel_rfl) ?_
    refine wo_nil ?_
    refine we_then ?_
    refine wc_cond rfl (fun h2 => ?_) (fun h2 => ?_)
    · replace h2 := eq_of_beq h2
      refine wc_reg [0, 1, 2, 3, 4, 5, 6, 7, 8, 9, 10, 11, 12] (by kernel_rfl) ?_
      refine wo_run [0, 1, 2, 3, 4, 5, 6] [2, 4, 24, 26, 28, 30] [2, 4] (l' := [(2, eL 2 0), (4, eL 4 0), (24, eA [cI .i64 s.e, cI .i64 s.v, cI .i64 s.l, .ints .u8 32 s.d]), (26, eI .i64 x.view), (28, eI .i64 x.justify), (30, eB x.ext)]) (H' := [(2, ⟨[cI .i64 s.e, cI .i64 s.v, cI .i64 s.l, .ints .u8 32 s.d], 25⟩), (4, ⟨[cI .i64 0, cI .i64 0, cI .i64 0, .ints .u8 32 (List.replicate 32 0)], 25⟩)]) (by kernel_rfl) ?_
      refine wo_op rfl rfl (ot_call (vs := [.agg [cI .i64 s.e, cI .i64 s.v, cI .i64 s.l, .ints .u8 32 s.d], sI .i64 x.view, sI .i64 x.justify, sB x.ext]) rfl rfl rfl Try.func22 (by kernel_rfl) (by kernel_rfl) (by kernel_rfl) (.t [.agg [cI .i64 (vote s x.view x.justify x.ext).1.e, cI .i64 (vote s x.view x.justify x.ext).1.v, cI .i64 (vote s x.view x.justify x.ext).1.l, .ints .u8 32 ((vote s x.view x.justify x.ext).1.d)], sB (vote s x.view x.justify x.ext).2]) (okv_agg (okc_one (okc_one (okc_one (okc_ints (by (show Safe.ok _; repeat' (first | assumption | apply giveUp_ok | apply see_ok | apply vote_ok | apply doStep_ok | (simp [Safe.ok, Step.ok]; done)))) (okc_nil))))) (okv_a (okv_nil))) (fun ρ w _ => vote_any s (hs) x.view x.justify x.ext w ρ)) ?_
      refine wo_run [8, 9, 10, 11, 12] [2, 4, 6] [2, 4] (l' := [(2, eL 2 0), (4, eL 4 0), (6, eB (vote s x.view x.justify x.ext).2)]) (H' := [(2, ⟨[cI .i64 (vote s x.view x.justify x.ext).1.e, cI .i64 (vote s x.view x.justify x.ext).1.v, cI .i64 (vote s x.view x.justify x.ext).1.l, .ints .u8 32 ((vote s x.view x.justify x.ext).1.d)], 25⟩), (4, ⟨[cI .i64 0, cI .i64 0, cI .i64 0, .ints .u8 32 (List.replicate 32 0)], 25⟩)]) (by kernel_rfl) ?_
      refine wo_nil ?_
      refine we_block ?_
      refine we_then ?_
      refine wc_seq ?_
      refine wc_reg [0, 1, 2, 3] (by kernel_rfl) ?_
      refine wo_run [0, 1, 2, 3] [4, 5] [4] (l' := [(4, eL 4 0), (5, eB (vote s x.view x.justify x.ext).2)]) (H' := [(4, ⟨[cI .i64 (vote s x.view x.justify x.ext).1.e, cI .i64 (vote s x.view x.justify x.ext).1.v, cI .i64 (vote s x.view x.justify x.ext).1.l, .ints .u8 32 ((vote s x.view x.justify x.ext).1.d)], 25⟩)]) (by kernel_rfl) ?_
      refine wo_nil ?_
      refine we_then ?_
      refine wc_ret ?_
      refine we_ret (.inl rfl) (v := .t [.agg [cI .i64 (vote s x.view x.justify x.ext).1.e, cI .i64 (vote s x.view x.justify x.ext).1.v, cI .i64 (vote s x.view x.justify x.ext).1.l, .ints .u8 32 ((vote s x.view x.justify x.ext).1.d)], sB (vote s x.view x.justify x.ext).2]) (by kernel_rfl) ?_
      intro ρ' w' hf
      refine ⟨?_, hf.below noS⟩
      simp only [doStep, *, if_true, if_false]; rfl
    · replace h2 := ne_of_beq_false h2
      refine wc_reg [0, 1, 2, 3, 4] (by kernel_rfl) ?_
      refine wo_run [0, 1, 2] [2, 4, 6, 9, 11] [2, 4] (l' := [(2, eL 2 0), (4, eL 4 0), (6, eB false), (9, eA [cI .i64 s.e, cI .i64 s.v, cI .i64 s.l, .ints .u8 32 s.d]), (11, eI .i64 x.view)]) (H' := [(2, ⟨[cI .i64 s.e, cI .i64 s.v, cI .i64 s.l, .ints .u8 32 s.d], 25⟩), (4, ⟨[cI .i64 0, cI .i64 0, cI .i64 0, .ints .u8 32 (List.replicate 32 0)], 25⟩)]) (by kernel_rfl) ?_
      refine wo_op rfl rfl (ot_call (vs := [.agg [cI .i64 s.e, cI .i64 s.v, cI .i64 s.l, .ints .u8 32 s.d], sI .i64 x.view]) rfl rfl rfl Try.func43 (by kernel_rfl) (by kernel_rfl) (by kernel_rfl) (eA [cI .i64 (giveUp s x.view).e, cI .i64 (giveUp s x.view).v, cI .i64 (giveUp s x.view).l, .ints .u8 32 ((giveUp s x.view).d)]) (okc_one (okc_one (okc_one (okc_ints (by (show Safe.ok _; repeat' (first | assumption | apply giveUp_ok | apply see_ok | apply vote_ok | apply doStep_ok | (simp [Safe.ok, Step.ok]; done)))) (okc_nil))))) (fun ρ w _ => giveUp_any s (hs) x.view w ρ)) ?_
      refine wo_run [4] [2, 4, 6] [2, 4] (l' := [(2, eL 2 0), (4, eL 4 0), (6, eB false)]) (H' := [(2, ⟨[cI .i64 (giveUp s x.view).e, cI .i64 (giveUp s x.view).v, cI .i64 (giveUp s x.view).l, .ints .u8 32 ((giveUp s x.view).d)], 25⟩), (4, ⟨[cI .i64 0, cI .i64 0, cI .i64 0, .ints .u8 32 (List.replicate 32 0)], 25⟩)]) (by kernel_rfl) ?_
      refine wo_nil ?_
      refine we_block ?_
      refine we_then ?_
      refine wc_seq ?_
      refine wc_reg [0, 1, 2, 3] (by kernel_rfl) ?_
      refine wo_run [0, 1, 2, 3] [4, 5] [4] (l' := [(4, eL 4 0), (5, eB false)]) (H' := [(4, ⟨[cI .i64 (giveUp s x.view).e, cI .i64 (giveUp s x.view).v, cI .i64 (giveUp s x.view).l, .ints .u8 32 ((giveUp s x.view).d)], 25⟩)]) (by kernel_rfl) ?_
      refine wo_nil ?_
      refine we_then ?_
      refine wc_ret ?_
      refine we_ret (.inl rfl) (v := .t [.agg [cI .i64 (giveUp s x.view).e, cI .i64 (giveUp s x.view).v, cI .i64 (giveUp s x.view).l, .ints .u8 32 ((giveUp s x.view).d)], sB false]) (by kernel_rfl) ?_
      intro ρ' w' hf
      refine ⟨?_, hf.below noS⟩
      simp only [doStep, *, if_true, if_false]; rfl

set_option maxHeartbeats 4000000 in
theorem awake_any  (w : World) (ρ : Nat → Nat) :
    Calls Try.prog 15 ([].map (SV.conc ρ)).toArray w fun r w' => r = .returned (EV.conc ρ (eB true)) ∧ Below w.heap.size w w' := by
  refine calls_enter (vs := []) (N := 61) [] ρ Try.func15 rfl rfl (Nat.le_of_ble_eq_true rfl) (okv_nil) noH noH2 ?_ _ rfl
  refine wc_seq ?_
  refine wc_reg [0] (by kernel_rfl) ?_
  refine wo_run [0] [] [] (l' := []) (H' := []) (by kernel_rfl) ?_
  refine wo_nil ?_
  refine we_then ?_
  refine wc_seq ?_
  refine wc_reg [0, 1, 2] (by kernel_rfl) ?_
  refine wo_op rfl rfl (ot_rd rfl (rd_build (zc := z23) [.ints .u8 32 ((List.replicate 32 0).set 0 5)] rfl z23_zero' z23_ok (fun _ => rfl) (by kernel_rfl) (by kernel_rfl))) ?_
  refine wo_op rfl rfl (ot_alloc (d := 1) (cs := z23) rfl rfl z23_zero rfl z23_ok (fun _ => rfl)) ?_
  refine wo_run [2] [1] [1] (l' := [(1, eL 1 0)]) (H' := [(1, ⟨[.ints .u8 32 ((List.replicate 32 0).set 0 5)], 23⟩)]) (by kernel_rfl) ?_
  refine wo_nil ?_
  refine we_then ?_
  refine wc_seq ?_
  refine wc_reg [0, 1, 2, 3] (by kernel_rfl) ?_
  refine wo_run [0] [1, 11] [1] (l' := [(1, eL 1 0), (11, eA [.ints .u8 32 ((List.replicate 32 0).set 0 5)])]) (H' := [(1, ⟨[.ints .u8 32 ((List.replicate 32 0).set 0 5)], 23⟩)]) (by kernel_rfl) ?_
  refine wo_op rfl rfl (ot_call (vs := [sI .i64 3, .agg [.ints .u8 32 ((List.replicate 32 0).set 0 5)]]) rfl rfl rfl Try.func20 (by kernel_rfl) (by kernel_rfl) (by kernel_rfl) (eA [cI .i64 3, cI .i64 0, cI .i64 0, .ints .u8 32 ((List.replicate 32 0).set 0 5)]) (okc_one (okc_one (okc_one (okc_ints ((List.length_set ..).trans (List.length_replicate)) (okc_nil))))) (fun ρ w _ => new_any 3 ((List.replicate 32 0).set 0 5) ((List.length_set ..).trans (List.length_replicate)) w ρ)) ?_
  refine wo_op rfl rfl (ot_alloc (d := 2) (cs := z25) rfl rfl z25_zero rfl z25_ok (fun _ => rfl)) ?_
  refine wo_run [3] [1, 2] [1, 2] (l' := [(1, eL 1 0), (2, eL 2 0)]) (H' := [(1, ⟨[.ints .u8 32 ((List.replicate 32 0).set 0 5)], 23⟩), (2, ⟨[cI .i64 3, cI .i64 0, cI .i64 0, .ints .u8 32 ((List.replicate 32 0).set 0 5)], 25⟩)]) (by kernel_rfl) ?_
  refine wo_nil ?_
  refine we_then ?_
  refine wc_seq ?_
  refine wc_reg [0, 1, 2] (by kernel_rfl) ?_
  refine wo_op rfl rfl (ot_rd rfl (rd_build (zc := z25) [cI .i64 0, cI .i64 3, cI .i64 2, .ints .u8 32 (List.replicate 32 0)] rfl z25_zero' z25_ok (fun _ => rfl) (by kernel_rfl) (by kernel_rfl))) ?_
  refine wo_op rfl rfl (ot_alloc (d := 3) (cs := z25) rfl rfl z25_zero rfl z25_ok (fun _ => rfl)) ?_
  refine wo_run [2] [1, 2, 3] [1, 2, 3] (l' := [(1, eL 1 0), (2, eL 2 0), (3, eL 3 0)]) (H' := [(1, ⟨[.ints .u8 32 ((List.replicate 32 0).set 0 5)], 23⟩), (2, ⟨[cI .i64 3, cI .i64 0, cI .i64 0, .ints .u8 32 ((List.replicate 32 0).set 0 5)], 25⟩), (3, ⟨[cI .i64 0, cI .i64 3, cI .i64 2, .ints .u8 32 (List.replicate 32 0)], 25⟩)]) (by kernel_rfl) ?_
  refine wo_nil ?_
  refine we_then ?_
  refine wc_seq ?_
  refine wc_reg [0, 1, 2, 3, 4, 5, 6, 7] (by kernel_rfl) ?_
  refine wo_run [0] [1, 2, 3, 15] [1, 2, 3] (l' := [(1, eL 1 0), (2, eL 2 0), (3, eL 3 0), (15, eA [cI .i64 0, cI .i64 3, cI .i64 2, .ints .u8 32 (List.replicate 32 0)])]) (H' := [(1, ⟨[.ints .u8 32 ((List.replicate 32 0).set 0 5)], 23⟩), (2, ⟨[cI .i64 3, cI .i64 0, cI .i64 0, .ints .u8 32 ((List.replicate 32 0).set 0 5)], 25⟩), (3, ⟨[cI .i64 0, cI .i64 3, cI .i64 2, .ints .u8 32 (List.replicate 32 0)], 25⟩)]) (by kernel_rfl) ?_
  refine wo_op rfl rfl (ot_call (vs := [.agg [cI .i64 0, cI .i64 3, cI .i64 2, .ints .u8 32 (List.replicate 32 0)], sI .i64 4, sI .i64 1, sB true]) rfl rfl rfl Try.func22 (by kernel_rfl) (by kernel_rfl) (by kernel_rfl) (.t [.agg [cI .i64 (vote (⟨0, 3, 2, (List.replicate 32 0)⟩ : Safe) 4 1 true).1.e, cI .i64 (vote (⟨0, 3, 2, (List.replicate 32 0)⟩ : Safe) 4 1 true).1.v, cI .i64 (vote (⟨0, 3, 2, (List.replicate 32 0)⟩ : Safe) 4 1 true).1.l, .ints .u8 32 ((vote (⟨0, 3, 2, (List.replicate 32 0)⟩ : Safe) 4 1 true).1.d)], sB (vote (⟨0, 3, 2, (List.replicate 32 0)⟩ : Safe) 4 1 true).2]) (okv_agg (okc_one (okc_one (okc_one (okc_ints (by (show Safe.ok _; repeat' (first | assumption | apply giveUp_ok | apply see_ok | apply vote_ok | apply doStep_ok | (simp [Safe.ok, Step.ok]; done)))) (okc_nil))))) (okv_a (okv_nil))) (fun ρ w _ => vote_any (⟨0, 3, 2, (List.replicate 32 0)⟩ : Safe) (List.length_replicate) 4 1 true w ρ)) ?_
  refine wo_run [2, 3, 4] [1, 2, 3, 17, 18] [1, 2, 3] (l' := [(1, eL 1 0), (2, eL 2 0), (3, eL 3 0), (17, eA [cI .i64 (vote (⟨0, 3, 2, (List.replicate 32 0)⟩ : Safe) 4 1 true).1.e, cI .i64 (vote (⟨0, 3, 2, (List.replicate 32 0)⟩ : Safe) 4 1 true).1.v, cI .i64 (vote (⟨0, 3, 2, (List.replicate 32 0)⟩ : Safe) 4 1 true).1.l, .ints .u8 32 ((vote (⟨0, 3, 2, (List.replicate 32 0)⟩ : Safe) 4 1 true).1.d)]), (18, eB (vote (⟨0, 3, 2, (List.replicate 32 0)⟩ : Safe) 4 1 true).2)]) (H' := [(1, ⟨[.ints .u8 32 ((List.replicate 32 0).set 0 5)], 23⟩), (2, ⟨[cI .i64 3, cI .i64 0, cI .i64 0, .ints .u8 32 ((List.replicate 32 0).set 0 5)], 25⟩), (3, ⟨[cI .i64 0, cI .i64 3, cI .i64 2, .ints .u8 32 (List.replicate 32 0)], 25⟩)]) (by kernel_rfl) ?_
  refine wo_op rfl rfl (ot_alloc (d := 4) (cs := z25) rfl rfl z25_zero rfl z25_ok (fun _ => rfl)) ?_
  refine wo_run [6, 7] [1, 2, 3, 4, 5] [1, 2, 3, 4] (l' := [(1, eL 1 0), (2, eL 2 0), (3, eL 3 0), (4, eL 4 0), (5, eB (vote (⟨0, 3, 2, (List.replicate 32 0)⟩ : Safe) 4 1 true).2)]) (H' := [(1, ⟨[.ints .u8 32 ((List.replicate 32 0).set 0 5)], 23⟩), (2, ⟨[cI .i64 3, cI .i64 0, cI .i64 0, .ints .u8 32 ((List.replicate 32 0).set 0 5)], 25⟩), (3, ⟨[cI .i64 0, cI .i64 3, cI .i64 2, .ints .u8 32 (List.replicate 32 0)], 25⟩), (4, ⟨[cI .i64 (vote (⟨0, 3, 2, (List.replicate 32 0)⟩ : Safe) 4 1 true).1.e, cI .i64 (vote (⟨0, 3, 2, (List.replicate 32 0)⟩ : Safe) 4 1 true).1.v, cI .i64 (vote (⟨0, 3, 2, (List.replicate 32 0)⟩ : Safe) 4 1 true).1.l, .ints .u8 32 ((vote (⟨0, 3, 2, (List.replicate 32 0)⟩ : Safe) 4 1 true).1.d)], 25⟩)]) (by kernel_rfl) ?_
  refine wo_nil ?_
  refine we_then ?_
  refine wc_seq ?_
  refine wc_reg [0, 1, 2, 3, 4, 5, 6, 7] (by kernel_rfl) ?_
  refine wo_run [0] [1, 2, 3, 4, 5, 20] [1, 2, 3, 4] (l' := [(1, eL 1 0), (2, eL 2 0), (3, eL 3 0), (4, eL 4 0), (5, eB (vote (⟨0, 3, 2, (List.replicate 32 0)⟩ : Safe) 4 1 true).2), (20, eA [cI .i64 0, cI .i64 3, cI .i64 2, .ints .u8 32 (List.replicate 32 0)])]) (H' := [(1, ⟨[.ints .u8 32 ((List.replicate 32 0).set 0 5)], 23⟩), (2, ⟨[cI .i64 3, cI .i64 0, cI .i64 0, .ints .u8 32 ((List.replicate 32 0).set 0 5)], 25⟩), (3, ⟨[cI .i64 0, cI .i64 3, cI .i64 2, .ints .u8 32 (List.replicate 32 0)], 25⟩), (4, ⟨[cI .i64 (vote (⟨0, 3, 2, (List.replicate 32 0)⟩ : Safe) 4 1 true).1.e, cI .i64 (vote (⟨0, 3, 2, (List.replicate 32 0)⟩ : Safe) 4 1 true).1.v, cI .i64 (vote (⟨0, 3, 2, (List.replicate 32 0)⟩ : Safe) 4 1 true).1.l, .ints .u8 32 ((vote (⟨0, 3, 2, (List.replicate 32 0)⟩ : Safe) 4 1 true).1.d)], 25⟩)]) (by kernel_rfl) ?_
  refine wo_op rfl rfl (ot_call (vs := [.agg [cI .i64 0, cI .i64 3, cI .i64 2, .ints .u8 32 (List.replicate 32 0)], sI .i64 4, sI .i64 2, sB false]) rfl rfl rfl Try.func22 (by kernel_rfl) (by kernel_rfl) (by kernel_rfl) (.t [.agg [cI .i64 (vote (⟨0, 3, 2, (List.replicate 32 0)⟩ : Safe) 4 2 false).1.e, cI .i64 (vote (⟨0, 3, 2, (List.replicate 32 0)⟩ : Safe) 4 2 false).1.v, cI .i64 (vote (⟨0, 3, 2, (List.replicate 32 0)⟩ : Safe) 4 2 false).1.l, .ints .u8 32 ((vote (⟨0, 3, 2, (List.replicate 32 0)⟩ : Safe) 4 2 false).1.d)], sB (vote (⟨0, 3, 2, (List.replicate 32 0)⟩ : Safe) 4 2 false).2]) (okv_agg (okc_one (okc_one (okc_one (okc_ints (by (show Safe.ok _; repeat' (first | assumption | apply giveUp_ok | apply see_ok | apply vote_ok | apply doStep_ok | (simp [Safe.ok, Step.ok]; done)))) (okc_nil))))) (okv_a (okv_nil))) (fun ρ w _ => vote_any (⟨0, 3, 2, (List.replicate 32 0)⟩ : Safe) (List.length_replicate) 4 2 false w ρ)) ?_
  refine wo_run [2, 3, 4] [1, 2, 3, 4, 5, 22, 23] [1, 2, 3, 4] (l' := [(1, eL 1 0), (2, eL 2 0), (3, eL 3 0), (4, eL 4 0), (5, eB (vote (⟨0, 3, 2, (List.replicate 32 0)⟩ : Safe) 4 1 true).2), (22, eA [cI .i64 (vote (⟨0, 3, 2, (List.replicate 32 0)⟩ : Safe) 4 2 false).1.e, cI .i64 (vote (⟨0, 3, 2, (List.replicate 32 0)⟩ : Safe) 4 2 false).1.v, cI .i64 (vote (⟨0, 3, 2, (List.replicate 32 0)⟩ : Safe) 4 2 false).1.l, .ints .u8 32 ((vote (⟨0, 3, 2, (List.replicate 32 0)⟩ : Safe) 4 2 false).1.d)]), (23, eB (vote (⟨0, 3, 2, (List.replicate 32 0)⟩ : Safe) 4 2 false).2)]) (H' := [(1, ⟨[.ints .u8 32 ((List.replicate 32 0).set 0 5)], 23⟩), (2, ⟨[cI .i64 3, cI .i64 0, cI .i64 0, .ints .u8 32 ((List.replicate 32 0).set 0 5)], 25⟩), (3, ⟨[cI .i64 0, cI .i64 3, cI .i64 2, .ints .u8 32 (List.replicate 32 0)], 25⟩), (4, ⟨[cI .i64 (vote (⟨0, 3, 2, (List.replicate 32 0)⟩ : Safe) 4 1 true).1.e, cI .i64 (vote (⟨0, 3, 2, (List.replicate 32 0)⟩ : Safe) 4 1 true).1.v, cI .i64 (vote (⟨0, 3, 2, (List.replicate 32 0)⟩ : Safe) 4 1 true).1.l, .ints .u8 32 ((vote (⟨0, 3, 2, (List.replicate 32 0)⟩ : Safe) 4 1 true).1.d)], 25⟩)]) (by kernel_rfl) ?_
  refine wo_op rfl rfl (ot_alloc (d := 6) (cs := z25) rfl rfl z25_zero rfl z25_ok (fun _ => rfl)) ?_
  refine wo_run [6, 7] [1, 2, 3, 4, 5, 7] [1, 2, 3, 4] (l' := [(1, eL 1 0), (2, eL 2 0), (3, eL 3 0), (4, eL 4 0), (5, eB (vote (⟨0, 3, 2, (List.replicate 32 0)⟩ : Safe) 4 1 true).2), (7, eB (vote (⟨0, 3, 2, (List.replicate 32 0)⟩ : Safe) 4 2 false).2)]) (H' := [(1, ⟨[.ints .u8 32 ((List.replicate 32 0).set 0 5)], 23⟩), (2, ⟨[cI .i64 3, cI .i64 0, cI .i64 0, .ints .u8 32 ((List.replicate 32 0).set 0 5)], 25⟩), (3, ⟨[cI .i64 0, cI .i64 3, cI .i64 2, .ints .u8 32 (List.replicate 32 0)], 25⟩), (4, ⟨[cI .i64 (vote (⟨0, 3, 2, (List.replicate 32 0)⟩ : Safe) 4 1 true).1.e, cI .i64 (vote (⟨0, 3, 2, (List.replicate 32 0)⟩ : Safe) 4 1 true).1.v, cI .i64 (vote (⟨0, 3, 2, (List.replicate 32 0)⟩ : Safe) 4 1 true).1.l, .ints .u8 32 ((vote (⟨0, 3, 2, (List.replicate 32 0)⟩ : Safe) 4 1 true).1.d)], 25⟩)]) (by kernel_rfl) ?_
  refine wo_nil ?_
  refine we_then ?_
  refine wc_seq ?_
  refine wc_reg [0, 1, 2, 3, 4] (by kernel_rfl) ?_
  refine wo_run [0, 1] [1, 2, 3, 4, 5, 7, 24, 25] [1, 2, 3, 4] (l' := [(1, eL 1 0), (2, eL 2 0), (3, eL 3 0), (4, eL 4 0), (5, eB (vote (⟨0, 3, 2, (List.replicate 32 0)⟩ : Safe) 4 1 true).2), (7, eB (vote (⟨0, 3, 2, (List.replicate 32 0)⟩ : Safe) 4 2 false).2), (24, eA [cI .i64 0, cI .i64 3, cI .i64 2, .ints .u8 32 (List.replicate 32 0)]), (25, eA [.ints .u8 32 ((List.replicate 32 0).set 0 5)])]) (H' := [(1, ⟨[.ints .u8 32 ((List.replicate 32 0).set 0 5)], 23⟩), (2, ⟨[cI .i64 3, cI .i64 0, cI .i64 0, .ints .u8 32 ((List.replicate 32 0).set 0 5)], 25⟩), (3, ⟨[cI .i64 0, cI .i64 3, cI .i64 2, .ints .u8 32 (List.replicate 32 0)], 25⟩), (4, ⟨[cI .i64 (vote (⟨0, 3, 2, (List.replicate 32 0)⟩ : Safe) 4 1 true).1.e, cI .i64 (vote (⟨0, 3, 2, (List.replicate 32 0)⟩ : Safe) 4 1 true).1.v, cI .i64 (vote (⟨0, 3, 2, (List.replicate 32 0)⟩ : Safe) 4 1 true).1.l, .ints .u8 32 ((vote (⟨0, 3, 2, (List.replicate 32 0)⟩ : Safe) 4 1 true).1.d)], 25⟩)]) (by kernel_rfl) ?_
  refine wo_op rfl rfl (ot_call (vs := [.agg [cI .i64 0, cI .i64 3, cI .i64 2, .ints .u8 32 (List.replicate 32 0)], sI .i64 3, .agg [.ints .u8 32 ((List.replicate 32 0).set 0 5)]]) rfl rfl rfl Try.func42 (by kernel_rfl) (by kernel_rfl) (by kernel_rfl) (eA [cI .i64 (see (⟨0, 3, 2, (List.replicate 32 0)⟩ : Safe) 3 ((List.replicate 32 0).set 0 5)).e, cI .i64 (see (⟨0, 3, 2, (List.replicate 32 0)⟩ : Safe) 3 ((List.replicate 32 0).set 0 5)).v, cI .i64 (see (⟨0, 3, 2, (List.replicate 32 0)⟩ : Safe) 3 ((List.replicate 32 0).set 0 5)).l, .ints .u8 32 ((see (⟨0, 3, 2, (List.replicate 32 0)⟩ : Safe) 3 ((List.replicate 32 0).set 0 5)).d)]) (okc_one (okc_one (okc_one (okc_ints (by (show Safe.ok _; repeat' (first | assumption | apply giveUp_ok | apply see_ok | apply vote_ok | apply doStep_ok | (simp [Safe.ok, Step.ok]; done)))) (okc_nil))))) (fun ρ w _ => see_any (⟨0, 3, 2, (List.replicate 32 0)⟩ : Safe) (List.length_replicate) 3 ((List.replicate 32 0).set 0 5) ((List.length_set ..).trans (List.length_replicate)) w ρ)) ?_
  refine wo_op rfl rfl (ot_alloc (d := 8) (cs := z25) rfl rfl z25_zero rfl z25_ok (fun _ => rfl)) ?_
  refine wo_run [4] [1, 2, 3, 4, 5, 7, 8] [1, 2, 3, 4, 8] (l' := [(1, eL 1 0), (2, eL 2 0), (3, eL 3 0), (4, eL 4 0), (5, eB (vote (⟨0, 3, 2, (List.replicate 32 0)⟩ : Safe) 4 1 true).2), (7, eB (vote (⟨0, 3, 2, (List.replicate 32 0)⟩ : Safe) 4 2 false).2), (8, eL 8 0)]) (H' := [(1, ⟨[.ints .u8 32 ((List.replicate 32 0).set 0 5)], 23⟩), (2, ⟨[cI .i64 3, cI .i64 0, cI .i64 0, .ints .u8 32 ((List.replicate 32 0).set 0 5)], 25⟩), (3, ⟨[cI .i64 0, cI .i64 3, cI .i64 2, .ints .u8 32 (List.replicate 32 0)], 25⟩), (4, ⟨[cI .i64 (vote (⟨0, 3, 2, (List.replicate 32 0)⟩ : Safe) 4 1 true).1.e, cI .i64 (vote (⟨0, 3, 2, (List.replicate 32 0)⟩ : Safe) 4 1 true).1.v, cI .i64 (vote (⟨0, 3, 2, (List.replicate 32 0)⟩ : Safe) 4 1 true).1.l, .ints .u8 32 ((vote (⟨0, 3, 2, (List.replicate 32 0)⟩ : Safe) 4 1 true).1.d)], 25⟩), (8, ⟨[cI .i64 (see (⟨0, 3, 2, (List.replicate 32 0)⟩ : Safe) 3 ((List.replicate 32 0).set 0 5)).e, cI .i64 (see (⟨0, 3, 2, (List.replicate 32 0)⟩ : Safe) 3 ((List.replicate 32 0).set 0 5)).v, cI .i64 (see (⟨0, 3, 2, (List.replicate 32 0)⟩ : Safe) 3 ((List.replicate 32 0).set 0 5)).l, .ints .u8 32 ((see (⟨0, 3, 2, (List.replicate 32 0)⟩ : Safe) 3 ((List.replicate 32 0).set 0 5)).d)], 25⟩)]) (by kernel_rfl) ?_
  refine wo_nil ?_
  refine we_then ?_
  refine wc_seq ?_
  refine wc_reg [0, 1, 2, 3] (by kernel_rfl) ?_
  refine wo_run [0] [1, 2, 4, 5, 7, 8, 27] [1, 2, 4, 8] (l' := [(1, eL 1 0), (2, eL 2 0), (4, eL 4 0), (5, eB (vote (⟨0, 3, 2, (List.replicate 32 0)⟩ : Safe) 4 1 true).2), (7, eB (vote (⟨0, 3, 2, (List.replicate 32 0)⟩ : Safe) 4 2 false).2), (8, eL 8 0), (27, eA [cI .i64 0, cI .i64 3, cI .i64 2, .ints .u8 32 (List.replicate 32 0)])]) (H' := [(1, ⟨[.ints .u8 32 ((List.replicate 32 0).set 0 5)], 23⟩), (2, ⟨[cI .i64 3, cI .i64 0, cI .i64 0, .ints .u8 32 ((List.replicate 32 0).set 0 5)], 25⟩), (4, ⟨[cI .i64 (vote (⟨0, 3, 2, (List.replicate 32 0)⟩ : Safe) 4 1 true).1.e, cI .i64 (vote (⟨0, 3, 2, (List.replicate 32 0)⟩ : Safe) 4 1 true).1.v, cI .i64 (vote (⟨0, 3, 2, (List.replicate 32 0)⟩ : Safe) 4 1 true).1.l, .ints .u8 32 ((vote (⟨0, 3, 2, (List.replicate 32 0)⟩ : Safe) 4 1 true).1.d)], 25⟩), (8, ⟨[cI .i64 (see (⟨0, 3, 2, (List.replicate 32 0)⟩ : Safe) 3 ((List.replicate 32 0).set 0 5)).e, cI .i64 (see (⟨0, 3, 2, (List.replicate 32 0)⟩ : Safe) 3 ((List.replicate 32 0).set 0 5)).v, cI .i64 (see (⟨0, 3, 2, (List.replicate 32 0)⟩ : Safe) 3 ((List.replicate 32 0).set 0 5)).l, .ints .u8 32 ((see (⟨0, 3, 2, (List.replicate 32 0)⟩ : Safe) 3 ((List.replicate 32 0).set 0 5)).d)], 25⟩)]) (by kernel_rfl) ?_
  refine wo_op rfl rfl (ot_call (vs := [.agg [cI .i64 0, cI .i64 3, cI .i64 2, .ints .u8 32 (List.replicate 32 0)], sI .i64 5]) rfl rfl rfl Try.func43 (by kernel_rfl) (by kernel_rfl) (by kernel_rfl) (eA [cI .i64 (giveUp (⟨0, 3, 2, (List.replicate 32 0)⟩ : Safe) 5).e, cI .i64 (giveUp (⟨0, 3, 2, (List.replicate 32 0)⟩ : Safe) 5).v, cI .i64 (giveUp (⟨0, 3, 2, (List.replicate 32 0)⟩ : Safe) 5).l, .ints .u8 32 ((giveUp (⟨0, 3, 2, (List.replicate 32 0)⟩ : Safe) 5).d)]) (okc_one (okc_one (okc_one (okc_ints (by (show Safe.ok _; repeat' (first | assumption | apply giveUp_ok | apply see_ok | apply vote_ok | apply doStep_ok | (simp [Safe.ok, Step.ok]; done)))) (okc_nil))))) (fun ρ w _ => giveUp_any (⟨0, 3, 2, (List.replicate 32 0)⟩ : Safe) (List.length_replicate) 5 w ρ)) ?_
  refine wo_op rfl rfl (ot_alloc (d := 9) (cs := z25) rfl rfl z25_zero rfl z25_ok (fun _ => rfl)) ?_
  refine wo_run [3] [1, 2, 4, 5, 7, 8, 9] [1, 2, 4, 8, 9] (l' := [(1, eL 1 0), (2, eL 2 0), (4, eL 4 0), (5, eB (vote (⟨0, 3, 2, (List.replicate 32 0)⟩ : Safe) 4 1 true).2), (7, eB (vote (⟨0, 3, 2, (List.replicate 32 0)⟩ : Safe) 4 2 false).2), (8, eL 8 0), (9, eL 9 0)]) (H' := [(1, ⟨[.ints .u8 32 ((List.replicate 32 0).set 0 5)], 23⟩), (2, ⟨[cI .i64 3, cI .i64 0, cI .i64 0, .ints .u8 32 ((List.replicate 32 0).set 0 5)], 25⟩), (4, ⟨[cI .i64 (vote (⟨0, 3, 2, (List.replicate 32 0)⟩ : Safe) 4 1 true).1.e, cI .i64 (vote (⟨0, 3, 2, (List.replicate 32 0)⟩ : Safe) 4 1 true).1.v, cI .i64 (vote (⟨0, 3, 2, (List.replicate 32 0)⟩ : Safe) 4 1 true).1.l, .ints .u8 32 ((vote (⟨0, 3, 2, (List.replicate 32 0)⟩ : Safe) 4 1 true).1.d)], 25⟩), (8, ⟨[cI .i64 (see (⟨0, 3, 2, (List.replicate 32 0)⟩ : Safe) 3 ((List.replicate 32 0).set 0 5)).e, cI .i64 (see (⟨0, 3, 2, (List.replicate 32 0)⟩ : Safe) 3 ((List.replicate 32 0).set 0 5)).v, cI .i64 (see (⟨0, 3, 2, (List.replicate 32 0)⟩ : Safe) 3 ((List.replicate 32 0).set 0 5)).l, .ints .u8 32 ((see (⟨0, 3, 2, (List.replicate 32 0)⟩ : Safe) 3 ((List.replicate 32 0).set 0 5)).d)], 25⟩), (9, ⟨[cI .i64 (giveUp (⟨0, 3, 2, (List.replicate 32 0)⟩ : Safe) 5).e, cI .i64 (giveUp (⟨0, 3, 2, (List.replicate 32 0)⟩ : Safe) 5).v, cI .i64 (giveUp (⟨0, 3, 2, (List.replicate 32 0)⟩ : Safe) 5).l, .ints .u8 32 ((giveUp (⟨0, 3, 2, (List.replicate 32 0)⟩ : Safe) 5).d)], 25⟩)]) (by kernel_rfl) ?_
  refine wo_nil ?_
  refine we_then ?_
  refine wc_seq ?_
  refine wc_reg [0, 1, 2, 3, 4, 5, 6, 7, 8, 9, 10, 11, 12, 13, 14, 15, 16, 17, 18, 19, 20, 21, 22, 23, 24, 25, 26, 27, 28, 29, 30, 31, 32] (by kernel_rfl) ?_
  refine wo_run [0, 1] [1, 4, 5, 7, 8, 9, 29, 30] [1, 4, 8, 9] (l' := [(1, eL 1 0), (4, eL 4 0), (5, eB (vote (⟨0, 3, 2, (List.replicate 32 0)⟩ : Safe) 4 1 true).2), (7, eB (vote (⟨0, 3, 2, (List.replicate 32 0)⟩ : Safe) 4 2 false).2), (8, eL 8 0), (9, eL 9 0), (29, eA [cI .i64 3, cI .i64 0, cI .i64 0, .ints .u8 32 ((List.replicate 32 0).set 0 5)]), (30, eA [.ints .u8 32 ((List.replicate 32 0).set 0 5)])]) (H' := [(1, ⟨[.ints .u8 32 ((List.replicate 32 0).set 0 5)], 23⟩), (4, ⟨[cI .i64 (vote (⟨0, 3, 2, (List.replicate 32 0)⟩ : Safe) 4 1 true).1.e, cI .i64 (vote (⟨0, 3, 2, (List.replicate 32 0)⟩ : Safe) 4 1 true).1.v, cI .i64 (vote (⟨0, 3, 2, (List.replicate 32 0)⟩ : Safe) 4 1 true).1.l, .ints .u8 32 ((vote (⟨0, 3, 2, (List.replicate 32 0)⟩ : Safe) 4 1 true).1.d)], 25⟩), (8, ⟨[cI .i64 (see (⟨0, 3, 2, (List.replicate 32 0)⟩ : Safe) 3 ((List.replicate 32 0).set 0 5)).e, cI .i64 (see (⟨0, 3, 2, (List.replicate 32 0)⟩ : Safe) 3 ((List.replicate 32 0).set 0 5)).v, cI .i64 (see (⟨0, 3, 2, (List.replicate 32 0)⟩ : Safe) 3 ((List.replicate 32 0).set 0 5)).l, .ints .u8 32 ((see (⟨0, 3, 2, (List.replicate 32 0)⟩ : Safe) 3 ((List.replicate 32 0).set 0 5)).d)], 25⟩), (9, ⟨[cI .i64 (giveUp (⟨0, 3, 2, (List.replicate 32 0)⟩ : Safe) 5).e, cI .i64 (giveUp (⟨0, 3, 2, (List.replicate 32 0)⟩ : Safe) 5).v, cI .i64 (giveUp (⟨0, 3, 2, (List.replicate 32 0)⟩ : Safe) 5).l, .ints .u8 32 ((giveUp (⟨0, 3, 2, (List.replicate 32 0)⟩ : Safe) 5).d)], 25⟩)]) (by kernel_rfl) ?_
  refine wo_op rfl rfl (ot_rd rfl (rd_build (zc := z25) [cI .i64 3, cI .i64 0, cI .i64 0, .ints .u8 32 ((List.replicate 32 0).set 0 5)] rfl z25_zero' z25_ok (fun _ => rfl) (by kernel_rfl) (by kernel_rfl))) ?_
  refine wo_op rfl rfl (ot_rd rfl (rd_eq (b := ((3 == 3) && ((0 == 0) && ((0 == 0) && ((((List.replicate 32 0).set 0 5) == ((List.replicate 32 0).set 0 5)) && true))))) 9 ((3 == 3) && ((0 == 0) && ((0 == 0) && ((((List.replicate 32 0).set 0 5) == ((List.replicate 32 0).set 0 5)) && true)))) rfl rfl rfl (by kernel_rfl) rfl (by kernel_rfl) (.inl ⟨rfl, rfl⟩))) ?_
  refine wo_run [4] [1, 4, 5, 7, 8, 9, 33] [1, 4, 8, 9] (l' := [(1, eL 1 0), (4, eL 4 0), (5, eB (vote (⟨0, 3, 2, (List.replicate 32 0)⟩ : Safe) 4 1 true).2), (7, eB (vote (⟨0, 3, 2, (List.replicate 32 0)⟩ : Safe) 4 2 false).2), (8, eL 8 0), (9, eL 9 0), (33, eB ((3 == 3) && ((0 == 0) && ((0 == 0) && ((((List.replicate 32 0).set 0 5) == ((List.replicate 32 0).set 0 5)) && true)))))]) (H' := [(1, ⟨[.ints .u8 32 ((List.replicate 32 0).set 0 5)], 23⟩), (4, ⟨[cI .i64 (vote (⟨0, 3, 2, (List.replicate 32 0)⟩ : Safe) 4 1 true).1.e, cI .i64 (vote (⟨0, 3, 2, (List.replicate 32 0)⟩ : Safe) 4 1 true).1.v, cI .i64 (vote (⟨0, 3, 2, (List.replicate 32 0)⟩ : Safe) 4 1 true).1.l, .ints .u8 32 ((vote (⟨0, 3, 2, (List.replicate 32 0)⟩ : Safe) 4 1 true).1.d)], 25⟩), (8, ⟨[cI .i64 (see (⟨0, 3, 2, (List.replicate 32 0)⟩ : Safe) 3 ((List.replicate 32 0).set 0 5)).e, cI .i64 (see (⟨0, 3, 2, (List.replicate 32 0)⟩ : Safe) 3 ((List.replicate 32 0).set 0 5)).v, cI .i64 (see (⟨0, 3, 2, (List.replicate 32 0)⟩ : Safe) 3 ((List.replicate 32 0).set 0 5)).l, .ints .u8 32 ((see (⟨0, 3, 2, (List.replicate 32 0)⟩ : Safe) 3 ((List.replicate 32 0).set 0 5)).d)], 25⟩), (9, ⟨[cI .i64 (giveUp (⟨0, 3, 2, (List.replicate 32 0)⟩ : Safe) 5).e, cI .i64 (giveUp (⟨0, 3, 2, (List.replicate 32 0)⟩ : Safe) 5).v, cI .i64 (giveUp (⟨0, 3, 2, (List.replicate 32 0)⟩ : Safe) 5).l, .ints .u8 32 ((giveUp (⟨0, 3, 2, (List.replicate 32 0)⟩ : Safe) 5).d)], 25⟩)]) (by kernel_rfl) ?_
  refine wo_is 33 true rfl (by decide) ?_
  refine wo_run [5, 6, 7] [1, 4, 7, 8, 9, 36] [1, 4, 8, 9] (l' := [(1, eL 1 0), (4, eL 4 0), (7, eB (vote (⟨0, 3, 2, (List.replicate 32 0)⟩ : Safe) 4 2 false).2), (8, eL 8 0), (9, eL 9 0), (36, eB (vote (⟨0, 3, 2, (List.replicate 32 0)⟩ : Safe) 4 1 true).2)]) (H' := [(1, ⟨[.ints .u8 32 ((List.replicate 32 0).set 0 5)], 23⟩), (4, ⟨[cI .i64 (vote (⟨0, 3, 2, (List.replicate 32 0)⟩ : Safe) 4 1 true).1.e, cI .i64 (vote (⟨0, 3, 2, (List.replicate 32 0)⟩ : Safe) 4 1 true).1.v, cI .i64 (vote (⟨0, 3, 2, (List.replicate 32 0)⟩ : Safe) 4 1 true).1.l, .ints .u8 32 ((vote (⟨0, 3, 2, (List.replicate 32 0)⟩ : Safe) 4 1 true).1.d)], 25⟩), (8, ⟨[cI .i64 (see (⟨0, 3, 2, (List.replicate 32 0)⟩ : Safe) 3 ((List.replicate 32 0).set 0 5)).e, cI .i64 (see (⟨0, 3, 2, (List.replicate 32 0)⟩ : Safe) 3 ((List.replicate 32 0).set 0 5)).v, cI .i64 (see (⟨0, 3, 2, (List.replicate 32 0)⟩ : Safe) 3 ((List.replicate 32 0).set 0 5)).l, .ints .u8 32 ((see (⟨0, 3, 2, (List.replicate 32 0)⟩ : Safe) 3 ((List.replicate 32 0).set 0 5)).d)], 25⟩), (9, ⟨[cI .i64 (giveUp (⟨0, 3, 2, (List.replicate 32 0)⟩ : Safe) 5).e, cI .i64 (giveUp (⟨0, 3, 2, (List.replicate 32 0)⟩ : Safe) 5).v, cI .i64 (giveUp (⟨0, 3, 2, (List.replicate 32 0)⟩ : Safe) 5).l, .ints .u8 32 ((giveUp (⟨0, 3, 2, (List.replicate 32 0)⟩ : Safe) 5).d)], 25⟩)]) (by kernel_rfl) ?_
  refine wo_is 36 true rfl (by decide) ?_
  refine wo_run [8, 9, 10, 11, 12] [1, 7, 8, 9, 41] [1, 8, 9] (l' := [(1, eL 1 0), (7, eB (vote (⟨0, 3, 2, (List.replicate 32 0)⟩ : Safe) 4 2 false).2), (8, eL 8 0), (9, eL 9 0), (41, eB ((vote (⟨0, 3, 2, (List.replicate 32 0)⟩ : Safe) 4 1 true).1.v == 4))]) (H' := [(1, ⟨[.ints .u8 32 ((List.replicate 32 0).set 0 5)], 23⟩), (8, ⟨[cI .i64 (see (⟨0, 3, 2, (List.replicate 32 0)⟩ : Safe) 3 ((List.replicate 32 0).set 0 5)).e, cI .i64 (see (⟨0, 3, 2, (List.replicate 32 0)⟩ : Safe) 3 ((List.replicate 32 0).set 0 5)).v, cI .i64 (see (⟨0, 3, 2, (List.replicate 32 0)⟩ : Safe) 3 ((List.replicate 32 0).set 0 5)).l, .ints .u8 32 ((see (⟨0, 3, 2, (List.replicate 32 0)⟩ : Safe) 3 ((List.replicate 32 0).set 0 5)).d)], 25⟩), (9, ⟨[cI .i64 (giveUp (⟨0, 3, 2, (List.replicate 32 0)⟩ : Safe) 5).e, cI .i64 (giveUp (⟨0, 3, 2, (List.replicate 32 0)⟩ : Safe) 5).v, cI .i64 (giveUp (⟨0, 3, 2, (List.replicate 32 0)⟩ : Safe) 5).l, .ints .u8 32 ((giveUp (⟨0, 3, 2, (List.replicate 32 0)⟩ : Safe) 5).d)], 25⟩)]) (by kernel_rfl) ?_
  refine wo_is 41 true rfl (by decide) ?_
  refine wo_run [13, 14, 15, 16] [1, 8, 9, 45] [1, 8, 9] (l' := [(1, eL 1 0), (8, eL 8 0), (9, eL 9 0), (45, eB (!(vote (⟨0, 3, 2, (List.replicate 32 0)⟩ : Safe) 4 2 false).2))]) (H' := [(1, ⟨[.ints .u8 32 ((List.replicate 32 0).set 0 5)], 23⟩), (8, ⟨[cI .i64 (see (⟨0, 3, 2, (List.replicate 32 0)⟩ : Safe) 3 ((List.replicate 32 0).set 0 5)).e, cI .i64 (see (⟨0, 3, 2, (List.replicate 32 0)⟩ : Safe) 3 ((List.replicate 32 0).set 0 5)).v, cI .i64 (see (⟨0, 3, 2, (List.replicate 32 0)⟩ : Safe) 3 ((List.replicate 32 0).set 0 5)).l, .ints .u8 32 ((see (⟨0, 3, 2, (List.replicate 32 0)⟩ : Safe) 3 ((List.replicate 32 0).set 0 5)).d)], 25⟩), (9, ⟨[cI .i64 (giveUp (⟨0, 3, 2, (List.replicate 32 0)⟩ : Safe) 5).e, cI .i64 (giveUp (⟨0, 3, 2, (List.replicate 32 0)⟩ : Safe) 5).v, cI .i64 (giveUp (⟨0, 3, 2, (List.replicate 32 0)⟩ : Safe) 5).l, .ints .u8 32 ((giveUp (⟨0, 3, 2, (List.replicate 32 0)⟩ : Safe) 5).d)], 25⟩)]) (by kernel_rfl) ?_
  refine wo_is 45 true rfl (by decide) ?_
  refine wo_run [17, 18, 19] [8, 9, 45, 47, 48] [8, 9] (l' := [(8, eL 8 0), (9, eL 9 0), (45, eB true), (47, eA [.ints .u8 32 ((see (⟨0, 3, 2, (List.replicate 32 0)⟩ : Safe) 3 ((List.replicate 32 0).set 0 5)).d)]), (48, eA [.ints .u8 32 ((List.replicate 32 0).set 0 5)])]) (H' := [(8, ⟨[cI .i64 (see (⟨0, 3, 2, (List.replicate 32 0)⟩ : Safe) 3 ((List.replicate 32 0).set 0 5)).e, cI .i64 (see (⟨0, 3, 2, (List.replicate 32 0)⟩ : Safe) 3 ((List.replicate 32 0).set 0 5)).v, cI .i64 (see (⟨0, 3, 2, (List.replicate 32 0)⟩ : Safe) 3 ((List.replicate 32 0).set 0 5)).l, .ints .u8 32 ((see (⟨0, 3, 2, (List.replicate 32 0)⟩ : Safe) 3 ((List.replicate 32 0).set 0 5)).d)], 25⟩), (9, ⟨[cI .i64 (giveUp (⟨0, 3, 2, (List.replicate 32 0)⟩ : Safe) 5).e, cI .i64 (giveUp (⟨0, 3, 2, (List.replicate 32 0)⟩ : Safe) 5).v, cI .i64 (giveUp (⟨0, 3, 2, (List.replicate 32 0)⟩ : Safe) 5).l, .ints .u8 32 ((giveUp (⟨0, 3, 2, (List.replicate 32 0)⟩ : Safe) 5).d)], 25⟩)]) (by kernel_rfl) ?_
  refine wo_op rfl rfl (ot_rd rfl (rd_eq (b := ((see (⟨0, 3, 2, (List.replicate 32 0)⟩ : Safe) 3 ((List.replicate 32 0).set 0 5)).d == ((List.replicate 32 0).set 0 5))) 9 ((see (⟨0, 3, 2, (List.replicate 32 0)⟩ : Safe) 3 ((List.replicate 32 0).set 0 5)).d == ((List.replicate 32 0).set 0 5)) rfl rfl rfl (by kernel_rfl) rfl (by kernel_rfl) (.inl ⟨rfl, rfl⟩))) ?_
  refine wo_run [21, 22] [8, 9, 51] [8, 9] (l' := [(8, eL 8 0), (9, eL 9 0), (51, eB ((see (⟨0, 3, 2, (List.replicate 32 0)⟩ : Safe) 3 ((List.replicate 32 0).set 0 5)).d == ((List.replicate 32 0).set 0 5)))]) (H' := [(8, ⟨[cI .i64 (see (⟨0, 3, 2, (List.replicate 32 0)⟩ : Safe) 3 ((List.replicate 32 0).set 0 5)).e, cI .i64 (see (⟨0, 3, 2, (List.replicate 32 0)⟩ : Safe) 3 ((List.replicate 32 0).set 0 5)).v, cI .i64 (see (⟨0, 3, 2, (List.replicate 32 0)⟩ : Safe) 3 ((List.replicate 32 0).set 0 5)).l, .ints .u8 32 ((see (⟨0, 3, 2, (List.replicate 32 0)⟩ : Safe) 3 ((List.replicate 32 0).set 0 5)).d)], 25⟩), (9, ⟨[cI .i64 (giveUp (⟨0, 3, 2, (List.replicate 32 0)⟩ : Safe) 5).e, cI .i64 (giveUp (⟨0, 3, 2, (List.replicate 32 0)⟩ : Safe) 5).v, cI .i64 (giveUp (⟨0, 3, 2, (List.replicate 32 0)⟩ : Safe) 5).l, .ints .u8 32 ((giveUp (⟨0, 3, 2, (List.replicate 32 0)⟩ : Safe) 5).d)], 25⟩)]) (by kernel_rfl) ?_
  refine wo_is 51 true rfl (by decide) ?_
  refine wo_run [23, 24, 25, 26, 27] [9, 56] [9] (l' := [(9, eL 9 0), (56, eB ((see (⟨0, 3, 2, (List.replicate 32 0)⟩ : Safe) 3 ((List.replicate 32 0).set 0 5)).l == 3))]) (H' := [(9, ⟨[cI .i64 (giveUp (⟨0, 3, 2, (List.replicate 32 0)⟩ : Safe) 5).e, cI .i64 (giveUp (⟨0, 3, 2, (List.replicate 32 0)⟩ : Safe) 5).v, cI .i64 (giveUp (⟨0, 3, 2, (List.replicate 32 0)⟩ : Safe) 5).l, .ints .u8 32 ((giveUp (⟨0, 3, 2, (List.replicate 32 0)⟩ : Safe) 5).d)], 25⟩)]) (by kernel_rfl) ?_
  refine wo_is 56 true rfl (by decide) ?_
  refine wo_run [28, 29, 30, 31, 32] [0] [] (l' := [(0, eB ((giveUp (⟨0, 3, 2, (List.replicate 32 0)⟩ : Safe) 5).v == 5))]) (H' := []) (by kernel_rfl) ?_
  refine wo_nil ?_
  refine we_then ?_
  refine wc_ret ?_
  refine we_ret (.inl rfl) (v := eB ((giveUp (⟨0, 3, 2, (List.replicate 32 0)⟩ : Safe) 5).v == 5)) (by kernel_rfl) ?_
  intro ρ' w' hf
  refine ⟨?_, hf.below noS⟩
  exact congrArg (fun b => Ending.returned (EV.conc ρ (eB b))) (by decide)

set_option maxHeartbeats 4000000 in
theorem rulesDo_any (s : Safe) (hs : s.ok) (x : Step) (hx : x.ok) (w : World) (ρ : Nat → Nat) :
    Calls Try.prog 3 ([.agg [cI .i64 s.e, cI .i64 s.v, cI .i64 s.l, .ints .u8 32 s.d], .agg [cI .i64 x.kind, cI .i64 x.view, cI .i64 x.justify, .ints .u8 32 x.block, cB x.ext]].map (SV.conc ρ)).toArray w fun r w' => r = .returned (EV.conc ρ (eB true)) ∧ Below w.heap.size w w' := by
  refine calls_enter (vs := [.agg [cI .i64 s.e, cI .i64 s.v, cI .i64 s.l, .ints .u8 32 s.d], .agg [cI .i64 x.kind, cI .i64 x.view, cI .i64 x.justify, .ints .u8 32 x.block, cB x.ext]]) (N := 76) [] ρ Try.func3 rfl rfl (Nat.le_of_ble_eq_true rfl) (okv_agg (okc_one (okc_one (okc_one (okc_ints (hs) (okc_nil))))) (okv_agg (okc_one (okc_one (okc_one (okc_ints (hx) (okc_one (okc_nil)))))) (okv_nil))) noH noH2 ?_ _ rfl
  refine wc_seq ?_
  refine wc_reg [0, 1, 2] (by kernel_rfl) ?_
  refine wo_run [0, 1, 2] [2, 3] [2, 3] (l' := [(2, eL 2 0), (3, eL 3 0)]) (H' := [(2, ⟨[cI .i64 s.e, cI .i64 s.v, cI .i64 s.l, .ints .u8 32 s.d], 25⟩), (3, ⟨[cI .i64 x.kind, cI .i64 x.view, cI .i64 x.justify, .ints .u8 32 x.block, cB x.ext], 27⟩)]) (by kernel_rfl) ?_
  refine wo_nil ?_
  refine we_then ?_
  refine wc_seq ?_
  refine wc_seq ?_
  refine wc_reg [0, 1] (by kernel_rfl) ?_
  refine wo_op rfl rfl (ot_call (vs := []) rfl rfl rfl Try.func15 (by kernel_rfl) (by kernel_rfl) (by kernel_rfl) (eB true) (trivial) (fun ρ w _ => awake_any w ρ)) ?_
  refine wo_run [1] [2, 3, 11] [2, 3] (l' := [(2, eL 2 0), (3, eL 3 0), (11, eB false)]) (H' := [(2, ⟨[cI .i64 s.e, cI .i64 s.v, cI .i64 s.l, .ints .u8 32 s.d], 25⟩), (3, ⟨[cI .i64 x.kind, cI .i64 x.view, cI .i64 x.justify, .ints .u8 32 x.block, cB x.ext], 27⟩)]) (by kernel_rfl) ?_
  refine wo_nil ?_
  refine we_then ?_
  refine wc_false rfl ?_
  refine wc_skip ?_
  refine we_then ?_
  refine wc_seq ?_
  refine wc_reg [0, 1, 2, 3, 4, 5, 6, 7, 8, 9, 10] (by kernel_rfl) ?_
  refine wo_run [0, 1, 2, 3, 4, 5, 6, 7] [2, 3, 13, 15, 17, 19] [2, 3] (l' := [(2, eL 2 0), (3, eL 3 0), (13, eI .i64 s.e), (15, eI .i64 s.v), (17, eI .i64 s.l), (19, eA [.ints .u8 32 s.d])]) (H' := [(2, ⟨[cI .i64 s.e, cI .i64 s.v, cI .i64 s.l, .ints .u8 32 s.d], 25⟩), (3, ⟨[cI .i64 x.kind, cI .i64 x.view, cI .i64 x.justify, .ints .u8 32 x.block, cB x.ext], 27⟩)]) (by kernel_rfl) ?_
  refine wo_op rfl rfl (ot_rd rfl (rd_build (zc := z29) [cI .i64 s.e, cI .i64 s.v, cI .i64 s.l, .ints .u8 32 s.d] rfl z29_zero' z29_ok (fun _ => rfl) (by kernel_rfl) (by kernel_rfl))) ?_
  refine wo_op rfl rfl (ot_alloc (d := 5) (cs := z29) rfl rfl z29_zero rfl z29_ok (fun _ => rfl)) ?_
  refine wo_run [10] [2, 3, 5] [2, 3, 5] (l' := [(2, eL 2 0), (3, eL 3 0), (5, eL 5 0)]) (H' := [(2, ⟨[cI .i64 s.e, cI .i64 s.v, cI .i64 s.l, .ints .u8 32 s.d], 25⟩), (3, ⟨[cI .i64 x.kind, cI .i64 x.view, cI .i64 x.justify, .ints .u8 32 x.block, cB x.ext], 27⟩), (5, ⟨[cI .i64 s.e, cI .i64 s.v, cI .i64 s.l, .ints .u8 32 s.d], 29⟩)]) (by kernel_rfl) ?_
  refine wo_nil ?_
  refine we_then ?_
  refine wc_seq ?_
  refine wc_reg [0, 1, 2, 3, 4, 5, 6, 7, 8] (by kernel_rfl) ?_
  refine wo_run [0, 1] [2, 3, 5, 22, 23] [2, 3, 5] (l' := [(2, eL 2 0), (3, eL 3 0), (5, eL 5 0), (22, eA [cI .i64 s.e, cI .i64 s.v, cI .i64 s.l, .ints .u8 32 s.d]), (23, eA [cI .i64 x.kind, cI .i64 x.view, cI .i64 x.justify, .ints .u8 32 x.block, cB x.ext])]) (H' := [(2, ⟨[cI .i64 s.e, cI .i64 s.v, cI .i64 s.l, .ints .u8 32 s.d], 25⟩), (3, ⟨[cI .i64 x.kind, cI .i64 x.view, cI .i64 x.justify, .ints .u8 32 x.block, cB x.ext], 27⟩), (5, ⟨[cI .i64 s.e, cI .i64 s.v, cI .i64 s.l, .ints .u8 32 s.d], 29⟩)]) (by kernel_rfl) ?_
  refine wo_op rfl rfl (ot_call (vs := [.agg [cI .i64 s.e, cI .i64 s.v, cI .i64 s.l, .ints .u8 32 s.d], .agg [cI .i64 x.kind, cI .i64 x.view, cI .i64 x.justify, .ints .u8 32 x.block, cB x.ext]]) rfl rfl rfl Try.func16 (by kernel_rfl) (by kernel_rfl) (by kernel_rfl) (.t [.agg [cI .i64 (doStep s x).1.e, cI .i64 (doStep s x).1.v, cI .i64 (doStep s x).1.l, .ints .u8 32 ((doStep s x).1.d)], sB (doStep s x).2]) (okv_agg (okc_one (okc_one (okc_one (okc_ints (by (show Safe.ok _; repeat' (first | assumption | apply giveUp_ok | apply see_ok | apply vote_ok | apply doStep_ok | (simp [Safe.ok, Step.ok]; done)))) (okc_nil))))) (okv_a (okv_nil))) (fun ρ w _ => do_any s (hs) x (hx) w ρ)) ?_
  refine wo_run [3, 4, 5] [2, 3, 5, 25, 26] [2, 3, 5] (l' := [(2, eL 2 0), (3, eL 3 0), (5, eL 5 0), (25, eA [cI .i64 (doStep s x).1.e, cI .i64 (doStep s x).1.v, cI .i64 (doStep s x).1.l, .ints .u8 32 ((doStep s x).1.d)]), (26, eB (doStep s x).2)]) (H' := [(2, ⟨[cI .i64 s.e, cI .i64 s.v, cI .i64 s.l, .ints .u8 32 s.d], 25⟩), (3, ⟨[cI .i64 x.kind, cI .i64 x.view, cI .i64 x.justify, .ints .u8 32 x.block, cB x.ext], 27⟩), (5, ⟨[cI .i64 s.e, cI .i64 s.v, cI .i64 s.l, .ints .u8 32 s.d], 29⟩)]) (by kernel_rfl) ?_
  refine wo_op rfl rfl (ot_alloc (d := 6) (cs := z25) rfl rfl z25_zero rfl z25_ok (fun _ => rfl)) ?_
  refine wo_run [7, 8] [2, 3, 5, 6, 7] [2, 3, 5, 6] (l' := [(2, eL 2 0), (3, eL 3 0), (5, eL 5 0), (6, eL 6 0), (7, eB (doStep s x).2)]) (H' := [(2, ⟨[cI .i64 s.e, cI .i64 s.v, cI .i64 s.l, .ints .u8 32 s.d], 25⟩), (3, ⟨[cI .i64 x.kind, cI .i64 x.view, cI .i64 x.justify, .ints .u8 32 x.block, cB x.ext], 27⟩), (5, ⟨[cI .i64 s.e, cI .i64 s.v, cI .i64 s.l, .ints .u8 32 s.d], 29⟩), (6, ⟨[cI .i64 (doStep s x).1.e, cI .i64 (doStep s x).1.v, cI .i64 (doStep s x).1.l, .ints .u8 32 ((doStep s x).1.d)], 25⟩)]) (by kernel_rfl) ?_
  refine wo_nil ?_
  refine we_then ?_
  refine wc_seq ?_
  refine wc_reg [0] (by kernel_rfl) ?_
  refine wo_run [0] [2, 3, 5, 6, 7, 8] [2, 3, 5, 6] (l' := [(2, eL 2 0), (3, eL 3 0), (5, eL 5 0), (6, eL 6 0), (7, eB (doStep s x).2), (8, eB false)]) (H' := [(2, ⟨[cI .i64 s.e, cI .i64 s.v, cI .i64 s.l, .ints .u8 32 s.d], 25⟩), (3, ⟨[cI .i64 x.kind, cI .i64 x.view, cI .i64 x.justify, .ints .u8 32 x.block, cB x.ext], 27⟩), (5, ⟨[cI .i64 s.e, cI .i64 s.v, cI .i64 s.l, .ints .u8 32 s.d], 29⟩), (6, ⟨[cI .i64 (doStep s x).1.e, cI .i64 (doStep s x).1.v, cI .i64 (doStep s x).1.l, .ints .u8 32 ((doStep s x).1.d)], 25⟩)]) (by kernel_rfl) ?_
  refine wo_nil ?_
  refine we_then ?_
  refine wc_seq ?_
  refine wc_seq ?_
  refine wc_reg [0, 1] (by kernel_rfl) ?_
  refine wo_run [0, 1] [2, 3, 5, 6, 7, 8, 28] [2, 3, 5, 6] (l' := [(2, eL 2 0), (3, eL 3 0), (5, eL 5 0), (6, eL 6 0), (7, eB (doStep s x).2), (8, eB false), (28, eI .i64 x.kind)]) (H' := [(2, ⟨[cI .i64 s.e, cI .i64 s.v, cI .i64 s.l, .ints .u8 32 s.d], 25⟩), (3, ⟨[cI .i64 x.kind, cI .i64 x.view, cI .i64 x.justify, .ints .u8 32 x.block, cB x.ext], 27⟩), (5, ⟨[cI .i64 s.e, cI .i64 s.v, cI .i64 s.l, .ints .u8 32 s.d], 29⟩), (6, ⟨[cI .i64 (doStep s x).1.e, cI .i64 (doStep s x).1.v, cI .i64 (doStep s x).1.l, .ints .u8 32 ((doStep s x).1.d)], 25⟩)]) (by kernel_rfl) ?_
  refine wo_nil ?_
  refine we_then ?_
  refine wc_block ?_
  refine wc_seq ?_
  refine wc_reg [0, 1] (by kernel_rfl) ?_
  refine wo_run [0, 1] [2, 3, 5, 6, 7, 8, 28, 33] [2, 3, 5, 6] (l' := [(2, eL 2 0), (3, eL 3 0), (5, eL 5 0), (6, eL 6 0), (7, eB (doStep s x).2), (8, eB false), (28, eI .i64 x.kind), (33, eB (x.kind == 0))]) (H' := [(2, ⟨[cI .i64 s.e, cI .i64 s.v, cI .i64 s.l, .ints .u8 32 s.d], 25⟩), (3, ⟨[cI .i64 x.kind, cI .i64 x.view, cI .i64 x.justify, .ints .u8 32 x.block, cB x.ext], 27⟩), (5, ⟨[cI .i64 s.e, cI .i64 s.v, cI .i64 s.l, .ints .u8 32 s.d], 29⟩), (6, ⟨[cI .i64 (doStep s x).1.e, cI .i64 (doStep s x).1.v, cI .i64 (doStep s x).1.l, .ints .u8 32 ((doStep s x).1.d)], 25⟩)]) (by kernel_rfl) ?_
  refine wo_nil ?_
  refine we_then ?_
  refine wc_cond rfl (fun h1 => ?_) (fun h1 => ?_)
  · replace h1 := eq_of_beq h1
    refine wc_reg [0, 1, 2, 3, 4, 5, 6] (by kernel_rfl) ?_
    refine wo_run [0, 1, 2, 3, 4] [2, 5, 6, 7, 8, 35, 37, 39] [2, 5, 6] (l' := [(2, eL 2 0), (5, eL 5 0), (6, eL 6 0), (7, eB (doStep s x).2), (8, eB false), (35, eA [cI .i64 s.e, cI .i64 s.v, cI .i64 s.l, .ints .u8 32 s.d]), (37, eI .i64 x.view), (39, eA [.ints .u8 32 x.block])]) (H' := [(2, ⟨[cI .i64 s.e, cI .i64 s.v, cI .i64 s.l, .ints .u8 32 s.d], 25⟩), (5, ⟨[cI .i64 s.e, cI .i64 s.v, cI .i64 s.l, .ints .u8 32 s.d], 29⟩), (6, ⟨[cI .i64 (doStep s x).1.e, cI .i64 (doStep s x).1.v, cI .i64 (doStep s x).1.l, .ints .u8 32 ((doStep s x).1.d)], 25⟩)]) (by kernel_rfl) ?_
    refine wo_op rfl rfl (ot_call (vs := [.agg [cI .i64 s.e, cI .i64 s.v, cI .i64 s.l, .ints .u8 32 s.d], sI .i64 x.view, .agg [.ints .u8 32 x.block]]) rfl rfl rfl Try.func17 (by kernel_rfl) (by kernel_rfl) (by kernel_rfl) (eA [cI .i64 (see s x.view x.block).e, cI .i64 (see s x.view x.block).v, cI .i64 (see s x.view x.block).l, .ints .u8 32 ((see s x.view x.block).d)]) (okc_one (okc_one (okc_one (okc_ints (by (show Safe.ok _; repeat' (first | assumption | apply giveUp_ok | apply see_ok | apply vote_ok | apply doStep_ok | (simp [Safe.ok, Step.ok]; done)))) (okc_nil))))) (fun ρ w _ => rsee_any s (hs) x.view x.block (hx) w ρ)) ?_
    refine wo_run [6] [2, 5, 6, 7, 8] [2, 5, 6] (l' := [(2, eL 2 0), (5, eL 5 0), (6, eL 6 0), (7, eB (doStep s x).2), (8, eB false)]) (H' := [(2, ⟨[cI .i64 s.e, cI .i64 s.v, cI .i64 s.l, .ints .u8 32 s.d], 25⟩), (5, ⟨[cI .i64 (see s x.view x.block).e, cI .i64 (see s x.view x.block).v, cI .i64 (see s x.view x.block).l, .ints .u8 32 ((see s x.view x.block).d)], 29⟩), (6, ⟨[cI .i64 (doStep s x).1.e, cI .i64 (doStep s x).1.v, cI .i64 (doStep s x).1.l, .ints .u8 32 ((doStep s x).1.d)], 25⟩)]) (by kernel_rfl) ?_
    refine wo_nil ?_
    refine we_block ?_
    refine we_then ?_
    refine wc_seq ?_
    refine wc_reg [0, 1, 2, 3, 4, 5, 6] (by kernel_rfl) ?_
    refine wo_run [0, 1, 2, 3] [2, 5, 6, 7, 8, 55, 57] [2, 5, 6] (l' := [(2, eL 2 0), (5, eL 5 0), (6, eL 6 0), (7, eB (doStep s x).2), (8, eB false), (55, eI .i64 s.e), (57, eA [.ints .u8 32 s.d])]) (H' := [(2, ⟨[cI .i64 s.e, cI .i64 s.v, cI .i64 s.l, .ints .u8 32 s.d], 25⟩), (5, ⟨[cI .i64 (see s x.view x.block).e, cI .i64 (see s x.view x.block).v, cI .i64 (see s x.view x.block).l, .ints .u8 32 ((see s x.view x.block).d)], 29⟩), (6, ⟨[cI .i64 (doStep s x).1.e, cI .i64 (doStep s x).1.v, cI .i64 (doStep s x).1.l, .ints .u8 32 ((doStep s x).1.d)], 25⟩)]) (by kernel_rfl) ?_
    refine wo_op rfl rfl (ot_call (vs := [sI .i64 s.e, .agg [.ints .u8 32 s.d]]) rfl rfl rfl Try.func20 (by kernel_rfl) (by kernel_rfl) (by kernel_rfl) (eA [cI .i64 s.e, cI .i64 0, cI .i64 0, .ints .u8 32 s.d]) (okc_one (okc_one (okc_one (okc_ints (hs) (okc_nil))))) (fun ρ w _ => new_any s.e s.d (hs) w ρ)) ?_
    refine wo_op rfl rfl (ot_alloc (d := 9) (cs := z25) rfl rfl z25_zero rfl z25_ok (fun _ => rfl)) ?_
    refine wo_run [6] [2, 5, 6, 7, 8, 9] [2, 5, 6, 9] (l' := [(2, eL 2 0), (5, eL 5 0), (6, eL 6 0), (7, eB (doStep s x).2), (8, eB false), (9, eL 9 0)]) (H' := [(2, ⟨[cI .i64 s.e, cI .i64 s.v, cI .i64 s.l, .ints .u8 32 s.d], 25⟩), (5, ⟨[cI .i64 (see s x.view x.block).e, cI .i64 (see s x.view x.block).v, cI .i64 (see s x.view x.block).l, .ints .u8 32 ((see s x.view x.block).d)], 29⟩), (6, ⟨[cI .i64 (doStep s x).1.e, cI .i64 (doStep s x).1.v, cI .i64 (doStep s x).1.l, .ints .u8 32 ((doStep s x).1.d)], 25⟩), (9, ⟨[cI .i64 s.e, cI .i64 0, cI .i64 0, .ints .u8 32 s.d], 25⟩)]) (by kernel_rfl) ?_
    refine wo_nil ?_
    refine we_then ?_
    refine wc_seq ?_
    refine wc_reg [0, 1, 2, 3, 4, 5, 6, 7, 8, 9, 10, 11, 12, 13, 14, 15, 16, 17] (by kernel_rfl) ?_
    refine wo_run [0, 1] [2, 7, 8, 9, 59, 60] [2, 9] (l' := [(2, eL 2 0), (7, eB (doStep s x).2), (8, eB false), (9, eL 9 0), (59, eA [cI .i64 (doStep s x).1.e, cI .i64 (doStep s x).1.v, cI .i64 (doStep s x).1.l, .ints .u8 32 ((doStep s x).1.d)]), (60, eA [cI .i64 (see s x.view x.block).e, cI .i64 (see s x.view x.block).v, cI .i64 (see s x.view x.block).l, .ints .u8 32 ((see s x.view x.block).d)])]) (H' := [(2, ⟨[cI .i64 s.e, cI .i64 s.v, cI .i64 s.l, .ints .u8 32 s.d], 25⟩), (9, ⟨[cI .i64 s.e, cI .i64 0, cI .i64 0, .ints .u8 32 s.d], 25⟩)]) (by kernel_rfl) ?_
    refine wo_op rfl rfl (ot_call (vs := [.agg [cI .i64 (doStep s x).1.e, cI .i64 (doStep s x).1.v, cI .i64 (doStep s x).1.l, .ints .u8 32 ((doStep s x).1.d)], .agg [cI .i64 (see s x.view x.block).e, cI .i64 (see s x.view x.block).v, cI .i64 (see s x.view x.block).l, .ints .u8 32 ((see s x.view x.block).d)]]) rfl rfl rfl Try.func21 (by kernel_rfl) (by kernel_rfl) (by kernel_rfl) (eB (safeEq (doStep s x).1 (see s x.view x.block))) (trivial) (fun ρ w _ => same_any (doStep s x).1 (by (show Safe.ok _; repeat' (first | assumption | apply giveUp_ok | apply see_ok | apply vote_ok | apply doStep_ok | (simp [Safe.ok, Step.ok]; done)))) (see s x.view x.block) (by (show Safe.ok _; repeat' (first | assumption | apply giveUp_ok | apply see_ok | apply vote_ok | apply doStep_ok | (simp [Safe.ok, Step.ok]; done)))) w ρ)) ?_
    refine wo_run [3] [2, 7, 8, 9, 62] [2, 9] (l' := [(2, eL 2 0), (7, eB (doStep s x).2), (8, eB false), (9, eL 9 0), (62, eB (safeEq (doStep s x).1 (see s x.view x.block)))]) (H' := [(2, ⟨[cI .i64 s.e, cI .i64 s.v, cI .i64 s.l, .ints .u8 32 s.d], 25⟩), (9, ⟨[cI .i64 s.e, cI .i64 0, cI .i64 0, .ints .u8 32 s.d], 25⟩)]) (by kernel_rfl) ?_
    refine wo_bool 62 rfl (fun h2 => ?_) (fun h2 => ?_)
    · refine wo_run [4, 5, 6, 7, 8] [2, 9, 67] [2, 9] (l' := [(2, eL 2 0), (9, eL 9 0), (67, eB ((doStep s x).2 == false))]) (H' := [(2, ⟨[cI .i64 s.e, cI .i64 s.v, cI .i64 s.l, .ints .u8 32 s.d], 25⟩), (9, ⟨[cI .i64 s.e, cI .i64 0, cI .i64 0, .ints .u8 32 s.d], 25⟩)]) (by kernel_rfl) ?_
      refine wo_bool 67 rfl (fun h3 => ?_) (fun h3 => ?_)
      · refine wo_run [9, 10, 11, 12, 13] [67, 68, 70, 72] [] (l' := [(67, eB true), (68, eA [cI .i64 s.e, cI .i64 0, cI .i64 0, .ints .u8 32 s.d]), (70, eI .i64 s.e), (72, eA [.ints .u8 32 s.d])]) (H' := []) (by kernel_rfl) ?_
        refine wo_op rfl rfl (ot_rd rfl (rd_build (zc := z29) [cI .i64 s.e, cI .i64 0, cI .i64 0, .ints .u8 32 s.d] rfl z29_zero' z29_ok (fun _ => rfl) (by kernel_rfl) (by kernel_rfl))) ?_
        refine wo_op rfl rfl (ot_call (vs := [.agg [cI .i64 s.e, cI .i64 0, cI .i64 0, .ints .u8 32 s.d], .agg [cI .i64 s.e, cI .i64 0, cI .i64 0, .ints .u8 32 s.d]]) rfl rfl rfl Try.func21 (by kernel_rfl) (by kernel_rfl) (by kernel_rfl) (eB (safeEq (⟨s.e, 0, 0, s.d⟩ : Safe) (⟨s.e, 0, 0, s.d⟩ : Safe))) (trivial) (fun ρ w _ => same_any (⟨s.e, 0, 0, s.d⟩ : Safe) (hs) (⟨s.e, 0, 0, s.d⟩ : Safe) (hs) w ρ)) ?_
        refine wo_run [16, 17] [4] [] (l' := [(4, eB (safeEq (⟨s.e, 0, 0, s.d⟩ : Safe) (⟨s.e, 0, 0, s.d⟩ : Safe)))]) (H' := []) (by kernel_rfl) ?_
        refine wo_nil ?_
        refine we_then ?_
        refine wc_ret ?_
        refine we_ret (.inl rfl) (v := eB (safeEq (⟨s.e, 0, 0, s.d⟩ : Safe) (⟨s.e, 0, 0, s.d⟩ : Safe))) (by kernel_rfl) ?_
        intro ρ' w' hf
        refine ⟨?_, hf.below noS⟩
        exact congrArg (fun b => Ending.returned (EV.conc ρ (eB b))) (by simp_all [doStep, safeEq])
      · simp_all [doStep, safeEq]
    · simp_all [doStep, safeEq]
  · replace h1 := ne_of_beq_false h1
    refine wc_seq ?_
    refine wc_reg [0, 1] (by kernel_rfl) ?_
    refine wo_run [0, 1] [2, 3, 5, 6, 7, 8, 41] [2, 3, 5, 6] (l' := [(2, eL 2 0), (3, eL 3 0), (5, eL 5 0), (6, eL 6 0), (7, eB (doStep s x).2), (8, eB false), (41, eB (x.kind == 1))]) (H' := [(2, ⟨[cI .i64 s.e, cI .i64 s.v, cI .i64 s.l, .ints .u8 32 s.d], 25⟩), (3, ⟨[cI .i64 x.kind, cI .i64 x.view, cI .i64 x.justify, .ints .u8 32 x.block, cB x.ext], 27⟩), (5, ⟨[cI .i64 s.e, cI .i64 s.v, cI .i64 s.l, .ints .u8 32 s.d], 29⟩), (6, ⟨[cI .i64 (doStep s x).1.e, cI .i64 (doStep s x).1.v, cI .i64 (doStep s x).1.l, .ints .u8 32 ((doStep s x).1.d)], 25⟩)]) (by kernel_rfl) ?_
    refine wo_nil ?_
    refine we_then ?_
    refine wc_cond rfl (fun h4 => ?_) (fun h4 => ?_)
    · replace h4 := eq_of_beq h4
      refine wc_reg [0, 1, 2, 3, 4, 5, 6, 7, 8, 9, 10, 11, 12] (by kernel_rfl) ?_
      refine wo_run [0, 1, 2, 3, 4, 5, 6] [2, 5, 6, 7, 44, 46, 48, 50] [2, 5, 6] (l' := [(2, eL 2 0), (5, eL 5 0), (6, eL 6 0), (7, eB (doStep s x).2), (44, eA [cI .i64 s.e, cI .i64 s.v, cI .i64 s.l, .ints .u8 32 s.d]), (46, eI .i64 x.view), (48, eI .i64 x.justify), (50, eB x.ext)]) (H' := [(2, ⟨[cI .i64 s.e, cI .i64 s.v, cI .i64 s.l, .ints .u8 32 s.d], 25⟩), (5, ⟨[cI .i64 s.e, cI .i64 s.v, cI .i64 s.l, .ints .u8 32 s.d], 29⟩), (6, ⟨[cI .i64 (doStep s x).1.e, cI .i64 (doStep s x).1.v, cI .i64 (doStep s x).1.l, .ints .u8 32 ((doStep s x).1.d)], 25⟩)]) (by kernel_rfl) ?_
      refine wo_op rfl rfl (ot_call (vs := [.agg [cI .i64 s.e, cI .i64 s.v, cI .i64 s.l, .ints .u8 32 s.d], sI .i64 x.view, sI .i64 x.justify, sB x.ext]) rfl rfl rfl Try.func18 (by kernel_rfl) (by kernel_rfl) (by kernel_rfl) (.t [.agg [cI .i64 (vote s x.view x.justify x.ext).1.e, cI .i64 (vote s x.view x.justify x.ext).1.v, cI .i64 (vote s x.view x.justify x.ext).1.l, .ints .u8 32 ((vote s x.view x.justify x.ext).1.d)], sB (vote s x.view x.justify x.ext).2]) (okv_agg (okc_one (okc_one (okc_one (okc_ints (by (show Safe.ok _; repeat' (first | assumption | apply giveUp_ok | apply see_ok | apply vote_ok | apply doStep_ok | (simp [Safe.ok, Step.ok]; done)))) (okc_nil))))) (okv_a (okv_nil))) (fun ρ w _ => rvote_any s (hs) x.view x.justify x.ext w ρ)) ?_
      refine wo_run [8, 9, 10, 11, 12] [2, 5, 6, 7, 8] [2, 5, 6] (l' := [(2, eL 2 0), (5, eL 5 0), (6, eL 6 0), (7, eB (doStep s x).2), (8, eB (vote s x.view x.justify x.ext).2)]) (H' := [(2, ⟨[cI .i64 s.e, cI .i64 s.v, cI .i64 s.l, .ints .u8 32 s.d], 25⟩), (5, ⟨[cI .i64 (vote s x.view x.justify x.ext).1.e, cI .i64 (vote s x.view x.justify x.ext).1.v, cI .i64 (vote s x.view x.justify x.ext).1.l, .ints .u8 32 ((vote s x.view x.justify x.ext).1.d)], 29⟩), (6, ⟨[cI .i64 (doStep s x).1.e, cI .i64 (doStep s x).1.v, cI .i64 (doStep s x).1.l, .ints .u8 32 ((doStep s x).1.d)], 25⟩)]) (by kernel_rfl) ?_
      refine wo_nil ?_
      refine we_block ?_
      refine we_then ?_
      refine wc_seq ?_
      refine wc_reg [0, 1, 2, 3, 4, 5, 6] (by kernel_rfl) ?_
      refine wo_run [0, 1, 2, 3] [2, 5, 6, 7, 8, 55, 57] [2, 5, 6] (l' := [(2, eL 2 0), (5, eL 5 0), (6, eL 6 0), (7, eB (doStep s x).2), (8, eB (vote s x.view x.justify x.ext).2), (55, eI .i64 s.e), (57, eA [.ints .u8 32 s.d])]) (H' := [(2, ⟨[cI .i64 s.e, cI .i64 s.v, cI .i64 s.l, .ints .u8 32 s.d], 25⟩), (5, ⟨[cI .i64 (vote s x.view x.justify x.ext).1.e, cI .i64 (vote s x.view x.justify x.ext).1.v, cI .i64 (vote s x.view x.justify x.ext).1.l, .ints .u8 32 ((vote s x.view x.justify x.ext).1.d)], 29⟩), (6, ⟨[cI .i64 (doStep s x).1.e, cI .i64 (doStep s x).1.v, cI .i64 (doStep s x).1.l, .ints .u8 32 ((doStep s x).1.d)], 25⟩)]) (by kernel_rfl) ?_
      refine wo_op rfl rfl (ot_call (vs := [sI .i64 s.e, .agg [.ints .u8 32 s.d]]) rfl rfl rfl Try.func20 (by kernel_rfl) (by kernel_rfl) (by kernel_rfl) (eA [cI .i64 s.e, cI .i64 0, cI .i64 0, .ints .u8 32 s.d]) (okc_one (okc_one (okc_one (okc_ints (hs) (okc_nil))))) (fun ρ w _ => new_any s.e s.d (hs) w ρ)) ?_
      refine wo_op rfl rfl (ot_alloc (d := 9) (cs := z25) rfl rfl z25_zero rfl z25_ok (fun _ => rfl)) ?_
      refine wo_run [6] [2, 5, 6, 7, 8, 9] [2, 5, 6, 9] (l' := [(2, eL 2 0), (5, eL 5 0), (6, eL 6 0), (7, eB (doStep s x).2), (8, eB (vote s x.view x.justify x.ext).2), (9, eL 9 0)]) (H' := [(2, ⟨[cI .i64 s.e, cI .i64 s.v, cI .i64 s.l, .ints .u8 32 s.d], 25⟩), (5, ⟨[cI .i64 (vote s x.view x.justify x.ext).1.e, cI .i64 (vote s x.view x.justify x.ext).1.v, cI .i64 (vote s x.view x.justify x.ext).1.l, .ints .u8 32 ((vote s x.view x.justify x.ext).1.d)], 29⟩), (6, ⟨[cI .i64 (doStep s x).1.e, cI .i64 (doStep s x).1.v, cI .i64 (doStep s x).1.l, .ints .u8 32 ((doStep s x).1.d)], 25⟩), (9, ⟨[cI .i64 s.e, cI .i64 0, cI .i64 0, .ints .u8 32 s.d], 25⟩)]) (by kernel_rfl) ?_
      refine wo_nil ?_
      refine we_then ?_
      refine wc_seq ?_
      refine wc_reg [0, 1, 2, 3, 4, 5, 6, 7, 8, 9, 10, 11, 12, 13, 14, 15, 16, 17] (by kernel_rfl) ?_
      refine wo_run [0, 1] [2, 7, 8, 9, 59, 60] [2, 9] (l' := [(2, eL 2 0), (7, eB (doStep s x).2), (8, eB (vote s x.view x.justify x.ext).2), (9, eL 9 0), (59, eA [cI .i64 (doStep s x).1.e, cI .i64 (doStep s x).1.v, cI .i64 (doStep s x).1.l, .ints .u8 32 ((doStep s x).1.d)]), (60, eA [cI .i64 (vote s x.view x.justify x.ext).1.e, cI .i64 (vote s x.view x.justify x.ext).1.v, cI .i64 (vote s x.view x.justify x.ext).1.l, .ints .u8 32 ((vote s x.view x.justify x.ext).1.d)])]) (H' := [(2, ⟨[cI .i64 s.e, cI .i64 s.v, cI .i64 s.l, .ints .u8 32 s.d], 25⟩), (9, ⟨[cI .i64 s.e, cI .i64 0, cI .i64 0, .ints .u8 32 s.d], 25⟩)]) (by kernel_rfl) ?_
      refine wo_op rfl rfl (ot_call (vs := [.agg [cI .i64 (doStep s x).1.e, cI .i64 (doStep s x).1.v, cI .i64 (doStep s x).1.l, .ints .u8 32 ((doStep s x).1.d)], .agg [cI .i64 (vote s x.view x.justify x.ext).1.e, cI .i64 (vote s x.view x.justify x.ext).1.v, cI .i64 (vote s x.view x.justify x.ext).1.l, .ints .u8 32 ((vote s x.view x.justify x.ext).1.d)]]) rfl rfl rfl Try.func21 (by kernel_rfl) (by kernel_rfl) (by kernel_rfl) (eB (safeEq (doStep s x).1 (vote s x.view x.justify x.ext).1)) (trivial) (fun ρ w _ => same_any (doStep s x).1 (by (show Safe.ok _; repeat' (first | assumption | apply giveUp_ok | apply see_ok | apply vote_ok | apply doStep_ok | (simp [Safe.ok, Step.ok]; done)))) (vote s x.view x.justify x.ext).1 (by (show Safe.ok _; repeat' (first | assumption | apply giveUp_ok | apply see_ok | apply vote_ok | apply doStep_ok | (simp [Safe.ok, Step.ok]; done)))) w ρ)) ?_
      refine wo_run [3] [2, 7, 8, 9, 62] [2, 9] (l' := [(2, eL 2 0), (7, eB (doStep s x).2), (8, eB (vote s x.view x.justify x.ext).2), (9, eL 9 0), (62, eB (safeEq (doStep s x).1 (vote s x.view x.justify x.ext).1))]) (H' := [(2, ⟨[cI .i64 s.e, cI .i64 s.v, cI .i64 s.l, .ints .u8 32 s.d], 25⟩), (9, ⟨[cI .i64 s.e, cI .i64 0, cI .i64 0, .ints .u8 32 s.d], 25⟩)]) (by kernel_rfl) ?_
      refine wo_bool 62 rfl (fun h5 => ?_) (fun h5 => ?_)
      · refine wo_run [4, 5, 6, 7, 8] [2, 9, 67] [2, 9] (l' := [(2, eL 2 0), (9, eL 9 0), (67, eB ((doStep s x).2 == (vote s x.view x.justify x.ext).2))]) (H' := [(2, ⟨[cI .i64 s.e, cI .i64 s.v, cI .i64 s.l, .ints .u8 32 s.d], 25⟩), (9, ⟨[cI .i64 s.e, cI .i64 0, cI .i64 0, .ints .u8 32 s.d], 25⟩)]) (by kernel_rfl) ?_
        refine wo_bool 67 rfl (fun h6 => ?_) (fun h6 => ?_)
        · refine wo_run [9, 10, 11, 12, 13] [67, 68, 70, 72] [] (l' := [(67, eB true), (68, eA [cI .i64 s.e, cI .i64 0, cI .i64 0, .ints .u8 32 s.d]), (70, eI .i64 s.e), (72, eA [.ints .u8 32 s.d])]) (H' := []) (by kernel_rfl) ?_
          refine wo_op rfl rfl (ot_rd rfl (rd_build (zc := z29) [cI .i64 s.e, cI .i64 0, cI .i64 0, .ints .u8 32 s.d] rfl z29_zero' z29_ok (fun _ => rfl) (by kernel_rfl) (by kernel_rfl))) ?_
          refine wo_op rfl rfl (ot_call (vs := [.agg [cI .i64 s.e, cI .i64 0, cI .i64 0, .ints .u8 32 s.d], .agg [cI .i64 s.e, cI .i64 0, cI .i64 0, .ints .u8 32 s.d]]) rfl rfl rfl Try.func21 (by kernel_rfl) (by kernel_rfl) (by kernel_rfl) (eB (safeEq (⟨s.e, 0, 0, s.d⟩ : Safe) (⟨s.e, 0, 0, s.d⟩ : Safe))) (trivial) (fun ρ w _ => same_any (⟨s.e, 0, 0, s.d⟩ : Safe) (hs) (⟨s.e, 0, 0, s.d⟩ : Safe) (hs) w ρ)) ?_
          refine wo_run [16, 17] [4] [] (l' := [(4, eB (safeEq (⟨s.e, 0, 0, s.d⟩ : Safe) (⟨s.e, 0, 0, s.d⟩ : Safe)))]) (H' := []) (by kernel_rfl) ?_
          refine wo_nil ?_
          refine we_then ?_
          refine wc_ret ?_
          refine we_ret (.inl rfl) (v := eB (safeEq (⟨s.e, 0, 0, s.d⟩ : Safe) (⟨s.e, 0, 0, s.d⟩ : Safe))) (by kernel_rfl) ?_
          intro ρ' w' hf
          refine ⟨?_, hf.below noS⟩
          exact congrArg (fun b => Ending.returned (EV.conc ρ (eB b))) (by simp_all [doStep, safeEq])
        · simp_all [doStep, safeEq]
      · simp_all [doStep, safeEq]
    · replace h4 := ne_of_beq_false h4
      refine wc_reg [0, 1, 2, 3, 4] (by kernel_rfl) ?_
      refine wo_run [0, 1, 2] [2, 5, 6, 7, 8, 29, 31] [2, 5, 6] (l' := [(2, eL 2 0), (5, eL 5 0), (6, eL 6 0), (7, eB (doStep s x).2), (8, eB false), (29, eA [cI .i64 s.e, cI .i64 s.v, cI .i64 s.l, .ints .u8 32 s.d]), (31, eI .i64 x.view)]) (H' := [(2, ⟨[cI .i64 s.e, cI .i64 s.v, cI .i64 s.l, .ints .u8 32 s.d], 25⟩), (5, ⟨[cI .i64 s.e, cI .i64 s.v, cI .i64 s.l, .ints .u8 32 s.d], 29⟩), (6, ⟨[cI .i64 (doStep s x).1.e, cI .i64 (doStep s x).1.v, cI .i64 (doStep s x).1.l, .ints .u8 32 ((doStep s x).1.d)], 25⟩)]) (by kernel_rfl) ?_
      refine wo_op rfl rfl (ot_call (vs := [.agg [cI .i64 s.e, cI .i64 s.v, cI .i64 s.l, .ints .u8 32 s.d], sI .i64 x.view]) rfl rfl rfl Try.func19 (by kernel_rfl) (by kernel_rfl) (by kernel_rfl) (eA [cI .i64 (giveUp s x.view).e, cI .i64 (giveUp s x.view).v, cI .i64 (giveUp s x.view).l, .ints .u8 32 ((giveUp s x.view).d)]) (okc_one (okc_one (okc_one (okc_ints (by (show Safe.ok _; repeat' (first | assumption | apply giveUp_ok | apply see_ok | apply vote_ok | apply doStep_ok | (simp [Safe.ok, Step.ok]; done)))) (okc_nil))))) (fun ρ w _ => rgiveUp_any s (hs) x.view w ρ)) ?_
      refine wo_run [4] [2, 5, 6, 7, 8] [2, 5, 6] (l' := [(2, eL 2 0), (5, eL 5 0), (6, eL 6 0), (7, eB (doStep s x).2), (8, eB false)]) (H' := [(2, ⟨[cI .i64 s.e, cI .i64 s.v, cI .i64 s.l, .ints .u8 32 s.d], 25⟩), (5, ⟨[cI .i64 (giveUp s x.view).e, cI .i64 (giveUp s x.view).v, cI .i64 (giveUp s x.view).l, .ints .u8 32 ((giveUp s x.view).d)], 29⟩), (6, ⟨[cI .i64 (doStep s x).1.e, cI .i64 (doStep s x).1.v, cI .i64 (doStep s x).1.l, .ints .u8 32 ((doStep s x).1.d)], 25⟩)]) (by kernel_rfl) ?_
      refine wo_nil ?_
      refine we_block ?_
      refine we_then ?_
      refine wc_seq ?_
      refine wc_reg [0, 1, 2, 3, 4, 5, 6] (by kernel_rfl) ?_
      refine wo_run [0, 1, 2, 3] [2, 5, 6, 7, 8, 55, 57] [2, 5, 6] (l' := [(2, eL 2 0), (5, eL 5 0), (6, eL 6 0), (7, eB (doStep s x).2), (8, eB false), (55, eI .i64 s.e), (57, eA [.ints .u8 32 s.d])]) (H' := [(2, ⟨[cI .i64 s.e, cI .i64 s.v, cI .i64 s.l, .ints .u8 32 s.d], 25⟩), (5, ⟨[cI .i64 (giveUp s x.view).e, cI .i64 (giveUp s x.view).v, cI .i64 (giveUp s x.view).l, .ints .u8 32 ((giveUp s x.view).d)], 29⟩), (6, ⟨[cI .i64 (doStep s x).1.e, cI .i64 (doStep s x).1.v, cI .i64 (doStep s x).1.l, .ints .u8 32 ((doStep s x).1.d)], 25⟩)]) (by kernel_rfl) ?_
      refine wo_op rfl rfl (ot_call (vs := [sI .i64 s.e, .agg [.ints .u8 32 s.d]]) rfl rfl rfl Try.func20 (by kernel_rfl) (by kernel_rfl) (by kernel_rfl) (eA [cI .i64 s.e, cI .i64 0, cI .i64 0, .ints .u8 32 s.d]) (okc_one (okc_one (okc_one (okc_ints (hs) (okc_nil))))) (fun ρ w _ => new_any s.e s.d (hs) w ρ)) ?_
      refine wo_op rfl rfl (ot_alloc (d := 9) (cs := z25) rfl rfl z25_zero rfl z25_ok (fun _ => rfl)) ?_
      refine wo_run [6] [2, 5, 6, 7, 8, 9] [2, 5, 6, 9] (l' := [(2, eL 2 0), (5, eL 5 0), (6, eL 6 0), (7, eB (doStep s x).2), (8, eB false), (9, eL 9 0)]) (H' := [(2, ⟨[cI .i64 s.e, cI .i64 s.v, cI .i64 s.l, .ints .u8 32 s.d], 25⟩), (5, ⟨[cI .i64 (giveUp s x.view).e, cI .i64 (giveUp s x.view).v, cI .i64 (giveUp s x.view).l, .ints .u8 32 ((giveUp s x.view).d)], 29⟩), (6, ⟨[cI .i64 (doStep s x).1.e, cI .i64 (doStep s x).1.v, cI .i64 (doStep s x).1.l, .ints .u8 32 ((doStep s x).1.d)], 25⟩), (9, ⟨[cI .i64 s.e, cI .i64 0, cI .i64 0, .ints .u8 32 s.d], 25⟩)]) (by kernel_rfl) ?_
      refine wo_nil ?_
      refine we_then ?_
      refine wc_seq ?_
      refine wc_reg [0, 1, 2, 3, 4, 5, 6, 7, 8, 9, 10, 11, 12, 13, 14, 15, 16, 17] (by kernel_rfl) ?_
      refine wo_run [0, 1] [2, 7, 8, 9, 59, 60] [2, 9] (l' := [(2, eL 2 0), (7, eB (doStep s x).2), (8, eB false), (9, eL 9 0), (59, eA [cI .i64 (doStep s x).1.e, cI .i64 (doStep s x).1.v, cI .i64 (doStep s x).1.l, .ints .u8 32 ((doStep s x).1.d)]), (60, eA [cI .i64 (giveUp s x.view).e, cI .i64 (giveUp s x.view).v, cI .i64 (giveUp s x.view).l, .ints .u8 32 ((giveUp s x.view).d)])]) (H' := [(2, ⟨[cI .i64 s.e, cI .i64 s.v, cI .i64 s.l, .ints .u8 32 s.d], 25⟩), (9, ⟨[cI .i64 s.e, cI .i64 0, cI .i64 0, .ints .u8 32 s.d], 25⟩)]) (by kernel_rfl) ?_
      refine wo_op rfl rfl (ot_call (vs := [.agg [cI .i64 (doStep s x).1.e, cI .i64 (doStep s x).1.v, cI .i64 (doStep s x).1.l, .ints .u8 32 ((doStep s x).1.d)], .agg [cI .i64 (giveUp s x.view).e, cI .i64 (giveUp s x.view).v, cI .i64 (giveUp s x.view).l, .ints .u8 32 ((giveUp s x.view).d)]]) rfl rfl rfl Try.func21 (by kernel_rfl) (by kernel_rfl) (by kernel_rfl) (eB (safeEq (doStep s x).1 (giveUp s x.view))) (trivial) (fun ρ w _ => same_any (doStep s x).1 (by (show Safe.ok _; repeat' (first | assumption | apply giveUp_ok | apply see_ok | apply vote_ok | apply doStep_ok | (simp [Safe.ok, Step.ok]; done)))) (giveUp s x.view) (by (show Safe.ok _; repeat' (first | assumption | apply giveUp_ok | apply see_ok | apply vote_ok | apply doStep_ok | (simp [Safe.ok, Step.ok]; done)))) w ρ)) ?_
      refine wo_run [3] [2, 7, 8, 9, 62] [2, 9] (l' := [(2, eL 2 0), (7, eB (doStep s x).2), (8, eB false), (9, eL 9 0), (62, eB (safeEq (doStep s x).1 (giveUp s x.view)))]) (H' := [(2, ⟨[cI .i64 s.e, cI .i64 s.v, cI .i64 s.l, .ints .u8 32 s.d], 25⟩), (9, ⟨[cI .i64 s.e, cI .i64 0, cI .i64 0, .ints .u8 32 s.d], 25⟩)]) (by kernel_rfl) ?_
      refine wo_bool 62 rfl (fun h7 => ?_) (fun h7 => ?_)
      · refine wo_run [4, 5, 6, 7, 8] [2, 9, 67] [2, 9] (l' := [(2, eL 2 0), (9, eL 9 0), (67, eB ((doStep s x).2 == false))]) (H' := [(2, ⟨[cI .i64 s.e, cI .i64 s.v, cI .i64 s.l, .ints .u8 32 s.d], 25⟩), (9, ⟨[cI .i64 s.e, cI .i64 0, cI .i64 0, .ints .u8 32 s.d], 25⟩)]) (by kernel_rfl) ?_
        refine wo_bool 67 rfl (fun h8 => ?_) (fun h8 => ?_)
        · refine wo_run [9, 10, 11, 12, 13] [67, 68, 70, 72] [] (l' := [(67, eB true), (68, eA [cI .i64 s.e, cI .i64 0, cI .i64 0, .ints .u8 32 s.d]), (70, eI .i64 s.e), (72, eA [.ints .u8 32 s.d])]) (H' := []) (by kernel_rfl) ?_
          refine wo_op rfl rfl (ot_rd rfl (rd_build (zc := z29) [cI .i64 s.e, cI .i64 0, cI .i64 0, .ints .u8 32 s.d] rfl z29_zero' z29_ok (fun _ => rfl) (by kernel_rfl) (by kernel_rfl))) ?_
          refine wo_op rfl rfl (ot_call (vs := [.agg [cI .i64 s.e, cI .i64 0, cI .i64 0, .ints .u8 32 s.d], .agg [cI .i64 s.e, cI .i64 0, cI .i64 0, .ints .u8 32 s.d]]) rfl rfl rfl Try.func21 (by kernel_rfl) (by kernel_rfl) (by kernel_rfl) (eB (safeEq (⟨s.e, 0, 0, s.d⟩ : Safe) (⟨s.e, 0, 0, s.d⟩ : Safe))) (trivial) (fun ρ w _ => same_any (⟨s.e, 0, 0, s.d⟩ : Safe) (hs) (⟨s.e, 0, 0, s.d⟩ : Safe) (hs) w ρ)) ?_
          refine wo_run [16, 17] [4] [] (l' := [(4, eB (safeEq (⟨s.e, 0, 0, s.d⟩ : Safe) (⟨s.e, 0, 0, s.d⟩ : Safe)))]) (H' := []) (by kernel_rfl) ?_
          refine wo_nil ?_
          refine we_then ?_
          refine wc_ret ?_
          refine we_ret (.inl rfl) (v := eB (safeEq (⟨s.e, 0, 0, s.d⟩ : Safe) (⟨s.e, 0, 0, s.d⟩ : Safe))) (by kernel_rfl) ?_
          intro ρ' w' hf
          refine ⟨?_, hf.below noS⟩
          exact congrArg (fun b => Ending.returned (EV.conc ρ (eB b))) (by simp_all [doStep, safeEq])
        · simp_all [doStep, safeEq]
      · simp_all [doStep, safeEq]

set_option maxHeartbeats 4000000 in
theorem rulesLock_any (s : Safe) (hs : s.ok) (view justify : Int) (w : World) (ρ : Nat → Nat) :
    Calls Try.prog 5 ([.agg [cI .i64 s.e, cI .i64 s.v, cI .i64 s.l, .ints .u8 32 s.d], sI .i64 view, sI .i64 justify].map (SV.conc ρ)).toArray w fun r w' => r = .returned (EV.conc ρ (eB true)) ∧ Below w.heap.size w w' := by
  refine calls_enter (vs := [.agg [cI .i64 s.e, cI .i64 s.v, cI .i64 s.l, .ints .u8 32 s.d], sI .i64 view, sI .i64 justify]) (N := 70) [] ρ Try.func5 rfl rfl (Nat.le_of_ble_eq_true rfl) (okv_agg (okc_one (okc_one (okc_one (okc_ints (hs) (okc_nil))))) (okv_a (okv_a (okv_nil)))) noH noH2 ?_ _ rfl
  refine wc_seq ?_
  refine wc_reg [0, 1] (by kernel_rfl) ?_
  refine wo_run [0, 1] [1, 2, 3] [3] (l' := [(1, eI .i64 view), (2, eI .i64 justify), (3, eL 3 0)]) (H' := [(3, ⟨[cI .i64 s.e, cI .i64 s.v, cI .i64 s.l, .ints .u8 32 s.d], 25⟩)]) (by kernel_rfl) ?_
  refine wo_nil ?_
  refine we_then ?_
  refine wc_seq ?_
  refine wc_seq ?_
  refine wc_reg [0, 1] (by kernel_rfl) ?_
  refine wo_op rfl rfl (ot_call (vs := []) rfl rfl rfl Try.func15 (by kernel_rfl) (by kernel_rfl) (by kernel_rfl) (eB true) (trivial) (fun ρ w _ => awake_any w ρ)) ?_
  refine wo_run [1] [1, 2, 3, 12] [3] (l' := [(1, eI .i64 view), (2, eI .i64 justify), (3, eL 3 0), (12, eB false)]) (H' := [(3, ⟨[cI .i64 s.e, cI .i64 s.v, cI .i64 s.l, .ints .u8 32 s.d], 25⟩)]) (by kernel_rfl) ?_
  refine wo_nil ?_
  refine we_then ?_
  refine wc_false rfl ?_
  refine wc_skip ?_
  refine we_then ?_
  refine wc_seq ?_
  refine wc_reg [0, 1, 2, 3, 4, 5, 6, 7, 8, 9] (by kernel_rfl) ?_
  refine wo_run [0, 1, 2] [1, 2, 3, 14, 15, 16] [3] (l' := [(1, eI .i64 view), (2, eI .i64 justify), (3, eL 3 0), (14, eA [cI .i64 s.e, cI .i64 s.v, cI .i64 s.l, .ints .u8 32 s.d]), (15, eI .i64 view), (16, eI .i64 justify)]) (H' := [(3, ⟨[cI .i64 s.e, cI .i64 s.v, cI .i64 s.l, .ints .u8 32 s.d], 25⟩)]) (by kernel_rfl) ?_
  refine wo_op rfl rfl (ot_call (vs := [.agg [cI .i64 s.e, cI .i64 s.v, cI .i64 s.l, .ints .u8 32 s.d], sI .i64 view, sI .i64 justify, sB false]) rfl rfl rfl Try.func22 (by kernel_rfl) (by kernel_rfl) (by kernel_rfl) (.t [.agg [cI .i64 (vote s view justify false).1.e, cI .i64 (vote s view justify false).1.v, cI .i64 (vote s view justify false).1.l, .ints .u8 32 ((vote s view justify false).1.d)], sB (vote s view justify false).2]) (okv_agg (okc_one (okc_one (okc_one (okc_ints (by (show Safe.ok _; repeat' (first | assumption | apply giveUp_ok | apply see_ok | apply vote_ok | apply doStep_ok | (simp [Safe.ok, Step.ok]; done)))) (okc_nil))))) (okv_a (okv_nil))) (fun ρ w _ => vote_any s (hs) view justify false w ρ)) ?_
  refine wo_run [4, 5, 6] [1, 2, 3, 18, 19] [3] (l' := [(1, eI .i64 view), (2, eI .i64 justify), (3, eL 3 0), (18, eA [cI .i64 (vote s view justify false).1.e, cI .i64 (vote s view justify false).1.v, cI .i64 (vote s view justify false).1.l, .ints .u8 32 ((vote s view justify false).1.d)]), (19, eB (vote s view justify false).2)]) (H' := [(3, ⟨[cI .i64 s.e, cI .i64 s.v, cI .i64 s.l, .ints .u8 32 s.d], 25⟩)]) (by kernel_rfl) ?_
  refine wo_op rfl rfl (ot_alloc (d := 7) (cs := z25) rfl rfl z25_zero rfl z25_ok (fun _ => rfl)) ?_
  refine wo_run [8, 9] [1, 2, 3, 7, 8] [3, 7] (l' := [(1, eI .i64 view), (2, eI .i64 justify), (3, eL 3 0), (7, eL 7 0), (8, eB (vote s view justify false).2)]) (H' := [(3, ⟨[cI .i64 s.e, cI .i64 s.v, cI .i64 s.l, .ints .u8 32 s.d], 25⟩), (7, ⟨[cI .i64 (vote s view justify false).1.e, cI .i64 (vote s view justify false).1.v, cI .i64 (vote s view justify false).1.l, .ints .u8 32 ((vote s view justify false).1.d)], 25⟩)]) (by kernel_rfl) ?_
  refine wo_nil ?_
  refine we_then ?_
  refine wc_seq ?_
  refine wc_reg [0, 1, 2, 3, 4, 5, 6, 7, 8, 9] (by kernel_rfl) ?_
  refine wo_run [0, 1, 2] [1, 2, 3, 7, 8, 21, 22, 23] [3, 7] (l' := [(1, eI .i64 view), (2, eI .i64 justify), (3, eL 3 0), (7, eL 7 0), (8, eB (vote s view justify false).2), (21, eA [cI .i64 s.e, cI .i64 s.v, cI .i64 s.l, .ints .u8 32 s.d]), (22, eI .i64 view), (23, eI .i64 justify)]) (H' := [(3, ⟨[cI .i64 s.e, cI .i64 s.v, cI .i64 s.l, .ints .u8 32 s.d], 25⟩), (7, ⟨[cI .i64 (vote s view justify false).1.e, cI .i64 (vote s view justify false).1.v, cI .i64 (vote s view justify false).1.l, .ints .u8 32 ((vote s view justify false).1.d)], 25⟩)]) (by kernel_rfl) ?_
  refine wo_op rfl rfl (ot_call (vs := [.agg [cI .i64 s.e, cI .i64 s.v, cI .i64 s.l, .ints .u8 32 s.d], sI .i64 view, sI .i64 justify, sB true]) rfl rfl rfl Try.func22 (by kernel_rfl) (by kernel_rfl) (by kernel_rfl) (.t [.agg [cI .i64 (vote s view justify true).1.e, cI .i64 (vote s view justify true).1.v, cI .i64 (vote s view justify true).1.l, .ints .u8 32 ((vote s view justify true).1.d)], sB (vote s view justify true).2]) (okv_agg (okc_one (okc_one (okc_one (okc_ints (by (show Safe.ok _; repeat' (first | assumption | apply giveUp_ok | apply see_ok | apply vote_ok | apply doStep_ok | (simp [Safe.ok, Step.ok]; done)))) (okc_nil))))) (okv_a (okv_nil))) (fun ρ w _ => vote_any s (hs) view justify true w ρ)) ?_
  refine wo_run [4, 5, 6] [1, 2, 3, 7, 8, 25, 26] [3, 7] (l' := [(1, eI .i64 view), (2, eI .i64 justify), (3, eL 3 0), (7, eL 7 0), (8, eB (vote s view justify false).2), (25, eA [cI .i64 (vote s view justify true).1.e, cI .i64 (vote s view justify true).1.v, cI .i64 (vote s view justify true).1.l, .ints .u8 32 ((vote s view justify true).1.d)]), (26, eB (vote s view justify true).2)]) (H' := [(3, ⟨[cI .i64 s.e, cI .i64 s.v, cI .i64 s.l, .ints .u8 32 s.d], 25⟩), (7, ⟨[cI .i64 (vote s view justify false).1.e, cI .i64 (vote s view justify false).1.v, cI .i64 (vote s view justify false).1.l, .ints .u8 32 ((vote s view justify false).1.d)], 25⟩)]) (by kernel_rfl) ?_
  refine wo_op rfl rfl (ot_alloc (d := 9) (cs := z25) rfl rfl z25_zero rfl z25_ok (fun _ => rfl)) ?_
  refine wo_run [8, 9] [1, 2, 3, 7, 8, 10] [3, 7] (l' := [(1, eI .i64 view), (2, eI .i64 justify), (3, eL 3 0), (7, eL 7 0), (8, eB (vote s view justify false).2), (10, eB (vote s view justify true).2)]) (H' := [(3, ⟨[cI .i64 s.e, cI .i64 s.v, cI .i64 s.l, .ints .u8 32 s.d], 25⟩), (7, ⟨[cI .i64 (vote s view justify false).1.e, cI .i64 (vote s view justify false).1.v, cI .i64 (vote s view justify false).1.l, .ints .u8 32 ((vote s view justify false).1.d)], 25⟩)]) (by kernel_rfl) ?_
  refine wo_nil ?_
  refine we_then ?_
  refine wc_seq ?_
  refine wc_reg [0, 1, 2, 3, 4, 5, 6, 7, 8, 9, 10, 11, 12, 13, 14, 15, 16, 17, 18, 19, 20, 21, 22, 23, 24, 25, 26, 27, 28, 29, 30, 31, 32, 33, 34, 35, 36, 37, 38, 39, 40, 41, 42, 43] (by kernel_rfl) ?_
  refine wo_run [0, 1, 2] [1, 2, 3, 7, 8, 10, 29] [3, 7] (l' := [(1, eI .i64 view), (2, eI .i64 justify), (3, eL 3 0), (7, eL 7 0), (8, eB (vote s view justify false).2), (10, eB (vote s view justify true).2), (29, eB (!(vote s view justify false).2))]) (H' := [(3, ⟨[cI .i64 s.e, cI .i64 s.v, cI .i64 s.l, .ints .u8 32 s.d], 25⟩), (7, ⟨[cI .i64 (vote s view justify false).1.e, cI .i64 (vote s view justify false).1.v, cI .i64 (vote s view justify false).1.l, .ints .u8 32 ((vote s view justify false).1.d)], 25⟩)]) (by kernel_rfl) ?_
  refine wo_bool 29 rfl (fun h1 => ?_) (fun h1 => ?_)
  · replace h1 := not_t h1
    refine wo_run [3, 4, 5, 6, 7, 8, 9, 10, 11, 12, 13, 14, 15, 16, 17, 18, 19, 20, 21, 22, 23, 24, 25, 26, 27, 28, 29, 30, 31, 32, 33, 34, 35, 36] [8, 10, 63] [] (l' := [(8, eB (vote s view justify false).2), (10, eB (vote s view justify true).2), (63, eB ((vote s view justify true).2 == (decide (view > s.v))))]) (H' := []) (by kernel_rfl) ?_
    refine wo_bool 63 rfl (fun h2 => ?_) (fun h2 => ?_)
    · refine wo_run [37, 38, 39] [10, 63, 66] [] (l' := [(10, eB (vote s view justify true).2), (63, eB true), (66, eB (!(vote s view justify false).2))]) (H' := []) (by kernel_rfl) ?_
      refine wo_bool 66 rfl (fun h3 => ?_) (fun h3 => ?_)
      · replace h3 := not_t h3
        refine wo_run [40, 41, 42, 43] [6] [] (l' := [(6, eB true)]) (H' := []) (by kernel_rfl) ?_
        refine wo_nil ?_
        refine we_then ?_
        refine wc_ret ?_
        refine we_ret (.inl rfl) (v := eB true) (by kernel_rfl) ?_
        intro ρ' w' hf
        refine ⟨?_, hf.below noS⟩
        exact congrArg (fun b => Ending.returned (EV.conc ρ (eB b))) (by by_cases a1 : view ≤ s.v <;> by_cases a2 : justify ≤ s.l <;> simp_all [vote] <;> first | omega | (split <;> first | omega | rfl | (simp_all; done) | (simp_all; omega)))
      · replace h3 := not_f h3
        refine wo_run [40, 41, 42, 43] [6] [] (l' := [(6, eB (vote s view justify true).2)]) (H' := []) (by kernel_rfl) ?_
        refine wo_nil ?_
        refine we_then ?_
        refine wc_ret ?_
        refine we_ret (.inl rfl) (v := eB (vote s view justify true).2) (by kernel_rfl) ?_
        intro ρ' w' hf
        refine ⟨?_, hf.below noS⟩
        exact congrArg (fun b => Ending.returned (EV.conc ρ (eB b))) (by by_cases a1 : view ≤ s.v <;> by_cases a2 : justify ≤ s.l <;> simp_all [vote] <;> first | omega | (split <;> first | omega | rfl | (simp_all; done) | (simp_all; omega)))
    · refine wo_run [37, 38, 39, 40, 41, 42, 43] [6] [] (l' := [(6, eB false)]) (H' := []) (by kernel_rfl) ?_
      refine wo_nil ?_
      refine we_then ?_
      refine wc_ret ?_
      refine we_ret (.inl rfl) (v := eB false) (by kernel_rfl) ?_
      intro ρ' w' hf
      refine ⟨?_, hf.below noS⟩
      exact congrArg (fun b => Ending.returned (EV.conc ρ (eB b))) (by by_cases a1 : view ≤ s.v <;> by_cases a2 : justify ≤ s.l <;> simp_all [vote] <;> first | omega | (split <;> first | omega | rfl | (simp_all; done) | (simp_all; omega)))
  · replace h1 := not_f h1
    refine wo_run [3, 4, 5, 6, 7] [1, 3, 7, 8, 10, 29, 34] [3, 7] (l' := [(1, eI .i64 view), (3, eL 3 0), (7, eL 7 0), (8, eB (vote s view justify false).2), (10, eB (vote s view justify true).2), (29, eB false), (34, eB (decide (justify > s.l)))]) (H' := [(3, ⟨[cI .i64 s.e, cI .i64 s.v, cI .i64 s.l, .ints .u8 32 s.d], 25⟩), (7, ⟨[cI .i64 (vote s view justify false).1.e, cI .i64 (vote s view justify false).1.v, cI .i64 (vote s view justify false).1.l, .ints .u8 32 ((vote s view justify false).1.d)], 25⟩)]) (by kernel_rfl) ?_
    refine wo_bool 34 rfl (fun h4 => ?_) (fun h4 => ?_)
    · replace h4 := of_decide_eq_true h4
      refine wo_run [8, 9, 10, 11, 12, 13] [1, 3, 7, 8, 10, 29, 40] [3, 7] (l' := [(1, eI .i64 view), (3, eL 3 0), (7, eL 7 0), (8, eB (vote s view justify false).2), (10, eB (vote s view justify true).2), (29, eB false), (40, eB (decide (view > s.v)))]) (H' := [(3, ⟨[cI .i64 s.e, cI .i64 s.v, cI .i64 s.l, .ints .u8 32 s.d], 25⟩), (7, ⟨[cI .i64 (vote s view justify false).1.e, cI .i64 (vote s view justify false).1.v, cI .i64 (vote s view justify false).1.l, .ints .u8 32 ((vote s view justify false).1.d)], 25⟩)]) (by kernel_rfl) ?_
      refine wo_bool 40 rfl (fun h5 => ?_) (fun h5 => ?_)
      · replace h5 := of_decide_eq_true h5
        refine wo_run [14, 15, 16, 17, 18, 19, 20] [1, 3, 7, 8, 10, 29, 47] [3, 7] (l' := [(1, eI .i64 view), (3, eL 3 0), (7, eL 7 0), (8, eB (vote s view justify false).2), (10, eB (vote s view justify true).2), (29, eB false), (47, eB ((vote s view justify false).1.l == s.l))]) (H' := [(3, ⟨[cI .i64 s.e, cI .i64 s.v, cI .i64 s.l, .ints .u8 32 s.d], 25⟩), (7, ⟨[cI .i64 (vote s view justify false).1.e, cI .i64 (vote s view justify false).1.v, cI .i64 (vote s view justify false).1.l, .ints .u8 32 ((vote s view justify false).1.d)], 25⟩)]) (by kernel_rfl) ?_
        refine wo_bool 47 rfl (fun h6 => ?_) (fun h6 => ?_)
        · replace h6 := eq_of_beq h6
          refine wo_run [21, 22, 23, 24] [1, 3, 8, 10, 29, 47, 49, 51] [3] (l' := [(1, eI .i64 view), (3, eL 3 0), (8, eB (vote s view justify false).2), (10, eB (vote s view justify true).2), (29, eB false), (47, eB true), (49, eA [.ints .u8 32 ((vote s view justify false).1.d)]), (51, eA [.ints .u8 32 s.d])]) (H' := [(3, ⟨[cI .i64 s.e, cI .i64 s.v, cI .i64 s.l, .ints .u8 32 s.d], 25⟩)]) (by kernel_rfl) ?_
          refine wo_op rfl rfl (ot_rd rfl (rd_eq (b := ((vote s view justify false).1.d == s.d)) 9 ((vote s view justify false).1.d == s.d) rfl rfl rfl (by kernel_rfl) rfl (by kernel_rfl) (.inl ⟨rfl, rfl⟩))) ?_
          refine wo_run [26, 27, 28] [1, 3, 8, 10, 55] [3] (l' := [(1, eI .i64 view), (3, eL 3 0), (8, eB (vote s view justify false).2), (10, eB (vote s view justify true).2), (55, eB ((vote s view justify false).1.d == s.d))]) (H' := [(3, ⟨[cI .i64 s.e, cI .i64 s.v, cI .i64 s.l, .ints .u8 32 s.d], 25⟩)]) (by kernel_rfl) ?_
          refine wo_bool 55 rfl (fun h7 => ?_) (fun h7 => ?_)
          · replace h7 := eq_of_beq h7
            refine wo_run [29, 30, 31, 32, 33, 34, 35, 36] [8, 10, 63] [] (l' := [(8, eB (vote s view justify false).2), (10, eB (vote s view justify true).2), (63, eB ((vote s view justify true).2 == (decide (view > s.v))))]) (H' := []) (by kernel_rfl) ?_
            refine wo_bool 63 rfl (fun h8 => ?_) (fun h8 => ?_)
            · refine wo_run [37, 38, 39] [10, 63, 66] [] (l' := [(10, eB (vote s view justify true).2), (63, eB true), (66, eB (!(vote s view justify false).2))]) (H' := []) (by kernel_rfl) ?_
              refine wo_bool 66 rfl (fun h9 => ?_) (fun h9 => ?_)
              · replace h9 := not_t h9
                refine wo_run [40, 41, 42, 43] [6] [] (l' := [(6, eB true)]) (H' := []) (by kernel_rfl) ?_
                refine wo_nil ?_
                refine we_then ?_
                refine wc_ret ?_
                refine we_ret (.inl rfl) (v := eB true) (by kernel_rfl) ?_
                intro ρ' w' hf
                refine ⟨?_, hf.below noS⟩
                exact congrArg (fun b => Ending.returned (EV.conc ρ (eB b))) (by by_cases a1 : view ≤ s.v <;> by_cases a2 : justify ≤ s.l <;> simp_all [vote] <;> first | omega | (split <;> first | omega | rfl | (simp_all; done) | (simp_all; omega)))
              · replace h9 := not_f h9
                refine wo_run [40, 41, 42, 43] [6] [] (l' := [(6, eB (vote s view justify true).2)]) (H' := []) (by kernel_rfl) ?_
                refine wo_nil ?_
                refine we_then ?_
                refine wc_ret ?_
                refine we_ret (.inl rfl) (v := eB (vote s view justify true).2) (by kernel_rfl) ?_
                intro ρ' w' hf
                refine ⟨?_, hf.below noS⟩
                exact congrArg (fun b => Ending.returned (EV.conc ρ (eB b))) (by by_cases a1 : view ≤ s.v <;> by_cases a2 : justify ≤ s.l <;> simp_all [vote] <;> first | omega | (split <;> first | omega | rfl | (simp_all; done) | (simp_all; omega)))
            · refine wo_run [37, 38, 39, 40, 41, 42, 43] [6] [] (l' := [(6, eB false)]) (H' := []) (by kernel_rfl) ?_
              refine wo_nil ?_
              refine we_then ?_
              refine wc_ret ?_
              refine we_ret (.inl rfl) (v := eB false) (by kernel_rfl) ?_
              intro ρ' w' hf
              refine ⟨?_, hf.below noS⟩
              exact congrArg (fun b => Ending.returned (EV.conc ρ (eB b))) (by by_cases a1 : view ≤ s.v <;> by_cases a2 : justify ≤ s.l <;> simp_all [vote] <;> first | omega | (split <;> first | omega | rfl | (simp_all; done) | (simp_all; omega)))
          · replace h7 := ne_of_beq_false h7
            refine wo_run [29, 30, 31, 32, 33, 34, 35, 36, 37, 38, 39, 40, 41, 42, 43] [6] [] (l' := [(6, eB false)]) (H' := []) (by kernel_rfl) ?_
            refine wo_nil ?_
            refine we_then ?_
            refine wc_ret ?_
            refine we_ret (.inl rfl) (v := eB false) (by kernel_rfl) ?_
            intro ρ' w' hf
            refine ⟨?_, hf.below noS⟩
            exact congrArg (fun b => Ending.returned (EV.conc ρ (eB b))) (by by_cases a1 : view ≤ s.v <;> by_cases a2 : justify ≤ s.l <;> simp_all [vote] <;> first | omega | (split <;> first | omega | rfl | (simp_all; done) | (simp_all; omega)))
        · replace h6 := ne_of_beq_false h6
          refine wo_run [21, 22, 23, 24, 25, 26, 27, 28, 29, 30, 31, 32, 33, 34, 35, 36, 37, 38, 39, 40, 41, 42, 43] [6] [] (l' := [(6, eB false)]) (H' := []) (by kernel_rfl) ?_
          refine wo_nil ?_
          refine we_then ?_
          refine wc_ret ?_
          refine we_ret (.inl rfl) (v := eB false) (by kernel_rfl) ?_
          intro ρ' w' hf
          refine ⟨?_, hf.below noS⟩
          exact congrArg (fun b => Ending.returned (EV.conc ρ (eB b))) (by by_cases a1 : view ≤ s.v <;> by_cases a2 : justify ≤ s.l <;> simp_all [vote] <;> first | omega | (split <;> first | omega | rfl | (simp_all; done) | (simp_all; omega)))
      · replace h5 := of_decide_eq_false h5
        refine wo_run [14, 15, 16, 17, 18, 19, 20, 21, 22, 23, 24, 25, 26, 27, 28, 29, 30, 31, 32, 33, 34, 35, 36, 37, 38, 39, 40, 41, 42, 43] [6] [] (l' := [(6, eB false)]) (H' := []) (by kernel_rfl) ?_
        refine wo_nil ?_
        refine we_then ?_
        refine wc_ret ?_
        refine we_ret (.inl rfl) (v := eB false) (by kernel_rfl) ?_
        intro ρ' w' hf
        refine ⟨?_, hf.below noS⟩
        exact congrArg (fun b => Ending.returned (EV.conc ρ (eB b))) (by by_cases a1 : view ≤ s.v <;> by_cases a2 : justify ≤ s.l <;> simp_all [vote] <;> first | omega | (split <;> first | omega | rfl | (simp_all; done) | (simp_all; omega)))
    · replace h4 := of_decide_eq_false h4
      refine wo_run [8, 9, 10, 11, 12, 13, 14, 15, 16, 17, 18, 19, 20, 21, 22, 23, 24, 25, 26, 27, 28, 29, 30, 31, 32, 33, 34, 35, 36, 37, 38, 39, 40, 41, 42, 43] [6] [] (l' := [(6, eB false)]) (H' := []) (by kernel_rfl) ?_
      refine wo_nil ?_
      refine we_then ?_
      refine wc_ret ?_
      refine we_ret (.inl rfl) (v := eB false) (by kernel_rfl) ?_
      intro ρ' w' hf
      refine ⟨?_, hf.below noS⟩
      exact congrArg (fun b => Ending.returned (EV.conc ρ (eB b))) (by by_cases a1 : view ≤ s.v <;> by_cases a2 : justify ≤ s.l <;> simp_all [vote] <;> first | omega | (split <;> first | omega | rfl | (simp_all; done) | (simp_all; omega)))

set_option maxHeartbeats 4000000 in
theorem rulesOnce_any (D : List Int) (hD : D.length = 32) (a : Option Addr) (len cap b off : Nat) (x : Nat → Step) (hx : ∀ i, i < len → (x i).ok) (hlc : len ≤ cap) (hcap : cap ≤ maxLen) (w : World) (hb : 0 < len → a = some ⟨b, off, none⟩ ∧ b < w.heap.size) (hc : ∀ i, i < len → CellsAt w b (off + i * 36) (cX (x i))) (ρ : Nat → Nat) :
    Calls Try.prog 4 ([.agg [.ints .u8 32 D], sV (.slice a len cap)].map (SV.conc ρ)).toArray w fun r w' => r = .returned (EV.conc ρ (eB true)) ∧ Below w.heap.size w w' := by
  refine calls_enter (vs := [.agg [.ints .u8 32 D], sV (.slice a len cap)]) (N := 120) [] ρ Try.func4 rfl rfl (Nat.le_of_ble_eq_true rfl) (okv_agg (okc_ints (hD) (okc_nil)) (okv_a (okv_nil))) noH noH2 ?_ _ rfl
  refine wc_seq ?_
  refine wc_reg [0, 1] (by kernel_rfl) ?_
  refine wo_run [0, 1] [1, 2] [2] (l' := [(1, eV (.slice a len cap)), (2, eL 2 0)]) (H' := [(2, ⟨[.ints .u8 32 D], 23⟩)]) (by kernel_rfl) ?_
  refine wo_nil ?_
  refine we_then ?_
  refine wc_seq ?_
  refine wc_seq ?_
  refine wc_reg [0, 1] (by kernel_rfl) ?_
  refine wo_op rfl rfl (ot_call (vs := []) rfl rfl rfl Try.func15 (by kernel_rfl) (by kernel_rfl) (by kernel_rfl) (eB true) (trivial) (fun ρ w _ => awake_any w ρ)) ?_
  refine wo_run [1] [1, 2, 12] [2] (l' := [(1, eV (.slice a len cap)), (2, eL 2 0), (12, eB false)]) (H' := [(2, ⟨[.ints .u8 32 D], 23⟩)]) (by kernel_rfl) ?_
  refine wo_nil ?_
  refine we_then ?_
  refine wc_false rfl ?_
  refine wc_skip ?_
  refine we_then ?_
  refine wc_seq ?_
  refine wc_reg [0, 1, 2, 3] (by kernel_rfl) ?_
  refine wo_run [0] [1, 13] [] (l' := [(1, eV (.slice a len cap)), (13, eA [.ints .u8 32 D])]) (H' := []) (by kernel_rfl) ?_
  refine wo_op rfl rfl (ot_call (vs := [sI .i64 0, .agg [.ints .u8 32 D]]) rfl rfl rfl Try.func20 (by kernel_rfl) (by kernel_rfl) (by kernel_rfl) (eA [cI .i64 0, cI .i64 0, cI .i64 0, .ints .u8 32 D]) (okc_one (okc_one (okc_one (okc_ints (hD) (okc_nil))))) (fun ρ w _ => new_any 0 D (hD) w ρ)) ?_
  refine wo_op rfl rfl (ot_alloc (d := 5) (cs := z25) rfl rfl z25_zero rfl z25_ok (fun _ => rfl)) ?_
  refine wo_run [3] [1, 5] [5] (l' := [(1, eV (.slice a len cap)), (5, eL 5 0)]) (H' := [(5, ⟨[cI .i64 0, cI .i64 0, cI .i64 0, .ints .u8 32 D], 25⟩)]) (by kernel_rfl) ?_
  refine wo_nil ?_
  refine we_then ?_
  refine wc_seq ?_
  refine wc_seq ?_
  refine wc_reg [0] (by kernel_rfl) ?_
  refine wo_run [0] [1, 5, 6] [5] (l' := [(1, eV (.slice a len cap)), (5, eL 5 0), (6, eI .i64 0)]) (H' := [(5, ⟨[cI .i64 0, cI .i64 0, cI .i64 0, .ints .u8 32 D], 25⟩)]) (by kernel_rfl) ?_
  refine wo_nil ?_
  refine we_then ?_
  refine wc_block ?_
  refine wc_rest [1, 5, 6] [5] (l' := [(1, eV (.slice a len cap)), (5, eL 5 0), (6, eI .i64 0)]) (H' := [(5, ⟨[cI .i64 0, cI .i64 0, cI .i64 0, .ints .u8 32 D], 25⟩)]) (by kernel_rfl) ?_
  refine wc_loop (τ := Safe × Nat) (fun ⟨s, k⟩ => s.ok ∧ k ≤ len) (fun ⟨s, k⟩ => len - k) (fun _ => _) (fun ⟨s, k⟩ => [(1, eV (.slice a len cap)), (5, eL 5 0), (6, eI .i64 ((k : Nat) : Int))]) (fun ⟨s, k⟩ => [(5, ⟨[cI .i64 s.e, cI .i64 s.v, cI .i64 s.l, .ints .u8 32 s.d], 25⟩)]) (⟨0, 0, 0, D⟩, 0) (⟨hD, Nat.zero_le _⟩) rfl rfl rfl ?_
  rintro ⟨s, k⟩ hj
  obtain ⟨hs, hk⟩ := hj
  have hf := once_facts s (x k)
  refine wc_seq ?_
  refine wc_seq ?_
  refine wc_reg [0, 1, 2, 3] (by kernel_rfl) ?_
  refine wo_run [0, 1, 2, 3] [1, 5, 6, 18] [5] (l' := [(1, eV (.slice a len cap)), (5, eL 5 0), (6, eI .i64 ((k : Nat) : Int)), (18, eB (decide (((k : Nat) : Int) < ((len : Nat) : Int))))]) (H' := [(5, ⟨[cI .i64 s.e, cI .i64 s.v, cI .i64 s.l, .ints .u8 32 s.d], 25⟩)]) (by kernel_rfl) ?_
  refine wo_nil ?_
  refine we_then ?_
  refine wc_cond rfl (fun h1 => ?_) (fun h1 => ?_)
  · replace h1 := of_decide_eq_true h1
    have hxk := hx k (Int.ofNat_lt.1 h1)
    refine wc_skip ?_
    refine we_then ?_
    refine wc_seq ?_
    refine wc_block ?_
    refine wc_seq ?_
    refine wc_rest [1, 5, 6] [5] (l' := [(1, eV (.slice a len cap)), (5, eL 5 0), (6, eI .i64 ((k : Nat) : Int))]) (H' := [(5, ⟨[cI .i64 s.e, cI .i64 s.v, cI .i64 s.l, .ints .u8 32 s.d], 25⟩)]) (by kernel_rfl) ?_
    refine cut [(1, eV (.slice a len cap)), (5, eL 5 0), (6, eI .i64 ((k : Nat) : Int)), (7, eL 7 0), (8, eB (doStep s (x k)).2)] [(5, ⟨[cI .i64 s.e, cI .i64 s.v, cI .i64 s.l, .ints .u8 32 s.d], 25⟩), (7, ⟨[cI .i64 (doStep s (x k)).1.e, cI .i64 (doStep s (x k)).1.v, cI .i64 (doStep s (x k)).1.l, .ints .u8 32 ((doStep s (x k)).1.d)], 25⟩)] (fun K => ?_) ?_
    · refine wc_draw (n := 12) [(5, ⟨[cI .i64 s.e, cI .i64 s.v, cI .i64 s.l, .ints .u8 32 s.d], 25⟩)] (by kernel_rfl) rfl (sub_of [5] (by kernel_rfl)) (fun ρ0 => ?_)
      refine wa_takes (fuel := 9) [0, 1, 2] [1, 5, 6, 22, 23, 24] (listed' := #[true, true, true, false, false, false, false, false, false, false, false, false]) (l' := [(1, eV (.slice a len cap)), (5, eL 5 0), (6, eI .i64 ((k : Nat) : Int)), (22, eA [cI .i64 s.e, cI .i64 s.v, cI .i64 s.l, .ints .u8 32 s.d]), (23, eV (.slice a len cap)), (24, eI .i64 ((k : Nat) : Int))]) (pk_then (pk_block (pk_then (pk_then (pk_block (pk_then pk_body)))))) rfl (by kernel_rfl) ?_
      refine wa_take 3 (pk_then (pk_block (pk_then (pk_then (pk_block (pk_then pk_body)))))) rfl (by kernel_rfl) rfl rfl (rd_index (e := 27) b off 36 k rfl (by kernel_rfl) (by kernel_rfl) rfl rfl ((Int.ofNat_lt.1 h1)) ((hb (Nat.zero_lt_of_lt (Int.ofNat_lt.1 h1))).1)) ?_
      refine wa_take 4 (pk_then (pk_block (pk_then (pk_then (pk_block (pk_then pk_body)))))) rfl (by kernel_rfl) rfl rfl (rd_load (v := .agg [cI .i64 (x k).kind, cI .i64 (x k).view, cI .i64 (x k).justify, .ints .u8 32 ((x k).block), cB (x k).ext]) b (off + k * 36) 0 [cI .i64 (x k).kind, cI .i64 (x k).view, cI .i64 (x k).justify, .ints .u8 32 ((x k).block), cB (x k).ext] rfl (off + k * 36) rfl rfl ((xI (hb (Nat.zero_lt_of_lt (Int.ofNat_lt.1 h1))).2)) (hc k (Int.ofNat_lt.1 h1)) (okc_one (okc_one (okc_one (okc_ints (hx k (Int.ofNat_lt.1 h1)) (okc_one okc_nil))))) (fun _ => rfl) (by kernel_rfl)) ?_
      refine wa_all [5, 9] (by kernel_rfl) rfl (allc ?_ (all1 ?_))
      · refine wi_op rfl rfl (ot_call (vs := [.agg [cI .i64 s.e, cI .i64 s.v, cI .i64 s.l, .ints .u8 32 s.d], .agg [cI .i64 (x k).kind, cI .i64 (x k).view, cI .i64 (x k).justify, .ints .u8 32 ((x k).block), cB (x k).ext]]) rfl rfl rfl Try.func16 (by kernel_rfl) (by kernel_rfl) (by kernel_rfl) (.t [.agg [cI .i64 (doStep s (x k)).1.e, cI .i64 (doStep s (x k)).1.v, cI .i64 (doStep s (x k)).1.l, .ints .u8 32 ((doStep s (x k)).1.d)], sB (doStep s (x k)).2]) (okv_agg (okc_one (okc_one (okc_one (okc_ints (by (show Safe.ok _; repeat' (first | assumption | apply giveUp_ok | apply see_ok | apply vote_ok | apply doStep_ok | (simp [Safe.ok, Step.ok]; done)))) (okc_nil))))) (okv_a (okv_nil))) (fun ρ w _ => do_any s (hs) (x k) (hxk) w ρ)) (sub_of [5] (by kernel_rfl)) ?_
        refine wa_takes (fuel := 3) [6, 7, 8] [1, 5, 6, 28, 29] (listed' := #[true, true, true, true, true, true, true, true, true, false, false, false]) (l' := [(1, eV (.slice a len cap)), (5, eL 5 0), (6, eI .i64 ((k : Nat) : Int)), (28, eA [cI .i64 (doStep s (x k)).1.e, cI .i64 (doStep s (x k)).1.v, cI .i64 (doStep s (x k)).1.l, .ints .u8 32 ((doStep s (x k)).1.d)]), (29, eB (doStep s (x k)).2)]) (pk_then (pk_block (pk_then (pk_then (pk_block (pk_then pk_body)))))) rfl (by kernel_rfl) ?_
        refine wa_all [9] (by kernel_rfl) rfl (all1 ?_)
        refine wi_op rfl rfl (ot_alloc (d := 7) (cs := z25) rfl rfl z25_zero rfl z25_ok (fun _ => rfl)) (sub_of [5] (by kernel_rfl)) ?_
        refine wa_all [10] (by kernel_rfl) rfl (all1 ?_)
        refine wi_op rfl rfl (ot_eff (l' := [(7, eL 7 0), (1, eV (.slice a len cap)), (5, eL 5 0), (6, eI .i64 ((k : Nat) : Int)), (28, eA [cI .i64 (doStep s (x k)).1.e, cI .i64 (doStep s (x k)).1.v, cI .i64 (doStep s (x k)).1.l, .ints .u8 32 ((doStep s (x k)).1.d)]), (29, eB (doStep s (x k)).2)]) (H' := [(7, ⟨[cI .i64 (doStep s (x k)).1.e, cI .i64 (doStep s (x k)).1.v, cI .i64 (doStep s (x k)).1.l, .ints .u8 32 ((doStep s (x k)).1.d)], 25⟩), (5, ⟨[cI .i64 s.e, cI .i64 s.v, cI .i64 s.l, .ints .u8 32 s.d], 25⟩)]) (by kernel_rfl)) (sub_of [5] (by kernel_rfl)) ?_
        refine wa_takes (fuel := 0) [11] [1, 5, 6, 7, 8] (listed' := #[true, true, true, true, true, true, true, true, true, true, true, true]) (l' := [(1, eV (.slice a len cap)), (5, eL 5 0), (6, eI .i64 ((k : Nat) : Int)), (7, eL 7 0), (8, eB (doStep s (x k)).2)]) (pk_then (pk_block (pk_then (pk_then (pk_block (pk_then pk_body)))))) rfl (by kernel_rfl) ?_
        exact wa_done (by kernel_rfl) (we_rest [1, 5, 6, 7, 8] [5, 7] (by kernel_rfl) (by kernel_rfl) K)
      · refine wi_op rfl rfl (ot_alloc (d := 7) (cs := z25) rfl rfl z25_zero rfl z25_ok (fun _ => rfl)) (sub_of [5] (by kernel_rfl)) ?_
        refine wa_all [5] (by kernel_rfl) rfl (all1 ?_)
        refine wi_op rfl rfl (ot_call (vs := [.agg [cI .i64 s.e, cI .i64 s.v, cI .i64 s.l, .ints .u8 32 s.d], .agg [cI .i64 (x k).kind, cI .i64 (x k).view, cI .i64 (x k).justify, .ints .u8 32 ((x k).block), cB (x k).ext]]) rfl rfl rfl Try.func16 (by kernel_rfl) (by kernel_rfl) (by kernel_rfl) (.t [.agg [cI .i64 (doStep s (x k)).1.e, cI .i64 (doStep s (x k)).1.v, cI .i64 (doStep s (x k)).1.l, .ints .u8 32 ((doStep s (x k)).1.d)], sB (doStep s (x k)).2]) (okv_agg (okc_one (okc_one (okc_one (okc_ints (by (show Safe.ok _; repeat' (first | assumption | apply giveUp_ok | apply see_ok | apply vote_ok | apply doStep_ok | (simp [Safe.ok, Step.ok]; done)))) (okc_nil))))) (okv_a (okv_nil))) (fun ρ w _ => do_any s (hs) (x k) (hxk) w ρ)) (sub_of [5] (by kernel_rfl)) ?_
        refine wa_takes (fuel := 2) [6, 7, 8] [1, 5, 6, 7, 28, 29] (listed' := #[true, true, true, true, true, true, true, true, true, true, false, false]) (l' := [(1, eV (.slice a len cap)), (5, eL 5 0), (6, eI .i64 ((k : Nat) : Int)), (7, eL 7 0), (28, eA [cI .i64 (doStep s (x k)).1.e, cI .i64 (doStep s (x k)).1.v, cI .i64 (doStep s (x k)).1.l, .ints .u8 32 ((doStep s (x k)).1.d)]), (29, eB (doStep s (x k)).2)]) (pk_then (pk_block (pk_then (pk_then (pk_block (pk_then pk_body)))))) rfl (by kernel_rfl) ?_
        refine wa_all [10] (by kernel_rfl) rfl (all1 ?_)
        refine wi_op rfl rfl (ot_eff (l' := [(1, eV (.slice a len cap)), (5, eL 5 0), (6, eI .i64 ((k : Nat) : Int)), (7, eL 7 0), (28, eA [cI .i64 (doStep s (x k)).1.e, cI .i64 (doStep s (x k)).1.v, cI .i64 (doStep s (x k)).1.l, .ints .u8 32 ((doStep s (x k)).1.d)]), (29, eB (doStep s (x k)).2)]) (H' := [(7, ⟨[cI .i64 (doStep s (x k)).1.e, cI .i64 (doStep s (x k)).1.v, cI .i64 (doStep s (x k)).1.l, .ints .u8 32 ((doStep s (x k)).1.d)], 25⟩), (5, ⟨[cI .i64 s.e, cI .i64 s.v, cI .i64 s.l, .ints .u8 32 s.d], 25⟩)]) (by kernel_rfl)) (sub_of [5] (by kernel_rfl)) ?_
        refine wa_takes (fuel := 0) [11] [1, 5, 6, 7, 8] (listed' := #[true, true, true, true, true, true, true, true, true, true, true, true]) (l' := [(1, eV (.slice a len cap)), (5, eL 5 0), (6, eI .i64 ((k : Nat) : Int)), (7, eL 7 0), (8, eB (doStep s (x k)).2)]) (pk_then (pk_block (pk_then (pk_then (pk_block (pk_then pk_body)))))) rfl (by kernel_rfl) ?_
        exact wa_done (by kernel_rfl) (we_rest [1, 5, 6, 7, 8] [5, 7] (by kernel_rfl) (by kernel_rfl) K)
    · refine we_then ?_
      refine wc_seq ?_
      refine wc_seq ?_
      refine wc_draw (n := 59) [(5, ⟨[cI .i64 s.e, cI .i64 s.v, cI .i64 s.l, .ints .u8 32 s.d], 25⟩), (7, ⟨[cI .i64 (doStep s (x k)).1.e, cI .i64 (doStep s (x k)).1.v, cI .i64 (doStep s (x k)).1.l, .ints .u8 32 ((doStep s (x k)).1.d)], 25⟩)] (by kernel_rfl) rfl (sub_of [5, 7] (by kernel_rfl)) (fun ρ0 => ?_)
      refine wa_takes (fuel := 53) [0, 1, 2, 3, 4, 5] [1, 5, 6, 7, 8, 35] (listed' := #[true, true, true, true, true, true, false, false, false, false, false, false, false, false, false, false, false, false, false, false, false, false, false, false, false, false, false, false, false, false, false, false, false, false, false, false, false, false, false, false, false, false, false, false, false, false, false, false, false, false, false, false, false, false, false, false, false, false, false]) (l' := [(1, eV (.slice a len cap)), (5, eL 5 0), (6, eI .i64 ((k : Nat) : Int)), (7, eL 7 0), (8, eB (doStep s (x k)).2), (35, eB (decide ((doStep s (x k)).1.v < s.v)))]) (pk_then (pk_then (pk_block (pk_then (pk_then (pk_block (pk_then pk_body))))))) rfl (by kernel_rfl) ?_
      refine wa_is 35 false rfl (decide_eq_false (Int.not_lt.2 hf.1)) ?_
      refine wa_takes (fuel := 46) [6, 7, 8, 9, 10, 11, 12] [1, 5, 6, 7, 8, 42] (listed' := #[true, true, true, true, true, true, true, true, true, true, true, true, true, false, false, false, false, false, false, false, false, false, false, false, false, false, false, false, false, false, false, false, false, false, false, false, false, false, false, false, false, false, false, false, false, false, false, false, false, false, false, false, false, false, false, false, false, false, false]) (l' := [(1, eV (.slice a len cap)), (5, eL 5 0), (6, eI .i64 ((k : Nat) : Int)), (7, eL 7 0), (8, eB (doStep s (x k)).2), (42, eB (decide ((doStep s (x k)).1.l < s.l)))]) (pk_then (pk_then (pk_block (pk_then (pk_then (pk_block (pk_then pk_body))))))) rfl (by kernel_rfl) ?_
      refine wa_is 42 false rfl (decide_eq_false (Int.not_lt.2 hf.2.1)) ?_
      refine wa_takes (fuel := 39) [13, 14, 15, 16, 17, 18, 19] [1, 5, 6, 7, 8, 49] (listed' := #[true, true, true, true, true, true, true, true, true, true, true, true, true, true, true, true, true, true, true, true, false, false, false, false, false, false, false, false, false, false, false, false, false, false, false, false, false, false, false, false, false, false, false, false, false, false, false, false, false, false, false, false, false, false, false, false, false, false, false]) (l' := [(1, eV (.slice a len cap)), (5, eL 5 0), (6, eI .i64 ((k : Nat) : Int)), (7, eL 7 0), (8, eB (doStep s (x k)).2), (49, eB ((doStep s (x k)).1.e != s.e))]) (pk_then (pk_then (pk_block (pk_then (pk_then (pk_block (pk_then pk_body))))))) rfl (by kernel_rfl) ?_
      refine wa_is 49 false rfl (bne_eq_false_iff_eq.2 hf.2.2.1) ?_
      refine wa_takes (fuel := 37) [20, 21] [1, 5, 6, 7, 8, 49, 51] (listed' := #[true, true, true, true, true, true, true, true, true, true, true, true, true, true, true, true, true, true, true, true, true, true, false, false, false, false, false, false, false, false, false, false, false, false, false, false, false, false, false, false, false, false, false, false, false, false, false, false, false, false, false, false, false, false, false, false, false, false, false]) (l' := [(1, eV (.slice a len cap)), (5, eL 5 0), (6, eI .i64 ((k : Nat) : Int)), (7, eL 7 0), (8, eB (doStep s (x k)).2), (49, eB false), (51, eB (doStep s (x k)).2)]) (pk_then (pk_then (pk_block (pk_then (pk_then (pk_block (pk_then pk_body))))))) rfl (by kernel_rfl) ?_
      refine wa_bool 51 rfl (fun h2 => ?_) (fun h2 => ?_)
      · refine wa_takes (fuel := 33) [22, 23, 27, 28] [1, 5, 6, 7, 8, 49, 51, 52, 53, 58] (listed' := #[true, true, true, true, true, true, true, true, true, true, true, true, true, true, true, true, true, true, true, true, true, true, true, true, false, false, false, true, true, false, false, false, false, false, false, false, false, false, false, false, false, false, false, false, false, false, false, false, false, false, false, false, false, false, false, false, false, false, false]) (l' := [(1, eV (.slice a len cap)), (5, eL 5 0), (6, eI .i64 ((k : Nat) : Int)), (7, eL 7 0), (8, eB (doStep s (x k)).2), (49, eB false), (51, eB true), (52, eV (.slice a len cap)), (53, eI .i64 ((k : Nat) : Int)), (58, eI .i64 s.v)]) (pk_then (pk_then (pk_block (pk_then (pk_then (pk_block (pk_then pk_body))))))) rfl (by kernel_rfl) ?_
        refine wa_take 24 (pk_then (pk_then (pk_block (pk_then (pk_then (pk_block (pk_then pk_body))))))) rfl (by kernel_rfl) rfl rfl (rd_index (e := 27) b off 36 k rfl (by kernel_rfl) (by kernel_rfl) rfl rfl ((Int.ofNat_lt.1 h1)) ((hb (Nat.zero_lt_of_lt (Int.ofNat_lt.1 h1))).1)) ?_
        refine wa_takes (fuel := 31) [25] [1, 5, 6, 7, 8, 49, 51, 55, 58] (listed' := #[true, true, true, true, true, true, true, true, true, true, true, true, true, true, true, true, true, true, true, true, true, true, true, true, true, true, false, true, true, false, false, false, false, false, false, false, false, false, false, false, false, false, false, false, false, false, false, false, false, false, false, false, false, false, false, false, false, false, false]) (l' := [(1, eV (.slice a len cap)), (5, eL 5 0), (6, eI .i64 ((k : Nat) : Int)), (7, eL 7 0), (8, eB (doStep s (x k)).2), (49, eB false), (51, eB true), (55, eV (.pointer (some ⟨b, ((off + k * 36) + 1), none⟩))), (58, eI .i64 s.v)]) (pk_then (pk_then (pk_block (pk_then (pk_then (pk_block (pk_then pk_body))))))) rfl (by kernel_rfl) ?_
        refine wa_take 26 (pk_then (pk_then (pk_block (pk_then (pk_then (pk_block (pk_then pk_body))))))) rfl (by kernel_rfl) rfl rfl (rd_load (v := (sI .i64 (x k).view)) b (off + k * 36) 1 [cI .i64 (x k).kind, cI .i64 (x k).view, cI .i64 (x k).justify, .ints .u8 32 ((x k).block), cB (x k).ext] rfl ((off + k * 36) + 1) rfl rfl ((xI (hb (Nat.zero_lt_of_lt (Int.ofNat_lt.1 h1))).2)) (hc k (Int.ofNat_lt.1 h1)) (okc_one (okc_one (okc_one (okc_ints (hx k (Int.ofNat_lt.1 h1)) (okc_one okc_nil))))) (fun _ => rfl) (by kernel_rfl)) ?_
        refine wa_takes (fuel := 28) [29, 30] [1, 5, 6, 7, 8, 49, 51, 60] (listed' := #[true, true, true, true, true, true, true, true, true, true, true, true, true, true, true, true, true, true, true, true, true, true, true, true, true, true, true, true, true, true, true, false, false, false, false, false, false, false, false, false, false, false, false, false, false, false, false, false, false, false, false, false, false, false, false, false, false, false, false]) (l' := [(1, eV (.slice a len cap)), (5, eL 5 0), (6, eI .i64 ((k : Nat) : Int)), (7, eL 7 0), (8, eB (doStep s (x k)).2), (49, eB false), (51, eB true), (60, eB (decide ((x k).view ≤ s.v)))]) (pk_then (pk_then (pk_block (pk_then (pk_then (pk_block (pk_then pk_body))))))) rfl (by kernel_rfl) ?_
        refine wa_is 60 false rfl (decide_eq_false (Int.not_le.2 (hf.2.2.2.1 h2).1)) ?_
        refine wa_takes (fuel := 24) [31, 32, 33, 34] [1, 5, 6, 7, 8, 49, 51, 60, 62, 63, 64] (listed' := #[true, true, true, true, true, true, true, true, true, true, true, true, true, true, true, true, true, true, true, true, true, true, true, true, true, true, true, true, true, true, true, true, true, true, true, false, false, false, false, false, false, false, false, false, false, false, false, false, false, false, false, false, false, false, false, false, false, false, false]) (l' := [(1, eV (.slice a len cap)), (5, eL 5 0), (6, eI .i64 ((k : Nat) : Int)), (7, eL 7 0), (8, eB (doStep s (x k)).2), (49, eB false), (51, eB true), (60, eB false), (62, eI .i64 (doStep s (x k)).1.v), (63, eV (.slice a len cap)), (64, eI .i64 ((k : Nat) : Int))]) (pk_then (pk_then (pk_block (pk_then (pk_then (pk_block (pk_then pk_body))))))) rfl (by kernel_rfl) ?_
        refine wa_take 35 (pk_then (pk_then (pk_block (pk_then (pk_then (pk_block (pk_then pk_body))))))) rfl (by kernel_rfl) rfl rfl (rd_index (e := 27) b off 36 k rfl (by kernel_rfl) (by kernel_rfl) rfl rfl ((Int.ofNat_lt.1 h1)) ((hb (Nat.zero_lt_of_lt (Int.ofNat_lt.1 h1))).1)) ?_
        refine wa_takes (fuel := 22) [36] [1, 5, 6, 7, 8, 49, 51, 60, 62, 66] (listed' := #[true, true, true, true, true, true, true, true, true, true, true, true, true, true, true, true, true, true, true, true, true, true, true, true, true, true, true, true, true, true, true, true, true, true, true, true, true, false, false, false, false, false, false, false, false, false, false, false, false, false, false, false, false, false, false, false, false, false, false]) (l' := [(1, eV (.slice a len cap)), (5, eL 5 0), (6, eI .i64 ((k : Nat) : Int)), (7, eL 7 0), (8, eB (doStep s (x k)).2), (49, eB false), (51, eB true), (60, eB false), (62, eI .i64 (doStep s (x k)).1.v), (66, eV (.pointer (some ⟨b, ((off + k * 36) + 1), none⟩)))]) (pk_then (pk_then (pk_block (pk_then (pk_then (pk_block (pk_then pk_body))))))) rfl (by kernel_rfl) ?_
        refine wa_take 37 (pk_then (pk_then (pk_block (pk_then (pk_then (pk_block (pk_then pk_body))))))) rfl (by kernel_rfl) rfl rfl (rd_load (v := (sI .i64 (x k).view)) b (off + k * 36) 1 [cI .i64 (x k).kind, cI .i64 (x k).view, cI .i64 (x k).justify, .ints .u8 32 ((x k).block), cB (x k).ext] rfl ((off + k * 36) + 1) rfl rfl ((xI (hb (Nat.zero_lt_of_lt (Int.ofNat_lt.1 h1))).2)) (hc k (Int.ofNat_lt.1 h1)) (okc_one (okc_one (okc_one (okc_ints (hx k (Int.ofNat_lt.1 h1)) (okc_one okc_nil))))) (fun _ => rfl) (by kernel_rfl)) ?_
        refine wa_takes (fuel := 16) [38, 39, 40, 41, 42] [1, 5, 6, 7, 8, 72] (listed' := #[true, true, true, true, true, true, true, true, true, true, true, true, true, true, true, true, true, true, true, true, true, true, true, true, true, true, true, true, true, true, true, true, true, true, true, true, true, true, true, true, true, true, true, false, false, false, false, false, false, false, false, false, false, false, false, false, false, false, false]) (l' := [(1, eV (.slice a len cap)), (5, eL 5 0), (6, eI .i64 ((k : Nat) : Int)), (7, eL 7 0), (8, eB (doStep s (x k)).2), (72, eB ((doStep s (x k)).1.v != (x k).view))]) (pk_then (pk_then (pk_block (pk_then (pk_then (pk_block (pk_then pk_body))))))) rfl (by kernel_rfl) ?_
        refine wa_is 72 false rfl (bne_eq_false_iff_eq.2 (hf.2.2.2.1 h2).2) ?_
        refine wa_takes (fuel := 13) [43, 44, 45] [1, 5, 6, 7, 72, 75] (listed' := #[true, true, true, true, true, true, true, true, true, true, true, true, true, true, true, true, true, true, true, true, true, true, true, true, true, true, true, true, true, true, true, true, true, true, true, true, true, true, true, true, true, true, true, true, true, true, false, false, false, false, false, false, false, false, false, false, false, false, false]) (l' := [(1, eV (.slice a len cap)), (5, eL 5 0), (6, eI .i64 ((k : Nat) : Int)), (7, eL 7 0), (72, eB false), (75, eB (!(doStep s (x k)).2))]) (pk_then (pk_then (pk_block (pk_then (pk_then (pk_block (pk_then pk_body))))))) rfl (by kernel_rfl) ?_
        refine wa_is 75 false rfl (congrArg (!·) (show (doStep s (x k)).2 = true from h2)) ?_
        refine wa_takes (fuel := 0) [46, 47, 48, 49, 50, 51, 52, 53, 54, 55, 56, 57, 58] [1, 5, 6, 7, 88] (listed' := #[true, true, true, true, true, true, true, true, true, true, true, true, true, true, true, true, true, true, true, true, true, true, true, true, true, true, true, true, true, true, true, true, true, true, true, true, true, true, true, true, true, true, true, true, true, true, true, true, true, true, true, true, true, true, true, true, true, true, true]) (l' := [(1, eV (.slice a len cap)), (5, eL 5 0), (6, eI .i64 ((k : Nat) : Int)), (7, eL 7 0), (88, eB false)]) (pk_then (pk_then (pk_block (pk_then (pk_then (pk_block (pk_then pk_body))))))) rfl (by kernel_rfl) ?_
        refine wa_done (by kernel_rfl) ?_
        refine we_rest [1, 5, 6, 7, 88] [5, 7] (l' := [(1, eV (.slice a len cap)), (5, eL 5 0), (6, eI .i64 ((k : Nat) : Int)), (7, eL 7 0), (88, eB false)]) (H' := [(5, ⟨[cI .i64 s.e, cI .i64 s.v, cI .i64 s.l, .ints .u8 32 s.d], 25⟩), (7, ⟨[cI .i64 (doStep s (x k)).1.e, cI .i64 (doStep s (x k)).1.v, cI .i64 (doStep s (x k)).1.l, .ints .u8 32 ((doStep s (x k)).1.d)], 25⟩)]) (by kernel_rfl) (by kernel_rfl) ?_
        refine we_then ?_
        refine wc_false rfl ?_
        refine wc_skip ?_
        refine we_then ?_
        refine wc_seq ?_
        refine wc_seq ?_
        refine wc_reg [0, 1, 2, 3, 4, 5, 6, 7, 8, 9, 10, 11, 12, 13] (by kernel_rfl) ?_
        refine wo_run [0, 1] [1, 5, 6, 7, 89, 90] [5, 7] (l' := [(1, eV (.slice a len cap)), (5, eL 5 0), (6, eI .i64 ((k : Nat) : Int)), (7, eL 7 0), (89, eV (.slice a len cap)), (90, eI .i64 ((k : Nat) : Int))]) (H' := [(5, ⟨[cI .i64 s.e, cI .i64 s.v, cI .i64 s.l, .ints .u8 32 s.d], 25⟩), (7, ⟨[cI .i64 (doStep s (x k)).1.e, cI .i64 (doStep s (x k)).1.v, cI .i64 (doStep s (x k)).1.l, .ints .u8 32 ((doStep s (x k)).1.d)], 25⟩)]) (by kernel_rfl) ?_
        refine wo_op rfl rfl (ot_rd rfl (rd_index (e := 27) b off 36 k rfl (by kernel_rfl) (by kernel_rfl) rfl rfl ((Int.ofNat_lt.1 h1)) ((hb (Nat.zero_lt_of_lt (Int.ofNat_lt.1 h1))).1))) ?_
        refine wo_run [3] [1, 5, 6, 7, 92] [5, 7] (l' := [(1, eV (.slice a len cap)), (5, eL 5 0), (6, eI .i64 ((k : Nat) : Int)), (7, eL 7 0), (92, eV (.pointer (some ⟨b, (off + k * 36), none⟩)))]) (H' := [(5, ⟨[cI .i64 s.e, cI .i64 s.v, cI .i64 s.l, .ints .u8 32 s.d], 25⟩), (7, ⟨[cI .i64 (doStep s (x k)).1.e, cI .i64 (doStep s (x k)).1.v, cI .i64 (doStep s (x k)).1.l, .ints .u8 32 ((doStep s (x k)).1.d)], 25⟩)]) (by kernel_rfl) ?_
        refine wo_op rfl rfl (ot_rd rfl (rd_load (v := (sI .i64 (x k).kind)) b (off + k * 36) 0 [cI .i64 (x k).kind, cI .i64 (x k).view, cI .i64 (x k).justify, .ints .u8 32 ((x k).block), cB (x k).ext] rfl (off + k * 36) rfl rfl ((xI (hb (Nat.zero_lt_of_lt (Int.ofNat_lt.1 h1))).2)) (hc k (Int.ofNat_lt.1 h1)) (okc_one (okc_one (okc_one (okc_ints (hx k (Int.ofNat_lt.1 h1)) (okc_one okc_nil))))) (fun _ => rfl) (by kernel_rfl))) ?_
        refine wo_run [5, 6] [1, 5, 6, 7, 95] [5, 7] (l' := [(1, eV (.slice a len cap)), (5, eL 5 0), (6, eI .i64 ((k : Nat) : Int)), (7, eL 7 0), (95, eB (decide ((x k).kind > 1)))]) (H' := [(5, ⟨[cI .i64 s.e, cI .i64 s.v, cI .i64 s.l, .ints .u8 32 s.d], 25⟩), (7, ⟨[cI .i64 (doStep s (x k)).1.e, cI .i64 (doStep s (x k)).1.v, cI .i64 (doStep s (x k)).1.l, .ints .u8 32 ((doStep s (x k)).1.d)], 25⟩)]) (by kernel_rfl) ?_
        refine wo_bool 95 rfl (fun h3 => ?_) (fun h3 => ?_)
        · replace h3 := of_decide_eq_true h3
          refine wo_run [7, 8, 9, 10, 11, 12, 13] [1, 5, 6, 7, 102] [5, 7] (l' := [(1, eV (.slice a len cap)), (5, eL 5 0), (6, eI .i64 ((k : Nat) : Int)), (7, eL 7 0), (102, eB true)]) (H' := [(5, ⟨[cI .i64 s.e, cI .i64 s.v, cI .i64 s.l, .ints .u8 32 s.d], 25⟩), (7, ⟨[cI .i64 (doStep s (x k)).1.e, cI .i64 (doStep s (x k)).1.v, cI .i64 (doStep s (x k)).1.l, .ints .u8 32 ((doStep s (x k)).1.d)], 25⟩)]) (by kernel_rfl) ?_
          refine wo_nil ?_
          refine we_then ?_
          refine wc_true rfl ?_
          refine wc_seq ?_
          refine wc_rest [1, 5, 6, 7] [5, 7] (l' := [(1, eV (.slice a len cap)), (5, eL 5 0), (6, eI .i64 ((k : Nat) : Int)), (7, eL 7 0)]) (H' := [(5, ⟨[cI .i64 s.e, cI .i64 s.v, cI .i64 s.l, .ints .u8 32 s.d], 25⟩), (7, ⟨[cI .i64 (doStep s (x k)).1.e, cI .i64 (doStep s (x k)).1.v, cI .i64 (doStep s (x k)).1.l, .ints .u8 32 ((doStep s (x k)).1.d)], 25⟩)]) (by kernel_rfl) ?_
          refine cut [(1, eV (.slice a len cap)), (5, eL 5 0), (6, eI .i64 ((k : Nat) : Int)), (7, eL 7 0), (10, eB (vote (doStep s (x k)).1 ((x k).view) ((x k).justify) true).2)] [(5, ⟨[cI .i64 s.e, cI .i64 s.v, cI .i64 s.l, .ints .u8 32 s.d], 25⟩), (7, ⟨[cI .i64 (doStep s (x k)).1.e, cI .i64 (doStep s (x k)).1.v, cI .i64 (doStep s (x k)).1.l, .ints .u8 32 ((doStep s (x k)).1.d)], 25⟩)] (fun K => ?_) ?_
          · refine wc_draw (n := 18) [(5, ⟨[cI .i64 s.e, cI .i64 s.v, cI .i64 s.l, .ints .u8 32 s.d], 25⟩), (7, ⟨[cI .i64 (doStep s (x k)).1.e, cI .i64 (doStep s (x k)).1.v, cI .i64 (doStep s (x k)).1.l, .ints .u8 32 ((doStep s (x k)).1.d)], 25⟩)] (by kernel_rfl) rfl (sub_of [5, 7] (by kernel_rfl)) (fun ρ0 => ?_)
            refine wa_takes (fuel := 13) [0, 1, 2, 6, 7] [1, 5, 6, 7, 104, 105, 106, 110, 111] (listed' := #[true, true, true, false, false, false, true, true, false, false, false, false, false, false, false, false, false, false]) (l' := [(1, eV (.slice a len cap)), (5, eL 5 0), (6, eI .i64 ((k : Nat) : Int)), (7, eL 7 0), (104, eA [cI .i64 (doStep s (x k)).1.e, cI .i64 (doStep s (x k)).1.v, cI .i64 (doStep s (x k)).1.l, .ints .u8 32 ((doStep s (x k)).1.d)]), (105, eV (.slice a len cap)), (106, eI .i64 ((k : Nat) : Int)), (110, eV (.slice a len cap)), (111, eI .i64 ((k : Nat) : Int))]) (pk_then (pk_then (pk_block (pk_then (pk_then (pk_block (pk_then pk_body))))))) rfl (by kernel_rfl) ?_
            refine wa_take 3 (pk_then (pk_then (pk_block (pk_then (pk_then (pk_block (pk_then pk_body))))))) rfl (by kernel_rfl) rfl rfl (rd_index (e := 27) b off 36 k rfl (by kernel_rfl) (by kernel_rfl) rfl rfl ((Int.ofNat_lt.1 h1)) ((hb (Nat.zero_lt_of_lt (Int.ofNat_lt.1 h1))).1)) ?_
            refine wa_takes (fuel := 11) [4] [1, 5, 6, 7, 104, 108, 110, 111] (listed' := #[true, true, true, true, true, false, true, true, false, false, false, false, false, false, false, false, false, false]) (l' := [(1, eV (.slice a len cap)), (5, eL 5 0), (6, eI .i64 ((k : Nat) : Int)), (7, eL 7 0), (104, eA [cI .i64 (doStep s (x k)).1.e, cI .i64 (doStep s (x k)).1.v, cI .i64 (doStep s (x k)).1.l, .ints .u8 32 ((doStep s (x k)).1.d)]), (108, eV (.pointer (some ⟨b, ((off + k * 36) + 1), none⟩))), (110, eV (.slice a len cap)), (111, eI .i64 ((k : Nat) : Int))]) (pk_then (pk_then (pk_block (pk_then (pk_then (pk_block (pk_then pk_body))))))) rfl (by kernel_rfl) ?_
            refine wa_take 5 (pk_then (pk_then (pk_block (pk_then (pk_then (pk_block (pk_then pk_body))))))) rfl (by kernel_rfl) rfl rfl (rd_load (v := (sI .i64 (x k).view)) b (off + k * 36) 1 [cI .i64 (x k).kind, cI .i64 (x k).view, cI .i64 (x k).justify, .ints .u8 32 ((x k).block), cB (x k).ext] rfl ((off + k * 36) + 1) rfl rfl ((xI (hb (Nat.zero_lt_of_lt (Int.ofNat_lt.1 h1))).2)) (hc k (Int.ofNat_lt.1 h1)) (okc_one (okc_one (okc_one (okc_ints (hx k (Int.ofNat_lt.1 h1)) (okc_one okc_nil))))) (fun _ => rfl) (by kernel_rfl)) ?_
            refine wa_take 8 (pk_then (pk_then (pk_block (pk_then (pk_then (pk_block (pk_then pk_body))))))) rfl (by kernel_rfl) rfl rfl (rd_index (e := 27) b off 36 k rfl (by kernel_rfl) (by kernel_rfl) rfl rfl ((Int.ofNat_lt.1 h1)) ((hb (Nat.zero_lt_of_lt (Int.ofNat_lt.1 h1))).1)) ?_
            refine wa_takes (fuel := 8) [9] [1, 5, 6, 7, 104, 109, 113] (listed' := #[true, true, true, true, true, true, true, true, true, true, false, false, false, false, false, false, false, false]) (l' := [(1, eV (.slice a len cap)), (5, eL 5 0), (6, eI .i64 ((k : Nat) : Int)), (7, eL 7 0), (104, eA [cI .i64 (doStep s (x k)).1.e, cI .i64 (doStep s (x k)).1.v, cI .i64 (doStep s (x k)).1.l, .ints .u8 32 ((doStep s (x k)).1.d)]), (109, eI .i64 (x k).view), (113, eV (.pointer (some ⟨b, ((off + k * 36) + 2), none⟩)))]) (pk_then (pk_then (pk_block (pk_then (pk_then (pk_block (pk_then pk_body))))))) rfl (by kernel_rfl) ?_
            refine wa_take 10 (pk_then (pk_then (pk_block (pk_then (pk_then (pk_block (pk_then pk_body))))))) rfl (by kernel_rfl) rfl rfl (rd_load (v := (sI .i64 (x k).justify)) b (off + k * 36) 2 [cI .i64 (x k).kind, cI .i64 (x k).view, cI .i64 (x k).justify, .ints .u8 32 ((x k).block), cB (x k).ext] rfl ((off + k * 36) + 2) rfl rfl ((xI (hb (Nat.zero_lt_of_lt (Int.ofNat_lt.1 h1))).2)) (hc k (Int.ofNat_lt.1 h1)) (okc_one (okc_one (okc_one (okc_ints (hx k (Int.ofNat_lt.1 h1)) (okc_one okc_nil))))) (fun _ => rfl) (by kernel_rfl)) ?_
            refine wa_all [11, 15] (by kernel_rfl) rfl (allc ?_ (all1 ?_))
            · refine wi_op rfl rfl (ot_call (vs := [.agg [cI .i64 (doStep s (x k)).1.e, cI .i64 (doStep s (x k)).1.v, cI .i64 (doStep s (x k)).1.l, .ints .u8 32 ((doStep s (x k)).1.d)], sI .i64 (x k).view, sI .i64 (x k).justify, sB true]) rfl rfl rfl Try.func22 (by kernel_rfl) (by kernel_rfl) (by kernel_rfl) (.t [.agg [cI .i64 (vote (doStep s (x k)).1 ((x k).view) ((x k).justify) true).1.e, cI .i64 (vote (doStep s (x k)).1 ((x k).view) ((x k).justify) true).1.v, cI .i64 (vote (doStep s (x k)).1 ((x k).view) ((x k).justify) true).1.l, .ints .u8 32 ((vote (doStep s (x k)).1 ((x k).view) ((x k).justify) true).1.d)], sB (vote (doStep s (x k)).1 ((x k).view) ((x k).justify) true).2]) (okv_agg (okc_one (okc_one (okc_one (okc_ints (by (show Safe.ok _; repeat' (first | assumption | apply giveUp_ok | apply see_ok | apply vote_ok | apply doStep_ok | (simp [Safe.ok, Step.ok]; done)))) (okc_nil))))) (okv_a (okv_nil))) (fun ρ w _ => vote_any (doStep s (x k)).1 (by (show Safe.ok _; repeat' (first | assumption | apply giveUp_ok | apply see_ok | apply vote_ok | apply doStep_ok | (simp [Safe.ok, Step.ok]; done)))) ((x k).view) ((x k).justify) true w ρ)) (sub_of [5, 7] (by kernel_rfl)) ?_
              refine wa_takes (fuel := 3) [12, 13, 14] [1, 5, 6, 7, 116, 117] (listed' := #[true, true, true, true, true, true, true, true, true, true, true, true, true, true, true, false, false, false]) (l' := [(1, eV (.slice a len cap)), (5, eL 5 0), (6, eI .i64 ((k : Nat) : Int)), (7, eL 7 0), (116, eA [cI .i64 (vote (doStep s (x k)).1 ((x k).view) ((x k).justify) true).1.e, cI .i64 (vote (doStep s (x k)).1 ((x k).view) ((x k).justify) true).1.v, cI .i64 (vote (doStep s (x k)).1 ((x k).view) ((x k).justify) true).1.l, .ints .u8 32 ((vote (doStep s (x k)).1 ((x k).view) ((x k).justify) true).1.d)]), (117, eB (vote (doStep s (x k)).1 ((x k).view) ((x k).justify) true).2)]) (pk_then (pk_then (pk_block (pk_then (pk_then (pk_block (pk_then pk_body))))))) rfl (by kernel_rfl) ?_
              refine wa_all [15] (by kernel_rfl) rfl (all1 ?_)
              refine wi_op rfl rfl (ot_alloc (d := 9) (cs := z25) rfl rfl z25_zero rfl z25_ok (fun _ => rfl)) (sub_of [5, 7] (by kernel_rfl)) ?_
              refine wa_all [16] (by kernel_rfl) rfl (all1 ?_)
              refine wi_op rfl rfl (ot_eff (l' := [(9, eL 9 0), (1, eV (.slice a len cap)), (5, eL 5 0), (6, eI .i64 ((k : Nat) : Int)), (7, eL 7 0), (116, eA [cI .i64 (vote (doStep s (x k)).1 ((x k).view) ((x k).justify) true).1.e, cI .i64 (vote (doStep s (x k)).1 ((x k).view) ((x k).justify) true).1.v, cI .i64 (vote (doStep s (x k)).1 ((x k).view) ((x k).justify) true).1.l, .ints .u8 32 ((vote (doStep s (x k)).1 ((x k).view) ((x k).justify) true).1.d)]), (117, eB (vote (doStep s (x k)).1 ((x k).view) ((x k).justify) true).2)]) (H' := [(9, ⟨[cI .i64 (vote (doStep s (x k)).1 ((x k).view) ((x k).justify) true).1.e, cI .i64 (vote (doStep s (x k)).1 ((x k).view) ((x k).justify) true).1.v, cI .i64 (vote (doStep s (x k)).1 ((x k).view) ((x k).justify) true).1.l, .ints .u8 32 ((vote (doStep s (x k)).1 ((x k).view) ((x k).justify) true).1.d)], 25⟩), (5, ⟨[cI .i64 s.e, cI .i64 s.v, cI .i64 s.l, .ints .u8 32 s.d], 25⟩), (7, ⟨[cI .i64 (doStep s (x k)).1.e, cI .i64 (doStep s (x k)).1.v, cI .i64 (doStep s (x k)).1.l, .ints .u8 32 ((doStep s (x k)).1.d)], 25⟩)]) (by kernel_rfl)) (sub_of [5, 7] (by kernel_rfl)) ?_
              refine wa_takes (fuel := 0) [17] [1, 5, 6, 7, 10] (listed' := #[true, true, true, true, true, true, true, true, true, true, true, true, true, true, true, true, true, true]) (l' := [(1, eV (.slice a len cap)), (5, eL 5 0), (6, eI .i64 ((k : Nat) : Int)), (7, eL 7 0), (10, eB (vote (doStep s (x k)).1 ((x k).view) ((x k).justify) true).2)]) (pk_then (pk_then (pk_block (pk_then (pk_then (pk_block (pk_then pk_body))))))) rfl (by kernel_rfl) ?_
              exact wa_done (by kernel_rfl) (we_rest [1, 5, 6, 7, 10] [5, 7] (by kernel_rfl) (by kernel_rfl) K)
            · refine wi_op rfl rfl (ot_alloc (d := 9) (cs := z25) rfl rfl z25_zero rfl z25_ok (fun _ => rfl)) (sub_of [5, 7] (by kernel_rfl)) ?_
              refine wa_all [11] (by kernel_rfl) rfl (all1 ?_)
              refine wi_op rfl rfl (ot_call (vs := [.agg [cI .i64 (doStep s (x k)).1.e, cI .i64 (doStep s (x k)).1.v, cI .i64 (doStep s (x k)).1.l, .ints .u8 32 ((doStep s (x k)).1.d)], sI .i64 (x k).view, sI .i64 (x k).justify, sB true]) rfl rfl rfl Try.func22 (by kernel_rfl) (by kernel_rfl) (by kernel_rfl) (.t [.agg [cI .i64 (vote (doStep s (x k)).1 ((x k).view) ((x k).justify) true).1.e, cI .i64 (vote (doStep s (x k)).1 ((x k).view) ((x k).justify) true).1.v, cI .i64 (vote (doStep s (x k)).1 ((x k).view) ((x k).justify) true).1.l, .ints .u8 32 ((vote (doStep s (x k)).1 ((x k).view) ((x k).justify) true).1.d)], sB (vote (doStep s (x k)).1 ((x k).view) ((x k).justify) true).2]) (okv_agg (okc_one (okc_one (okc_one (okc_ints (by (show Safe.ok _; repeat' (first | assumption | apply giveUp_ok | apply see_ok | apply vote_ok | apply doStep_ok | (simp [Safe.ok, Step.ok]; done)))) (okc_nil))))) (okv_a (okv_nil))) (fun ρ w _ => vote_any (doStep s (x k)).1 (by (show Safe.ok _; repeat' (first | assumption | apply giveUp_ok | apply see_ok | apply vote_ok | apply doStep_ok | (simp [Safe.ok, Step.ok]; done)))) ((x k).view) ((x k).justify) true w ρ)) (sub_of [5, 7] (by kernel_rfl)) ?_
              refine wa_takes (fuel := 2) [12, 13, 14] [1, 5, 6, 7, 9, 116, 117] (listed' := #[true, true, true, true, true, true, true, true, true, true, true, true, true, true, true, true, false, false]) (l' := [(1, eV (.slice a len cap)), (5, eL 5 0), (6, eI .i64 ((k : Nat) : Int)), (7, eL 7 0), (9, eL 9 0), (116, eA [cI .i64 (vote (doStep s (x k)).1 ((x k).view) ((x k).justify) true).1.e, cI .i64 (vote (doStep s (x k)).1 ((x k).view) ((x k).justify) true).1.v, cI .i64 (vote (doStep s (x k)).1 ((x k).view) ((x k).justify) true).1.l, .ints .u8 32 ((vote (doStep s (x k)).1 ((x k).view) ((x k).justify) true).1.d)]), (117, eB (vote (doStep s (x k)).1 ((x k).view) ((x k).justify) true).2)]) (pk_then (pk_then (pk_block (pk_then (pk_then (pk_block (pk_then pk_body))))))) rfl (by kernel_rfl) ?_
              refine wa_all [16] (by kernel_rfl) rfl (all1 ?_)
              refine wi_op rfl rfl (ot_eff (l' := [(1, eV (.slice a len cap)), (5, eL 5 0), (6, eI .i64 ((k : Nat) : Int)), (7, eL 7 0), (9, eL 9 0), (116, eA [cI .i64 (vote (doStep s (x k)).1 ((x k).view) ((x k).justify) true).1.e, cI .i64 (vote (doStep s (x k)).1 ((x k).view) ((x k).justify) true).1.v, cI .i64 (vote (doStep s (x k)).1 ((x k).view) ((x k).justify) true).1.l, .ints .u8 32 ((vote (doStep s (x k)).1 ((x k).view) ((x k).justify) true).1.d)]), (117, eB (vote (doStep s (x k)).1 ((x k).view) ((x k).justify) true).2)]) (H' := [(9, ⟨[cI .i64 (vote (doStep s (x k)).1 ((x k).view) ((x k).justify) true).1.e, cI .i64 (vote (doStep s (x k)).1 ((x k).view) ((x k).justify) true).1.v, cI .i64 (vote (doStep s (x k)).1 ((x k).view) ((x k).justify) true).1.l, .ints .u8 32 ((vote (doStep s (x k)).1 ((x k).view) ((x k).justify) true).1.d)], 25⟩), (5, ⟨[cI .i64 s.e, cI .i64 s.v, cI .i64 s.l, .ints .u8 32 s.d], 25⟩), (7, ⟨[cI .i64 (doStep s (x k)).1.e, cI .i64 (doStep s (x k)).1.v, cI .i64 (doStep s (x k)).1.l, .ints .u8 32 ((doStep s (x k)).1.d)], 25⟩)]) (by kernel_rfl)) (sub_of [5, 7] (by kernel_rfl)) ?_
              refine wa_takes (fuel := 0) [17] [1, 5, 6, 7, 10] (listed' := #[true, true, true, true, true, true, true, true, true, true, true, true, true, true, true, true, true, true]) (l' := [(1, eV (.slice a len cap)), (5, eL 5 0), (6, eI .i64 ((k : Nat) : Int)), (7, eL 7 0), (10, eB (vote (doStep s (x k)).1 ((x k).view) ((x k).justify) true).2)]) (pk_then (pk_then (pk_block (pk_then (pk_then (pk_block (pk_then pk_body))))))) rfl (by kernel_rfl) ?_
              exact wa_done (by kernel_rfl) (we_rest [1, 5, 6, 7, 10] [5, 7] (by kernel_rfl) (by kernel_rfl) K)
          · refine we_then ?_
            refine wc_seq ?_
            refine wc_reg [0] (by kernel_rfl) ?_
            refine wo_run [0] [1, 5, 6, 7, 118] [5, 7] (l' := [(1, eV (.slice a len cap)), (5, eL 5 0), (6, eI .i64 ((k : Nat) : Int)), (7, eL 7 0), (118, eB (vote (doStep s (x k)).1 ((x k).view) ((x k).justify) true).2)]) (H' := [(5, ⟨[cI .i64 s.e, cI .i64 s.v, cI .i64 s.l, .ints .u8 32 s.d], 25⟩), (7, ⟨[cI .i64 (doStep s (x k)).1.e, cI .i64 (doStep s (x k)).1.v, cI .i64 (doStep s (x k)).1.l, .ints .u8 32 ((doStep s (x k)).1.d)], 25⟩)]) (by kernel_rfl) ?_
            refine wo_nil ?_
            refine we_then ?_
            refine wc_is 118 false rfl (hf.2.2.2.2.2 (by omega) (by omega)) ?_
            refine wc_false rfl ?_
            refine wc_skip ?_
            refine we_then ?_
            refine wc_reg [0, 1] (by kernel_rfl) ?_
            refine wo_run [0, 1] [1, 5, 6] [5] (l' := [(1, eV (.slice a len cap)), (5, eL 5 0), (6, eI .i64 ((k : Nat) : Int))]) (H' := [(5, ⟨[cI .i64 (doStep s (x k)).1.e, cI .i64 (doStep s (x k)).1.v, cI .i64 (doStep s (x k)).1.l, .ints .u8 32 ((doStep s (x k)).1.d)], 25⟩)]) (by kernel_rfl) ?_
            refine wo_nil ?_
            refine we_block ?_
            refine we_then ?_
            refine wc_reg [0, 1, 2] (by kernel_rfl) ?_
            refine wo_run [0, 1, 2] [1, 5, 6] [5] (l' := [(1, eV (.slice a len cap)), (5, eL 5 0), (6, eI .i64 (IntKind.wrap .i64 (((k : Nat) : Int) + 1)))]) (H' := [(5, ⟨[cI .i64 (doStep s (x k)).1.e, cI .i64 (doStep s (x k)).1.v, cI .i64 (doStep s (x k)).1.l, .ints .u8 32 ((doStep s (x k)).1.d)], 25⟩)]) (by kernel_rfl) ?_
            refine wo_nil ?_
            refine we_rest [1, 5, 6] [5] (l' := [(1, eV (.slice a len cap)), (5, eL 5 0), (6, eI .i64 (IntKind.wrap .i64 (((k : Nat) : Int) + 1)))]) (H' := [(5, ⟨[cI .i64 (doStep s (x k)).1.e, cI .i64 (doStep s (x k)).1.v, cI .i64 (doStep s (x k)).1.l, .ints .u8 32 ((doStep s (x k)).1.d)], 25⟩)]) (by kernel_rfl) (by kernel_rfl) ?_
            rw [show (IntKind.wrap .i64 (((k : Nat) : Int) + 1)) = ((k + 1 : Nat) : Int) from wrap_succ (by simp only [maxLen] at hcap; omega)]
            exact we_round ((doStep s (x k)).1, k + 1) (⟨by (show Safe.ok _; repeat' (first | assumption | apply giveUp_ok | apply see_ok | apply vote_ok | apply doStep_ok | (simp [Safe.ok, Step.ok]; done))), by omega⟩) (by show len - (k + 1) < len - k; omega) rfl (sub_ofE [1, 5, 6] rfl) (sub_of [5] rfl)
        · replace h3 := of_decide_eq_false h3
          refine wo_run [7, 8] [1, 5, 6, 7, 95, 96, 97] [5, 7] (l' := [(1, eV (.slice a len cap)), (5, eL 5 0), (6, eI .i64 ((k : Nat) : Int)), (7, eL 7 0), (95, eB false), (96, eV (.slice a len cap)), (97, eI .i64 ((k : Nat) : Int))]) (H' := [(5, ⟨[cI .i64 s.e, cI .i64 s.v, cI .i64 s.l, .ints .u8 32 s.d], 25⟩), (7, ⟨[cI .i64 (doStep s (x k)).1.e, cI .i64 (doStep s (x k)).1.v, cI .i64 (doStep s (x k)).1.l, .ints .u8 32 ((doStep s (x k)).1.d)], 25⟩)]) (by kernel_rfl) ?_
          refine wo_op rfl rfl (ot_rd rfl (rd_index (e := 27) b off 36 k rfl (by kernel_rfl) (by kernel_rfl) rfl rfl ((Int.ofNat_lt.1 h1)) ((hb (Nat.zero_lt_of_lt (Int.ofNat_lt.1 h1))).1))) ?_
          refine wo_run [10] [1, 5, 6, 7, 95, 99] [5, 7] (l' := [(1, eV (.slice a len cap)), (5, eL 5 0), (6, eI .i64 ((k : Nat) : Int)), (7, eL 7 0), (95, eB false), (99, eV (.pointer (some ⟨b, (off + k * 36), none⟩)))]) (H' := [(5, ⟨[cI .i64 s.e, cI .i64 s.v, cI .i64 s.l, .ints .u8 32 s.d], 25⟩), (7, ⟨[cI .i64 (doStep s (x k)).1.e, cI .i64 (doStep s (x k)).1.v, cI .i64 (doStep s (x k)).1.l, .ints .u8 32 ((doStep s (x k)).1.d)], 25⟩)]) (by kernel_rfl) ?_
          refine wo_op rfl rfl (ot_rd rfl (rd_load (v := (sI .i64 (x k).kind)) b (off + k * 36) 0 [cI .i64 (x k).kind, cI .i64 (x k).view, cI .i64 (x k).justify, .ints .u8 32 ((x k).block), cB (x k).ext] rfl (off + k * 36) rfl rfl ((xI (hb (Nat.zero_lt_of_lt (Int.ofNat_lt.1 h1))).2)) (hc k (Int.ofNat_lt.1 h1)) (okc_one (okc_one (okc_one (okc_ints (hx k (Int.ofNat_lt.1 h1)) (okc_one okc_nil))))) (fun _ => rfl) (by kernel_rfl))) ?_
          refine wo_run [12, 13] [1, 5, 6, 7, 102] [5, 7] (l' := [(1, eV (.slice a len cap)), (5, eL 5 0), (6, eI .i64 ((k : Nat) : Int)), (7, eL 7 0), (102, eB (decide ((x k).kind < 0)))]) (H' := [(5, ⟨[cI .i64 s.e, cI .i64 s.v, cI .i64 s.l, .ints .u8 32 s.d], 25⟩), (7, ⟨[cI .i64 (doStep s (x k)).1.e, cI .i64 (doStep s (x k)).1.v, cI .i64 (doStep s (x k)).1.l, .ints .u8 32 ((doStep s (x k)).1.d)], 25⟩)]) (by kernel_rfl) ?_
          refine wo_nil ?_
          refine we_then ?_
          refine wc_cond rfl (fun h4 => ?_) (fun h4 => ?_)
          · replace h4 := of_decide_eq_true h4
            refine wc_seq ?_
            refine wc_rest [1, 5, 6, 7] [5, 7] (l' := [(1, eV (.slice a len cap)), (5, eL 5 0), (6, eI .i64 ((k : Nat) : Int)), (7, eL 7 0)]) (H' := [(5, ⟨[cI .i64 s.e, cI .i64 s.v, cI .i64 s.l, .ints .u8 32 s.d], 25⟩), (7, ⟨[cI .i64 (doStep s (x k)).1.e, cI .i64 (doStep s (x k)).1.v, cI .i64 (doStep s (x k)).1.l, .ints .u8 32 ((doStep s (x k)).1.d)], 25⟩)]) (by kernel_rfl) ?_
            refine cut [(1, eV (.slice a len cap)), (5, eL 5 0), (6, eI .i64 ((k : Nat) : Int)), (7, eL 7 0), (10, eB (vote (doStep s (x k)).1 ((x k).view) ((x k).justify) true).2)] [(5, ⟨[cI .i64 s.e, cI .i64 s.v, cI .i64 s.l, .ints .u8 32 s.d], 25⟩), (7, ⟨[cI .i64 (doStep s (x k)).1.e, cI .i64 (doStep s (x k)).1.v, cI .i64 (doStep s (x k)).1.l, .ints .u8 32 ((doStep s (x k)).1.d)], 25⟩)] (fun K => ?_) ?_
            · refine wc_draw (n := 18) [(5, ⟨[cI .i64 s.e, cI .i64 s.v, cI .i64 s.l, .ints .u8 32 s.d], 25⟩), (7, ⟨[cI .i64 (doStep s (x k)).1.e, cI .i64 (doStep s (x k)).1.v, cI .i64 (doStep s (x k)).1.l, .ints .u8 32 ((doStep s (x k)).1.d)], 25⟩)] (by kernel_rfl) rfl (sub_of [5, 7] (by kernel_rfl)) (fun ρ0 => ?_)
              refine wa_takes (fuel := 13) [0, 1, 2, 6, 7] [1, 5, 6, 7, 104, 105, 106, 110, 111] (listed' := #[true, true, true, false, false, false, true, true, false, false, false, false, false, false, false, false, false, false]) (l' := [(1, eV (.slice a len cap)), (5, eL 5 0), (6, eI .i64 ((k : Nat) : Int)), (7, eL 7 0), (104, eA [cI .i64 (doStep s (x k)).1.e, cI .i64 (doStep s (x k)).1.v, cI .i64 (doStep s (x k)).1.l, .ints .u8 32 ((doStep s (x k)).1.d)]), (105, eV (.slice a len cap)), (106, eI .i64 ((k : Nat) : Int)), (110, eV (.slice a len cap)), (111, eI .i64 ((k : Nat) : Int))]) (pk_then (pk_then (pk_block (pk_then (pk_then (pk_block (pk_then pk_body))))))) rfl (by kernel_rfl) ?_
              refine wa_take 3 (pk_then (pk_then (pk_block (pk_then (pk_then (pk_block (pk_then pk_body))))))) rfl (by kernel_rfl) rfl rfl (rd_index (e := 27) b off 36 k rfl (by kernel_rfl) (by kernel_rfl) rfl rfl ((Int.ofNat_lt.1 h1)) ((hb (Nat.zero_lt_of_lt (Int.ofNat_lt.1 h1))).1)) ?_
              refine wa_takes (fuel := 11) [4] [1, 5, 6, 7, 104, 108, 110, 111] (listed' := #[true, true, true, true, true, false, true, true, false, false, false, false, false, false, false, false, false, false]) (l' := [(1, eV (.slice a len cap)), (5, eL 5 0), (6, eI .i64 ((k : Nat) : Int)), (7, eL 7 0), (104, eA [cI .i64 (doStep s (x k)).1.e, cI .i64 (doStep s (x k)).1.v, cI .i64 (doStep s (x k)).1.l, .ints .u8 32 ((doStep s (x k)).1.d)]), (108, eV (.pointer (some ⟨b, ((off + k * 36) + 1), none⟩))), (110, eV (.slice a len cap)), (111, eI .i64 ((k : Nat) : Int))]) (pk_then (pk_then (pk_block (pk_then (pk_then (pk_block (pk_then pk_body))))))) rfl (by kernel_rfl) ?_
              refine wa_take 5 (pk_then (pk_then (pk_block (pk_then (pk_then (pk_block (pk_then pk_body))))))) rfl (by kernel_rfl) rfl rfl (rd_load (v := (sI .i64 (x k).view)) b (off + k * 36) 1 [cI .i64 (x k).kind, cI .i64 (x k).view, cI .i64 (x k).justify, .ints .u8 32 ((x k).block), cB (x k).ext] rfl ((off + k * 36) + 1) rfl rfl ((xI (hb (Nat.zero_lt_of_lt (Int.ofNat_lt.1 h1))).2)) (hc k (Int.ofNat_lt.1 h1)) (okc_one (okc_one (okc_one (okc_ints (hx k (Int.ofNat_lt.1 h1)) (okc_one okc_nil))))) (fun _ => rfl) (by kernel_rfl)) ?_
              refine wa_take 8 (pk_then (pk_then (pk_block (pk_then (pk_then (pk_block (pk_then pk_body))))))) rfl (by kernel_rfl) rfl rfl (rd_index (e := 27) b off 36 k rfl (by kernel_rfl) (by kernel_rfl) rfl rfl ((Int.ofNat_lt.1 h1)) ((hb (Nat.zero_lt_of_lt (Int.ofNat_lt.1 h1))).1)) ?_
              refine wa_takes (fuel := 8) [9] [1, 5, 6, 7, 104, 109, 113] (listed' := #[true, true, true, true, true, true, true, true, true, true, false, false, false, false, false, false, false, false]) (l' := [(1, eV (.slice a len cap)), (5, eL 5 0), (6, eI .i64 ((k : Nat) : Int)), (7, eL 7 0), (104, eA [cI .i64 (doStep s (x k)).1.e, cI .i64 (doStep s (x k)).1.v, cI .i64 (doStep s (x k)).1.l, .ints .u8 32 ((doStep s (x k)).1.d)]), (109, eI .i64 (x k).view), (113, eV (.pointer (some ⟨b, ((off + k * 36) + 2), none⟩)))]) (pk_then (pk_then (pk_block (pk_then (pk_then (pk_block (pk_then pk_body))))))) rfl (by kernel_rfl) ?_
              refine wa_take 10 (pk_then (pk_then (pk_block (pk_then (pk_then (pk_block (pk_then pk_body))))))) rfl (by kernel_rfl) rfl rfl (rd_load (v := (sI .i64 (x k).justify)) b (off + k * 36) 2 [cI .i64 (x k).kind, cI .i64 (x k).view, cI .i64 (x k).justify, .ints .u8 32 ((x k).block), cB (x k).ext] rfl ((off + k * 36) + 2) rfl rfl ((xI (hb (Nat.zero_lt_of_lt (Int.ofNat_lt.1 h1))).2)) (hc k (Int.ofNat_lt.1 h1)) (okc_one (okc_one (okc_one (okc_ints (hx k (Int.ofNat_lt.1 h1)) (okc_one okc_nil))))) (fun _ => rfl) (by kernel_rfl)) ?_
              refine wa_all [11, 15] (by kernel_rfl) rfl (allc ?_ (all1 ?_))
              · refine wi_op rfl rfl (ot_call (vs := [.agg [cI .i64 (doStep s (x k)).1.e, cI .i64 (doStep s (x k)).1.v, cI .i64 (doStep s (x k)).1.l, .ints .u8 32 ((doStep s (x k)).1.d)], sI .i64 (x k).view, sI .i64 (x k).justify, sB true]) rfl rfl rfl Try.func22 (by kernel_rfl) (by kernel_rfl) (by kernel_rfl) (.t [.agg [cI .i64 (vote (doStep s (x k)).1 ((x k).view) ((x k).justify) true).1.e, cI .i64 (vote (doStep s (x k)).1 ((x k).view) ((x k).justify) true).1.v, cI .i64 (vote (doStep s (x k)).1 ((x k).view) ((x k).justify) true).1.l, .ints .u8 32 ((vote (doStep s (x k)).1 ((x k).view) ((x k).justify) true).1.d)], sB (vote (doStep s (x k)).1 ((x k).view) ((x k).justify) true).2]) (okv_agg (okc_one (okc_one (okc_one (okc_ints (by (show Safe.ok _; repeat' (first | assumption | apply giveUp_ok | apply see_ok | apply vote_ok | apply doStep_ok | (simp [Safe.ok, Step.ok]; done)))) (okc_nil))))) (okv_a (okv_nil))) (fun ρ w _ => vote_any (doStep s (x k)).1 (by (show Safe.ok _; repeat' (first | assumption | apply giveUp_ok | apply see_ok | apply vote_ok | apply doStep_ok | (simp [Safe.ok, Step.ok]; done)))) ((x k).view) ((x k).justify) true w ρ)) (sub_of [5, 7] (by kernel_rfl)) ?_
                refine wa_takes (fuel := 3) [12, 13, 14] [1, 5, 6, 7, 116, 117] (listed' := #[true, true, true, true, true, true, true, true, true, true, true, true, true, true, true, false, false, false]) (l' := [(1, eV (.slice a len cap)), (5, eL 5 0), (6, eI .i64 ((k : Nat) : Int)), (7, eL 7 0), (116, eA [cI .i64 (vote (doStep s (x k)).1 ((x k).view) ((x k).justify) true).1.e, cI .i64 (vote (doStep s (x k)).1 ((x k).view) ((x k).justify) true).1.v, cI .i64 (vote (doStep s (x k)).1 ((x k).view) ((x k).justify) true).1.l, .ints .u8 32 ((vote (doStep s (x k)).1 ((x k).view) ((x k).justify) true).1.d)]), (117, eB (vote (doStep s (x k)).1 ((x k).view) ((x k).justify) true).2)]) (pk_then (pk_then (pk_block (pk_then (pk_then (pk_block (pk_then pk_body))))))) rfl (by kernel_rfl) ?_
                refine wa_all [15] (by kernel_rfl) rfl (all1 ?_)
                refine wi_op rfl rfl (ot_alloc (d := 9) (cs := z25) rfl rfl z25_zero rfl z25_ok (fun _ => rfl)) (sub_of [5, 7] (by kernel_rfl)) ?_
                refine wa_all [16] (by kernel_rfl) rfl (all1 ?_)
                refine wi_op rfl rfl (ot_eff (l' := [(9, eL 9 0), (1, eV (.slice a len cap)), (5, eL 5 0), (6, eI .i64 ((k : Nat) : Int)), (7, eL 7 0), (116, eA [cI .i64 (vote (doStep s (x k)).1 ((x k).view) ((x k).justify) true).1.e, cI .i64 (vote (doStep s (x k)).1 ((x k).view) ((x k).justify) true).1.v, cI .i64 (vote (doStep s (x k)).1 ((x k).view) ((x k).justify) true).1.l, .ints .u8 32 ((vote (doStep s (x k)).1 ((x k).view) ((x k).justify) true).1.d)]), (117, eB (vote (doStep s (x k)).1 ((x k).view) ((x k).justify) true).2)]) (H' := [(9, ⟨[cI .i64 (vote (doStep s (x k)).1 ((x k).view) ((x k).justify) true).1.e, cI .i64 (vote (doStep s (x k)).1 ((x k).view) ((x k).justify) true).1.v, cI .i64 (vote (doStep s (x k)).1 ((x k).view) ((x k).justify) true).1.l, .ints .u8 32 ((vote (doStep s (x k)).1 ((x k).view) ((x k).justify) true).1.d)], 25⟩), (5, ⟨[cI .i64 s.e, cI .i64 s.v, cI .i64 s.l, .ints .u8 32 s.d], 25⟩), (7, ⟨[cI .i64 (doStep s (x k)).1.e, cI .i64 (doStep s (x k)).1.v, cI .i64 (doStep s (x k)).1.l, .ints .u8 32 ((doStep s (x k)).1.d)], 25⟩)]) (by kernel_rfl)) (sub_of [5, 7] (by kernel_rfl)) ?_
                refine wa_takes (fuel := 0) [17] [1, 5, 6, 7, 10] (listed' := #[true, true, true, true, true, true, true, true, true, true, true, true, true, true, true, true, true, true]) (l' := [(1, eV (.slice a len cap)), (5, eL 5 0), (6, eI .i64 ((k : Nat) : Int)), (7, eL 7 0), (10, eB (vote (doStep s (x k)).1 ((x k).view) ((x k).justify) true).2)]) (pk_then (pk_then (pk_block (pk_then (pk_then (pk_block (pk_then pk_body))))))) rfl (by kernel_rfl) ?_
                exact wa_done (by kernel_rfl) (we_rest [1, 5, 6, 7, 10] [5, 7] (by kernel_rfl) (by kernel_rfl) K)
              · refine wi_op rfl rfl (ot_alloc (d := 9) (cs := z25) rfl rfl z25_zero rfl z25_ok (fun _ => rfl)) (sub_of [5, 7] (by kernel_rfl)) ?_
                refine wa_all [11] (by kernel_rfl) rfl (all1 ?_)
                refine wi_op rfl rfl (ot_call (vs := [.agg [cI .i64 (doStep s (x k)).1.e, cI .i64 (doStep s (x k)).1.v, cI .i64 (doStep s (x k)).1.l, .ints .u8 32 ((doStep s (x k)).1.d)], sI .i64 (x k).view, sI .i64 (x k).justify, sB true]) rfl rfl rfl Try.func22 (by kernel_rfl) (by kernel_rfl) (by kernel_rfl) (.t [.agg [cI .i64 (vote (doStep s (x k)).1 ((x k).view) ((x k).justify) true).1.e, cI .i64 (vote (doStep s (x k)).1 ((x k).view) ((x k).justify) true).1.v, cI .i64 (vote (doStep s (x k)).1 ((x k).view) ((x k).justify) true).1.l, .ints .u8 32 ((vote (doStep s (x k)).1 ((x k).view) ((x k).justify) true).1.d)], sB (vote (doStep s (x k)).1 ((x k).view) ((x k).justify) true).2]) (okv_agg (okc_one (okc_one (okc_one (okc_ints (by (show Safe.ok _; repeat' (first | assumption | apply giveUp_ok | apply see_ok | apply vote_ok | apply doStep_ok | (simp [Safe.ok, Step.ok]; done)))) (okc_nil))))) (okv_a (okv_nil))) (fun ρ w _ => vote_any (doStep s (x k)).1 (by (show Safe.ok _; repeat' (first | assumption | apply giveUp_ok | apply see_ok | apply vote_ok | apply doStep_ok | (simp [Safe.ok, Step.ok]; done)))) ((x k).view) ((x k).justify) true w ρ)) (sub_of [5, 7] (by kernel_rfl)) ?_
                refine wa_takes (fuel := 2) [12, 13, 14] [1, 5, 6, 7, 9, 116, 117] (listed' := #[true, true, true, true, true, true, true, true, true, true, true, true, true, true, true, true, false, false]) (l' := [(1, eV (.slice a len cap)), (5, eL 5 0), (6, eI .i64 ((k : Nat) : Int)), (7, eL 7 0), (9, eL 9 0), (116, eA [cI .i64 (vote (doStep s (x k)).1 ((x k).view) ((x k).justify) true).1.e, cI .i64 (vote (doStep s (x k)).1 ((x k).view) ((x k).justify) true).1.v, cI .i64 (vote (doStep s (x k)).1 ((x k).view) ((x k).justify) true).1.l, .ints .u8 32 ((vote (doStep s (x k)).1 ((x k).view) ((x k).justify) true).1.d)]), (117, eB (vote (doStep s (x k)).1 ((x k).view) ((x k).justify) true).2)]) (pk_then (pk_then (pk_block (pk_then (pk_then (pk_block (pk_then pk_body))))))) rfl (by kernel_rfl) ?_
                refine wa_all [16] (by kernel_rfl) rfl (all1 ?_)
                refine wi_op rfl rfl (ot_eff (l' := [(1, eV (.slice a len cap)), (5, eL 5 0), (6, eI .i64 ((k : Nat) : Int)), (7, eL 7 0), (9, eL 9 0), (116, eA [cI .i64 (vote (doStep s (x k)).1 ((x k).view) ((x k).justify) true).1.e, cI .i64 (vote (doStep s (x k)).1 ((x k).view) ((x k).justify) true).1.v, cI .i64 (vote (doStep s (x k)).1 ((x k).view) ((x k).justify) true).1.l, .ints .u8 32 ((vote (doStep s (x k)).1 ((x k).view) ((x k).justify) true).1.d)]), (117, eB (vote (doStep s (x k)).1 ((x k).view) ((x k).justify) true).2)]) (H' := [(9, ⟨[cI .i64 (vote (doStep s (x k)).1 ((x k).view) ((x k).justify) true).1.e, cI .i64 (vote (doStep s (x k)).1 ((x k).view) ((x k).justify) true).1.v, cI .i64 (vote (doStep s (x k)).1 ((x k).view) ((x k).justify) true).1.l, .ints .u8 32 ((vote (doStep s (x k)).1 ((x k).view) ((x k).justify) true).1.d)], 25⟩), (5, ⟨[cI .i64 s.e, cI .i64 s.v, cI .i64 s.l, .ints .u8 32 s.d], 25⟩), (7, ⟨[cI .i64 (doStep s (x k)).1.e, cI .i64 (doStep s (x k)).1.v, cI .i64 (doStep s (x k)).1.l, .ints .u8 32 ((doStep s (x k)).1.d)], 25⟩)]) (by kernel_rfl)) (sub_of [5, 7] (by kernel_rfl)) ?_
                refine wa_takes (fuel := 0) [17] [1, 5, 6, 7, 10] (listed' := #[true, true, true, true, true, true, true, true, true, true, true, true, true, true, true, true, true, true]) (l' := [(1, eV (.slice a len cap)), (5, eL 5 0), (6, eI .i64 ((k : Nat) : Int)), (7, eL 7 0), (10, eB (vote (doStep s (x k)).1 ((x k).view) ((x k).justify) true).2)]) (pk_then (pk_then (pk_block (pk_then (pk_then (pk_block (pk_then pk_body))))))) rfl (by kernel_rfl) ?_
                exact wa_done (by kernel_rfl) (we_rest [1, 5, 6, 7, 10] [5, 7] (by kernel_rfl) (by kernel_rfl) K)
            · refine we_then ?_
              refine wc_seq ?_
              refine wc_reg [0] (by kernel_rfl) ?_
              refine wo_run [0] [1, 5, 6, 7, 118] [5, 7] (l' := [(1, eV (.slice a len cap)), (5, eL 5 0), (6, eI .i64 ((k : Nat) : Int)), (7, eL 7 0), (118, eB (vote (doStep s (x k)).1 ((x k).view) ((x k).justify) true).2)]) (H' := [(5, ⟨[cI .i64 s.e, cI .i64 s.v, cI .i64 s.l, .ints .u8 32 s.d], 25⟩), (7, ⟨[cI .i64 (doStep s (x k)).1.e, cI .i64 (doStep s (x k)).1.v, cI .i64 (doStep s (x k)).1.l, .ints .u8 32 ((doStep s (x k)).1.d)], 25⟩)]) (by kernel_rfl) ?_
              refine wo_nil ?_
              refine we_then ?_
              refine wc_is 118 false rfl (hf.2.2.2.2.2 (by omega) (by omega)) ?_
              refine wc_false rfl ?_
              refine wc_skip ?_
              refine we_then ?_
              refine wc_reg [0, 1] (by kernel_rfl) ?_
              refine wo_run [0, 1] [1, 5, 6] [5] (l' := [(1, eV (.slice a len cap)), (5, eL 5 0), (6, eI .i64 ((k : Nat) : Int))]) (H' := [(5, ⟨[cI .i64 (doStep s (x k)).1.e, cI .i64 (doStep s (x k)).1.v, cI .i64 (doStep s (x k)).1.l, .ints .u8 32 ((doStep s (x k)).1.d)], 25⟩)]) (by kernel_rfl) ?_
              refine wo_nil ?_
              refine we_block ?_
              refine we_then ?_
              refine wc_reg [0, 1, 2] (by kernel_rfl) ?_
              refine wo_run [0, 1, 2] [1, 5, 6] [5] (l' := [(1, eV (.slice a len cap)), (5, eL 5 0), (6, eI .i64 (IntKind.wrap .i64 (((k : Nat) : Int) + 1)))]) (H' := [(5, ⟨[cI .i64 (doStep s (x k)).1.e, cI .i64 (doStep s (x k)).1.v, cI .i64 (doStep s (x k)).1.l, .ints .u8 32 ((doStep s (x k)).1.d)], 25⟩)]) (by kernel_rfl) ?_
              refine wo_nil ?_
              refine we_rest [1, 5, 6] [5] (l' := [(1, eV (.slice a len cap)), (5, eL 5 0), (6, eI .i64 (IntKind.wrap .i64 (((k : Nat) : Int) + 1)))]) (H' := [(5, ⟨[cI .i64 (doStep s (x k)).1.e, cI .i64 (doStep s (x k)).1.v, cI .i64 (doStep s (x k)).1.l, .ints .u8 32 ((doStep s (x k)).1.d)], 25⟩)]) (by kernel_rfl) (by kernel_rfl) ?_
              rw [show (IntKind.wrap .i64 (((k : Nat) : Int) + 1)) = ((k + 1 : Nat) : Int) from wrap_succ (by simp only [maxLen] at hcap; omega)]
              exact we_round ((doStep s (x k)).1, k + 1) (⟨by (show Safe.ok _; repeat' (first | assumption | apply giveUp_ok | apply see_ok | apply vote_ok | apply doStep_ok | (simp [Safe.ok, Step.ok]; done))), by omega⟩) (by show len - (k + 1) < len - k; omega) rfl (sub_ofE [1, 5, 6] rfl) (sub_of [5] rfl)
          · replace h4 := of_decide_eq_false h4
            refine wc_skip ?_
            refine we_then ?_
            refine wc_reg [0, 1] (by kernel_rfl) ?_
            refine wo_run [0, 1] [1, 5, 6] [5] (l' := [(1, eV (.slice a len cap)), (5, eL 5 0), (6, eI .i64 ((k : Nat) : Int))]) (H' := [(5, ⟨[cI .i64 (doStep s (x k)).1.e, cI .i64 (doStep s (x k)).1.v, cI .i64 (doStep s (x k)).1.l, .ints .u8 32 ((doStep s (x k)).1.d)], 25⟩)]) (by kernel_rfl) ?_
            refine wo_nil ?_
            refine we_block ?_
            refine we_then ?_
            refine wc_reg [0, 1, 2] (by kernel_rfl) ?_
            refine wo_run [0, 1, 2] [1, 5, 6] [5] (l' := [(1, eV (.slice a len cap)), (5, eL 5 0), (6, eI .i64 (IntKind.wrap .i64 (((k : Nat) : Int) + 1)))]) (H' := [(5, ⟨[cI .i64 (doStep s (x k)).1.e, cI .i64 (doStep s (x k)).1.v, cI .i64 (doStep s (x k)).1.l, .ints .u8 32 ((doStep s (x k)).1.d)], 25⟩)]) (by kernel_rfl) ?_
            refine wo_nil ?_
            refine we_rest [1, 5, 6] [5] (l' := [(1, eV (.slice a len cap)), (5, eL 5 0), (6, eI .i64 (IntKind.wrap .i64 (((k : Nat) : Int) + 1)))]) (H' := [(5, ⟨[cI .i64 (doStep s (x k)).1.e, cI .i64 (doStep s (x k)).1.v, cI .i64 (doStep s (x k)).1.l, .ints .u8 32 ((doStep s (x k)).1.d)], 25⟩)]) (by kernel_rfl) (by kernel_rfl) ?_
            rw [show (IntKind.wrap .i64 (((k : Nat) : Int) + 1)) = ((k + 1 : Nat) : Int) from wrap_succ (by simp only [maxLen] at hcap; omega)]
            exact we_round ((doStep s (x k)).1, k + 1) (⟨by (show Safe.ok _; repeat' (first | assumption | apply giveUp_ok | apply see_ok | apply vote_ok | apply doStep_ok | (simp [Safe.ok, Step.ok]; done))), by omega⟩) (by show len - (k + 1) < len - k; omega) rfl (sub_ofE [1, 5, 6] rfl) (sub_of [5] rfl)
      · refine wa_takes (fuel := 13) [22, 23, 24, 25, 26, 27, 28, 29, 30, 31, 32, 33, 34, 35, 36, 37, 38, 39, 40, 41, 42, 43, 44, 45] [1, 5, 6, 7, 72, 75] (listed' := #[true, true, true, true, true, true, true, true, true, true, true, true, true, true, true, true, true, true, true, true, true, true, true, true, true, true, true, true, true, true, true, true, true, true, true, true, true, true, true, true, true, true, true, true, true, true, false, false, false, false, false, false, false, false, false, false, false, false, false]) (l' := [(1, eV (.slice a len cap)), (5, eL 5 0), (6, eI .i64 ((k : Nat) : Int)), (7, eL 7 0), (72, eB false), (75, eB (!(doStep s (x k)).2))]) (pk_then (pk_then (pk_block (pk_then (pk_then (pk_block (pk_then pk_body))))))) rfl (by kernel_rfl) ?_
        refine wa_is 75 true rfl (congrArg (!·) (show (doStep s (x k)).2 = false from h2)) ?_
        refine wa_takes (fuel := 11) [46, 47] [1, 5, 6, 7, 72, 75, 76, 77] (listed' := #[true, true, true, true, true, true, true, true, true, true, true, true, true, true, true, true, true, true, true, true, true, true, true, true, true, true, true, true, true, true, true, true, true, true, true, true, true, true, true, true, true, true, true, true, true, true, true, true, false, false, false, false, false, false, false, false, false, false, false]) (l' := [(1, eV (.slice a len cap)), (5, eL 5 0), (6, eI .i64 ((k : Nat) : Int)), (7, eL 7 0), (72, eB false), (75, eB true), (76, eV (.slice a len cap)), (77, eI .i64 ((k : Nat) : Int))]) (pk_then (pk_then (pk_block (pk_then (pk_then (pk_block (pk_then pk_body))))))) rfl (by kernel_rfl) ?_
        refine wa_take 48 (pk_then (pk_then (pk_block (pk_then (pk_then (pk_block (pk_then pk_body))))))) rfl (by kernel_rfl) rfl rfl (rd_index (e := 27) b off 36 k rfl (by kernel_rfl) (by kernel_rfl) rfl rfl ((Int.ofNat_lt.1 h1)) ((hb (Nat.zero_lt_of_lt (Int.ofNat_lt.1 h1))).1)) ?_
        refine wa_takes (fuel := 9) [49] [1, 5, 6, 7, 72, 75, 79] (listed' := #[true, true, true, true, true, true, true, true, true, true, true, true, true, true, true, true, true, true, true, true, true, true, true, true, true, true, true, true, true, true, true, true, true, true, true, true, true, true, true, true, true, true, true, true, true, true, true, true, true, true, false, false, false, false, false, false, false, false, false]) (l' := [(1, eV (.slice a len cap)), (5, eL 5 0), (6, eI .i64 ((k : Nat) : Int)), (7, eL 7 0), (72, eB false), (75, eB true), (79, eV (.pointer (some ⟨b, (off + k * 36), none⟩)))]) (pk_then (pk_then (pk_block (pk_then (pk_then (pk_block (pk_then pk_body))))))) rfl (by kernel_rfl) ?_
        refine wa_take 50 (pk_then (pk_then (pk_block (pk_then (pk_then (pk_block (pk_then pk_body))))))) rfl (by kernel_rfl) rfl rfl (rd_load (v := (sI .i64 (x k).kind)) b (off + k * 36) 0 [cI .i64 (x k).kind, cI .i64 (x k).view, cI .i64 (x k).justify, .ints .u8 32 ((x k).block), cB (x k).ext] rfl (off + k * 36) rfl rfl ((xI (hb (Nat.zero_lt_of_lt (Int.ofNat_lt.1 h1))).2)) (hc k (Int.ofNat_lt.1 h1)) (okc_one (okc_one (okc_one (okc_ints (hx k (Int.ofNat_lt.1 h1)) (okc_one okc_nil))))) (fun _ => rfl) (by kernel_rfl)) ?_
        refine wa_takes (fuel := 5) [51, 52, 53] [1, 5, 6, 7, 72, 83] (listed' := #[true, true, true, true, true, true, true, true, true, true, true, true, true, true, true, true, true, true, true, true, true, true, true, true, true, true, true, true, true, true, true, true, true, true, true, true, true, true, true, true, true, true, true, true, true, true, true, true, true, true, true, true, true, true, false, false, false, false, false]) (l' := [(1, eV (.slice a len cap)), (5, eL 5 0), (6, eI .i64 ((k : Nat) : Int)), (7, eL 7 0), (72, eB false), (83, eB ((x k).kind == 1))]) (pk_then (pk_then (pk_block (pk_then (pk_then (pk_block (pk_then pk_body))))))) rfl (by kernel_rfl) ?_
        refine wa_bool 83 rfl (fun h5 => ?_) (fun h5 => ?_)
        · replace h5 := eq_of_beq h5
          refine wa_takes (fuel := 3) [54, 55] [1, 5, 6, 7, 72, 83, 84, 85] (listed' := #[true, true, true, true, true, true, true, true, true, true, true, true, true, true, true, true, true, true, true, true, true, true, true, true, true, true, true, true, true, true, true, true, true, true, true, true, true, true, true, true, true, true, true, true, true, true, true, true, true, true, true, true, true, true, true, true, false, false, false]) (l' := [(1, eV (.slice a len cap)), (5, eL 5 0), (6, eI .i64 ((k : Nat) : Int)), (7, eL 7 0), (72, eB false), (83, eB true), (84, eA [cI .i64 (doStep s (x k)).1.e, cI .i64 (doStep s (x k)).1.v, cI .i64 (doStep s (x k)).1.l, .ints .u8 32 ((doStep s (x k)).1.d)]), (85, eA [cI .i64 s.e, cI .i64 s.v, cI .i64 s.l, .ints .u8 32 s.d])]) (pk_then (pk_then (pk_block (pk_then (pk_then (pk_block (pk_then pk_body))))))) rfl (by kernel_rfl) ?_
          refine wa_take 56 (pk_then (pk_then (pk_block (pk_then (pk_then (pk_block (pk_then pk_body))))))) rfl (by kernel_rfl) rfl rfl (rd_eq (b := (((doStep s (x k)).1.e == s.e) && (((doStep s (x k)).1.v == s.v) && (((doStep s (x k)).1.l == s.l) && (((doStep s (x k)).1.d == s.d) && true))))) 9 (!(((doStep s (x k)).1.e == s.e) && (((doStep s (x k)).1.v == s.v) && (((doStep s (x k)).1.l == s.l) && (((doStep s (x k)).1.d == s.d) && true))))) rfl rfl rfl (by kernel_rfl) rfl (by kernel_rfl) (.inr ⟨rfl, rfl⟩)) ?_
          refine wa_takes (fuel := 0) [57, 58] [1, 5, 6, 7, 88] (listed' := #[true, true, true, true, true, true, true, true, true, true, true, true, true, true, true, true, true, true, true, true, true, true, true, true, true, true, true, true, true, true, true, true, true, true, true, true, true, true, true, true, true, true, true, true, true, true, true, true, true, true, true, true, true, true, true, true, true, true, true]) (l' := [(1, eV (.slice a len cap)), (5, eL 5 0), (6, eI .i64 ((k : Nat) : Int)), (7, eL 7 0), (88, eB (!(((doStep s (x k)).1.e == s.e) && (((doStep s (x k)).1.v == s.v) && (((doStep s (x k)).1.l == s.l) && (((doStep s (x k)).1.d == s.d) && true))))))]) (pk_then (pk_then (pk_block (pk_then (pk_then (pk_block (pk_then pk_body))))))) rfl (by kernel_rfl) ?_
          refine wa_done (by kernel_rfl) ?_
          refine we_rest [1, 5, 6, 7, 88] [5, 7] (l' := [(1, eV (.slice a len cap)), (5, eL 5 0), (6, eI .i64 ((k : Nat) : Int)), (7, eL 7 0), (88, eB (!(((doStep s (x k)).1.e == s.e) && (((doStep s (x k)).1.v == s.v) && (((doStep s (x k)).1.l == s.l) && (((doStep s (x k)).1.d == s.d) && true))))))]) (H' := [(5, ⟨[cI .i64 s.e, cI .i64 s.v, cI .i64 s.l, .ints .u8 32 s.d], 25⟩), (7, ⟨[cI .i64 (doStep s (x k)).1.e, cI .i64 (doStep s (x k)).1.v, cI .i64 (doStep s (x k)).1.l, .ints .u8 32 ((doStep s (x k)).1.d)], 25⟩)]) (by kernel_rfl) (by kernel_rfl) ?_
          refine we_then ?_
          refine wc_is 88 false rfl (congrArg (!·) (show (((doStep s (x k)).1.e == s.e) && (((doStep s (x k)).1.v == s.v) && (((doStep s (x k)).1.l == s.l) && (((doStep s (x k)).1.d == s.d) && true)))) = true from by rw [hf.2.2.2.2.1 h2 h5]; simp)) ?_
          refine wc_false rfl ?_
          refine wc_skip ?_
          refine we_then ?_
          refine wc_seq ?_
          refine wc_seq ?_
          refine wc_reg [0, 1, 2, 3, 4, 5, 6, 7, 8, 9, 10, 11, 12, 13] (by kernel_rfl) ?_
          refine wo_run [0, 1] [1, 5, 6, 7, 89, 90] [5, 7] (l' := [(1, eV (.slice a len cap)), (5, eL 5 0), (6, eI .i64 ((k : Nat) : Int)), (7, eL 7 0), (89, eV (.slice a len cap)), (90, eI .i64 ((k : Nat) : Int))]) (H' := [(5, ⟨[cI .i64 s.e, cI .i64 s.v, cI .i64 s.l, .ints .u8 32 s.d], 25⟩), (7, ⟨[cI .i64 (doStep s (x k)).1.e, cI .i64 (doStep s (x k)).1.v, cI .i64 (doStep s (x k)).1.l, .ints .u8 32 ((doStep s (x k)).1.d)], 25⟩)]) (by kernel_rfl) ?_
          refine wo_op rfl rfl (ot_rd rfl (rd_index (e := 27) b off 36 k rfl (by kernel_rfl) (by kernel_rfl) rfl rfl ((Int.ofNat_lt.1 h1)) ((hb (Nat.zero_lt_of_lt (Int.ofNat_lt.1 h1))).1))) ?_
          refine wo_run [3] [1, 5, 6, 7, 92] [5, 7] (l' := [(1, eV (.slice a len cap)), (5, eL 5 0), (6, eI .i64 ((k : Nat) : Int)), (7, eL 7 0), (92, eV (.pointer (some ⟨b, (off + k * 36), none⟩)))]) (H' := [(5, ⟨[cI .i64 s.e, cI .i64 s.v, cI .i64 s.l, .ints .u8 32 s.d], 25⟩), (7, ⟨[cI .i64 (doStep s (x k)).1.e, cI .i64 (doStep s (x k)).1.v, cI .i64 (doStep s (x k)).1.l, .ints .u8 32 ((doStep s (x k)).1.d)], 25⟩)]) (by kernel_rfl) ?_
          refine wo_op rfl rfl (ot_rd rfl (rd_load (v := (sI .i64 (x k).kind)) b (off + k * 36) 0 [cI .i64 (x k).kind, cI .i64 (x k).view, cI .i64 (x k).justify, .ints .u8 32 ((x k).block), cB (x k).ext] rfl (off + k * 36) rfl rfl ((xI (hb (Nat.zero_lt_of_lt (Int.ofNat_lt.1 h1))).2)) (hc k (Int.ofNat_lt.1 h1)) (okc_one (okc_one (okc_one (okc_ints (hx k (Int.ofNat_lt.1 h1)) (okc_one okc_nil))))) (fun _ => rfl) (by kernel_rfl))) ?_
          refine wo_run [5, 6] [1, 5, 6, 7, 95] [5, 7] (l' := [(1, eV (.slice a len cap)), (5, eL 5 0), (6, eI .i64 ((k : Nat) : Int)), (7, eL 7 0), (95, eB (decide ((x k).kind > 1)))]) (H' := [(5, ⟨[cI .i64 s.e, cI .i64 s.v, cI .i64 s.l, .ints .u8 32 s.d], 25⟩), (7, ⟨[cI .i64 (doStep s (x k)).1.e, cI .i64 (doStep s (x k)).1.v, cI .i64 (doStep s (x k)).1.l, .ints .u8 32 ((doStep s (x k)).1.d)], 25⟩)]) (by kernel_rfl) ?_
          refine wo_bool 95 rfl (fun h6 => ?_) (fun h6 => ?_)
          · replace h6 := of_decide_eq_true h6
            refine wo_run [7, 8, 9, 10, 11, 12, 13] [1, 5, 6, 7, 102] [5, 7] (l' := [(1, eV (.slice a len cap)), (5, eL 5 0), (6, eI .i64 ((k : Nat) : Int)), (7, eL 7 0), (102, eB true)]) (H' := [(5, ⟨[cI .i64 s.e, cI .i64 s.v, cI .i64 s.l, .ints .u8 32 s.d], 25⟩), (7, ⟨[cI .i64 (doStep s (x k)).1.e, cI .i64 (doStep s (x k)).1.v, cI .i64 (doStep s (x k)).1.l, .ints .u8 32 ((doStep s (x k)).1.d)], 25⟩)]) (by kernel_rfl) ?_
            refine wo_nil ?_
            refine we_then ?_
            refine wc_true rfl ?_
            refine wc_seq ?_
            refine wc_rest [1, 5, 6, 7] [5, 7] (l' := [(1, eV (.slice a len cap)), (5, eL 5 0), (6, eI .i64 ((k : Nat) : Int)), (7, eL 7 0)]) (H' := [(5, ⟨[cI .i64 s.e, cI .i64 s.v, cI .i64 s.l, .ints .u8 32 s.d], 25⟩), (7, ⟨[cI .i64 (doStep s (x k)).1.e, cI .i64 (doStep s (x k)).1.v, cI .i64 (doStep s (x k)).1.l, .ints .u8 32 ((doStep s (x k)).1.d)], 25⟩)]) (by kernel_rfl) ?_
            refine cut [(1, eV (.slice a len cap)), (5, eL 5 0), (6, eI .i64 ((k : Nat) : Int)), (7, eL 7 0), (10, eB (vote (doStep s (x k)).1 ((x k).view) ((x k).justify) true).2)] [(5, ⟨[cI .i64 s.e, cI .i64 s.v, cI .i64 s.l, .ints .u8 32 s.d], 25⟩), (7, ⟨[cI .i64 (doStep s (x k)).1.e, cI .i64 (doStep s (x k)).1.v, cI .i64 (doStep s (x k)).1.l, .ints .u8 32 ((doStep s (x k)).1.d)], 25⟩)] (fun K => ?_) ?_
            · refine wc_draw (n := 18) [(5, ⟨[cI .i64 s.e, cI .i64 s.v, cI .i64 s.l, .ints .u8 32 s.d], 25⟩), (7, ⟨[cI .i64 (doStep s (x k)).1.e, cI .i64 (doStep s (x k)).1.v, cI .i64 (doStep s (x k)).1.l, .ints .u8 32 ((doStep s (x k)).1.d)], 25⟩)] (by kernel_rfl) rfl (sub_of [5, 7] (by kernel_rfl)) (fun ρ0 => ?_)
              refine wa_takes (fuel := 13) [0, 1, 2, 6, 7] [1, 5, 6, 7, 104, 105, 106, 110, 111] (listed' := #[true, true, true, false, false, false, true, true, false, false, false, false, false, false, false, false, false, false]) (l' := [(1, eV (.slice a len cap)), (5, eL 5 0), (6, eI .i64 ((k : Nat) : Int)), (7, eL 7 0), (104, eA [cI .i64 (doStep s (x k)).1.e, cI .i64 (doStep s (x k)).1.v, cI .i64 (doStep s (x k)).1.l, .ints .u8 32 ((doStep s (x k)).1.d)]), (105, eV (.slice a len cap)), (106, eI .i64 ((k : Nat) : Int)), (110, eV (.slice a len cap)), (111, eI .i64 ((k : Nat) : Int))]) (pk_then (pk_then (pk_block (pk_then (pk_then (pk_block (pk_then pk_body))))))) rfl (by kernel_rfl) ?_
              refine wa_take 3 (pk_then (pk_then (pk_block (pk_then (pk_then (pk_block (pk_then pk_body))))))) rfl (by kernel_rfl) rfl rfl (rd_index (e := 27) b off 36 k rfl (by kernel_rfl) (by kernel_rfl) rfl rfl ((Int.ofNat_lt.1 h1)) ((hb (Nat.zero_lt_of_lt (Int.ofNat_lt.1 h1))).1)) ?_
              refine wa_takes (fuel := 11) [4] [1, 5, 6, 7, 104, 108, 110, 111] (listed' := #[true, true, true, true, true, false, true, true, false, false, false, false, false, false, false, false, false, false]) (l' := [(1, eV (.slice a len cap)), (5, eL 5 0), (6, eI .i64 ((k : Nat) : Int)), (7, eL 7 0), (104, eA [cI .i64 (doStep s (x k)).1.e, cI .i64 (doStep s (x k)).1.v, cI .i64 (doStep s (x k)).1.l, .ints .u8 32 ((doStep s (x k)).1.d)]), (108, eV (.pointer (some ⟨b, ((off + k * 36) + 1), none⟩))), (110, eV (.slice a len cap)), (111, eI .i64 ((k : Nat) : Int))]) (pk_then (pk_then (pk_block (pk_then (pk_then (pk_block (pk_then pk_body))))))) rfl (by kernel_rfl) ?_
              refine wa_take 5 (pk_then (pk_then (pk_block (pk_then (pk_then (pk_block (pk_then pk_body))))))) rfl (by kernel_rfl) rfl rfl (rd_load (v := (sI .i64 (x k).view)) b (off + k * 36) 1 [cI .i64 (x k).kind, cI .i64 (x k).view, cI .i64 (x k).justify, .ints .u8 32 ((x k).block), cB (x k).ext] rfl ((off + k * 36) + 1) rfl rfl ((xI (hb (Nat.zero_lt_of_lt (Int.ofNat_lt.1 h1))).2)) (hc k (Int.ofNat_lt.1 h1)) (okc_one (okc_one (okc_one (okc_ints (hx k (Int.ofNat_lt.1 h1)) (okc_one okc_nil))))) (fun _ => rfl) (by kernel_rfl)) ?_
              refine wa_take 8 (pk_then (pk_then (pk_block (pk_then (pk_then (pk_block (pk_then pk_body))))))) rfl (by kernel_rfl) rfl rfl (rd_index (e := 27) b off 36 k rfl (by kernel_rfl) (by kernel_rfl) rfl rfl ((Int.ofNat_lt.1 h1)) ((hb (Nat.zero_lt_of_lt (Int.ofNat_lt.1 h1))).1)) ?_
              refine wa_takes (fuel := 8) [9] [1, 5, 6, 7, 104, 109, 113] (listed' := #[true, true, true, true, true, true, true, true, true, true, false, false, false, false, false, false, false, false]) (l' := [(1, eV (.slice a len cap)), (5, eL 5 0), (6, eI .i64 ((k : Nat) : Int)), (7, eL 7 0), (104, eA [cI .i64 (doStep s (x k)).1.e, cI .i64 (doStep s (x k)).1.v, cI .i64 (doStep s (x k)).1.l, .ints .u8 32 ((doStep s (x k)).1.d)]), (109, eI .i64 (x k).view), (113, eV (.pointer (some ⟨b, ((off + k * 36) + 2), none⟩)))]) (pk_then (pk_then (pk_block (pk_then (pk_then (pk_block (pk_then pk_body))))))) rfl (by kernel_rfl) ?_
              refine wa_take 10 (pk_then (pk_then (pk_block (pk_then (pk_then (pk_block (pk_then pk_body))))))) rfl (by kernel_rfl) rfl rfl (rd_load (v := (sI .i64 (x k).justify)) b (off + k * 36) 2 [cI .i64 (x k).kind, cI .i64 (x k).view, cI .i64 (x k).justify, .ints .u8 32 ((x k).block), cB (x k).ext] rfl ((off + k * 36) + 2) rfl rfl ((xI (hb (Nat.zero_lt_of_lt (Int.ofNat_lt.1 h1))).2)) (hc k (Int.ofNat_lt.1 h1)) (okc_one (okc_one (okc_one (okc_ints (hx k (Int.ofNat_lt.1 h1)) (okc_one okc_nil))))) (fun _ => rfl) (by kernel_rfl)) ?_
              refine wa_all [11, 15] (by kernel_rfl) rfl (allc ?_ (all1 ?_))
              · refine wi_op rfl rfl (ot_call (vs := [.agg [cI .i64 (doStep s (x k)).1.e, cI .i64 (doStep s (x k)).1.v, cI .i64 (doStep s (x k)).1.l, .ints .u8 32 ((doStep s (x k)).1.d)], sI .i64 (x k).view, sI .i64 (x k).justify, sB true]) rfl rfl rfl Try.func22 (by kernel_rfl) (by kernel_rfl) (by kernel_rfl) (.t [.agg [cI .i64 (vote (doStep s (x k)).1 ((x k).view) ((x k).justify) true).1.e, cI .i64 (vote (doStep s (x k)).1 ((x k).view) ((x k).justify) true).1.v, cI .i64 (vote (doStep s (x k)).1 ((x k).view) ((x k).justify) true).1.l, .ints .u8 32 ((vote (doStep s (x k)).1 ((x k).view) ((x k).justify) true).1.d)], sB (vote (doStep s (x k)).1 ((x k).view) ((x k).justify) true).2]) (okv_agg (okc_one (okc_one (okc_one (okc_ints (by (show Safe.ok _; repeat' (first | assumption | apply giveUp_ok | apply see_ok | apply vote_ok | apply doStep_ok | (simp [Safe.ok, Step.ok]; done)))) (okc_nil))))) (okv_a (okv_nil))) (fun ρ w _ => vote_any (doStep s (x k)).1 (by (show Safe.ok _; repeat' (first | assumption | apply giveUp_ok | apply see_ok | apply vote_ok | apply doStep_ok | (simp [Safe.ok, Step.ok]; done)))) ((x k).view) ((x k).justify) true w ρ)) (sub_of [5, 7] (by kernel_rfl)) ?_
                refine wa_takes (fuel := 3) [12, 13, 14] [1, 5, 6, 7, 116, 117] (listed' := #[true, true, true, true, true, true, true, true, true, true, true, true, true, true, true, false, false, false]) (l' := [(1, eV (.slice a len cap)), (5, eL 5 0), (6, eI .i64 ((k : Nat) : Int)), (7, eL 7 0), (116, eA [cI .i64 (vote (doStep s (x k)).1 ((x k).view) ((x k).justify) true).1.e, cI .i64 (vote (doStep s (x k)).1 ((x k).view) ((x k).justify) true).1.v, cI .i64 (vote (doStep s (x k)).1 ((x k).view) ((x k).justify) true).1.l, .ints .u8 32 ((vote (doStep s (x k)).1 ((x k).view) ((x k).justify) true).1.d)]), (117, eB (vote (doStep s (x k)).1 ((x k).view) ((x k).justify) true).2)]) (pk_then (pk_then (pk_block (pk_then (pk_then (pk_block (pk_then pk_body))))))) rfl (by kernel_rfl) ?_
                refine wa_all [15] (by kernel_rfl) rfl (all1 ?_)
                refine wi_op rfl rfl (ot_alloc (d := 9) (cs := z25) rfl rfl z25_zero rfl z25_ok (fun _ => rfl)) (sub_of [5, 7] (by kernel_rfl)) ?_
                refine wa_all [16] (by kernel_rfl) rfl (all1 ?_)
                refine wi_op rfl rfl (ot_eff (l' := [(9, eL 9 0), (1, eV (.slice a len cap)), (5, eL 5 0), (6, eI .i64 ((k : Nat) : Int)), (7, eL 7 0), (116, eA [cI .i64 (vote (doStep s (x k)).1 ((x k).view) ((x k).justify) true).1.e, cI .i64 (vote (doStep s (x k)).1 ((x k).view) ((x k).justify) true).1.v, cI .i64 (vote (doStep s (x k)).1 ((x k).view) ((x k).justify) true).1.l, .ints .u8 32 ((vote (doStep s (x k)).1 ((x k).view) ((x k).justify) true).1.d)]), (117, eB (vote (doStep s (x k)).1 ((x k).view) ((x k).justify) true).2)]) (H' := [(9, ⟨[cI .i64 (vote (doStep s (x k)).1 ((x k).view) ((x k).justify) true).1.e, cI .i64 (vote (doStep s (x k)).1 ((x k).view) ((x k).justify) true).1.v, cI .i64 (vote (doStep s (x k)).1 ((x k).view) ((x k).justify) true).1.l, .ints .u8 32 ((vote (doStep s (x k)).1 ((x k).view) ((x k).justify) true).1.d)], 25⟩), (5, ⟨[cI .i64 s.e, cI .i64 s.v, cI .i64 s.l, .ints .u8 32 s.d], 25⟩), (7, ⟨[cI .i64 (doStep s (x k)).1.e, cI .i64 (doStep s (x k)).1.v, cI .i64 (doStep s (x k)).1.l, .ints .u8 32 ((doStep s (x k)).1.d)], 25⟩)]) (by kernel_rfl)) (sub_of [5, 7] (by kernel_rfl)) ?_
                refine wa_takes (fuel := 0) [17] [1, 5, 6, 7, 10] (listed' := #[true, true, true, true, true, true, true, true, true, true, true, true, true, true, true, true, true, true]) (l' := [(1, eV (.slice a len cap)), (5, eL 5 0), (6, eI .i64 ((k : Nat) : Int)), (7, eL 7 0), (10, eB (vote (doStep s (x k)).1 ((x k).view) ((x k).justify) true).2)]) (pk_then (pk_then (pk_block (pk_then (pk_then (pk_block (pk_then pk_body))))))) rfl (by kernel_rfl) ?_
                exact wa_done (by kernel_rfl) (we_rest [1, 5, 6, 7, 10] [5, 7] (by kernel_rfl) (by kernel_rfl) K)
              · refine wi_op rfl rfl (ot_alloc (d := 9) (cs := z25) rfl rfl z25_zero rfl z25_ok (fun _ => rfl)) (sub_of [5, 7] (by kernel_rfl)) ?_
                refine wa_all [11] (by kernel_rfl) rfl (all1 ?_)
                refine wi_op rfl rfl (ot_call (vs := [.agg [cI .i64 (doStep s (x k)).1.e, cI .i64 (doStep s (x k)).1.v, cI .i64 (doStep s (x k)).1.l, .ints .u8 32 ((doStep s (x k)).1.d)], sI .i64 (x k).view, sI .i64 (x k).justify, sB true]) rfl rfl rfl Try.func22 (by kernel_rfl) (by kernel_rfl) (by kernel_rfl) (.t [.agg [cI .i64 (vote (doStep s (x k)).1 ((x k).view) ((x k).justify) true).1.e, cI .i64 (vote (doStep s (x k)).1 ((x k).view) ((x k).justify) true).1.v, cI .i64 (vote (doStep s (x k)).1 ((x k).view) ((x k).justify) true).1.l, .ints .u8 32 ((vote (doStep s (x k)).1 ((x k).view) ((x k).justify) true).1.d)], sB (vote (doStep s (x k)).1 ((x k).view) ((x k).justify) true).2]) (okv_agg (okc_one (okc_one (okc_one (okc_ints (by (show Safe.ok _; repeat' (first | assumption | apply giveUp_ok | apply see_ok | apply vote_ok | apply doStep_ok | (simp [Safe.ok, Step.ok]; done)))) (okc_nil))))) (okv_a (okv_nil))) (fun ρ w _ => vote_any (doStep s (x k)).1 (by (show Safe.ok _; repeat' (first | assumption | apply giveUp_ok | apply see_ok | apply vote_ok | apply doStep_ok | (simp [Safe.ok, Step.ok]; done)))) ((x k).view) ((x k).justify) true w ρ)) (sub_of [5, 7] (by kernel_rfl)) ?_
                refine wa_takes (fuel := 2) [12, 13, 14] [1, 5, 6, 7, 9, 116, 117] (listed' := #[true, true, true, true, true, true, true, true, true, true, true, true, true, true, true, true, false, false]) (l' := [(1, eV (.slice a len cap)), (5, eL 5 0), (6, eI .i64 ((k : Nat) : Int)), (7, eL 7 0), (9, eL 9 0), (116, eA [cI .i64 (vote (doStep s (x k)).1 ((x k).view) ((x k).justify) true).1.e, cI .i64 (vote (doStep s (x k)).1 ((x k).view) ((x k).justify) true).1.v, cI .i64 (vote (doStep s (x k)).1 ((x k).view) ((x k).justify) true).1.l, .ints .u8 32 ((vote (doStep s (x k)).1 ((x k).view) ((x k).justify) true).1.d)]), (117, eB (vote (doStep s (x k)).1 ((x k).view) ((x k).justify) true).2)]) (pk_then (pk_then (pk_block (pk_then (pk_then (pk_block (pk_then pk_body))))))) rfl (by kernel_rfl) ?_
                refine wa_all [16] (by kernel_rfl) rfl (all1 ?_)
                refine wi_op rfl rfl (ot_eff (l' := [(1, eV (.slice a len cap)), (5, eL 5 0), (6, eI .i64 ((k : Nat) : Int)), (7, eL 7 0), (9, eL 9 0), (116, eA [cI .i64 (vote (doStep s (x k)).1 ((x k).view) ((x k).justify) true).1.e, cI .i64 (vote (doStep s (x k)).1 ((x k).view) ((x k).justify) true).1.v, cI .i64 (vote (doStep s (x k)).1 ((x k).view) ((x k).justify) true).1.l, .ints .u8 32 ((vote (doStep s (x k)).1 ((x k).view) ((x k).justify) true).1.d)]), (117, eB (vote (doStep s (x k)).1 ((x k).view) ((x k).justify) true).2)]) (H' := [(9, ⟨[cI .i64 (vote (doStep s (x k)).1 ((x k).view) ((x k).justify) true).1.e, cI .i64 (vote (doStep s (x k)).1 ((x k).view) ((x k).justify) true).1.v, cI .i64 (vote (doStep s (x k)).1 ((x k).view) ((x k).justify) true).1.l, .ints .u8 32 ((vote (doStep s (x k)).1 ((x k).view) ((x k).justify) true).1.d)], 25⟩), (5, ⟨[cI .i64 s.e, cI .i64 s.v, cI .i64 s.l, .ints .u8 32 s.d], 25⟩), (7, ⟨[cI .i64 (doStep s (x k)).1.e, cI .i64 (doStep s (x k)).1.v, cI .i64 (doStep s (x k)).1.l, .ints .u8 32 ((doStep s (x k)).1.d)], 25⟩)]) (by kernel_rfl)) (sub_of [5, 7] (by kernel_rfl)) ?_
                refine wa_takes (fuel := 0) [17] [1, 5, 6, 7, 10] (listed' := #[true, true, true, true, true, true, true, true, true, true, true, true, true, true, true, true, true, true]) (l' := [(1, eV (.slice a len cap)), (5, eL 5 0), (6, eI .i64 ((k : Nat) : Int)), (7, eL 7 0), (10, eB (vote (doStep s (x k)).1 ((x k).view) ((x k).justify) true).2)]) (pk_then (pk_then (pk_block (pk_then (pk_then (pk_block (pk_then pk_body))))))) rfl (by kernel_rfl) ?_
                exact wa_done (by kernel_rfl) (we_rest [1, 5, 6, 7, 10] [5, 7] (by kernel_rfl) (by kernel_rfl) K)
            · refine we_then ?_
              refine wc_seq ?_
              refine wc_reg [0] (by kernel_rfl) ?_
              refine wo_run [0] [1, 5, 6, 7, 118] [5, 7] (l' := [(1, eV (.slice a len cap)), (5, eL 5 0), (6, eI .i64 ((k : Nat) : Int)), (7, eL 7 0), (118, eB (vote (doStep s (x k)).1 ((x k).view) ((x k).justify) true).2)]) (H' := [(5, ⟨[cI .i64 s.e, cI .i64 s.v, cI .i64 s.l, .ints .u8 32 s.d], 25⟩), (7, ⟨[cI .i64 (doStep s (x k)).1.e, cI .i64 (doStep s (x k)).1.v, cI .i64 (doStep s (x k)).1.l, .ints .u8 32 ((doStep s (x k)).1.d)], 25⟩)]) (by kernel_rfl) ?_
              refine wo_nil ?_
              refine we_then ?_
              refine wc_is 118 false rfl (hf.2.2.2.2.2 (by omega) (by omega)) ?_
              refine wc_false rfl ?_
              refine wc_skip ?_
              refine we_then ?_
              refine wc_reg [0, 1] (by kernel_rfl) ?_
              refine wo_run [0, 1] [1, 5, 6] [5] (l' := [(1, eV (.slice a len cap)), (5, eL 5 0), (6, eI .i64 ((k : Nat) : Int))]) (H' := [(5, ⟨[cI .i64 (doStep s (x k)).1.e, cI .i64 (doStep s (x k)).1.v, cI .i64 (doStep s (x k)).1.l, .ints .u8 32 ((doStep s (x k)).1.d)], 25⟩)]) (by kernel_rfl) ?_
              refine wo_nil ?_
              refine we_block ?_
              refine we_then ?_
              refine wc_reg [0, 1, 2] (by kernel_rfl) ?_
              refine wo_run [0, 1, 2] [1, 5, 6] [5] (l' := [(1, eV (.slice a len cap)), (5, eL 5 0), (6, eI .i64 (IntKind.wrap .i64 (((k : Nat) : Int) + 1)))]) (H' := [(5, ⟨[cI .i64 (doStep s (x k)).1.e, cI .i64 (doStep s (x k)).1.v, cI .i64 (doStep s (x k)).1.l, .ints .u8 32 ((doStep s (x k)).1.d)], 25⟩)]) (by kernel_rfl) ?_
              refine wo_nil ?_
              refine we_rest [1, 5, 6] [5] (l' := [(1, eV (.slice a len cap)), (5, eL 5 0), (6, eI .i64 (IntKind.wrap .i64 (((k : Nat) : Int) + 1)))]) (H' := [(5, ⟨[cI .i64 (doStep s (x k)).1.e, cI .i64 (doStep s (x k)).1.v, cI .i64 (doStep s (x k)).1.l, .ints .u8 32 ((doStep s (x k)).1.d)], 25⟩)]) (by kernel_rfl) (by kernel_rfl) ?_
              rw [show (IntKind.wrap .i64 (((k : Nat) : Int) + 1)) = ((k + 1 : Nat) : Int) from wrap_succ (by simp only [maxLen] at hcap; omega)]
              exact we_round ((doStep s (x k)).1, k + 1) (⟨by (show Safe.ok _; repeat' (first | assumption | apply giveUp_ok | apply see_ok | apply vote_ok | apply doStep_ok | (simp [Safe.ok, Step.ok]; done))), by omega⟩) (by show len - (k + 1) < len - k; omega) rfl (sub_ofE [1, 5, 6] rfl) (sub_of [5] rfl)
          · replace h6 := of_decide_eq_false h6
            refine wo_run [7, 8] [1, 5, 6, 7, 95, 96, 97] [5, 7] (l' := [(1, eV (.slice a len cap)), (5, eL 5 0), (6, eI .i64 ((k : Nat) : Int)), (7, eL 7 0), (95, eB false), (96, eV (.slice a len cap)), (97, eI .i64 ((k : Nat) : Int))]) (H' := [(5, ⟨[cI .i64 s.e, cI .i64 s.v, cI .i64 s.l, .ints .u8 32 s.d], 25⟩), (7, ⟨[cI .i64 (doStep s (x k)).1.e, cI .i64 (doStep s (x k)).1.v, cI .i64 (doStep s (x k)).1.l, .ints .u8 32 ((doStep s (x k)).1.d)], 25⟩)]) (by kernel_rfl) ?_
            refine wo_op rfl rfl (ot_rd rfl (rd_index (e := 27) b off 36 k rfl (by kernel_rfl) (by kernel_rfl) rfl rfl ((Int.ofNat_lt.1 h1)) ((hb (Nat.zero_lt_of_lt (Int.ofNat_lt.1 h1))).1))) ?_
            refine wo_run [10] [1, 5, 6, 7, 95, 99] [5, 7] (l' := [(1, eV (.slice a len cap)), (5, eL 5 0), (6, eI .i64 ((k : Nat) : Int)), (7, eL 7 0), (95, eB false), (99, eV (.pointer (some ⟨b, (off + k * 36), none⟩)))]) (H' := [(5, ⟨[cI .i64 s.e, cI .i64 s.v, cI .i64 s.l, .ints .u8 32 s.d], 25⟩), (7, ⟨[cI .i64 (doStep s (x k)).1.e, cI .i64 (doStep s (x k)).1.v, cI .i64 (doStep s (x k)).1.l, .ints .u8 32 ((doStep s (x k)).1.d)], 25⟩)]) (by kernel_rfl) ?_
            refine wo_op rfl rfl (ot_rd rfl (rd_load (v := (sI .i64 (x k).kind)) b (off + k * 36) 0 [cI .i64 (x k).kind, cI .i64 (x k).view, cI .i64 (x k).justify, .ints .u8 32 ((x k).block), cB (x k).ext] rfl (off + k * 36) rfl rfl ((xI (hb (Nat.zero_lt_of_lt (Int.ofNat_lt.1 h1))).2)) (hc k (Int.ofNat_lt.1 h1)) (okc_one (okc_one (okc_one (okc_ints (hx k (Int.ofNat_lt.1 h1)) (okc_one okc_nil))))) (fun _ => rfl) (by kernel_rfl))) ?_
            refine wo_run [12, 13] [1, 5, 6, 7, 102] [5, 7] (l' := [(1, eV (.slice a len cap)), (5, eL 5 0), (6, eI .i64 ((k : Nat) : Int)), (7, eL 7 0), (102, eB (decide ((x k).kind < 0)))]) (H' := [(5, ⟨[cI .i64 s.e, cI .i64 s.v, cI .i64 s.l, .ints .u8 32 s.d], 25⟩), (7, ⟨[cI .i64 (doStep s (x k)).1.e, cI .i64 (doStep s (x k)).1.v, cI .i64 (doStep s (x k)).1.l, .ints .u8 32 ((doStep s (x k)).1.d)], 25⟩)]) (by kernel_rfl) ?_
            refine wo_nil ?_
            refine we_then ?_
            refine wc_cond rfl (fun h7 => ?_) (fun h7 => ?_)
            · replace h7 := of_decide_eq_true h7
              refine wc_seq ?_
              refine wc_rest [1, 5, 6, 7] [5, 7] (l' := [(1, eV (.slice a len cap)), (5, eL 5 0), (6, eI .i64 ((k : Nat) : Int)), (7, eL 7 0)]) (H' := [(5, ⟨[cI .i64 s.e, cI .i64 s.v, cI .i64 s.l, .ints .u8 32 s.d], 25⟩), (7, ⟨[cI .i64 (doStep s (x k)).1.e, cI .i64 (doStep s (x k)).1.v, cI .i64 (doStep s (x k)).1.l, .ints .u8 32 ((doStep s (x k)).1.d)], 25⟩)]) (by kernel_rfl) ?_
              refine cut [(1, eV (.slice a len cap)), (5, eL 5 0), (6, eI .i64 ((k : Nat) : Int)), (7, eL 7 0), (10, eB (vote (doStep s (x k)).1 ((x k).view) ((x k).justify) true).2)] [(5, ⟨[cI .i64 s.e, cI .i64 s.v, cI .i64 s.l, .ints .u8 32 s.d], 25⟩), (7, ⟨[cI .i64 (doStep s (x k)).1.e, cI .i64 (doStep s (x k)).1.v, cI .i64 (doStep s (x k)).1.l, .ints .u8 32 ((doStep s (x k)).1.d)], 25⟩)] (fun K => ?_) ?_
              · refine wc_draw (n := 18) [(5, ⟨[cI .i64 s.e, cI .i64 s.v, cI .i64 s.l, .ints .u8 32 s.d], 25⟩), (7, ⟨[cI .i64 (doStep s (x k)).1.e, cI .i64 (doStep s (x k)).1.v, cI .i64 (doStep s (x k)).1.l, .ints .u8 32 ((doStep s (x k)).1.d)], 25⟩)] (by kernel_rfl) rfl (sub_of [5, 7] (by kernel_rfl)) (fun ρ0 => ?_)
                refine wa_takes (fuel := 13) [0, 1, 2, 6, 7] [1, 5, 6, 7, 104, 105, 106, 110, 111] (listed' := #[true, true, true, false, false, false, true, true, false, false, false, false, false, false, false, false, false, false]) (l' := [(1, eV (.slice a len cap)), (5, eL 5 0), (6, eI .i64 ((k : Nat) : Int)), (7, eL 7 0), (104, eA [cI .i64 (doStep s (x k)).1.e, cI .i64 (doStep s (x k)).1.v, cI .i64 (doStep s (x k)).1.l, .ints .u8 32 ((doStep s (x k)).1.d)]), (105, eV (.slice a len cap)), (106, eI .i64 ((k : Nat) : Int)), (110, eV (.slice a len cap)), (111, eI .i64 ((k : Nat) : Int))]) (pk_then (pk_then (pk_block (pk_then (pk_then (pk_block (pk_then pk_body))))))) rfl (by kernel_rfl) ?_
                refine wa_take 3 (pk_then (pk_then (pk_block (pk_then (pk_then (pk_block (pk_then pk_body))))))) rfl (by kernel_rfl) rfl rfl (rd_index (e := 27) b off 36 k rfl (by kernel_rfl) (by kernel_rfl) rfl rfl ((Int.ofNat_lt.1 h1)) ((hb (Nat.zero_lt_of_lt (Int.ofNat_lt.1 h1))).1)) ?_
                refine wa_takes (fuel := 11) [4] [1, 5, 6, 7, 104, 108, 110, 111] (listed' := #[true, true, true, true, true, false, true, true, false, false, false, false, false, false, false, false, false, false]) (l' := [(1, eV (.slice a len cap)), (5, eL 5 0), (6, eI .i64 ((k : Nat) : Int)), (7, eL 7 0), (104, eA [cI .i64 (doStep s (x k)).1.e, cI .i64 (doStep s (x k)).1.v, cI .i64 (doStep s (x k)).1.l, .ints .u8 32 ((doStep s (x k)).1.d)]), (108, eV (.pointer (some ⟨b, ((off + k * 36) + 1), none⟩))), (110, eV (.slice a len cap)), (111, eI .i64 ((k : Nat) : Int))]) (pk_then (pk_then (pk_block (pk_then (pk_then (pk_block (pk_then pk_body))))))) rfl (by kernel_rfl) ?_
                refine wa_take 5 (pk_then (pk_then (pk_block (pk_then (pk_then (pk_block (pk_then pk_body))))))) rfl (by kernel_rfl) rfl rfl (rd_load (v := (sI .i64 (x k).view)) b (off + k * 36) 1 [cI .i64 (x k).kind, cI .i64 (x k).view, cI .i64 (x k).justify, .ints .u8 32 ((x k).block), cB (x k).ext] rfl ((off + k * 36) + 1) rfl rfl ((xI (hb (Nat.zero_lt_of_lt (Int.ofNat_lt.1 h1))).2)) (hc k (Int.ofNat_lt.1 h1)) (okc_one (okc_one (okc_one (okc_ints (hx k (Int.ofNat_lt.1 h1)) (okc_one okc_nil))))) (fun _ => rfl) (by kernel_rfl)) ?_
                refine wa_take 8 (pk_then (pk_then (pk_block (pk_then (pk_then (pk_block (pk_then pk_body))))))) rfl (by kernel_rfl) rfl rfl (rd_index (e := 27) b off 36 k rfl (by kernel_rfl) (by kernel_rfl) rfl rfl ((Int.ofNat_lt.1 h1)) ((hb (Nat.zero_lt_of_lt (Int.ofNat_lt.1 h1))).1)) ?_
                refine wa_takes (fuel := 8) [9] [1, 5, 6, 7, 104, 109, 113] (listed' := #[true, true, true, true, true, true, true, true, true, true, false, false, false, false, false, false, false, false]) (l' := [(1, eV (.slice a len cap)), (5, eL 5 0), (6, eI .i64 ((k : Nat) : Int)), (7, eL 7 0), (104, eA [cI .i64 (doStep s (x k)).1.e, cI .i64 (doStep s (x k)).1.v, cI .i64 (doStep s (x k)).1.l, .ints .u8 32 ((doStep s (x k)).1.d)]), (109, eI .i64 (x k).view), (113, eV (.pointer (some ⟨b, ((off + k * 36) + 2), none⟩)))]) (pk_then (pk_then (pk_block (pk_then (pk_then (pk_block (pk_then pk_body))))))) rfl (by kernel_rfl) ?_
                refine wa_take 10 (pk_then (pk_then (pk_block (pk_then (pk_then (pk_block (pk_then pk_body))))))) rfl (by kernel_rfl) rfl rfl (rd_load (v := (sI .i64 (x k).justify)) b (off + k * 36) 2 [cI .i64 (x k).kind, cI .i64 (x k).view, cI .i64 (x k).justify, .ints .u8 32 ((x k).block), cB (x k).ext] rfl ((off + k * 36) + 2) rfl rfl ((xI (hb (Nat.zero_lt_of_lt (Int.ofNat_lt.1 h1))).2)) (hc k (Int.ofNat_lt.1 h1)) (okc_one (okc_one (okc_one (okc_ints (hx k (Int.ofNat_lt.1 h1)) (okc_one okc_nil))))) (fun _ => rfl) (by kernel_rfl)) ?_
                refine wa_all [11, 15] (by kernel_rfl) rfl (allc ?_ (all1 ?_))
                · refine wi_op rfl rfl (ot_call (vs := [.agg [cI .i64 (doStep s (x k)).1.e, cI .i64 (doStep s (x k)).1.v, cI .i64 (doStep s (x k)).1.l, .ints .u8 32 ((doStep s (x k)).1.d)], sI .i64 (x k).view, sI .i64 (x k).justify, sB true]) rfl rfl rfl Try.func22 (by kernel_rfl) (by kernel_rfl) (by kernel_rfl) (.t [.agg [cI .i64 (vote (doStep s (x k)).1 ((x k).view) ((x k).justify) true).1.e, cI .i64 (vote (doStep s (x k)).1 ((x k).view) ((x k).justify) true).1.v, cI .i64 (vote (doStep s (x k)).1 ((x k).view) ((x k).justify) true).1.l, .ints .u8 32 ((vote (doStep s (x k)).1 ((x k).view) ((x k).justify) true).1.d)], sB (vote (doStep s (x k)).1 ((x k).view) ((x k).justify) true).2]) (okv_agg (okc_one (okc_one (okc_one (okc_ints (by (show Safe.ok _; repeat' (first | assumption | apply giveUp_ok | apply see_ok | apply vote_ok | apply doStep_ok | (simp [Safe.ok, Step.ok]; done)))) (okc_nil))))) (okv_a (okv_nil))) (fun ρ w _ => vote_any (doStep s (x k)).1 (by (show Safe.ok _; repeat' (first | assumption | apply giveUp_ok | apply see_ok | apply vote_ok | apply doStep_ok | (simp [Safe.ok, Step.ok]; done)))) ((x k).view) ((x k).justify) true w ρ)) (sub_of [5, 7] (by kernel_rfl)) ?_
                  refine wa_takes (fuel := 3) [12, 13, 14] [1, 5, 6, 7, 116, 117] (listed' := #[true, true, true, true, true, true, true, true, true, true, true, true, true, true, true, false, false, false]) (l' := [(1, eV (.slice a len cap)), (5, eL 5 0), (6, eI .i64 ((k : Nat) : Int)), (7, eL 7 0), (116, eA [cI .i64 (vote (doStep s (x k)).1 ((x k).view) ((x k).justify) true).1.e, cI .i64 (vote (doStep s (x k)).1 ((x k).view) ((x k).justify) true).1.v, cI .i64 (vote (doStep s (x k)).1 ((x k).view) ((x k).justify) true).1.l, .ints .u8 32 ((vote (doStep s (x k)).1 ((x k).view) ((x k).justify) true).1.d)]), (117, eB (vote (doStep s (x k)).1 ((x k).view) ((x k).justify) true).2)]) (pk_then (pk_then (pk_block (pk_then (pk_then (pk_block (pk_then pk_body))))))) rfl (by kernel_rfl) ?_
                  refine wa_all [15] (by kernel_rfl) rfl (all1 ?_)
                  refine wi_op rfl rfl (ot_alloc (d := 9) (cs := z25) rfl rfl z25_zero rfl z25_ok (fun _ => rfl)) (sub_of [5, 7] (by kernel_rfl)) ?_
                  refine wa_all [16] (by kernel_rfl) rfl (all1 ?_)
                  refine wi_op rfl rfl (ot_eff (l' := [(9, eL 9 0), (1, eV (.slice a len cap)), (5, eL 5 0), (6, eI .i64 ((k : Nat) : Int)), (7, eL 7 0), (116, eA [cI .i64 (vote (doStep s (x k)).1 ((x k).view) ((x k).justify) true).1.e, cI .i64 (vote (doStep s (x k)).1 ((x k).view) ((x k).justify) true).1.v, cI .i64 (vote (doStep s (x k)).1 ((x k).view) ((x k).justify) true).1.l, .ints .u8 32 ((vote (doStep s (x k)).1 ((x k).view) ((x k).justify) true).1.d)]), (117, eB (vote (doStep s (x k)).1 ((x k).view) ((x k).justify) true).2)]) (H' := [(9, ⟨[cI .i64 (vote (doStep s (x k)).1 ((x k).view) ((x k).justify) true).1.e, cI .i64 (vote (doStep s (x k)).1 ((x k).view) ((x k).justify) true).1.v, cI .i64 (vote (doStep s (x k)).1 ((x k).view) ((x k).justify) true).1.l, .ints .u8 32 ((vote (doStep s (x k)).1 ((x k).view) ((x k).justify) true).1.d)], 25⟩), (5, ⟨[cI .i64 s.e, cI .i64 s.v, cI .i64 s.l, .ints .u8 32 s.d], 25⟩), (7, ⟨[cI .i64 (doStep s (x k)).1.e, cI .i64 (doStep s (x k)).1.v, cI .i64 (doStep s (x k)).1.l, .ints .u8 32 ((doStep s (x k)).1.d)], 25⟩)]) (by kernel_rfl)) (sub_of [5, 7] (by kernel_rfl)) ?_
                  refine wa_takes (fuel := 0) [17] [1, 5, 6, 7, 10] (listed' := #[true, true, true, true, true, true, true, true, true, true, true, true, true, true, true, true, true, true]) (l' := [(1, eV (.slice a len cap)), (5, eL 5 0), (6, eI .i64 ((k : Nat) : Int)), (7, eL 7 0), (10, eB (vote (doStep s (x k)).1 ((x k).view) ((x k).justify) true).2)]) (pk_then (pk_then (pk_block (pk_then (pk_then (pk_block (pk_then pk_body))))))) rfl (by kernel_rfl) ?_
                  exact wa_done (by kernel_rfl) (we_rest [1, 5, 6, 7, 10] [5, 7] (by kernel_rfl) (by kernel_rfl) K)
                · refine wi_op rfl rfl (ot_alloc (d := 9) (cs := z25) rfl rfl z25_zero rfl z25_ok (fun _ => rfl)) (sub_of [5, 7] (by kernel_rfl)) ?_
                  refine wa_all [11] (by kernel_rfl) rfl (all1 ?_)
                  refine wi_op rfl rfl (ot_call (vs := [.agg [cI .i64 (doStep s (x k)).1.e, cI .i64 (doStep s (x k)).1.v, cI .i64 (doStep s (x k)).1.l, .ints .u8 32 ((doStep s (x k)).1.d)], sI .i64 (x k).view, sI .i64 (x k).justify, sB true]) rfl rfl rfl Try.func22 (by kernel_rfl) (by kernel_rfl) (by kernel_rfl) (.t [.agg [cI .i64 (vote (doStep s (x k)).1 ((x k).view) ((x k).justify) true).1.e, cI .i64 (vote (doStep s (x k)).1 ((x k).view) ((x k).justify) true).1.v, cI .i64 (vote (doStep s (x k)).1 ((x k).view) ((x k).justify) true).1.l, .ints .u8 32 ((vote (doStep s (x k)).1 ((x k).view) ((x k).justify) true).1.d)], sB (vote (doStep s (x k)).1 ((x k).view) ((x k).justify) true).2]) (okv_agg (okc_one (okc_one (okc_one (okc_ints (by (show Safe.ok _; repeat' (first | assumption | apply giveUp_ok | apply see_ok | apply vote_ok | apply doStep_ok | (simp [Safe.ok, Step.ok]; done)))) (okc_nil))))) (okv_a (okv_nil))) (fun ρ w _ => vote_any (doStep s (x k)).1 (by (show Safe.ok _; repeat' (first | assumption | apply giveUp_ok | apply see_ok | apply vote_ok | apply doStep_ok | (simp [Safe.ok, Step.ok]; done)))) ((x k).view) ((x k).justify) true w ρ)) (sub_of [5, 7] (by kernel_rfl)) ?_
                  refine wa_takes (fuel := 2) [12, 13, 14] [1, 5, 6, 7, 9, 116, 117] (listed' := #[true, true, true, true, true, true, true, true, true, true, true, true, true, true, true, true, false, false]) (l' := [(1, eV (.slice a len cap)), (5, eL 5 0), (6, eI .i64 ((k : Nat) : Int)), (7, eL 7 0), (9, eL 9 0), (116, eA [cI .i64 (vote (doStep s (x k)).1 ((x k).view) ((x k).justify) true).1.e, cI .i64 (vote (doStep s (x k)).1 ((x k).view) ((x k).justify) true).1.v, cI .i64 (vote (doStep s (x k)).1 ((x k).view) ((x k).justify) true).1.l, .ints .u8 32 ((vote (doStep s (x k)).1 ((x k).view) ((x k).justify) true).1.d)]), (117, eB (vote (doStep s (x k)).1 ((x k).view) ((x k).justify) true).2)]) (pk_then (pk_then (pk_block (pk_then (pk_then (pk_block (pk_then pk_body))))))) rfl (by kernel_rfl) ?_
                  refine wa_all [16] (by kernel_rfl) rfl (all1 ?_)
                  refine wi_op rfl rfl (ot_eff (l' := [(1, eV (.slice a len cap)), (5, eL 5 0), (6, eI .i64 ((k : Nat) : Int)), (7, eL 7 0), (9, eL 9 0), (116, eA [cI .i64 (vote (doStep s (x k)).1 ((x k).view) ((x k).justify) true).1.e, cI .i64 (vote (doStep s (x k)).1 ((x k).view) ((x k).justify) true).1.v, cI .i64 (vote (doStep s (x k)).1 ((x k).view) ((x k).justify) true).1.l, .ints .u8 32 ((vote (doStep s (x k)).1 ((x k).view) ((x k).justify) true).1.d)]), (117, eB (vote (doStep s (x k)).1 ((x k).view) ((x k).justify) true).2)]) (H' := [(9, ⟨[cI .i64 (vote (doStep s (x k)).1 ((x k).view) ((x k).justify) true).1.e, cI .i64 (vote (doStep s (x k)).1 ((x k).view) ((x k).justify) true).1.v, cI .i64 (vote (doStep s (x k)).1 ((x k).view) ((x k).justify) true).1.l, .ints .u8 32 ((vote (doStep s (x k)).1 ((x k).view) ((x k).justify) true).1.d)], 25⟩), (5, ⟨[cI .i64 s.e, cI .i64 s.v, cI .i64 s.l, .ints .u8 32 s.d], 25⟩), (7, ⟨[cI .i64 (doStep s (x k)).1.e, cI .i64 (doStep s (x k)).1.v, cI .i64 (doStep s (x k)).1.l, .ints .u8 32 ((doStep s (x k)).1.d)], 25⟩)]) (by kernel_rfl)) (sub_of [5, 7] (by kernel_rfl)) ?_
                  refine wa_takes (fuel := 0) [17] [1, 5, 6, 7, 10] (listed' := #[true, true, true, true, true, true, true, true, true, true, true, true, true, true, true, true, true, true]) (l' := [(1, eV (.slice a len cap)), (5, eL 5 0), (6, eI .i64 ((k : Nat) : Int)), (7, eL 7 0), (10, eB (vote (doStep s (x k)).1 ((x k).view) ((x k).justify) true).2)]) (pk_then (pk_then (pk_block (pk_then (pk_then (pk_block (pk_then pk_body))))))) rfl (by kernel_rfl) ?_
                  exact wa_done (by kernel_rfl) (we_rest [1, 5, 6, 7, 10] [5, 7] (by kernel_rfl) (by kernel_rfl) K)
              · refine we_then ?_
                refine wc_seq ?_
                refine wc_reg [0] (by kernel_rfl) ?_
                refine wo_run [0] [1, 5, 6, 7, 118] [5, 7] (l' := [(1, eV (.slice a len cap)), (5, eL 5 0), (6, eI .i64 ((k : Nat) : Int)), (7, eL 7 0), (118, eB (vote (doStep s (x k)).1 ((x k).view) ((x k).justify) true).2)]) (H' := [(5, ⟨[cI .i64 s.e, cI .i64 s.v, cI .i64 s.l, .ints .u8 32 s.d], 25⟩), (7, ⟨[cI .i64 (doStep s (x k)).1.e, cI .i64 (doStep s (x k)).1.v, cI .i64 (doStep s (x k)).1.l, .ints .u8 32 ((doStep s (x k)).1.d)], 25⟩)]) (by kernel_rfl) ?_
                refine wo_nil ?_
                refine we_then ?_
                refine wc_is 118 false rfl (hf.2.2.2.2.2 (by omega) (by omega)) ?_
                refine wc_false rfl ?_
                refine wc_skip ?_
                refine we_then ?_
                refine wc_reg [0, 1] (by kernel_rfl) ?_
                refine wo_run [0, 1] [1, 5, 6] [5] (l' := [(1, eV (.slice a len cap)), (5, eL 5 0), (6, eI .i64 ((k : Nat) : Int))]) (H' := [(5, ⟨[cI .i64 (doStep s (x k)).1.e, cI .i64 (doStep s (x k)).1.v, cI .i64 (doStep s (x k)).1.l, .ints .u8 32 ((doStep s (x k)).1.d)], 25⟩)]) (by kernel_rfl) ?_
                refine wo_nil ?_
                refine we_block ?_
                refine we_then ?_
                refine wc_reg [0, 1, 2] (by kernel_rfl) ?_
                refine wo_run [0, 1, 2] [1, 5, 6] [5] (l' := [(1, eV (.slice a len cap)), (5, eL 5 0), (6, eI .i64 (IntKind.wrap .i64 (((k : Nat) : Int) + 1)))]) (H' := [(5, ⟨[cI .i64 (doStep s (x k)).1.e, cI .i64 (doStep s (x k)).1.v, cI .i64 (doStep s (x k)).1.l, .ints .u8 32 ((doStep s (x k)).1.d)], 25⟩)]) (by kernel_rfl) ?_
                refine wo_nil ?_
                refine we_rest [1, 5, 6] [5] (l' := [(1, eV (.slice a len cap)), (5, eL 5 0), (6, eI .i64 (IntKind.wrap .i64 (((k : Nat) : Int) + 1)))]) (H' := [(5, ⟨[cI .i64 (doStep s (x k)).1.e, cI .i64 (doStep s (x k)).1.v, cI .i64 (doStep s (x k)).1.l, .ints .u8 32 ((doStep s (x k)).1.d)], 25⟩)]) (by kernel_rfl) (by kernel_rfl) ?_
                rw [show (IntKind.wrap .i64 (((k : Nat) : Int) + 1)) = ((k + 1 : Nat) : Int) from wrap_succ (by simp only [maxLen] at hcap; omega)]
                exact we_round ((doStep s (x k)).1, k + 1) (⟨by (show Safe.ok _; repeat' (first | assumption | apply giveUp_ok | apply see_ok | apply vote_ok | apply doStep_ok | (simp [Safe.ok, Step.ok]; done))), by omega⟩) (by show len - (k + 1) < len - k; omega) rfl (sub_ofE [1, 5, 6] rfl) (sub_of [5] rfl)
            · replace h7 := of_decide_eq_false h7
              refine wc_skip ?_
              refine we_then ?_
              refine wc_reg [0, 1] (by kernel_rfl) ?_
              refine wo_run [0, 1] [1, 5, 6] [5] (l' := [(1, eV (.slice a len cap)), (5, eL 5 0), (6, eI .i64 ((k : Nat) : Int))]) (H' := [(5, ⟨[cI .i64 (doStep s (x k)).1.e, cI .i64 (doStep s (x k)).1.v, cI .i64 (doStep s (x k)).1.l, .ints .u8 32 ((doStep s (x k)).1.d)], 25⟩)]) (by kernel_rfl) ?_
              refine wo_nil ?_
              refine we_block ?_
              refine we_then ?_
              refine wc_reg [0, 1, 2] (by kernel_rfl) ?_
              refine wo_run [0, 1, 2] [1, 5, 6] [5] (l' := [(1, eV (.slice a len cap)), (5, eL 5 0), (6, eI .i64 (IntKind.wrap .i64 (((k : Nat) : Int) + 1)))]) (H' := [(5, ⟨[cI .i64 (doStep s (x k)).1.e, cI .i64 (doStep s (x k)).1.v, cI .i64 (doStep s (x k)).1.l, .ints .u8 32 ((doStep s (x k)).1.d)], 25⟩)]) (by kernel_rfl) ?_
              refine wo_nil ?_
              refine we_rest [1, 5, 6] [5] (l' := [(1, eV (.slice a len cap)), (5, eL 5 0), (6, eI .i64 (IntKind.wrap .i64 (((k : Nat) : Int) + 1)))]) (H' := [(5, ⟨[cI .i64 (doStep s (x k)).1.e, cI .i64 (doStep s (x k)).1.v, cI .i64 (doStep s (x k)).1.l, .ints .u8 32 ((doStep s (x k)).1.d)], 25⟩)]) (by kernel_rfl) (by kernel_rfl) ?_
              rw [show (IntKind.wrap .i64 (((k : Nat) : Int) + 1)) = ((k + 1 : Nat) : Int) from wrap_succ (by simp only [maxLen] at hcap; omega)]
              exact we_round ((doStep s (x k)).1, k + 1) (⟨by (show Safe.ok _; repeat' (first | assumption | apply giveUp_ok | apply see_ok | apply vote_ok | apply doStep_ok | (simp [Safe.ok, Step.ok]; done))), by omega⟩) (by show len - (k + 1) < len - k; omega) rfl (sub_ofE [1, 5, 6] rfl) (sub_of [5] rfl)
        · replace h5 := ne_of_beq_false h5
          refine wa_takes (fuel := 0) [54, 55, 56, 57, 58] [1, 5, 6, 7, 88] (listed' := #[true, true, true, true, true, true, true, true, true, true, true, true, true, true, true, true, true, true, true, true, true, true, true, true, true, true, true, true, true, true, true, true, true, true, true, true, true, true, true, true, true, true, true, true, true, true, true, true, true, true, true, true, true, true, true, true, true, true, true]) (l' := [(1, eV (.slice a len cap)), (5, eL 5 0), (6, eI .i64 ((k : Nat) : Int)), (7, eL 7 0), (88, eB false)]) (pk_then (pk_then (pk_block (pk_then (pk_then (pk_block (pk_then pk_body))))))) rfl (by kernel_rfl) ?_
          refine wa_done (by kernel_rfl) ?_
          refine we_rest [1, 5, 6, 7, 88] [5, 7] (l' := [(1, eV (.slice a len cap)), (5, eL 5 0), (6, eI .i64 ((k : Nat) : Int)), (7, eL 7 0), (88, eB false)]) (H' := [(5, ⟨[cI .i64 s.e, cI .i64 s.v, cI .i64 s.l, .ints .u8 32 s.d], 25⟩), (7, ⟨[cI .i64 (doStep s (x k)).1.e, cI .i64 (doStep s (x k)).1.v, cI .i64 (doStep s (x k)).1.l, .ints .u8 32 ((doStep s (x k)).1.d)], 25⟩)]) (by kernel_rfl) (by kernel_rfl) ?_
          refine we_then ?_
          refine wc_false rfl ?_
          refine wc_skip ?_
          refine we_then ?_
          refine wc_seq ?_
          refine wc_seq ?_
          refine wc_reg [0, 1, 2, 3, 4, 5, 6, 7, 8, 9, 10, 11, 12, 13] (by kernel_rfl) ?_
          refine wo_run [0, 1] [1, 5, 6, 7, 89, 90] [5, 7] (l' := [(1, eV (.slice a len cap)), (5, eL 5 0), (6, eI .i64 ((k : Nat) : Int)), (7, eL 7 0), (89, eV (.slice a len cap)), (90, eI .i64 ((k : Nat) : Int))]) (H' := [(5, ⟨[cI .i64 s.e, cI .i64 s.v, cI .i64 s.l, .ints .u8 32 s.d], 25⟩), (7, ⟨[cI .i64 (doStep s (x k)).1.e, cI .i64 (doStep s (x k)).1.v, cI .i64 (doStep s (x k)).1.l, .ints .u8 32 ((doStep s (x k)).1.d)], 25⟩)]) (by kernel_rfl) ?_
          refine wo_op rfl rfl (ot_rd rfl (rd_index (e := 27) b off 36 k rfl (by kernel_rfl) (by kernel_rfl) rfl rfl ((Int.ofNat_lt.1 h1)) ((hb (Nat.zero_lt_of_lt (Int.ofNat_lt.1 h1))).1))) ?_
          refine wo_run [3] [1, 5, 6, 7, 92] [5, 7] (l' := [(1, eV (.slice a len cap)), (5, eL 5 0), (6, eI .i64 ((k : Nat) : Int)), (7, eL 7 0), (92, eV (.pointer (some ⟨b, (off + k * 36), none⟩)))]) (H' := [(5, ⟨[cI .i64 s.e, cI .i64 s.v, cI .i64 s.l, .ints .u8 32 s.d], 25⟩), (7, ⟨[cI .i64 (doStep s (x k)).1.e, cI .i64 (doStep s (x k)).1.v, cI .i64 (doStep s (x k)).1.l, .ints .u8 32 ((doStep s (x k)).1.d)], 25⟩)]) (by kernel_rfl) ?_
          refine wo_op rfl rfl (ot_rd rfl (rd_load (v := (sI .i64 (x k).kind)) b (off + k * 36) 0 [cI .i64 (x k).kind, cI .i64 (x k).view, cI .i64 (x k).justify, .ints .u8 32 ((x k).block), cB (x k).ext] rfl (off + k * 36) rfl rfl ((xI (hb (Nat.zero_lt_of_lt (Int.ofNat_lt.1 h1))).2)) (hc k (Int.ofNat_lt.1 h1)) (okc_one (okc_one (okc_one (okc_ints (hx k (Int.ofNat_lt.1 h1)) (okc_one okc_nil))))) (fun _ => rfl) (by kernel_rfl))) ?_
          refine wo_run [5, 6] [1, 5, 6, 7, 95] [5, 7] (l' := [(1, eV (.slice a len cap)), (5, eL 5 0), (6, eI .i64 ((k : Nat) : Int)), (7, eL 7 0), (95, eB (decide ((x k).kind > 1)))]) (H' := [(5, ⟨[cI .i64 s.e, cI .i64 s.v, cI .i64 s.l, .ints .u8 32 s.d], 25⟩), (7, ⟨[cI .i64 (doStep s (x k)).1.e, cI .i64 (doStep s (x k)).1.v, cI .i64 (doStep s (x k)).1.l, .ints .u8 32 ((doStep s (x k)).1.d)], 25⟩)]) (by kernel_rfl) ?_
          refine wo_bool 95 rfl (fun h8 => ?_) (fun h8 => ?_)
          · replace h8 := of_decide_eq_true h8
            refine wo_run [7, 8, 9, 10, 11, 12, 13] [1, 5, 6, 7, 102] [5, 7] (l' := [(1, eV (.slice a len cap)), (5, eL 5 0), (6, eI .i64 ((k : Nat) : Int)), (7, eL 7 0), (102, eB true)]) (H' := [(5, ⟨[cI .i64 s.e, cI .i64 s.v, cI .i64 s.l, .ints .u8 32 s.d], 25⟩), (7, ⟨[cI .i64 (doStep s (x k)).1.e, cI .i64 (doStep s (x k)).1.v, cI .i64 (doStep s (x k)).1.l, .ints .u8 32 ((doStep s (x k)).1.d)], 25⟩)]) (by kernel_rfl) ?_
            refine wo_nil ?_
            refine we_then ?_
            refine wc_true rfl ?_
            refine wc_seq ?_
            refine wc_rest [1, 5, 6, 7] [5, 7] (l' := [(1, eV (.slice a len cap)), (5, eL 5 0), (6, eI .i64 ((k : Nat) : Int)), (7, eL 7 0)]) (H' := [(5, ⟨[cI .i64 s.e, cI .i64 s.v, cI .i64 s.l, .ints .u8 32 s.d], 25⟩), (7, ⟨[cI .i64 (doStep s (x k)).1.e, cI .i64 (doStep s (x k)).1.v, cI .i64 (doStep s (x k)).1.l, .ints .u8 32 ((doStep s (x k)).1.d)], 25⟩)]) (by kernel_rfl) ?_
            refine cut [(1, eV (.slice a len cap)), (5, eL 5 0), (6, eI .i64 ((k : Nat) : Int)), (7, eL 7 0), (10, eB (vote (doStep s (x k)).1 ((x k).view) ((x k).justify) true).2)] [(5, ⟨[cI .i64 s.e, cI .i64 s.v, cI .i64 s.l, .ints .u8 32 s.d], 25⟩), (7, ⟨[cI .i64 (doStep s (x k)).1.e, cI .i64 (doStep s (x k)).1.v, cI .i64 (doStep s (x k)).1.l, .ints .u8 32 ((doStep s (x k)).1.d)], 25⟩)] (fun K => ?_) ?_
            · refine wc_draw (n := 18) [(5, ⟨[cI .i64 s.e, cI .i64 s.v, cI .i64 s.l, .ints .u8 32 s.d], 25⟩), (7, ⟨[cI .i64 (doStep s (x k)).1.e, cI .i64 (doStep s (x k)).1.v, cI .i64 (doStep s (x k)).1.l, .ints .u8 32 ((doStep s (x k)).1.d)], 25⟩)] (by kernel_rfl) rfl (sub_of [5, 7] (by kernel_rfl)) (fun ρ0 => ?_)
              refine wa_takes (fuel := 13) [0, 1, 2, 6, 7] [1, 5, 6, 7, 104, 105, 106, 110, 111] (listed' := #[true, true, true, false, false, false, true, true, false, false, false, false, false, false, false, false, false, false]) (l' := [(1, eV (.slice a len cap)), (5, eL 5 0), (6, eI .i64 ((k : Nat) : Int)), (7, eL 7 0), (104, eA [cI .i64 (doStep s (x k)).1.e, cI .i64 (doStep s (x k)).1.v, cI .i64 (doStep s (x k)).1.l, .ints .u8 32 ((doStep s (x k)).1.d)]), (105, eV (.slice a len cap)), (106, eI .i64 ((k : Nat) : Int)), (110, eV (.slice a len cap)), (111, eI .i64 ((k : Nat) : Int))]) (pk_then (pk_then (pk_block (pk_then (pk_then (pk_block (pk_then pk_body))))))) rfl (by kernel_rfl) ?_
              refine wa_take 3 (pk_then (pk_then (pk_block (pk_then (pk_then (pk_block (pk_then pk_body))))))) rfl (by kernel_rfl) rfl rfl (rd_index (e := 27) b off 36 k rfl (by kernel_rfl) (by kernel_rfl) rfl rfl ((Int.ofNat_lt.1 h1)) ((hb (Nat.zero_lt_of_lt (Int.ofNat_lt.1 h1))).1)) ?_
              refine wa_takes (fuel := 11) [4] [1, 5, 6, 7, 104, 108, 110, 111] (listed' := #[true, true, true, true, true, false, true, true, false, false, false, false, false, false, false, false, false, false]) (l' := [(1, eV (.slice a len cap)), (5, eL 5 0), (6, eI .i64 ((k : Nat) : Int)), (7, eL 7 0), (104, eA [cI .i64 (doStep s (x k)).1.e, cI .i64 (doStep s (x k)).1.v, cI .i64 (doStep s (x k)).1.l, .ints .u8 32 ((doStep s (x k)).1.d)]), (108, eV (.pointer (some ⟨b, ((off + k * 36) + 1), none⟩))), (110, eV (.slice a len cap)), (111, eI .i64 ((k : Nat) : Int))]) (pk_then (pk_then (pk_block (pk_then (pk_then (pk_block (pk_then pk_body))))))) rfl (by kernel_rfl) ?_
              refine wa_take 5 (pk_then (pk_then (pk_block (pk_then (pk_then (pk_block (pk_then pk_body))))))) rfl (by kernel_rfl) rfl rfl (rd_load (v := (sI .i64 (x k).view)) b (off + k * 36) 1 [cI .i64 (x k).kind, cI .i64 (x k).view, cI .i64 (x k).justify, .ints .u8 32 ((x k).block), cB (x k).ext] rfl ((off + k * 36) + 1) rfl rfl ((xI (hb (Nat.zero_lt_of_lt (Int.ofNat_lt.1 h1))).2)) (hc k (Int.ofNat_lt.1 h1)) (okc_one (okc_one (okc_one (okc_ints (hx k (Int.ofNat_lt.1 h1)) (okc_one okc_nil))))) (fun _ => rfl) (by kernel_rfl)) ?_
              refine wa_take 8 (pk_then (pk_then (pk_block (pk_then (pk_then (pk_block (pk_then pk_body))))))) rfl (by kernel_rfl) rfl rfl (rd_index (e := 27) b off 36 k rfl (by kernel_rfl) (by kernel_rfl) rfl rfl ((Int.ofNat_lt.1 h1)) ((hb (Nat.zero_lt_of_lt (Int.ofNat_lt.1 h1))).1)) ?_
              refine wa_takes (fuel := 8) [9] [1, 5, 6, 7, 104, 109, 113] (listed' := #[true, true, true, true, true, true, true, true, true, true, false, false, false, false, false, false, false, false]) (l' := [(1, eV (.slice a len cap)), (5, eL 5 0), (6, eI .i64 ((k : Nat) : Int)), (7, eL 7 0), (104, eA [cI .i64 (doStep s (x k)).1.e, cI .i64 (doStep s (x k)).1.v, cI .i64 (doStep s (x k)).1.l, .ints .u8 32 ((doStep s (x k)).1.d)]), (109, eI .i64 (x k).view), (113, eV (.pointer (some ⟨b, ((off + k * 36) + 2), none⟩)))]) (pk_then (pk_then (pk_block (pk_then (pk_then (pk_block (pk_then pk_body))))))) rfl (by kernel_rfl) ?_
              refine wa_take 10 (pk_then (pk_then (pk_block (pk_then (pk_then (pk_block (pk_then pk_body))))))) rfl (by kernel_rfl) rfl rfl (rd_load (v := (sI .i64 (x k).justify)) b (off + k * 36) 2 [cI .i64 (x k).kind, cI .i64 (x k).view, cI .i64 (x k).justify, .ints .u8 32 ((x k).block), cB (x k).ext] rfl ((off + k * 36) + 2) rfl rfl ((xI (hb (Nat.zero_lt_of_lt (Int.ofNat_lt.1 h1))).2)) (hc k (Int.ofNat_lt.1 h1)) (okc_one (okc_one (okc_one (okc_ints (hx k (Int.ofNat_lt.1 h1)) (okc_one okc_nil))))) (fun _ => rfl) (by kernel_rfl)) ?_
              refine wa_all [11, 15] (by kernel_rfl) rfl (allc ?_ (all1 ?_))
              · refine wi_op rfl rfl (ot_call (vs := [.agg [cI .i64 (doStep s (x k)).1.e, cI .i64 (doStep s (x k)).1.v, cI .i64 (doStep s (x k)).1.l, .ints .u8 32 ((doStep s (x k)).1.d)], sI .i64 (x k).view, sI .i64 (x k).justify, sB true]) rfl rfl rfl Try.func22 (by kernel_rfl) (by kernel_rfl) (by kernel_rfl) (.t [.agg [cI .i64 (vote (doStep s (x k)).1 ((x k).view) ((x k).justify) true).1.e, cI .i64 (vote (doStep s (x k)).1 ((x k).view) ((x k).justify) true).1.v, cI .i64 (vote (doStep s (x k)).1 ((x k).view) ((x k).justify) true).1.l, .ints .u8 32 ((vote (doStep s (x k)).1 ((x k).view) ((x k).justify) true).1.d)], sB (vote (doStep s (x k)).1 ((x k).view) ((x k).justify) true).2]) (okv_agg (okc_one (okc_one (okc_one (okc_ints (by (show Safe.ok _; repeat' (first | assumption | apply giveUp_ok | apply see_ok | apply vote_ok | apply doStep_ok | (simp [Safe.ok, Step.ok]; done)))) (okc_nil))))) (okv_a (okv_nil))) (fun ρ w _ => vote_any (doStep s (x k)).1 (by (show Safe.ok _; repeat' (first | assumption | apply giveUp_ok | apply see_ok | apply vote_ok | apply doStep_ok | (simp [Safe.ok, Step.ok]; done)))) ((x k).view) ((x k).justify) true w ρ)) (sub_of [5, 7] (by kernel_rfl)) ?_
                refine wa_takes (fuel := 3) [12, 13, 14] [1, 5, 6, 7, 116, 117] (listed' := #[true, true, true, true, true, true, true, true, true, true, true, true, true, true, true, false, false, false]) (l' := [(1, eV (.slice a len cap)), (5, eL 5 0), (6, eI .i64 ((k : Nat) : Int)), (7, eL 7 0), (116, eA [cI .i64 (vote (doStep s (x k)).1 ((x k).view) ((x k).justify) true).1.e, cI .i64 (vote (doStep s (x k)).1 ((x k).view) ((x k).justify) true).1.v, cI .i64 (vote (doStep s (x k)).1 ((x k).view) ((x k).justify) true).1.l, .ints .u8 32 ((vote (doStep s (x k)).1 ((x k).view) ((x k).justify) true).1.d)]), (117, eB (vote (doStep s (x k)).1 ((x k).view) ((x k).justify) true).2)]) (pk_then (pk_then (pk_block (pk_then (pk_then (pk_block (pk_then pk_body))))))) rfl (by kernel_rfl) ?_
                refine wa_all [15] (by kernel_rfl) rfl (all1 ?_)
                refine wi_op rfl rfl (ot_alloc (d := 9) (cs := z25) rfl rfl z25_zero rfl z25_ok (fun _ => rfl)) (sub_of [5, 7] (by kernel_rfl)) ?_
                refine wa_all [16] (by kernel_rfl) rfl (all1 ?_)
                refine wi_op rfl rfl (ot_eff (l' := [(9, eL 9 0), (1, eV (.slice a len cap)), (5, eL 5 0), (6, eI .i64 ((k : Nat) : Int)), (7, eL 7 0), (116, eA [cI .i64 (vote (doStep s (x k)).1 ((x k).view) ((x k).justify) true).1.e, cI .i64 (vote (doStep s (x k)).1 ((x k).view) ((x k).justify) true).1.v, cI .i64 (vote (doStep s (x k)).1 ((x k).view) ((x k).justify) true).1.l, .ints .u8 32 ((vote (doStep s (x k)).1 ((x k).view) ((x k).justify) true).1.d)]), (117, eB (vote (doStep s (x k)).1 ((x k).view) ((x k).justify) true).2)]) (H' := [(9, ⟨[cI .i64 (vote (doStep s (x k)).1 ((x k).view) ((x k).justify) true).1.e, cI .i64 (vote (doStep s (x k)).1 ((x k).view) ((x k).justify) true).1.v, cI .i64 (vote (doStep s (x k)).1 ((x k).view) ((x k).justify) true).1.l, .ints .u8 32 ((vote (doStep s (x k)).1 ((x k).view) ((x k).justify) true).1.d)], 25⟩), (5, ⟨[cI .i64 s.e, cI .i64 s.v, cI .i64 s.l, .ints .u8 32 s.d], 25⟩), (7, ⟨[cI .i64 (doStep s (x k)).1.e, cI .i64 (doStep s (x k)).1.v, cI .i64 (doStep s (x k)).1.l, .ints .u8 32 ((doStep s (x k)).1.d)], 25⟩)]) (by kernel_rfl)) (sub_of [5, 7] (by kernel_rfl)) ?_
                refine wa_takes (fuel := 0) [17] [1, 5, 6, 7, 10] (listed' := #[true, true, true, true, true, true, true, true, true, true, true, true, true, true, true, true, true, true]) (l' := [(1, eV (.slice a len cap)), (5, eL 5 0), (6, eI .i64 ((k : Nat) : Int)), (7, eL 7 0), (10, eB (vote (doStep s (x k)).1 ((x k).view) ((x k).justify) true).2)]) (pk_then (pk_then (pk_block (pk_then (pk_then (pk_block (pk_then pk_body))))))) rfl (by kernel_rfl) ?_
                exact wa_done (by kernel_rfl) (we_rest [1, 5, 6, 7, 10] [5, 7] (by kernel_rfl) (by kernel_rfl) K)
              · refine wi_op rfl rfl (ot_alloc (d := 9) (cs := z25) rfl rfl z25_zero rfl z25_ok (fun _ => rfl)) (sub_of [5, 7] (by kernel_rfl)) ?_
                refine wa_all [11] (by kernel_rfl) rfl (all1 ?_)
                refine wi_op rfl rfl (ot_call (vs := [.agg [cI .i64 (doStep s (x k)).1.e, cI .i64 (doStep s (x k)).1.v, cI .i64 (doStep s (x k)).1.l, .ints .u8 32 ((doStep s (x k)).1.d)], sI .i64 (x k).view, sI .i64 (x k).justify, sB true]) rfl rfl rfl Try.func22 (by kernel_rfl) (by kernel_rfl) (by kernel_rfl) (.t [.agg [cI .i64 (vote (doStep s (x k)).1 ((x k).view) ((x k).justify) true).1.e, cI .i64 (vote (doStep s (x k)).1 ((x k).view) ((x k).justify) true).1.v, cI .i64 (vote (doStep s (x k)).1 ((x k).view) ((x k).justify) true).1.l, .ints .u8 32 ((vote (doStep s (x k)).1 ((x k).view) ((x k).justify) true).1.d)], sB (vote (doStep s (x k)).1 ((x k).view) ((x k).justify) true).2]) (okv_agg (okc_one (okc_one (okc_one (okc_ints (by (show Safe.ok _; repeat' (first | assumption | apply giveUp_ok | apply see_ok | apply vote_ok | apply doStep_ok | (simp [Safe.ok, Step.ok]; done)))) (okc_nil))))) (okv_a (okv_nil))) (fun ρ w _ => vote_any (doStep s (x k)).1 (by (show Safe.ok _; repeat' (first | assumption | apply giveUp_ok | apply see_ok | apply vote_ok | apply doStep_ok | (simp [Safe.ok, Step.ok]; done)))) ((x k).view) ((x k).justify) true w ρ)) (sub_of [5, 7] (by kernel_rfl)) ?_
                refine wa_takes (fuel := 2) [12, 13, 14] [1, 5, 6, 7, 9, 116, 117] (listed' := #[true, true, true, true, true, true, true, true, true, true, true, true, true, true, true, true, false, false]) (l' := [(1, eV (.slice a len cap)), (5, eL 5 0), (6, eI .i64 ((k : Nat) : Int)), (7, eL 7 0), (9, eL 9 0), (116, eA [cI .i64 (vote (doStep s (x k)).1 ((x k).view) ((x k).justify) true).1.e, cI .i64 (vote (doStep s (x k)).1 ((x k).view) ((x k).justify) true).1.v, cI .i64 (vote (doStep s (x k)).1 ((x k).view) ((x k).justify) true).1.l, .ints .u8 32 ((vote (doStep s (x k)).1 ((x k).view) ((x k).justify) true).1.d)]), (117, eB (vote (doStep s (x k)).1 ((x k).view) ((x k).justify) true).2)]) (pk_then (pk_then (pk_block (pk_then (pk_then (pk_block (pk_then pk_body))))))) rfl (by kernel_rfl) ?_
                refine wa_all [16] (by kernel_rfl) rfl (all1 ?_)
                refine wi_op rfl rfl (ot_eff (l' := [(1, eV (.slice a len cap)), (5, eL 5 0), (6, eI .i64 ((k : Nat) : Int)), (7, eL 7 0), (9, eL 9 0), (116, eA [cI .i64 (vote (doStep s (x k)).1 ((x k).view) ((x k).justify) true).1.e, cI .i64 (vote (doStep s (x k)).1 ((x k).view) ((x k).justify) true).1.v, cI .i64 (vote (doStep s (x k)).1 ((x k).view) ((x k).justify) true).1.l, .ints .u8 32 ((vote (doStep s (x k)).1 ((x k).view) ((x k).justify) true).1.d)]), (117, eB (vote (doStep s (x k)).1 ((x k).view) ((x k).justify) true).2)]) (H' := [(9, ⟨[cI .i64 (vote (doStep s (x k)).1 ((x k).view) ((x k).justify) true).1.e, cI .i64 (vote (doStep s (x k)).1 ((x k).view) ((x k).justify) true).1.v, cI .i64 (vote (doStep s (x k)).1 ((x k).view) ((x k).justify) true).1.l, .ints .u8 32 ((vote (doStep s (x k)).1 ((x k).view) ((x k).justify) true).1.d)], 25⟩), (5, ⟨[cI .i64 s.e, cI .i64 s.v, cI .i64 s.l, .ints .u8 32 s.d], 25⟩), (7, ⟨[cI .i64 (doStep s (x k)).1.e, cI .i64 (doStep s (x k)).1.v, cI .i64 (doStep s (x k)).1.l, .ints .u8 32 ((doStep s (x k)).1.d)], 25⟩)]) (by kernel_rfl)) (sub_of [5, 7] (by kernel_rfl)) ?_
                refine wa_takes (fuel := 0) [17] [1, 5, 6, 7, 10] (listed' := #[true, true, true, true, true, true, true, true, true, true, true, true, true, true, true, true, true, true]) (l' := [(1, eV (.slice a len cap)), (5, eL 5 0), (6, eI .i64 ((k : Nat) : Int)), (7, eL 7 0), (10, eB (vote (doStep s (x k)).1 ((x k).view) ((x k).justify) true).2)]) (pk_then (pk_then (pk_block (pk_then (pk_then (pk_block (pk_then pk_body))))))) rfl (by kernel_rfl) ?_
                exact wa_done (by kernel_rfl) (we_rest [1, 5, 6, 7, 10] [5, 7] (by kernel_rfl) (by kernel_rfl) K)
            · refine we_then ?_
              refine wc_seq ?_
              refine wc_reg [0] (by kernel_rfl) ?_
              refine wo_run [0] [1, 5, 6, 7, 118] [5, 7] (l' := [(1, eV (.slice a len cap)), (5, eL 5 0), (6, eI .i64 ((k : Nat) : Int)), (7, eL 7 0), (118, eB (vote (doStep s (x k)).1 ((x k).view) ((x k).justify) true).2)]) (H' := [(5, ⟨[cI .i64 s.e, cI .i64 s.v, cI .i64 s.l, .ints .u8 32 s.d], 25⟩), (7, ⟨[cI .i64 (doStep s (x k)).1.e, cI .i64 (doStep s (x k)).1.v, cI .i64 (doStep s (x k)).1.l, .ints .u8 32 ((doStep s (x k)).1.d)], 25⟩)]) (by kernel_rfl) ?_
              refine wo_nil ?_
              refine we_then ?_
              refine wc_is 118 false rfl (hf.2.2.2.2.2 (by omega) (by omega)) ?_
              refine wc_false rfl ?_
              refine wc_skip ?_
              refine we_then ?_
              refine wc_reg [0, 1] (by kernel_rfl) ?_
              refine wo_run [0, 1] [1, 5, 6] [5] (l' := [(1, eV (.slice a len cap)), (5, eL 5 0), (6, eI .i64 ((k : Nat) : Int))]) (H' := [(5, ⟨[cI .i64 (doStep s (x k)).1.e, cI .i64 (doStep s (x k)).1.v, cI .i64 (doStep s (x k)).1.l, .ints .u8 32 ((doStep s (x k)).1.d)], 25⟩)]) (by kernel_rfl) ?_
              refine wo_nil ?_
              refine we_block ?_
              refine we_then ?_
              refine wc_reg [0, 1, 2] (by kernel_rfl) ?_
              refine wo_run [0, 1, 2] [1, 5, 6] [5] (l' := [(1, eV (.slice a len cap)), (5, eL 5 0), (6, eI .i64 (IntKind.wrap .i64 (((k : Nat) : Int) + 1)))]) (H' := [(5, ⟨[cI .i64 (doStep s (x k)).1.e, cI .i64 (doStep s (x k)).1.v, cI .i64 (doStep s (x k)).1.l, .ints .u8 32 ((doStep s (x k)).1.d)], 25⟩)]) (by kernel_rfl) ?_
              refine wo_nil ?_
              refine we_rest [1, 5, 6] [5] (l' := [(1, eV (.slice a len cap)), (5, eL 5 0), (6, eI .i64 (IntKind.wrap .i64 (((k : Nat) : Int) + 1)))]) (H' := [(5, ⟨[cI .i64 (doStep s (x k)).1.e, cI .i64 (doStep s (x k)).1.v, cI .i64 (doStep s (x k)).1.l, .ints .u8 32 ((doStep s (x k)).1.d)], 25⟩)]) (by kernel_rfl) (by kernel_rfl) ?_
              rw [show (IntKind.wrap .i64 (((k : Nat) : Int) + 1)) = ((k + 1 : Nat) : Int) from wrap_succ (by simp only [maxLen] at hcap; omega)]
              exact we_round ((doStep s (x k)).1, k + 1) (⟨by (show Safe.ok _; repeat' (first | assumption | apply giveUp_ok | apply see_ok | apply vote_ok | apply doStep_ok | (simp [Safe.ok, Step.ok]; done))), by omega⟩) (by show len - (k + 1) < len - k; omega) rfl (sub_ofE [1, 5, 6] rfl) (sub_of [5] rfl)
          · replace h8 := of_decide_eq_false h8
            refine wo_run [7, 8] [1, 5, 6, 7, 95, 96, 97] [5, 7] (l' := [(1, eV (.slice a len cap)), (5, eL 5 0), (6, eI .i64 ((k : Nat) : Int)), (7, eL 7 0), (95, eB false), (96, eV (.slice a len cap)), (97, eI .i64 ((k : Nat) : Int))]) (H' := [(5, ⟨[cI .i64 s.e, cI .i64 s.v, cI .i64 s.l, .ints .u8 32 s.d], 25⟩), (7, ⟨[cI .i64 (doStep s (x k)).1.e, cI .i64 (doStep s (x k)).1.v, cI .i64 (doStep s (x k)).1.l, .ints .u8 32 ((doStep s (x k)).1.d)], 25⟩)]) (by kernel_rfl) ?_
            refine wo_op rfl rfl (ot_rd rfl (rd_index (e := 27) b off 36 k rfl (by kernel_rfl) (by kernel_rfl) rfl rfl ((Int.ofNat_lt.1 h1)) ((hb (Nat.zero_lt_of_lt (Int.ofNat_lt.1 h1))).1))) ?_
            refine wo_run [10] [1, 5, 6, 7, 95, 99] [5, 7] (l' := [(1, eV (.slice a len cap)), (5, eL 5 0), (6, eI .i64 ((k : Nat) : Int)), (7, eL 7 0), (95, eB false), (99, eV (.pointer (some ⟨b, (off + k * 36), none⟩)))]) (H' := [(5, ⟨[cI .i64 s.e, cI .i64 s.v, cI .i64 s.l, .ints .u8 32 s.d], 25⟩), (7, ⟨[cI .i64 (doStep s (x k)).1.e, cI .i64 (doStep s (x k)).1.v, cI .i64 (doStep s (x k)).1.l, .ints .u8 32 ((doStep s (x k)).1.d)], 25⟩)]) (by kernel_rfl) ?_
            refine wo_op rfl rfl (ot_rd rfl (rd_load (v := (sI .i64 (x k).kind)) b (off + k * 36) 0 [cI .i64 (x k).kind, cI .i64 (x k).view, cI .i64 (x k).justify, .ints .u8 32 ((x k).block), cB (x k).ext] rfl (off + k * 36) rfl rfl ((xI (hb (Nat.zero_lt_of_lt (Int.ofNat_lt.1 h1))).2)) (hc k (Int.ofNat_lt.1 h1)) (okc_one (okc_one (okc_one (okc_ints (hx k (Int.ofNat_lt.1 h1)) (okc_one okc_nil))))) (fun _ => rfl) (by kernel_rfl))) ?_
            refine wo_run [12, 13] [1, 5, 6, 7, 102] [5, 7] (l' := [(1, eV (.slice a len cap)), (5, eL 5 0), (6, eI .i64 ((k : Nat) : Int)), (7, eL 7 0), (102, eB (decide ((x k).kind < 0)))]) (H' := [(5, ⟨[cI .i64 s.e, cI .i64 s.v, cI .i64 s.l, .ints .u8 32 s.d], 25⟩), (7, ⟨[cI .i64 (doStep s (x k)).1.e, cI .i64 (doStep s (x k)).1.v, cI .i64 (doStep s (x k)).1.l, .ints .u8 32 ((doStep s (x k)).1.d)], 25⟩)]) (by kernel_rfl) ?_
            refine wo_nil ?_
            refine we_then ?_
            refine wc_cond rfl (fun h9 => ?_) (fun h9 => ?_)
            · replace h9 := of_decide_eq_true h9
              refine wc_seq ?_
              refine wc_rest [1, 5, 6, 7] [5, 7] (l' := [(1, eV (.slice a len cap)), (5, eL 5 0), (6, eI .i64 ((k : Nat) : Int)), (7, eL 7 0)]) (H' := [(5, ⟨[cI .i64 s.e, cI .i64 s.v, cI .i64 s.l, .ints .u8 32 s.d], 25⟩), (7, ⟨[cI .i64 (doStep s (x k)).1.e, cI .i64 (doStep s (x k)).1.v, cI .i64 (doStep s (x k)).1.l, .ints .u8 32 ((doStep s (x k)).1.d)], 25⟩)]) (by kernel_rfl) ?_
              refine cut [(1, eV (.slice a len cap)), (5, eL 5 0), (6, eI .i64 ((k : Nat) : Int)), (7, eL 7 0), (10, eB (vote (doStep s (x k)).1 ((x k).view) ((x k).justify) true).2)] [(5, ⟨[cI .i64 s.e, cI .i64 s.v, cI .i64 s.l, .ints .u8 32 s.d], 25⟩), (7, ⟨[cI .i64 (doStep s (x k)).1.e, cI .i64 (doStep s (x k)).1.v, cI .i64 (doStep s (x k)).1.l, .ints .u8 32 ((doStep s (x k)).1.d)], 25⟩)] (fun K => ?_) ?_
              · refine wc_draw (n := 18) [(5, ⟨[cI .i64 s.e, cI .i64 s.v, cI .i64 s.l, .ints .u8 32 s.d], 25⟩), (7, ⟨[cI .i64 (doStep s (x k)).1.e, cI .i64 (doStep s (x k)).1.v, cI .i64 (doStep s (x k)).1.l, .ints .u8 32 ((doStep s (x k)).1.d)], 25⟩)] (by kernel_rfl) rfl (sub_of [5, 7] (by kernel_rfl)) (fun ρ0 => ?_)
                refine wa_takes (fuel := 13) [0, 1, 2, 6, 7] [1, 5, 6, 7, 104, 105, 106, 110, 111] (listed' := #[true, true, true, false, false, false, true, true, false, false, false, false, false, false, false, false, false, false]) (l' := [(1, eV (.slice a len cap)), (5, eL 5 0), (6, eI .i64 ((k : Nat) : Int)), (7, eL 7 0), (104, eA [cI .i64 (doStep s (x k)).1.e, cI .i64 (doStep s (x k)).1.v, cI .i64 (doStep s (x k)).1.l, .ints .u8 32 ((doStep s (x k)).1.d)]), (105, eV (.slice a len cap)), (106, eI .i64 ((k : Nat) : Int)), (110, eV (.slice a len cap)), (111, eI .i64 ((k : Nat) : Int))]) (pk_then (pk_then (pk_block (pk_then (pk_then (pk_block (pk_then pk_body))))))) rfl (by kernel_rfl) ?_
                refine wa_take 3 (pk_then (pk_then (pk_block (pk_then (pk_then (pk_block (pk_then pk_body))))))) rfl (by kernel_rfl) rfl rfl (rd_index (e := 27) b off 36 k rfl (by kernel_rfl) (by kernel_rfl) rfl rfl ((Int.ofNat_lt.1 h1)) ((hb (Nat.zero_lt_of_lt (Int.ofNat_lt.1 h1))).1)) ?_
                refine wa_takes (fuel := 11) [4] [1, 5, 6, 7, 104, 108, 110, 111] (listed' := #[true, true, true, true, true, false, true, true, false, false, false, false, false, false, false, false, false, false]) (l' := [(1, eV (.slice a len cap)), (5, eL 5 0), (6, eI .i64 ((k : Nat) : Int)), (7, eL 7 0), (104, eA [cI .i64 (doStep s (x k)).1.e, cI .i64 (doStep s (x k)).1.v, cI .i64 (doStep s (x k)).1.l, .ints .u8 32 ((doStep s (x k)).1.d)]), (108, eV (.pointer (some ⟨b, ((off + k * 36) + 1), none⟩))), (110, eV (.slice a len cap)), (111, eI .i64 ((k : Nat) : Int))]) (pk_then (pk_then (pk_block (pk_then (pk_then (pk_block (pk_then pk_body))))))) rfl (by kernel_rfl) ?_
                refine wa_take 5 (pk_then (pk_then (pk_block (pk_then (pk_then (pk_block (pk_then pk_body))))))) rfl (by kernel_rfl) rfl rfl (rd_load (v := (sI .i64 (x k).view)) b (off + k * 36) 1 [cI .i64 (x k).kind, cI .i64 (x k).view, cI .i64 (x k).justify, .ints .u8 32 ((x k).block), cB (x k).ext] rfl ((off + k * 36) + 1) rfl rfl ((xI (hb (Nat.zero_lt_of_lt (Int.ofNat_lt.1 h1))).2)) (hc k (Int.ofNat_lt.1 h1)) (okc_one (okc_one (okc_one (okc_ints (hx k (Int.ofNat_lt.1 h1)) (okc_one okc_nil))))) (fun _ => rfl) (by kernel_rfl)) ?_
                refine wa_take 8 (pk_then (pk_then (pk_block (pk_then (pk_then (pk_block (pk_then pk_body))))))) rfl (by kernel_rfl) rfl rfl (rd_index (e := 27) b off 36 k rfl (by kernel_rfl) (by kernel_rfl) rfl rfl ((Int.ofNat_lt.1 h1)) ((hb (Nat.zero_lt_of_lt (Int.ofNat_lt.1 h1))).1)) ?_
                refine wa_takes (fuel := 8) [9] [1, 5, 6, 7, 104, 109, 113] (listed' := #[true, true, true, true, true, true, true, true, true, true, false, false, false, false, false, false, false, false]) (l' := [(1, eV (.slice a len cap)), (5, eL 5 0), (6, eI .i64 ((k : Nat) : Int)), (7, eL 7 0), (104, eA [cI .i64 (doStep s (x k)).1.e, cI .i64 (doStep s (x k)).1.v, cI .i64 (doStep s (x k)).1.l, .ints .u8 32 ((doStep s (x k)).1.d)]), (109, eI .i64 (x k).view), (113, eV (.pointer (some ⟨b, ((off + k * 36) + 2), none⟩)))]) (pk_then (pk_then (pk_block (pk_then (pk_then (pk_block (pk_then pk_body))))))) rfl (by kernel_rfl) ?_
                refine wa_take 10 (pk_then (pk_then (pk_block (pk_then (pk_then (pk_block (pk_then pk_body))))))) rfl (by kernel_rfl) rfl rfl (rd_load (v := (sI .i64 (x k).justify)) b (off + k * 36) 2 [cI .i64 (x k).kind, cI .i64 (x k).view, cI .i64 (x k).justify, .ints .u8 32 ((x k).block), cB (x k).ext] rfl ((off + k * 36) + 2) rfl rfl ((xI (hb (Nat.zero_lt_of_lt (Int.ofNat_lt.1 h1))).2)) (hc k (Int.ofNat_lt.1 h1)) (okc_one (okc_one (okc_one (okc_ints (hx k (Int.ofNat_lt.1 h1)) (okc_one okc_nil))))) (fun _ => rfl) (by kernel_rfl)) ?_
                refine wa_all [11, 15] (by kernel_rfl) rfl (allc ?_ (all1 ?_))
                · refine wi_op rfl rfl (ot_call (vs := [.agg [cI .i64 (doStep s (x k)).1.e, cI .i64 (doStep s (x k)).1.v, cI .i64 (doStep s (x k)).1.l, .ints .u8 32 ((doStep s (x k)).1.d)], sI .i64 (x k).view, sI .i64 (x k).justify, sB true]) rfl rfl rfl Try.func22 (by kernel_rfl) (by kernel_rfl) (by kernel_rfl) (.t [.agg [cI .i64 (vote (doStep s (x k)).1 ((x k).view) ((x k).justify) true).1.e, cI .i64 (vote (doStep s (x k)).1 ((x k).view) ((x k).justify) true).1.v, cI .i64 (vote (doStep s (x k)).1 ((x k).view) ((x k).justify) true).1.l, .ints .u8 32 ((vote (doStep s (x k)).1 ((x k).view) ((x k).justify) true).1.d)], sB (vote (doStep s (x k)).1 ((x k).view) ((x k).justify) true).2]) (okv_agg (okc_one (okc_one (okc_one (okc_ints (by (show Safe.ok _; repeat' (first | assumption | apply giveUp_ok | apply see_ok | apply vote_ok | apply doStep_ok | (simp [Safe.ok, Step.ok]; done)))) (okc_nil))))) (okv_a (okv_nil))) (fun ρ w _ => vote_any (doStep s (x k)).1 (by (show Safe.ok _; repeat' (first | assumption | apply giveUp_ok | apply see_ok | apply vote_ok | apply doStep_ok | (simp [Safe.ok, Step.ok]; done)))) ((x k).view) ((x k).justify) true w ρ)) (sub_of [5, 7] (by kernel_rfl)) ?_
                  refine wa_takes (fuel := 3) [12, 13, 14] [1, 5, 6, 7, 116, 117] (listed' := #[true, true, true, true, true, true, true, true, true, true, true, true, true, true, true, false, false, false]) (l' := [(1, eV (.slice a len cap)), (5, eL 5 0), (6, eI .i64 ((k : Nat) : Int)), (7, eL 7 0), (116, eA [cI .i64 (vote (doStep s (x k)).1 ((x k).view) ((x k).justify) true).1.e, cI .i64 (vote (doStep s (x k)).1 ((x k).view) ((x k).justify) true).1.v, cI .i64 (vote (doStep s (x k)).1 ((x k).view) ((x k).justify) true).1.l, .ints .u8 32 ((vote (doStep s (x k)).1 ((x k).view) ((x k).justify) true).1.d)]), (117, eB (vote (doStep s (x k)).1 ((x k).view) ((x k).justify) true).2)]) (pk_then (pk_then (pk_block (pk_then (pk_then (pk_block (pk_then pk_body))))))) rfl (by kernel_rfl) ?_
                  refine wa_all [15] (by kernel_rfl) rfl (all1 ?_)
                  refine wi_op rfl rfl (ot_alloc (d := 9) (cs := z25) rfl rfl z25_zero rfl z25_ok (fun _ => rfl)) (sub_of [5, 7] (by kernel_rfl)) ?_
                  refine wa_all [16] (by kernel_rfl) rfl (all1 ?_)
                  refine wi_op rfl rfl (ot_eff (l' := [(9, eL 9 0), (1, eV (.slice a len cap)), (5, eL 5 0), (6, eI .i64 ((k : Nat) : Int)), (7, eL 7 0), (116, eA [cI .i64 (vote (doStep s (x k)).1 ((x k).view) ((x k).justify) true).1.e, cI .i64 (vote (doStep s (x k)).1 ((x k).view) ((x k).justify) true).1.v, cI .i64 (vote (doStep s (x k)).1 ((x k).view) ((x k).justify) true).1.l, .ints .u8 32 ((vote (doStep s (x k)).1 ((x k).view) ((x k).justify) true).1.d)]), (117, eB (vote (doStep s (x k)).1 ((x k).view) ((x k).justify) true).2)]) (H' := [(9, ⟨[cI .i64 (vote (doStep s (x k)).1 ((x k).view) ((x k).justify) true).1.e, cI .i64 (vote (doStep s (x k)).1 ((x k).view) ((x k).justify) true).1.v, cI .i64 (vote (doStep s (x k)).1 ((x k).view) ((x k).justify) true).1.l, .ints .u8 32 ((vote (doStep s (x k)).1 ((x k).view) ((x k).justify) true).1.d)], 25⟩), (5, ⟨[cI .i64 s.e, cI .i64 s.v, cI .i64 s.l, .ints .u8 32 s.d], 25⟩), (7, ⟨[cI .i64 (doStep s (x k)).1.e, cI .i64 (doStep s (x k)).1.v, cI .i64 (doStep s (x k)).1.l, .ints .u8 32 ((doStep s (x k)).1.d)], 25⟩)]) (by kernel_rfl)) (sub_of [5, 7] (by kernel_rfl)) ?_
                  refine wa_takes (fuel := 0) [17] [1, 5, 6, 7, 10] (listed' := #[true, true, true, true, true, true, true, true, true, true, true, true, true, true, true, true, true, true]) (l' := [(1, eV (.slice a len cap)), (5, eL 5 0), (6, eI .i64 ((k : Nat) : Int)), (7, eL 7 0), (10, eB (vote (doStep s (x k)).1 ((x k).view) ((x k).justify) true).2)]) (pk_then (pk_then (pk_block (pk_then (pk_then (pk_block (pk_then pk_body))))))) rfl (by kernel_rfl) ?_
                  exact wa_done (by kernel_rfl) (we_rest [1, 5, 6, 7, 10] [5, 7] (by kernel_rfl) (by kernel_rfl) K)
                · refine wi_op rfl rfl (ot_alloc (d := 9) (cs := z25) rfl rfl z25_zero rfl z25_ok (fun _ => rfl)) (sub_of [5, 7] (by kernel_rfl)) ?_
                  refine wa_all [11] (by kernel_rfl) rfl (all1 ?_)
                  refine wi_op rfl rfl (ot_call (vs := [.agg [cI .i64 (doStep s (x k)).1.e, cI .i64 (doStep s (x k)).1.v, cI .i64 (doStep s (x k)).1.l, .ints .u8 32 ((doStep s (x k)).1.d)], sI .i64 (x k).view, sI .i64 (x k).justify, sB true]) rfl rfl rfl Try.func22 (by kernel_rfl) (by kernel_rfl) (by kernel_rfl) (.t [.agg [cI .i64 (vote (doStep s (x k)).1 ((x k).view) ((x k).justify) true).1.e, cI .i64 (vote (doStep s (x k)).1 ((x k).view) ((x k).justify) true).1.v, cI .i64 (vote (doStep s (x k)).1 ((x k).view) ((x k).justify) true).1.l, .ints .u8 32 ((vote (doStep s (x k)).1 ((x k).view) ((x k).justify) true).1.d)], sB (vote (doStep s (x k)).1 ((x k).view) ((x k).justify) true).2]) (okv_agg (okc_one (okc_one (okc_one (okc_ints (by (show Safe.ok _; repeat' (first | assumption | apply giveUp_ok | apply see_ok | apply vote_ok | apply doStep_ok | (simp [Safe.ok, Step.ok]; done)))) (okc_nil))))) (okv_a (okv_nil))) (fun ρ w _ => vote_any (doStep s (x k)).1 (by (show Safe.ok _; repeat' (first | assumption | apply giveUp_ok | apply see_ok | apply vote_ok | apply doStep_ok | (simp [Safe.ok, Step.ok]; done)))) ((x k).view) ((x k).justify) true w ρ)) (sub_of [5, 7] (by kernel_rfl)) ?_
                  refine wa_takes (fuel := 2) [12, 13, 14] [1, 5, 6, 7, 9, 116, 117] (listed' := #[true, true, true, true, true, true, true, true, true, true, true, true, true, true, true, true, false, false]) (l' := [(1, eV (.slice a len cap)), (5, eL 5 0), (6, eI .i64 ((k : Nat) : Int)), (7, eL 7 0), (9, eL 9 0), (116, eA [cI .i64 (vote (doStep s (x k)).1 ((x k).view) ((x k).justify) true).1.e, cI .i64 (vote (doStep s (x k)).1 ((x k).view) ((x k).justify) true).1.v, cI .i64 (vote (doStep s (x k)).1 ((x k).view) ((x k).justify) true).1.l, .ints .u8 32 ((vote (doStep s (x k)).1 ((x k).view) ((x k).justify) true).1.d)]), (117, eB (vote (doStep s (x k)).1 ((x k).view) ((x k).justify) true).2)]) (pk_then (pk_then (pk_block (pk_then (pk_then (pk_block (pk_then pk_body))))))) rfl (by kernel_rfl) ?_
                  refine wa_all [16] (by kernel_rfl) rfl (all1 ?_)
                  refine wi_op rfl rfl (ot_eff (l' := [(1, eV (.slice a len cap)), (5, eL 5 0), (6, eI .i64 ((k : Nat) : Int)), (7, eL 7 0), (9, eL 9 0), (116, eA [cI .i64 (vote (doStep s (x k)).1 ((x k).view) ((x k).justify) true).1.e, cI .i64 (vote (doStep s (x k)).1 ((x k).view) ((x k).justify) true).1.v, cI .i64 (vote (doStep s (x k)).1 ((x k).view) ((x k).justify) true).1.l, .ints .u8 32 ((vote (doStep s (x k)).1 ((x k).view) ((x k).justify) true).1.d)]), (117, eB (vote (doStep s (x k)).1 ((x k).view) ((x k).justify) true).2)]) (H' := [(9, ⟨[cI .i64 (vote (doStep s (x k)).1 ((x k).view) ((x k).justify) true).1.e, cI .i64 (vote (doStep s (x k)).1 ((x k).view) ((x k).justify) true).1.v, cI .i64 (vote (doStep s (x k)).1 ((x k).view) ((x k).justify) true).1.l, .ints .u8 32 ((vote (doStep s (x k)).1 ((x k).view) ((x k).justify) true).1.d)], 25⟩), (5, ⟨[cI .i64 s.e, cI .i64 s.v, cI .i64 s.l, .ints .u8 32 s.d], 25⟩), (7, ⟨[cI .i64 (doStep s (x k)).1.e, cI .i64 (doStep s (x k)).1.v, cI .i64 (doStep s (x k)).1.l, .ints .u8 32 ((doStep s (x k)).1.d)], 25⟩)]) (by kernel_rfl)) (sub_of [5, 7] (by kernel_rfl)) ?_
                  refine wa_takes (fuel := 0) [17] [1, 5, 6, 7, 10] (listed' := #[true, true, true, true, true, true, true, true, true, true, true, true, true, true, true, true, true, true]) (l' := [(1, eV (.slice a len cap)), (5, eL 5 0), (6, eI .i64 ((k : Nat) : Int)), (7, eL 7 0), (10, eB (vote (doStep s (x k)).1 ((x k).view) ((x k).justify) true).2)]) (pk_then (pk_then (pk_block (pk_then (pk_then (pk_block (pk_then pk_body))))))) rfl (by kernel_rfl) ?_
                  exact wa_done (by kernel_rfl) (we_rest [1, 5, 6, 7, 10] [5, 7] (by kernel_rfl) (by kernel_rfl) K)
              · refine we_then ?_
                refine wc_seq ?_
                refine wc_reg [0] (by kernel_rfl) ?_
                refine wo_run [0] [1, 5, 6, 7, 118] [5, 7] (l' := [(1, eV (.slice a len cap)), (5, eL 5 0), (6, eI .i64 ((k : Nat) : Int)), (7, eL 7 0), (118, eB (vote (doStep s (x k)).1 ((x k).view) ((x k).justify) true).2)]) (H' := [(5, ⟨[cI .i64 s.e, cI .i64 s.v, cI .i64 s.l, .ints .u8 32 s.d], 25⟩), (7, ⟨[cI .i64 (doStep s (x k)).1.e, cI .i64 (doStep s (x k)).1.v, cI .i64 (doStep s (x k)).1.l, .ints .u8 32 ((doStep s (x k)).1.d)], 25⟩)]) (by kernel_rfl) ?_
                refine wo_nil ?_
                refine we_then ?_
                refine wc_is 118 false rfl (hf.2.2.2.2.2 (by omega) (by omega)) ?_
                refine wc_false rfl ?_
                refine wc_skip ?_
                refine we_then ?_
                refine wc_reg [0, 1] (by kernel_rfl) ?_
                refine wo_run [0, 1] [1, 5, 6] [5] (l' := [(1, eV (.slice a len cap)), (5, eL 5 0), (6, eI .i64 ((k : Nat) : Int))]) (H' := [(5, ⟨[cI .i64 (doStep s (x k)).1.e, cI .i64 (doStep s (x k)).1.v, cI .i64 (doStep s (x k)).1.l, .ints .u8 32 ((doStep s (x k)).1.d)], 25⟩)]) (by kernel_rfl) ?_
                refine wo_nil ?_
                refine we_block ?_
                refine we_then ?_
                refine wc_reg [0, 1, 2] (by kernel_rfl) ?_
                refine wo_run [0, 1, 2] [1, 5, 6] [5] (l' := [(1, eV (.slice a len cap)), (5, eL 5 0), (6, eI .i64 (IntKind.wrap .i64 (((k : Nat) : Int) + 1)))]) (H' := [(5, ⟨[cI .i64 (doStep s (x k)).1.e, cI .i64 (doStep s (x k)).1.v, cI .i64 (doStep s (x k)).1.l, .ints .u8 32 ((doStep s (x k)).1.d)], 25⟩)]) (by kernel_rfl) ?_
                refine wo_nil ?_
                refine we_rest [1, 5, 6] [5] (l' := [(1, eV (.slice a len cap)), (5, eL 5 0), (6, eI .i64 (IntKind.wrap .i64 (((k : Nat) : Int) + 1)))]) (H' := [(5, ⟨[cI .i64 (doStep s (x k)).1.e, cI .i64 (doStep s (x k)).1.v, cI .i64 (doStep s (x k)).1.l, .ints .u8 32 ((doStep s (x k)).1.d)], 25⟩)]) (by kernel_rfl) (by kernel_rfl) ?_
                rw [show (IntKind.wrap .i64 (((k : Nat) : Int) + 1)) = ((k + 1 : Nat) : Int) from wrap_succ (by simp only [maxLen] at hcap; omega)]
                exact we_round ((doStep s (x k)).1, k + 1) (⟨by (show Safe.ok _; repeat' (first | assumption | apply giveUp_ok | apply see_ok | apply vote_ok | apply doStep_ok | (simp [Safe.ok, Step.ok]; done))), by omega⟩) (by show len - (k + 1) < len - k; omega) rfl (sub_ofE [1, 5, 6] rfl) (sub_of [5] rfl)
            · replace h9 := of_decide_eq_false h9
              refine wc_skip ?_
              refine we_then ?_
              refine wc_reg [0, 1] (by kernel_rfl) ?_
              refine wo_run [0, 1] [1, 5, 6] [5] (l' := [(1, eV (.slice a len cap)), (5, eL 5 0), (6, eI .i64 ((k : Nat) : Int))]) (H' := [(5, ⟨[cI .i64 (doStep s (x k)).1.e, cI .i64 (doStep s (x k)).1.v, cI .i64 (doStep s (x k)).1.l, .ints .u8 32 ((doStep s (x k)).1.d)], 25⟩)]) (by kernel_rfl) ?_
              refine wo_nil ?_
              refine we_block ?_
              refine we_then ?_
              refine wc_reg [0, 1, 2] (by kernel_rfl) ?_
              refine wo_run [0, 1, 2] [1, 5, 6] [5] (l' := [(1, eV (.slice a len cap)), (5, eL 5 0), (6, eI .i64 (IntKind.wrap .i64 (((k : Nat) : Int) + 1)))]) (H' := [(5, ⟨[cI .i64 (doStep s (x k)).1.e, cI .i64 (doStep s (x k)).1.v, cI .i64 (doStep s (x k)).1.l, .ints .u8 32 ((doStep s (x k)).1.d)], 25⟩)]) (by kernel_rfl) ?_
              refine wo_nil ?_
              refine we_rest [1, 5, 6] [5] (l' := [(1, eV (.slice a len cap)), (5, eL 5 0), (6, eI .i64 (IntKind.wrap .i64 (((k : Nat) : Int) + 1)))]) (H' := [(5, ⟨[cI .i64 (doStep s (x k)).1.e, cI .i64 (doStep s (x k)).1.v, cI .i64 (doStep s (x k)).1.l, .ints .u8 32 ((doStep s (x k)).1.d)], 25⟩)]) (by kernel_rfl) (by kernel_rfl) ?_
              rw [show (IntKind.wrap .i64 (((k : Nat) : Int) + 1)) = ((k + 1 : Nat) : Int) from wrap_succ (by simp only [maxLen] at hcap; omega)]
              exact we_round ((doStep s (x k)).1, k + 1) (⟨by (show Safe.ok _; repeat' (first | assumption | apply giveUp_ok | apply see_ok | apply vote_ok | apply doStep_ok | (simp [Safe.ok, Step.ok]; done))), by omega⟩) (by show len - (k + 1) < len - k; omega) rfl (sub_ofE [1, 5, 6] rfl) (sub_of [5] rfl)
  · replace h1 := of_decide_eq_false h1
    refine wc_exit ?_
    refine we_then_exit ?_
    refine we_then_exit ?_
    refine we_block_exit ?_
    refine we_then ?_
    refine wc_seq ?_
    refine wc_reg [0] (by kernel_rfl) ?_
    refine wo_run [0] [4] [] (l' := [(4, eB true)]) (H' := []) (by kernel_rfl) ?_
    refine wo_nil ?_
    refine we_then ?_
    refine wc_ret ?_
    refine we_ret (.inl rfl) (v := eB true) (by kernel_rfl) ?_
    intro ρ' w' hf
    refine ⟨?_, hf.below noS⟩
    rfl

end Go.Proofs.Ytckhcmdjgkoocaa
