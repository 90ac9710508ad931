/- The walks over the rules' functions. -/
import Derived.Test.YtckhcmdjgkoocaaProg
import Derived.KernelRfl
import Derived.Test.YtckhcmdjgkoocaaSxRow
namespace Go.Proofs.Ytckhcmdjgkoocaa
open Go.RowKit Go.Sx
set_option linter.unusedVariables false
set_option linter.unusedSimpArgs false

structure Safe where
  e : Int
  v : Int
  l : Int
  d : List Int
def Safe.ok (s : Safe) : Prop := s.d.length = 32
abbrev cS (s : Safe) : List Chunk := [cI .i64 s.e, cI .i64 s.v, cI .i64 s.l, .ints .u8 32 s.d]
abbrev eS (s : Safe) : EV := eA (cS s)
def see (s : Safe) (view : Int) (D : List Int) : Safe := if view > s.l then ⟨s.e, s.v, view, D⟩ else s
def giveUp (s : Safe) (view : Int) : Safe := if view > s.v then ⟨s.e, view, s.l, s.d⟩ else s
def vote (s : Safe) (view justify : Int) (x : Bool) : Safe × Bool := if view ≤ s.v ∨ (x = false ∧ justify ≤ s.l) then (s, false) else (⟨s.e, view, s.l, s.d⟩, true)
abbrev eSB (p : Safe × Bool) : EV := .t [.agg (cS p.1), sB p.2]
def safeEq (s t : Safe) : Bool := s.e == t.e && (s.v == t.v && (s.l == t.l && s.d == t.d))
structure Step where
  kind : Int
  view : Int
  justify : Int
  block : List Int
  ext : Bool
abbrev cX (x : Step) : List Chunk := [cI .i64 x.kind, cI .i64 x.view, cI .i64 x.justify, .ints .u8 32 x.block, cB x.ext]
def Step.ok (x : Step) : Prop := x.block.length = 32
def doStep (s : Safe) (x : Step) : Safe × Bool := if x.kind = 0 then (see s x.view x.block, false) else if x.kind = 1 then vote s x.view x.justify x.ext else (giveUp s x.view, false)
theorem safe_of {R : TypeId → Value → Prop} : ∀ {cs : List Chunk}, MatchL R [.i .i64, .i .i64, .i .i64, .is .u8 32] cs → ∃ s : Safe, cs = cS s ∧ s.ok
  | [.one (.v (.int _ e)), .one (.v (.int _ v)), .one (.v (.int _ l)), .ints _ _ d], ⟨rfl, _, rfl, _, rfl, _, rfl, rfl, h, _, _⟩ => ⟨⟨e, v, l, d⟩, rfl, h⟩
theorem step_of {R : TypeId → Value → Prop} : ∀ {cs : List Chunk}, MatchL R [.i .i64, .i .i64, .i .i64, .is .u8 32, .b] cs → ∃ x : Step, cs = cX x ∧ x.ok
  | [.one (.v (.int _ e)), .one (.v (.int _ v)), .one (.v (.int _ l)), .ints _ _ d, .one (.v (.bool b))], ⟨rfl, _, rfl, _, rfl, _, rfl, rfl, h, _, _⟩ => ⟨⟨e, v, l, d, b⟩, rfl, h⟩
theorem dig_of {R : TypeId → Value → Prop} : ∀ {cs : List Chunk}, MatchL R [.is .u8 32] cs → ∃ d : List Int, cs = [.ints .u8 32 d] ∧ d.length = 32
  | [.ints _ _ d], ⟨rfl, rfl, h, _, _⟩ => ⟨d, rfl, h⟩
theorem giveUp_ok {s : Safe} {view : Int} (h : s.ok) : (giveUp s view).ok := by unfold giveUp; split <;> exact h
theorem see_ok {s : Safe} {view : Int} {D : List Int} (h : s.ok) (hD : D.length = 32) : (see s view D).ok := by unfold see; split <;> first | exact h | exact hD
theorem vote_ok {s : Safe} {view justify : Int} {x : Bool} (h : s.ok) : (vote s view justify x).1.ok := by unfold vote; split <;> exact h
theorem giveUp_ne (s : Safe) (view : Int) (h : view > s.v) : (!((giveUp s view).e == s.e && ((giveUp s view).v == s.v && ((giveUp s view).l == s.l && ((giveUp s view).d == s.d && true))))) = true := by
  have : ¬ view = s.v := by omega
  simp [giveUp, h, this]
theorem doStep_ok {s : Safe} {x : Step} (h : s.ok) (hx : x.ok) : (doStep s x).1.ok := by
  unfold doStep; split
  · exact see_ok h hx
  · split
    · exact vote_ok h
    · exact giveUp_ok h
theorem once_facts (s : Safe) (x : Step) : s.v ≤ (doStep s x).1.v ∧ s.l ≤ (doStep s x).1.l ∧ (doStep s x).1.e = s.e ∧ ((doStep s x).2 = true → s.v < x.view ∧ (doStep s x).1.v = x.view) ∧ ((doStep s x).2 = false → x.kind = 1 → (doStep s x).1 = s) ∧ (x.kind ≠ 0 → x.kind ≠ 1 → (vote (doStep s x).1 x.view x.justify true).2 = false) := by
  unfold doStep see vote giveUp
  by_cases h0 : x.kind = 0
  · rw [if_pos h0]; split <;> simp_all <;> omega
  · rw [if_neg h0]
    by_cases h1 : x.kind = 1
    · rw [if_pos h1]; split <;> simp_all <;> omega
    · rw [if_neg h1]; simp only []; split <;> simp_all <;> omega
theorem giveUp_v (s : Safe) (view : Int) : (⟨s.e, if view > s.v then view else s.v, s.l, s.d⟩ : Safe) = giveUp s view := by
  unfold giveUp; split <;> rfl
abbrev z23 : List Chunk := [.ints .u8 32 (List.replicate 32 0)]
theorem z23_zero' : (Try.prog.info? 23).bind (·.zero) = some (SV.conc (fun _ => 0) (.agg z23)) := by kernel_rfl
theorem z23_zero : (Try.prog.info? 23).bind (·.zero) = some (SV.conc (fun _ => 0) (.agg z23)) ∨ ∃ v, (Try.prog.info? 23).bind (·.zero) = some v ∧ z23 = [.one (.v v)] ∧ v.oneCell' = true := .inl z23_zero'
theorem z23_ok : okCs z23 := okc_ints (List.length_replicate) (okc_nil)
abbrev z25 : List Chunk := [cI .i64 0, cI .i64 0, cI .i64 0, .ints .u8 32 (List.replicate 32 0)]
theorem z25_zero' : (Try.prog.info? 25).bind (·.zero) = some (SV.conc (fun _ => 0) (.agg z25)) := by kernel_rfl
theorem z25_zero : (Try.prog.info? 25).bind (·.zero) = some (SV.conc (fun _ => 0) (.agg z25)) ∨ ∃ v, (Try.prog.info? 25).bind (·.zero) = some v ∧ z25 = [.one (.v v)] ∧ v.oneCell' = true := .inl z25_zero'
theorem z25_ok : okCs z25 := okc_one (okc_one (okc_one (okc_ints (List.length_replicate) (okc_nil))))

set_option maxHeartbeats 4000000 in
theorem new_any (e : Int) (D : List Int) (hD : D.length = 32) (w : World) (ρ : Nat → Nat) :
    Calls Try.prog 20 ([sI .i64 e, .agg [.ints .u8 32 D]].map (SV.conc ρ)).toArray w fun r w' => r = .returned (EV.conc ρ (eA [cI .i64 e, cI .i64 0, cI .i64 0, .ints .u8 32 D])) ∧ Below w.heap.size w w' := by
  refine calls_enter (vs := [sI .i64 e, .agg [.ints .u8 32 D]]) (N := 8) [] ρ Try.func20 rfl rfl (Nat.le_of_ble_eq_true rfl) (okv_a (okv_agg (okc_ints (hD) (okc_nil)) (okv_nil))) noH noH2 ?_ _ rfl
  refine wc_seq ?_
  refine wc_reg [0, 1] (by kernel_rfl) ?_
  refine wo_run [0] [0, 3] [3] (l' := [(0, eI .i64 e), (3, eL 3 0)]) (H' := [(3, ⟨[.ints .u8 32 D], 23⟩)]) (by kernel_rfl) ?_
  refine wo_op rfl rfl (ot_alloc (d := 4) (cs := z25) rfl rfl z25_zero rfl z25_ok (fun _ => rfl)) ?_
  refine wo_nil ?_
  refine we_then ?_
  refine wc_seq ?_
  refine wc_reg [0, 1, 2, 3] (by kernel_rfl) ?_
  refine wo_run [0, 1] [4, 5, 6] [4] (l' := [(4, eL 4 0), (5, eI .i64 e), (6, eA [.ints .u8 32 D])]) (H' := [(4, ⟨[cI .i64 0, cI .i64 0, cI .i64 0, .ints .u8 32 (List.replicate 32 0)], 25⟩)]) (by kernel_rfl) ?_
  refine wo_op rfl rfl (ot_rd rfl (rd_build (zc := z25) [cI .i64 e, cI .i64 0, cI .i64 0, .ints .u8 32 D] rfl z25_zero' z25_ok (fun _ => rfl) (by kernel_rfl) (by kernel_rfl))) ?_
  refine wo_run [3] [4] [4] (l' := [(4, eL 4 0)]) (H' := [(4, ⟨[cI .i64 e, cI .i64 0, cI .i64 0, .ints .u8 32 D], 25⟩)]) (by kernel_rfl) ?_
  refine wo_nil ?_
  refine we_then ?_
  refine wc_ret ?_
  refine we_ret (.inl rfl) (v := eA [cI .i64 e, cI .i64 0, cI .i64 0, .ints .u8 32 D]) (by kernel_rfl) ?_
  intro ρ' w' hf
  refine ⟨?_, hf.below noS⟩
  rfl

set_option maxHeartbeats 4000000 in
theorem giveUp_any (s : Safe) (hs : s.ok) (view : Int) (w : World) (ρ : Nat → Nat) :
    Calls Try.prog 43 ([.agg [cI .i64 s.e, cI .i64 s.v, cI .i64 s.l, .ints .u8 32 s.d], sI .i64 view].map (SV.conc ρ)).toArray w fun r w' => r = .returned (EV.conc ρ (eS (giveUp s view))) ∧ Below w.heap.size w w' := by
  refine calls_enter (vs := [.agg [cI .i64 s.e, cI .i64 s.v, cI .i64 s.l, .ints .u8 32 s.d], sI .i64 view]) (N := 11) [] ρ Try.func43 rfl rfl (Nat.le_of_ble_eq_true rfl) (okv_agg (okc_one (okc_one (okc_one (okc_ints (hs) (okc_nil))))) (okv_a (okv_nil))) noH noH2 ?_ _ rfl
  refine wc_seq ?_
  refine wc_reg [0, 1] (by kernel_rfl) ?_
  refine wo_run [0] [1, 2] [2] (l' := [(1, eI .i64 view), (2, eL 2 0)]) (H' := [(2, ⟨[cI .i64 s.e, cI .i64 s.v, cI .i64 s.l, .ints .u8 32 s.d], 25⟩)]) (by kernel_rfl) ?_
  refine wo_op rfl rfl (ot_alloc (d := 4) (cs := z25) rfl rfl z25_zero rfl z25_ok (fun _ => rfl)) ?_
  refine wo_nil ?_
  refine we_then ?_
  refine wc_seq ?_
  refine wc_reg [0, 1, 2, 3, 4, 5] (by kernel_rfl) ?_
  refine wo_run [0, 1, 2, 3, 4, 5] [2, 4] [2, 4] (l' := [(2, eL 2 0), (4, eL 4 0)]) (H' := [(2, ⟨[cI .i64 s.e, cI .i64 (if view > s.v then view else s.v), cI .i64 s.l, .ints .u8 32 s.d], 25⟩), (4, ⟨[cI .i64 0, cI .i64 0, cI .i64 0, .ints .u8 32 (List.replicate 32 0)], 25⟩)]) (by kernel_rfl) ?_
  refine wo_nil ?_
  refine we_then ?_
  refine wc_seq ?_
  refine wc_reg [0, 1] (by kernel_rfl) ?_
  refine wo_run [0, 1] [4] [4] (l' := [(4, eL 4 0)]) (H' := [(4, ⟨[cI .i64 s.e, cI .i64 (if view > s.v then view else s.v), cI .i64 s.l, .ints .u8 32 s.d], 25⟩)]) (by kernel_rfl) ?_
  refine wo_nil ?_
  refine we_then ?_
  refine wc_ret ?_
  refine we_ret (.inl rfl) (v := eA [cI .i64 s.e, cI .i64 (if view > s.v then view else s.v), cI .i64 s.l, .ints .u8 32 s.d]) (by kernel_rfl) ?_
  intro ρ' w' hf
  refine ⟨?_, hf.below noS⟩
  exact congrArg (fun x => Ending.returned (EV.conc ρ (eS x))) (giveUp_v s view)

set_option maxHeartbeats 4000000 in
theorem see_any (s : Safe) (hs : s.ok) (view : Int) (D : List Int) (hD : D.length = 32) (w : World) (ρ : Nat → Nat) :
    Calls Try.prog 42 ([.agg [cI .i64 s.e, cI .i64 s.v, cI .i64 s.l, .ints .u8 32 s.d], sI .i64 view, .agg [.ints .u8 32 D]].map (SV.conc ρ)).toArray w fun r w' => r = .returned (EV.conc ρ (eS (see s view D))) ∧ Below w.heap.size w w' := by
  refine calls_enter (vs := [.agg [cI .i64 s.e, cI .i64 s.v, cI .i64 s.l, .ints .u8 32 s.d], sI .i64 view, .agg [.ints .u8 32 D]]) (N := 16) [] ρ Try.func42 rfl rfl (Nat.le_of_ble_eq_true rfl) (okv_agg (okc_one (okc_one (okc_one (okc_ints (hs) (okc_nil))))) (okv_a (okv_agg (okc_ints (hD) (okc_nil)) (okv_nil)))) noH noH2 ?_ _ rfl
  refine wc_seq ?_
  refine wc_reg [0, 1, 2] (by kernel_rfl) ?_
  refine wo_run [0, 1] [1, 3, 5] [3, 5] (l' := [(1, eI .i64 view), (3, eL 3 0), (5, eL 5 0)]) (H' := [(3, ⟨[cI .i64 s.e, cI .i64 s.v, cI .i64 s.l, .ints .u8 32 s.d], 25⟩), (5, ⟨[.ints .u8 32 D], 23⟩)]) (by kernel_rfl) ?_
  refine wo_op rfl rfl (ot_alloc (d := 6) (cs := z25) rfl rfl z25_zero rfl z25_ok (fun _ => rfl)) ?_
  refine wo_nil ?_
  refine we_then ?_
  refine wc_seq ?_
  refine wc_seq ?_
  refine wc_reg [0, 1, 2, 3] (by kernel_rfl) ?_
  refine wo_run [0, 1, 2, 3] [1, 3, 5, 6, 10] [3, 5, 6] (l' := [(1, eI .i64 view), (3, eL 3 0), (5, eL 5 0), (6, eL 6 0), (10, eB (decide (view > s.l)))]) (H' := [(3, ⟨[cI .i64 s.e, cI .i64 s.v, cI .i64 s.l, .ints .u8 32 s.d], 25⟩), (5, ⟨[.ints .u8 32 D], 23⟩), (6, ⟨[cI .i64 0, cI .i64 0, cI .i64 0, .ints .u8 32 (List.replicate 32 0)], 25⟩)]) (by kernel_rfl) ?_
  refine wo_nil ?_
  refine we_then ?_
  refine wc_cond rfl (fun h1 => ?_) (fun h1 => ?_)
  · replace h1 := of_decide_eq_true h1
    refine wc_rest [1, 3, 5, 6] [3, 5, 6] (l' := [(1, eI .i64 view), (3, eL 3 0), (5, eL 5 0), (6, eL 6 0)]) (H' := [(3, ⟨[cI .i64 s.e, cI .i64 s.v, cI .i64 s.l, .ints .u8 32 s.d], 25⟩), (5, ⟨[.ints .u8 32 D], 23⟩), (6, ⟨[cI .i64 0, cI .i64 0, cI .i64 0, .ints .u8 32 (List.replicate 32 0)], 25⟩)]) (by kernel_rfl) ?_
    refine wc_draw (n := 6) [(5, ⟨[.ints .u8 32 D], 23⟩), (6, ⟨[cI .i64 0, cI .i64 0, cI .i64 0, .ints .u8 32 (List.replicate 32 0)], 25⟩)] (by kernel_rfl) rfl (sub_of [5, 6] (by kernel_rfl)) (fun ρ0 => ?_)
    refine wa_takes (fuel := 3) [0, 1, 2] [3, 6, 11, 12, 13] (listed' := #[true, true, true, false, false, false]) (l' := [(3, eL 3 0), (6, eL 6 0), (11, eI .i64 view), (12, eA [.ints .u8 32 D]), (13, eL 3 2)]) (pk_then pk_body) rfl (by kernel_rfl) ?_
    refine wa_all [3] (by kernel_rfl) rfl (all1 ?_)
    refine wi_op rfl rfl (ot_eff (l' := [(3, eL 3 0), (6, eL 6 0), (11, eI .i64 view), (12, eA [.ints .u8 32 D]), (13, eL 3 2)]) (H' := [(3, ⟨[cI .i64 s.e, cI .i64 s.v, cI .i64 view, .ints .u8 32 s.d], 25⟩), (5, ⟨[.ints .u8 32 D], 23⟩), (6, ⟨[cI .i64 0, cI .i64 0, cI .i64 0, .ints .u8 32 (List.replicate 32 0)], 25⟩)]) (by kernel_rfl)) (sub_of [5, 6] (by kernel_rfl)) ?_
    refine wa_takes (fuel := 1) [4] [3, 6, 12, 14] (listed' := #[true, true, true, true, true, false]) (l' := [(3, eL 3 0), (6, eL 6 0), (12, eA [.ints .u8 32 D]), (14, eL 3 3)]) (pk_then pk_body) rfl (by kernel_rfl) ?_
    refine wa_all [5] (by kernel_rfl) rfl (all1 ?_)
    refine wi_op rfl rfl (ot_eff (l' := [(3, eL 3 0), (6, eL 6 0), (12, eA [.ints .u8 32 D]), (14, eL 3 3)]) (H' := [(3, ⟨[cI .i64 s.e, cI .i64 s.v, cI .i64 view, .ints .u8 32 D], 25⟩), (5, ⟨[.ints .u8 32 D], 23⟩), (6, ⟨[cI .i64 0, cI .i64 0, cI .i64 0, .ints .u8 32 (List.replicate 32 0)], 25⟩)]) (by kernel_rfl)) (sub_of [5, 6] (by kernel_rfl)) ?_
    refine wa_done (by kernel_rfl) ?_
    refine we_rest [3, 6] [3, 6] (l' := [(3, eL 3 0), (6, eL 6 0)]) (H' := [(3, ⟨[cI .i64 s.e, cI .i64 s.v, cI .i64 view, .ints .u8 32 D], 25⟩), (6, ⟨[cI .i64 0, cI .i64 0, cI .i64 0, .ints .u8 32 (List.replicate 32 0)], 25⟩)]) (by kernel_rfl) (by kernel_rfl) ?_
    refine we_then ?_
    refine wc_seq ?_
    refine wc_reg [0, 1] (by kernel_rfl) ?_
    refine wo_run [0, 1] [6] [6] (l' := [(6, eL 6 0)]) (H' := [(6, ⟨[cI .i64 s.e, cI .i64 s.v, cI .i64 view, .ints .u8 32 D], 25⟩)]) (by kernel_rfl) ?_
    refine wo_nil ?_
    refine we_then ?_
    refine wc_ret ?_
    refine we_ret (.inl rfl) (v := eA [cI .i64 s.e, cI .i64 s.v, cI .i64 view, .ints .u8 32 D]) (by kernel_rfl) ?_
    intro ρ' w' hf
    refine ⟨?_, hf.below noS⟩
    simp only [see, *, if_true, if_false]; rfl
  · replace h1 := of_decide_eq_false h1
    refine wc_skip ?_
    refine we_then ?_
    refine wc_seq ?_
    refine wc_reg [0, 1] (by kernel_rfl) ?_
    refine wo_run [0, 1] [6] [6] (l' := [(6, eL 6 0)]) (H' := [(6, ⟨[cI .i64 s.e, cI .i64 s.v, cI .i64 s.l, .ints .u8 32 s.d], 25⟩)]) (by kernel_rfl) ?_
    refine wo_nil ?_
    refine we_then ?_
    refine wc_ret ?_
    refine we_ret (.inl rfl) (v := eA [cI .i64 s.e, cI .i64 s.v, cI .i64 s.l, .ints .u8 32 s.d]) (by kernel_rfl) ?_
    intro ρ' w' hf
    refine ⟨?_, hf.below noS⟩
    simp only [see, *, if_true, if_false]; rfl

set_option maxHeartbeats 4000000 in
theorem vote_any (s : Safe) (hs : s.ok) (view justify : Int) (x : Bool) (w : World) (ρ : Nat → Nat) :
    Calls Try.prog 22 ([.agg [cI .i64 s.e, cI .i64 s.v, cI .i64 s.l, .ints .u8 32 s.d], sI .i64 view, sI .i64 justify, sB x].map (SV.conc ρ)).toArray w fun r w' => r = .returned (EV.conc ρ (eSB (vote s view justify x))) ∧ Below w.heap.size w w' := by
  refine calls_enter (vs := [.agg [cI .i64 s.e, cI .i64 s.v, cI .i64 s.l, .ints .u8 32 s.d], sI .i64 view, sI .i64 justify, sB x]) (N := 33) [] ρ Try.func22 rfl rfl (Nat.le_of_ble_eq_true rfl) (okv_agg (okc_one (okc_one (okc_one (okc_ints (hs) (okc_nil))))) (okv_a (okv_a (okv_a (okv_nil))))) noH noH2 ?_ _ rfl
  refine wc_seq ?_
  refine wc_reg [0, 1, 2] (by kernel_rfl) ?_
  refine wo_run [0] [1, 2, 3, 4] [4] (l' := [(1, eI .i64 view), (2, eI .i64 justify), (3, eB x), (4, eL 4 0)]) (H' := [(4, ⟨[cI .i64 s.e, cI .i64 s.v, cI .i64 s.l, .ints .u8 32 s.d], 25⟩)]) (by kernel_rfl) ?_
  refine wo_op rfl rfl (ot_alloc (d := 8) (cs := z25) rfl rfl z25_zero rfl z25_ok (fun _ => rfl)) ?_
  refine wo_run [2] [1, 2, 3, 4, 8] [4, 8] (l' := [(1, eI .i64 view), (2, eI .i64 justify), (3, eB x), (4, eL 4 0), (8, eL 8 0)]) (H' := [(4, ⟨[cI .i64 s.e, cI .i64 s.v, cI .i64 s.l, .ints .u8 32 s.d], 25⟩), (8, ⟨[cI .i64 0, cI .i64 0, cI .i64 0, .ints .u8 32 (List.replicate 32 0)], 25⟩)]) (by kernel_rfl) ?_
  refine wo_nil ?_
  refine we_then ?_
  refine wc_seq ?_
  refine wc_seq ?_
  refine wc_reg [0, 1, 2, 3, 4, 5, 6, 7, 8, 9, 10, 11, 12, 13] (by kernel_rfl) ?_
  refine wo_run [0, 1, 2, 3, 4] [1, 2, 3, 4, 8, 15] [4, 8] (l' := [(1, eI .i64 view), (2, eI .i64 justify), (3, eB x), (4, eL 4 0), (8, eL 8 0), (15, eB (decide (view ≤ s.v)))]) (H' := [(4, ⟨[cI .i64 s.e, cI .i64 s.v, cI .i64 s.l, .ints .u8 32 s.d], 25⟩), (8, ⟨[cI .i64 0, cI .i64 0, cI .i64 0, .ints .u8 32 (List.replicate 32 0)], 25⟩)]) (by kernel_rfl) ?_
  refine wo_bool 15 rfl (fun h1 => ?_) (fun h1 => ?_)
  · replace h1 := of_decide_eq_true h1
    refine wo_run [5, 6, 7, 8, 9, 10, 11, 12, 13] [1, 4, 8, 24] [4, 8] (l' := [(1, eI .i64 view), (4, eL 4 0), (8, eL 8 0), (24, eB true)]) (H' := [(4, ⟨[cI .i64 s.e, cI .i64 s.v, cI .i64 s.l, .ints .u8 32 s.d], 25⟩), (8, ⟨[cI .i64 0, cI .i64 0, cI .i64 0, .ints .u8 32 (List.replicate 32 0)], 25⟩)]) (by kernel_rfl) ?_
    refine wo_nil ?_
    refine we_then ?_
    refine wc_true rfl ?_
    refine wc_seq ?_
    refine wc_reg [0, 1, 2] (by kernel_rfl) ?_
    refine wo_run [0, 1, 2] [8, 9] [8] (l' := [(8, eL 8 0), (9, eB false)]) (H' := [(8, ⟨[cI .i64 s.e, cI .i64 s.v, cI .i64 s.l, .ints .u8 32 s.d], 25⟩)]) (by kernel_rfl) ?_
    refine wo_nil ?_
    refine we_then ?_
    refine wc_ret ?_
    refine we_then_ret ?_
    refine we_ret (.inl rfl) (v := .t [.agg [cI .i64 s.e, cI .i64 s.v, cI .i64 s.l, .ints .u8 32 s.d], sB false]) (by kernel_rfl) ?_
    intro ρ' w' hf
    refine ⟨?_, hf.below noS⟩
    rw [show vote s view justify x = (s, false) from by unfold vote; rw [if_pos (by simp_all)]]
    rfl
  · replace h1 := of_decide_eq_false h1
    refine wo_run [5, 6, 7] [1, 2, 4, 8, 15, 18] [4, 8] (l' := [(1, eI .i64 view), (2, eI .i64 justify), (4, eL 4 0), (8, eL 8 0), (15, eB false), (18, eB (!x))]) (H' := [(4, ⟨[cI .i64 s.e, cI .i64 s.v, cI .i64 s.l, .ints .u8 32 s.d], 25⟩), (8, ⟨[cI .i64 0, cI .i64 0, cI .i64 0, .ints .u8 32 (List.replicate 32 0)], 25⟩)]) (by kernel_rfl) ?_
    refine wo_bool 18 rfl (fun h2 => ?_) (fun h2 => ?_)
    · replace h2 := not_t h2
      refine wo_run [8, 9, 10, 11, 12, 13] [1, 4, 8, 24] [4, 8] (l' := [(1, eI .i64 view), (4, eL 4 0), (8, eL 8 0), (24, eB (decide (justify ≤ s.l)))]) (H' := [(4, ⟨[cI .i64 s.e, cI .i64 s.v, cI .i64 s.l, .ints .u8 32 s.d], 25⟩), (8, ⟨[cI .i64 0, cI .i64 0, cI .i64 0, .ints .u8 32 (List.replicate 32 0)], 25⟩)]) (by kernel_rfl) ?_
      refine wo_nil ?_
      refine we_then ?_
      refine wc_cond rfl (fun h3 => ?_) (fun h3 => ?_)
      · replace h3 := of_decide_eq_true h3
        refine wc_seq ?_
        refine wc_reg [0, 1, 2] (by kernel_rfl) ?_
        refine wo_run [0, 1, 2] [8, 9] [8] (l' := [(8, eL 8 0), (9, eB false)]) (H' := [(8, ⟨[cI .i64 s.e, cI .i64 s.v, cI .i64 s.l, .ints .u8 32 s.d], 25⟩)]) (by kernel_rfl) ?_
        refine wo_nil ?_
        refine we_then ?_
        refine wc_ret ?_
        refine we_then_ret ?_
        refine we_ret (.inl rfl) (v := .t [.agg [cI .i64 s.e, cI .i64 s.v, cI .i64 s.l, .ints .u8 32 s.d], sB false]) (by kernel_rfl) ?_
        intro ρ' w' hf
        refine ⟨?_, hf.below noS⟩
        rw [show vote s view justify x = (s, false) from by unfold vote; rw [if_pos (by simp_all)]]
        rfl
      · replace h3 := of_decide_eq_false h3
        refine wc_skip ?_
        refine we_then ?_
        refine wc_seq ?_
        refine wc_reg [0, 1, 2, 3, 4] (by kernel_rfl) ?_
        refine wo_run [0, 1] [4, 8, 26, 27] [4, 8] (l' := [(4, eL 4 0), (8, eL 8 0), (26, eA [cI .i64 s.e, cI .i64 s.v, cI .i64 s.l, .ints .u8 32 s.d]), (27, eI .i64 view)]) (H' := [(4, ⟨[cI .i64 s.e, cI .i64 s.v, cI .i64 s.l, .ints .u8 32 s.d], 25⟩), (8, ⟨[cI .i64 0, cI .i64 0, cI .i64 0, .ints .u8 32 (List.replicate 32 0)], 25⟩)]) (by kernel_rfl) ?_
        refine wo_op rfl rfl (ot_call (vs := [.agg [cI .i64 s.e, cI .i64 s.v, cI .i64 s.l, .ints .u8 32 s.d], sI .i64 view]) rfl rfl rfl Try.func43 (by kernel_rfl) (by kernel_rfl) (by kernel_rfl) (eA [cI .i64 (giveUp s view).e, cI .i64 (giveUp s view).v, cI .i64 (giveUp s view).l, .ints .u8 32 ((giveUp s view).d)]) (okc_one (okc_one (okc_one (okc_ints (by (show Safe.ok _; repeat' (first | assumption | apply giveUp_ok | apply see_ok | apply vote_ok | apply doStep_ok | (simp [Safe.ok, Step.ok]; done)))) (okc_nil))))) (fun ρ w _ => giveUp_any s (hs) view w ρ)) ?_
        refine wo_op rfl rfl (ot_alloc (d := 10) (cs := z25) rfl rfl z25_zero rfl z25_ok (fun _ => rfl)) ?_
        refine wo_run [4] [4, 8, 10] [4, 8, 10] (l' := [(4, eL 4 0), (8, eL 8 0), (10, eL 10 0)]) (H' := [(4, ⟨[cI .i64 s.e, cI .i64 s.v, cI .i64 s.l, .ints .u8 32 s.d], 25⟩), (8, ⟨[cI .i64 0, cI .i64 0, cI .i64 0, .ints .u8 32 (List.replicate 32 0)], 25⟩), (10, ⟨[cI .i64 (giveUp s view).e, cI .i64 (giveUp s view).v, cI .i64 (giveUp s view).l, .ints .u8 32 ((giveUp s view).d)], 25⟩)]) (by kernel_rfl) ?_
        refine wo_nil ?_
        refine we_then ?_
        refine wc_seq ?_
        refine wc_draw (n := 6) [(4, ⟨[cI .i64 s.e, cI .i64 s.v, cI .i64 s.l, .ints .u8 32 s.d], 25⟩), (10, ⟨[cI .i64 (giveUp s view).e, cI .i64 (giveUp s view).v, cI .i64 (giveUp s view).l, .ints .u8 32 ((giveUp s view).d)], 25⟩)] (by kernel_rfl) rfl (sub_of [4, 10] (by kernel_rfl)) (fun ρ0 => ?_)
        refine wa_takes (fuel := 3) [0, 1, 2] [8, 29, 30, 31] (listed' := #[true, true, true, false, false, false]) (l' := [(8, eL 8 0), (29, eA [cI .i64 (giveUp s view).e, cI .i64 (giveUp s view).v, cI .i64 (giveUp s view).l, .ints .u8 32 ((giveUp s view).d)]), (30, eA [cI .i64 (giveUp s view).e, cI .i64 (giveUp s view).v, cI .i64 (giveUp s view).l, .ints .u8 32 ((giveUp s view).d)]), (31, eA [cI .i64 s.e, cI .i64 s.v, cI .i64 s.l, .ints .u8 32 s.d])]) (pk_then pk_body) rfl (by kernel_rfl) ?_
        refine wa_take 3 (pk_then pk_body) rfl (by kernel_rfl) rfl rfl (rd_eq (b := (((giveUp s view).e == s.e) && (((giveUp s view).v == s.v) && (((giveUp s view).l == s.l) && (((giveUp s view).d == s.d) && true))))) 9 (!(((giveUp s view).e == s.e) && (((giveUp s view).v == s.v) && (((giveUp s view).l == s.l) && (((giveUp s view).d == s.d) && true))))) rfl rfl rfl (by kernel_rfl) rfl (by kernel_rfl) (.inr ⟨rfl, rfl⟩)) ?_
        refine wa_all [4] (by kernel_rfl) rfl (all1 ?_)
        refine wi_op rfl rfl (ot_eff (l' := [(32, eB (!(((giveUp s view).e == s.e) && (((giveUp s view).v == s.v) && (((giveUp s view).l == s.l) && (((giveUp s view).d == s.d) && true)))))), (8, eL 8 0), (29, eA [cI .i64 (giveUp s view).e, cI .i64 (giveUp s view).v, cI .i64 (giveUp s view).l, .ints .u8 32 ((giveUp s view).d)]), (30, eA [cI .i64 (giveUp s view).e, cI .i64 (giveUp s view).v, cI .i64 (giveUp s view).l, .ints .u8 32 ((giveUp s view).d)]), (31, eA [cI .i64 s.e, cI .i64 s.v, cI .i64 s.l, .ints .u8 32 s.d])]) (H' := [(4, ⟨[cI .i64 s.e, cI .i64 s.v, cI .i64 s.l, .ints .u8 32 s.d], 25⟩), (8, ⟨[cI .i64 (giveUp s view).e, cI .i64 (giveUp s view).v, cI .i64 (giveUp s view).l, .ints .u8 32 ((giveUp s view).d)], 25⟩), (10, ⟨[cI .i64 (giveUp s view).e, cI .i64 (giveUp s view).v, cI .i64 (giveUp s view).l, .ints .u8 32 ((giveUp s view).d)], 25⟩)]) (by kernel_rfl)) (sub_of [4, 10] (by kernel_rfl)) ?_
        refine wa_takes (fuel := 0) [5] [8, 9] (listed' := #[true, true, true, true, true, true]) (l' := [(8, eL 8 0), (9, eB (!(((giveUp s view).e == s.e) && (((giveUp s view).v == s.v) && (((giveUp s view).l == s.l) && (((giveUp s view).d == s.d) && true))))))]) (pk_then pk_body) rfl (by kernel_rfl) ?_
        refine wa_done (by kernel_rfl) ?_
        refine we_rest [8, 9] [8] (l' := [(8, eL 8 0), (9, eB (!(((giveUp s view).e == s.e) && (((giveUp s view).v == s.v) && (((giveUp s view).l == s.l) && (((giveUp s view).d == s.d) && true))))))]) (H' := [(8, ⟨[cI .i64 (giveUp s view).e, cI .i64 (giveUp s view).v, cI .i64 (giveUp s view).l, .ints .u8 32 ((giveUp s view).d)], 25⟩)]) (by kernel_rfl) (by kernel_rfl) ?_
        refine we_then ?_
        refine wc_ret ?_
        refine we_ret (.inl rfl) (v := .t [.agg [cI .i64 (giveUp s view).e, cI .i64 (giveUp s view).v, cI .i64 (giveUp s view).l, .ints .u8 32 ((giveUp s view).d)], sB (!(((giveUp s view).e == s.e) && (((giveUp s view).v == s.v) && (((giveUp s view).l == s.l) && (((giveUp s view).d == s.d) && true)))))]) (by kernel_rfl) ?_
        intro ρ' w' hf
        refine ⟨?_, hf.below noS⟩
        have hv : view > s.v := by omega
        rw [show vote s view justify x = (giveUp s view, true) from by unfold vote; rw [if_neg (by simp_all)]; simp only [giveUp, if_pos hv]]
        rw [giveUp_ne s view hv]
        rfl
    · replace h2 := not_f h2
      refine wo_run [8, 9, 10, 11, 12, 13] [1, 4, 8, 24] [4, 8] (l' := [(1, eI .i64 view), (4, eL 4 0), (8, eL 8 0), (24, eB false)]) (H' := [(4, ⟨[cI .i64 s.e, cI .i64 s.v, cI .i64 s.l, .ints .u8 32 s.d], 25⟩), (8, ⟨[cI .i64 0, cI .i64 0, cI .i64 0, .ints .u8 32 (List.replicate 32 0)], 25⟩)]) (by kernel_rfl) ?_
      refine wo_nil ?_
      refine we_then ?_
      refine wc_false rfl ?_
      refine wc_skip ?_
      refine we_then ?_
      refine wc_seq ?_
      refine wc_reg [0, 1, 2, 3, 4] (by kernel_rfl) ?_
      refine wo_run [0, 1] [4, 8, 26, 27] [4, 8] (l' := [(4, eL 4 0), (8, eL 8 0), (26, eA [cI .i64 s.e, cI .i64 s.v, cI .i64 s.l, .ints .u8 32 s.d]), (27, eI .i64 view)]) (H' := [(4, ⟨[cI .i64 s.e, cI .i64 s.v, cI .i64 s.l, .ints .u8 32 s.d], 25⟩), (8, ⟨[cI .i64 0, cI .i64 0, cI .i64 0, .ints .u8 32 (List.replicate 32 0)], 25⟩)]) (by kernel_rfl) ?_
      refine wo_op rfl rfl (ot_call (vs := [.agg [cI .i64 s.e, cI .i64 s.v, cI .i64 s.l, .ints .u8 32 s.d], sI .i64 view]) rfl rfl rfl Try.func43 (by kernel_rfl) (by kernel_rfl) (by kernel_rfl) (eA [cI .i64 (giveUp s view).e, cI .i64 (giveUp s view).v, cI .i64 (giveUp s view).l, .ints .u8 32 ((giveUp s view).d)]) (okc_one (okc_one (okc_one (okc_ints (by (show Safe.ok _; repeat' (first | assumption | apply giveUp_ok | apply see_ok | apply vote_ok | apply doStep_ok | (simp [Safe.ok, Step.ok]; done)))) (okc_nil))))) (fun ρ w _ => giveUp_any s (hs) view w ρ)) ?_
      refine wo_op rfl rfl (ot_alloc (d := 10) (cs := z25) rfl rfl z25_zero rfl z25_ok (fun _ => rfl)) ?_
      refine wo_run [4] [4, 8, 10] [4, 8, 10] (l' := [(4, eL 4 0), (8, eL 8 0), (10, eL 10 0)]) (H' := [(4, ⟨[cI .i64 s.e, cI .i64 s.v, cI .i64 s.l, .ints .u8 32 s.d], 25⟩), (8, ⟨[cI .i64 0, cI .i64 0, cI .i64 0, .ints .u8 32 (List.replicate 32 0)], 25⟩), (10, ⟨[cI .i64 (giveUp s view).e, cI .i64 (giveUp s view).v, cI .i64 (giveUp s view).l, .ints .u8 32 ((giveUp s view).d)], 25⟩)]) (by kernel_rfl) ?_
      refine wo_nil ?_
      refine we_then ?_
      refine wc_seq ?_
      refine wc_draw (n := 6) [(4, ⟨[cI .i64 s.e, cI .i64 s.v, cI .i64 s.l, .ints .u8 32 s.d], 25⟩), (10, ⟨[cI .i64 (giveUp s view).e, cI .i64 (giveUp s view).v, cI .i64 (giveUp s view).l, .ints .u8 32 ((giveUp s view).d)], 25⟩)] (by kernel_rfl) rfl (sub_of [4, 10] (by kernel_rfl)) (fun ρ0 => ?_)
      refine wa_takes (fuel := 3) [0, 1, 2] [8, 29, 30, 31] (listed' := #[true, true, true, false, false, false]) (l' := [(8, eL 8 0), (29, eA [cI .i64 (giveUp s view).e, cI .i64 (giveUp s view).v, cI .i64 (giveUp s view).l, .ints .u8 32 ((giveUp s view).d)]), (30, eA [cI .i64 (giveUp s view).e, cI .i64 (giveUp s view).v, cI .i64 (giveUp s view).l, .ints .u8 32 ((giveUp s view).d)]), (31, eA [cI .i64 s.e, cI .i64 s.v, cI .i64 s.l, .ints .u8 32 s.d])]) (pk_then pk_body) rfl (by kernel_rfl) ?_
      refine wa_take 3 (pk_then pk_body) rfl (by kernel_rfl) rfl rfl (rd_eq (b := (((giveUp s view).e == s.e) && (((giveUp s view).v == s.v) && (((giveUp s view).l == s.l) && (((giveUp s view).d == s.d) && true))))) 9 (!(((giveUp s view).e == s.e) && (((giveUp s view).v == s.v) && (((giveUp s view).l == s.l) && (((giveUp s view).d == s.d) && true))))) rfl rfl rfl (by kernel_rfl) rfl (by kernel_rfl) (.inr ⟨rfl, rfl⟩)) ?_
      refine wa_all [4] (by kernel_rfl) rfl (all1 ?_)
      refine wi_op rfl rfl (ot_eff (l' := [(32, eB (!(((giveUp s view).e == s.e) && (((giveUp s view).v == s.v) && (((giveUp s view).l == s.l) && (((giveUp s view).d == s.d) && true)))))), (8, eL 8 0), (29, eA [cI .i64 (giveUp s view).e, cI .i64 (giveUp s view).v, cI .i64 (giveUp s view).l, .ints .u8 32 ((giveUp s view).d)]), (30, eA [cI .i64 (giveUp s view).e, cI .i64 (giveUp s view).v, cI .i64 (giveUp s view).l, .ints .u8 32 ((giveUp s view).d)]), (31, eA [cI .i64 s.e, cI .i64 s.v, cI .i64 s.l, .ints .u8 32 s.d])]) (H' := [(4, ⟨[cI .i64 s.e, cI .i64 s.v, cI .i64 s.l, .ints .u8 32 s.d], 25⟩), (8, ⟨[cI .i64 (giveUp s view).e, cI .i64 (giveUp s view).v, cI .i64 (giveUp s view).l, .ints .u8 32 ((giveUp s view).d)], 25⟩), (10, ⟨[cI .i64 (giveUp s view).e, cI .i64 (giveUp s view).v, cI .i64 (giveUp s view).l, .ints .u8 32 ((giveUp s view).d)], 25⟩)]) (by kernel_rfl)) (sub_of [4, 10] (by kernel_rfl)) ?_
      refine wa_takes (fuel := 0) [5] [8, 9] (listed' := #[true, true, true, true, true, true]) (l' := [(8, eL 8 0), (9, eB (!(((giveUp s view).e == s.e) && (((giveUp s view).v == s.v) && (((giveUp s view).l == s.l) && (((giveUp s view).d == s.d) && true))))))]) (pk_then pk_body) rfl (by kernel_rfl) ?_
      refine wa_done (by kernel_rfl) ?_
      refine we_rest [8, 9] [8] (l' := [(8, eL 8 0), (9, eB (!(((giveUp s view).e == s.e) && (((giveUp s view).v == s.v) && (((giveUp s view).l == s.l) && (((giveUp s view).d == s.d) && true))))))]) (H' := [(8, ⟨[cI .i64 (giveUp s view).e, cI .i64 (giveUp s view).v, cI .i64 (giveUp s view).l, .ints .u8 32 ((giveUp s view).d)], 25⟩)]) (by kernel_rfl) (by kernel_rfl) ?_
      refine we_then ?_
      refine wc_ret ?_
      refine we_ret (.inl rfl) (v := .t [.agg [cI .i64 (giveUp s view).e, cI .i64 (giveUp s view).v, cI .i64 (giveUp s view).l, .ints .u8 32 ((giveUp s view).d)], sB (!(((giveUp s view).e == s.e) && (((giveUp s view).v == s.v) && (((giveUp s view).l == s.l) && (((giveUp s view).d == s.d) && true)))))]) (by kernel_rfl) ?_
      intro ρ' w' hf
      refine ⟨?_, hf.below noS⟩
      have hv : view > s.v := by omega
      rw [show vote s view justify x = (giveUp s view, true) from by unfold vote; rw [if_neg (by simp_all)]; simp only [giveUp, if_pos hv]]
      rw [giveUp_ne s view hv]
      rfl

set_option maxHeartbeats 4000000 in
theorem awake_any  (w : World) (ρ : Nat → Nat) :
    Calls Try.prog 15 ([].map (SV.conc ρ)).toArray w fun r w' => r = .returned (EV.conc ρ (eB true)) ∧ Below w.heap.size w w' := by
  refine calls_enter (vs := []) (N := 61) [] ρ Try.func15 rfl rfl (Nat.le_of_ble_eq_true rfl) (okv_nil) noH noH2 ?_ _ rfl
  refine wc_seq ?_
  refine wc_reg [0] (by kernel_rfl) ?_
  refine wo_run [0] [] [] (l' := []) (H' := []) (by kernel_rfl) ?_
  refine wo_nil ?_
  refine we_then ?_
  refine wc_seq ?_
  refine wc_reg [0, 1, 2] (by kernel_rfl) ?_
  refine wo_op rfl rfl (ot_rd rfl (rd_build (zc := z23) [.ints .u8 32 ((List.replicate 32 0).set 0 5)] rfl z23_zero' z23_ok (fun _ => rfl) (by kernel_rfl) (by kernel_rfl))) ?_
  refine wo_op rfl rfl (ot_alloc (d := 1) (cs := z23) rfl rfl z23_zero rfl z23_ok (fun _ => rfl)) ?_
  refine wo_run [2] [1] [1] (l' := [(1, eL 1 0)]) (H' := [(1, ⟨[.ints .u8 32 ((List.replicate 32 0).set 0 5)], 23⟩)]) (by kernel_rfl) ?_
  refine wo_nil ?_
  refine we_then ?_
  refine wc_seq ?_
  refine wc_reg [0, 1, 2, 3] (by kernel_rfl) ?_
  refine wo_run [0] [1, 11] [1] (l' := [(1, eL 1 0), (11, eA [.ints .u8 32 ((List.replicate 32 0).set 0 5)])]) (H' := [(1, ⟨[.ints .u8 32 ((List.replicate 32 0).set 0 5)], 23⟩)]) (by kernel_rfl) ?_
  refine wo_op rfl rfl (ot_call (vs := [sI .i64 3, .agg [.ints .u8 32 ((List.replicate 32 0).set 0 5)]]) rfl rfl rfl Try.func20 (by kernel_rfl) (by kernel_rfl) (by kernel_rfl) (eA [cI .i64 3, cI .i64 0, cI .i64 0, .ints .u8 32 ((List.replicate 32 0).set 0 5)]) (okc_one (okc_one (okc_one (okc_ints ((List.length_set ..).trans (List.length_replicate)) (okc_nil))))) (fun ρ w _ => new_any 3 ((List.replicate 32 0).set 0 5) ((List.length_set ..).trans (List.length_replicate)) w ρ)) ?_
  refine wo_op rfl rfl (ot_alloc (d := 2) (cs := z25) rfl rfl z25_zero rfl z25_ok (fun _ => rfl)) ?_
  refine wo_run [3] [1, 2] [1, 2] (l' := [(1, eL 1 0), (2, eL 2 0)]) (H' := [(1, ⟨[.ints .u8 32 ((List.replicate 32 0).set 0 5)], 23⟩), (2, ⟨[cI .i64 3, cI .i64 0, cI .i64 0, .ints .u8 32 ((List.replicate 32 0).set 0 5)], 25⟩)]) (by kernel_rfl) ?_
  refine wo_nil ?_
  refine we_then ?_
  refine wc_seq ?_
  refine wc_reg [0, 1, 2] (by kernel_rfl) ?_
  refine wo_op rfl rfl (ot_rd rfl (rd_build (zc := z25) [cI .i64 0, cI .i64 3, cI .i64 2, .ints .u8 32 (List.replicate 32 0)] rfl z25_zero' z25_ok (fun _ => rfl) (by kernel_rfl) (by kernel_rfl))) ?_
  refine wo_op rfl rfl (ot_alloc (d := 3) (cs := z25) rfl rfl z25_zero rfl z25_ok (fun _ => rfl)) ?_
  refine wo_run [2] [1, 2, 3] [1, 2, 3] (l' := [(1, eL 1 0), (2, eL 2 0), (3, eL 3 0)]) (H' := [(1, ⟨[.ints .u8 32 ((List.replicate 32 0).set 0 5)], 23⟩), (2, ⟨[cI .i64 3, cI .i64 0, cI .i64 0, .ints .u8 32 ((List.replicate 32 0).set 0 5)], 25⟩), (3, ⟨[cI .i64 0, cI .i64 3, cI .i64 2, .ints .u8 32 (List.replicate 32 0)], 25⟩)]) (by kernel_rfl) ?_
  refine wo_nil ?_
  refine we_then ?_
  refine wc_seq ?_
  refine wc_reg [0, 1, 2, 3, 4, 5, 6, 7] (by kernel_rfl) ?_
  refine wo_run [0] [1, 2, 3, 15] [1, 2, 3] (l' := [(1, eL 1 0), (2, eL 2 0), (3, eL 3 0), (15, eA [cI .i64 0, cI .i64 3, cI .i64 2, .ints .u8 32 (List.replicate 32 0)])]) (H' := [(1, ⟨[.ints .u8 32 ((List.replicate 32 0).set 0 5)], 23⟩), (2, ⟨[cI .i64 3, cI .i64 0, cI .i64 0, .ints .u8 32 ((List.replicate 32 0).set 0 5)], 25⟩), (3, ⟨[cI .i64 0, cI .i64 3, cI .i64 2, .ints .u8 32 (List.replicate 32 0)], 25⟩)]) (by kernel_rfl) ?_
  refine wo_op rfl rfl (ot_call (vs := [.agg [cI .i64 0, cI .i64 3, cI .i64 2, .ints .u8 32 (List.replicate 32 0)], sI .i64 4, sI .i64 1, sB true]) rfl rfl rfl Try.func22 (by kernel_rfl) (by kernel_rfl) (by kernel_rfl) (.t [.agg [cI .i64 (vote (⟨0, 3, 2, (List.replicate 32 0)⟩ : Safe) 4 1 true).1.e, cI .i64 (vote (⟨0, 3, 2, (List.replicate 32 0)⟩ : Safe) 4 1 true).1.v, cI .i64 (vote (⟨0, 3, 2, (List.replicate 32 0)⟩ : Safe) 4 1 true).1.l, .ints .u8 32 ((vote (⟨0, 3, 2, (List.replicate 32 0)⟩ : Safe) 4 1 true).1.d)], sB (vote (⟨0, 3, 2, (List.replicate 32 0)⟩ : Safe) 4 1 true).2]) (okv_agg (okc_one (okc_one (okc_one (okc_ints (by (show Safe.ok _; repeat' (first | assumption | apply giveUp_ok | apply see_ok | apply vote_ok | apply doStep_ok | (simp [Safe.ok, Step.ok]; done)))) (okc_nil))))) (okv_a (okv_nil))) (fun ρ w _ => vote_any (⟨0, 3, 2, (List.replicate 32 0)⟩ : Safe) (List.length_replicate) 4 1 true w ρ)) ?_
  refine wo_run [2, 3, 4] [1, 2, 3, 17, 18] [1, 2, 3] (l' := [(1, eL 1 0), (2, eL 2 0), (3, eL 3 0), (17, eA [cI .i64 (vote (⟨0, 3, 2, (List.replicate 32 0)⟩ : Safe) 4 1 true).1.e, cI .i64 (vote (⟨0, 3, 2, (List.replicate 32 0)⟩ : Safe) 4 1 true).1.v, cI .i64 (vote (⟨0, 3, 2, (List.replicate 32 0)⟩ : Safe) 4 1 true).1.l, .ints .u8 32 ((vote (⟨0, 3, 2, (List.replicate 32 0)⟩ : Safe) 4 1 true).1.d)]), (18, eB (vote (⟨0, 3, 2, (List.replicate 32 0)⟩ : Safe) 4 1 true).2)]) (H' := [(1, ⟨[.ints .u8 32 ((List.replicate 32 0).set 0 5)], 23⟩), (2, ⟨[cI .i64 3, cI .i64 0, cI .i64 0, .ints .u8 32 ((List.replicate 32 0).set 0 5)], 25⟩), (3, ⟨[cI .i64 0, cI .i64 3, cI .i64 2, .ints .u8 32 (List.replicate 32 0)], 25⟩)]) (by kernel_rfl) ?_
  refine wo_op rfl rfl (ot_alloc (d := 4) (cs := z25) rfl rfl z25_zero rfl z25_ok (fun _ => rfl)) ?_
  refine wo_run [6, 7] [1, 2, 3, 4, 5] [1, 2, 3, 4] (l' := [(1, eL 1 0), (2, eL 2 0), (3, eL 3 0), (4, eL 4 0), (5, eB (vote (⟨0, 3, 2, (List.replicate 32 0)⟩ : Safe) 4 1 true).2)]) (H' := [(1, ⟨[.ints .u8 32 ((List.replicate 32 0).set 0 5)], 23⟩), (2, ⟨[cI .i64 3, cI .i64 0, cI .i64 0, .ints .u8 32 ((List.replicate 32 0).set 0 5)], 25⟩), (3, ⟨[cI .i64 0, cI .i64 3, cI .i64 2, .ints .u8 32 (List.replicate 32 0)], 25⟩), (4, ⟨[cI .i64 (vote (⟨0, 3, 2, (List.replicate 32 0)⟩ : Safe) 4 1 true).1.e, cI .i64 (vote (⟨0, 3, 2, (List.replicate 32 0)⟩ : Safe) 4 1 true).1.v, cI .i64 (vote (⟨0, 3, 2, (List.replicate 32 0)⟩ : Safe) 4 1 true).1.l, .ints .u8 32 ((vote (⟨0, 3, 2, (List.replicate 32 0)⟩ : Safe) 4 1 true).1.d)], 25⟩)]) (by kernel_rfl) ?_
  refine wo_nil ?_
  refine we_then ?_
  refine wc_seq ?_
  refine wc_reg [0, 1, 2, 3, 4, 5, 6, 7] (by kernel_rfl) ?_
  refine wo_run [0] [1, 2, 3, 4, 5, 20] [1, 2, 3, 4] (l' := [(1, eL 1 0), (2, eL 2 0), (3, eL 3 0), (4, eL 4 0), (5, eB (vote (⟨0, 3, 2, (List.replicate 32 0)⟩ : Safe) 4 1 true).2), (20, eA [cI .i64 0, cI .i64 3, cI .i64 2, .ints .u8 32 (List.replicate 32 0)])]) (H' := [(1, ⟨[.ints .u8 32 ((List.replicate 32 0).set 0 5)], 23⟩), (2, ⟨[cI .i64 3, cI .i64 0, cI .i64 0, .ints .u8 32 ((List.replicate 32 0).set 0 5)], 25⟩), (3, ⟨[cI .i64 0, cI .i64 3, cI .i64 2, .ints .u8 32 (List.replicate 32 0)], 25⟩), (4, ⟨[cI .i64 (vote (⟨0, 3, 2, (List.replicate 32 0)⟩ : Safe) 4 1 true).1.e, cI .i64 (vote (⟨0, 3, 2, (List.replicate 32 0)⟩ : Safe) 4 1 true).1.v, cI .i64 (vote (⟨0, 3, 2, (List.replicate 32 0)⟩ : Safe) 4 1 true).1.l, .ints .u8 32 ((vote (⟨0, 3, 2, (List.replicate 32 0)⟩ : Safe) 4 1 true).1.d)], 25⟩)]) (by kernel_rfl) ?_
  refine wo_op rfl rfl (ot_call (vs := [.agg [cI .i64 0, cI .i64 3, cI .i64 2, .ints .u8 32 (List.replicate 32 0)], sI .i64 4, sI .i64 2, sB false]) rfl rfl rfl Try.func22 (by kernel_rfl) (by kernel_rfl) (by kernel_rfl) (.t [.agg [cI .i64 (vote (⟨0, 3, 2, (List.replicate 32 0)⟩ : Safe) 4 2 false).1.e, cI .i64 (vote (⟨0, 3, 2, (List.replicate 32 0)⟩ : Safe) 4 2 false).1.v, cI .i64 (vote (⟨0, 3, 2, (List.replicate 32 0)⟩ : Safe) 4 2 false).1.l, .ints .u8 32 ((vote (⟨0, 3, 2, (List.replicate 32 0)⟩ : Safe) 4 2 false).1.d)], sB (vote (⟨0, 3, 2, (List.replicate 32 0)⟩ : Safe) 4 2 false).2]) (okv_agg (okc_one (okc_one (okc_one (okc_ints (by (show Safe.ok _; repeat' (first | assumption | apply giveUp_ok | apply see_ok | apply vote_ok | apply doStep_ok | (simp [Safe.ok, Step.ok]; done)))) (okc_nil))))) (okv_a (okv_nil))) (fun ρ w _ => vote_any (⟨0, 3, 2, (List.replicate 32 0)⟩ : Safe) (List.length_replicate) 4 2 false w ρ)) ?_
  refine wo_run [2, 3, 4] [1, 2, 3, 4, 5, 22, 23] [1, 2, 3, 4] (l' := [(1, eL 1 0), (2, eL 2 0), (3, eL 3 0), (4, eL 4 0), (5, eB (vote (⟨0, 3, 2, (List.replicate 32 0)⟩ : Safe) 4 1 true).2), (22, eA [cI .i64 (vote (⟨0, 3, 2, (List.replicate 32 0)⟩ : Safe) 4 2 false).1.e, cI .i64 (vote (⟨0, 3, 2, (List.replicate 32 0)⟩ : Safe) 4 2 false).1.v, cI .i64 (vote (⟨0, 3, 2, (List.replicate 32 0)⟩ : Safe) 4 2 false).1.l, .ints .u8 32 ((vote (⟨0, 3, 2, (List.replicate 32 0)⟩ : Safe) 4 2 false).1.d)]), (23, eB (vote (⟨0, 3, 2, (List.replicate 32 0)⟩ : Safe) 4 2 false).2)]) (H' := [(1, ⟨[.ints .u8 32 ((List.replicate 32 0).set 0 5)], 23⟩), (2, ⟨[cI .i64 3, cI .i64 0, cI .i64 0, .ints .u8 32 ((List.replicate 32 0).set 0 5)], 25⟩), (3, ⟨[cI .i64 0, cI .i64 3, cI .i64 2, .ints .u8 32 (List.replicate 32 0)], 25⟩), (4, ⟨[cI .i64 (vote (⟨0, 3, 2, (List.replicate 32 0)⟩ : Safe) 4 1 true).1.e, cI .i64 (vote (⟨0, 3, 2, (List.replicate 32 0)⟩ : Safe) 4 1 true).1.v, cI .i64 (vote (⟨0, 3, 2, (List.replicate 32 0)⟩ : Safe) 4 1 true).1.l, .ints .u8 32 ((vote (⟨0, 3, 2, (List.replicate 32 0)⟩ : Safe) 4 1 true).1.d)], 25⟩)]) (by kernel_rfl) ?_
  refine wo_op rfl rfl (ot_alloc (d := 6) (cs := z25) rfl rfl z25_zero rfl z25_ok (fun _ => rfl)) ?_
  refine wo_run [6, 7] [1, 2, 3, 4, 5, 7] [1, 2, 3, 4] (l' := [(1, eL 1 0), (2, eL 2 0), (3, eL 3 0), (4, eL 4 0), (5, eB (vote (⟨0, 3, 2, (List.replicate 32 0)⟩ : Safe) 4 1 true).2), (7, eB (vote (⟨0, 3, 2, (List.replicate 32 0)⟩ : Safe) 4 2 false).2)]) (H' := [(1, ⟨[.ints .u8 32 ((List.replicate 32 0).set 0 5)], 23⟩), (2, ⟨[cI .i64 3, cI .i64 0, cI .i64 0, .ints .u8 32 ((List.replicate 32 0).set 0 5)], 25⟩), (3, ⟨[cI .i64 0, cI .i64 3, cI .i64 2, .ints .u8 32 (List.replicate 32 0)], 25⟩), (4, ⟨[cI .i64 (vote (⟨0, 3, 2, (List.replicate 32 0)⟩ : Safe) 4 1 true).1.e, cI .i64 (vote (⟨0, 3, 2, (List.replicate 32 0)⟩ : Safe) 4 1 true).1.v, cI .i64 (vote (⟨0, 3, 2, (List.replicate 32 0)⟩ : Safe) 4 1 true).1.l, .ints .u8 32 ((vote (⟨0, 3, 2, (List.replicate 32 0)⟩ : Safe) 4 1 true).1.d)], 25⟩)]) (by kernel_rfl) ?_
  refine wo_nil ?_
  refine we_then ?_
  refine wc_seq ?_
  refine wc_reg [0, 1, 2, 3, 4] (by kernel_rfl) ?_
  refine wo_run [0, 1] [1, 2, 3, 4, 5, 7, 24, 25] [1, 2, 3, 4] (l' := [(1, eL 1 0), (2, eL 2 0), (3, eL 3 0), (4, eL 4 0), (5, eB (vote (⟨0, 3, 2, (List.replicate 32 0)⟩ : Safe) 4 1 true).2), (7, eB (vote (⟨0, 3, 2, (List.replicate 32 0)⟩ : Safe) 4 2 false).2), (24, eA [cI .i64 0, cI .i64 3, cI .i64 2, .ints .u8 32 (List.replicate 32 0)]), (25, eA [.ints .u8 32 ((List.replicate 32 0).set 0 5)])]) (H' := [(1, ⟨[.ints .u8 32 ((List.replicate 32 0).set 0 5)], 23⟩), (2, ⟨[cI .i64 3, cI .i64 0, cI .i64 0, .ints .u8 32 ((List.replicate 32 0).set 0 5)], 25⟩), (3, ⟨[cI .i64 0, cI .i64 3, cI .i64 2, .ints .u8 32 (List.replicate 32 0)], 25⟩), (4, ⟨[cI .i64 (vote (⟨0, 3, 2, (List.replicate 32 0)⟩ : Safe) 4 1 true).1.e, cI .i64 (vote (⟨0, 3, 2, (List.replicate 32 0)⟩ : Safe) 4 1 true).1.v, cI .i64 (vote (⟨0, 3, 2, (List.replicate 32 0)⟩ : Safe) 4 1 true).1.l, .ints .u8 32 ((vote (⟨0, 3, 2, (List.replicate 32 0)⟩ : Safe) 4 1 true).1.d)], 25⟩)]) (by kernel_rfl) ?_
  refine wo_op rfl rfl (ot_call (vs := [.agg [cI .i64 0, cI .i64 3, cI .i64 2, .ints .u8 32 (List.replicate 32 0)], sI .i64 3, .agg [.ints .u8 32 ((List.replicate 32 0).set 0 5)]]) rfl rfl rfl Try.func42 (by kernel_rfl) (by kernel_rfl) (by kernel_rfl) (eA [cI .i64 (see (⟨0, 3, 2, (List.replicate 32 0)⟩ : Safe) 3 ((List.replicate 32 0).set 0 5)).e, cI .i64 (see (⟨0, 3, 2, (List.replicate 32 0)⟩ : Safe) 3 ((List.replicate 32 0).set 0 5)).v, cI .i64 (see (⟨0, 3, 2, (List.replicate 32 0)⟩ : Safe) 3 ((List.replicate 32 0).set 0 5)).l, .ints .u8 32 ((see (⟨0, 3, 2, (List.replicate 32 0)⟩ : Safe) 3 ((List.replicate 32 0).set 0 5)).d)]) (okc_one (okc_one (okc_one (okc_ints (by (show Safe.ok _; repeat' (first | assumption | apply giveUp_ok | apply see_ok | apply vote_ok | apply doStep_ok | (simp [Safe.ok, Step.ok]; done)))) (okc_nil))))) (fun ρ w _ => see_any (⟨0, 3, 2, (List.replicate 32 0)⟩ : Safe) (List.length_replicate) 3 ((List.replicate 32 0).set 0 5) ((List.length_set ..).trans (List.length_replicate)) w ρ)) ?_
  refine wo_op rfl rfl (ot_alloc (d := 8) (cs := z25) rfl rfl z25_zero rfl z25_ok (fun _ => rfl)) ?_
  refine wo_run [4] [1, 2, 3, 4, 5, 7, 8] [1, 2, 3, 4, 8] (l' := [(1, eL 1 0), (2, eL 2 0), (3, eL 3 0), (4, eL 4 0), (5, eB (vote (⟨0, 3, 2, (List.replicate 32 0)⟩ : Safe) 4 1 true).2), (7, eB (vote (⟨0, 3, 2, (List.replicate 32 0)⟩ : Safe) 4 2 false).2), (8, eL 8 0)]) (H' := [(1, ⟨[.ints .u8 32 ((List.replicate 32 0).set 0 5)], 23⟩), (2, ⟨[cI .i64 3, cI .i64 0, cI .i64 0, .ints .u8 32 ((List.replicate 32 0).set 0 5)], 25⟩), (3, ⟨[cI .i64 0, cI .i64 3, cI .i64 2, .ints .u8 32 (List.replicate 32 0)], 25⟩), (4, ⟨[cI .i64 (vote (⟨0, 3, 2, (List.replicate 32 0)⟩ : Safe) 4 1 true).1.e, cI .i64 (vote (⟨0, 3, 2, (List.replicate 32 0)⟩ : Safe) 4 1 true).1.v, cI .i64 (vote (⟨0, 3, 2, (List.replicate 32 0)⟩ : Safe) 4 1 true).1.l, .ints .u8 32 ((vote (⟨0, 3, 2, (List.replicate 32 0)⟩ : Safe) 4 1 true).1.d)], 25⟩), (8, ⟨[cI .i64 (see (⟨0, 3, 2, (List.replicate 32 0)⟩ : Safe) 3 ((List.replicate 32 0).set 0 5)).e, cI .i64 (see (⟨0, 3, 2, (List.replicate 32 0)⟩ : Safe) 3 ((List.replicate 32 0).set 0 5)).v, cI .i64 (see (⟨0, 3, 2, (List.replicate 32 0)⟩ : Safe) 3 ((List.replicate 32 0).set 0 5)).l, .ints .u8 32 ((see (⟨0, 3, 2, (List.replicate 32 0)⟩ : Safe) 3 ((List.replicate 32 0).set 0 5)).d)], 25⟩)]) (by kernel_rfl) ?_
  refine wo_nil ?_
  refine we_then ?_
  refine wc_seq ?_
  refine wc_reg [0, 1, 2, 3] (by kernel_rfl) ?_
  refine wo_run [0] [1, 2, 4, 5, 7, 8, 27] [1, 2, 4, 8] (l' := [(1, eL 1 0), (2, eL 2 0), (4, eL 4 0), (5, eB (vote (⟨0, 3, 2, (List.replicate 32 0)⟩ : Safe) 4 1 true).2), (7, eB (vote (⟨0, 3, 2, (List.replicate 32 0)⟩ : Safe) 4 2 false).2), (8, eL 8 0), (27, eA [cI .i64 0, cI .i64 3, cI .i64 2, .ints .u8 32 (List.replicate 32 0)])]) (H' := [(1, ⟨[.ints .u8 32 ((List.replicate 32 0).set 0 5)], 23⟩), (2, ⟨[cI .i64 3, cI .i64 0, cI .i64 0, .ints .u8 32 ((List.replicate 32 0).set 0 5)], 25⟩), (4, ⟨[cI .i64 (vote (⟨0, 3, 2, (List.replicate 32 0)⟩ : Safe) 4 1 true).1.e, cI .i64 (vote (⟨0, 3, 2, (List.replicate 32 0)⟩ : Safe) 4 1 true).1.v, cI .i64 (vote (⟨0, 3, 2, (List.replicate 32 0)⟩ : Safe) 4 1 true).1.l, .ints .u8 32 ((vote (⟨0, 3, 2, (List.replicate 32 0)⟩ : Safe) 4 1 true).1.d)], 25⟩), (8, ⟨[cI .i64 (see (⟨0, 3, 2, (List.replicate 32 0)⟩ : Safe) 3 ((List.replicate 32 0).set 0 5)).e, cI .i64 (see (⟨0, 3, 2, (List.replicate 32 0)⟩ : Safe) 3 ((List.replicate 32 0).set 0 5)).v, cI .i64 (see (⟨0, 3, 2, (List.replicate 32 0)⟩ : Safe) 3 ((List.replicate 32 0).set 0 5)).l, .ints .u8 32 ((see (⟨0, 3, 2, (List.replicate 32 0)⟩ : Safe) 3 ((List.replicate 32 0).set 0 5)).d)], 25⟩)]) (by kernel_rfl) ?_
  refine wo_op rfl rfl (ot_call (vs := [.agg [cI .i64 0, cI .i64 3, cI .i64 2, .ints .u8 32 (List.replicate 32 0)], sI .i64 5]) rfl rfl rfl Try.func43 (by kernel_rfl) (by kernel_rfl) (by kernel_rfl) (eA [cI .i64 (giveUp (⟨0, 3, 2, (List.replicate 32 0)⟩ : Safe) 5).e, cI .i64 (giveUp (⟨0, 3, 2, (List.replicate 32 0)⟩ : Safe) 5).v, cI .i64 (giveUp (⟨0, 3, 2, (List.replicate 32 0)⟩ : Safe) 5).l, .ints .u8 32 ((giveUp (⟨0, 3, 2, (List.replicate 32 0)⟩ : Safe) 5).d)]) (okc_one (okc_one (okc_one (okc_ints (by (show Safe.ok _; repeat' (first | assumption | apply giveUp_ok | apply see_ok | apply vote_ok | apply doStep_ok | (simp [Safe.ok, Step.ok]; done)))) (okc_nil))))) (fun ρ w _ => giveUp_any (⟨0, 3, 2, (List.replicate 32 0)⟩ : Safe) (List.length_replicate) 5 w ρ)) ?_
  refine wo_op rfl rfl (ot_alloc (d := 9) (cs := z25) rfl rfl z25_zero rfl z25_ok (fun _ => rfl)) ?_
  refine wo_run [3] [1, 2, 4, 5, 7, 8, 9] [1, 2, 4, 8, 9] (l' := [(1, eL 1 0), (2, eL 2 0), (4, eL 4 0), (5, eB (vote (⟨0, 3, 2, (List.replicate 32 0)⟩ : Safe) 4 1 true).2), (7, eB (vote (⟨0, 3, 2, (List.replicate 32 0)⟩ : Safe) 4 2 false).2), (8, eL 8 0), (9, eL 9 0)]) (H' := [(1, ⟨[.ints .u8 32 ((List.replicate 32 0).set 0 5)], 23⟩), (2, ⟨[cI .i64 3, cI .i64 0, cI .i64 0, .ints .u8 32 ((List.replicate 32 0).set 0 5)], 25⟩), (4, ⟨[cI .i64 (vote (⟨0, 3, 2, (List.replicate 32 0)⟩ : Safe) 4 1 true).1.e, cI .i64 (vote (⟨0, 3, 2, (List.replicate 32 0)⟩ : Safe) 4 1 true).1.v, cI .i64 (vote (⟨0, 3, 2, (List.replicate 32 0)⟩ : Safe) 4 1 true).1.l, .ints .u8 32 ((vote (⟨0, 3, 2, (List.replicate 32 0)⟩ : Safe) 4 1 true).1.d)], 25⟩), (8, ⟨[cI .i64 (see (⟨0, 3, 2, (List.replicate 32 0)⟩ : Safe) 3 ((List.replicate 32 0).set 0 5)).e, cI .i64 (see (⟨0, 3, 2, (List.replicate 32 0)⟩ : Safe) 3 ((List.replicate 32 0).set 0 5)).v, cI .i64 (see (⟨0, 3, 2, (List.replicate 32 0)⟩ : Safe) 3 ((List.replicate 32 0).set 0 5)).l, .ints .u8 32 ((see (⟨0, 3, 2, (List.replicate 32 0)⟩ : Safe) 3 ((List.replicate 32 0).set 0 5)).d)], 25⟩), (9, ⟨[cI .i64 (giveUp (⟨0, 3, 2, (List.replicate 32 0)⟩ : Safe) 5).e, cI .i64 (giveUp (⟨0, 3, 2, (List.replicate 32 0)⟩ : Safe) 5).v, cI .i64 (giveUp (⟨0, 3, 2, (List.replicate 32 0)⟩ : Safe) 5).l, .ints .u8 32 ((giveUp (⟨0, 3, 2, (List.replicate 32 0)⟩ : Safe) 5).d)], 25⟩)]) (by kernel_rfl) ?_
  refine wo_nil ?_
  refine we_then ?_
  refine wc_seq ?_
  refine wc_reg [0, 1, 2, 3, 4, 5, 6, 7, 8, 9, 10, 11, 12, 13, 14, 15, 16, 17, 18, 19, 20, 21, 22, 23, 24, 25, 26, 27, 28, 29, 30, 31, 32] (by kernel_rfl) ?_
  refine wo_run [0, 1] [1, 4, 5, 7, 8, 9, 29, 30] [1, 4, 8, 9] (l' := [(1, eL 1 0), (4, eL 4 0), (5, eB (vote (⟨0, 3, 2, (List.replicate 32 0)⟩ : Safe) 4 1 true).2), (7, eB (vote (⟨0, 3, 2, (List.replicate 32 0)⟩ : Safe) 4 2 false).2), (8, eL 8 0), (9, eL 9 0), (29, eA [cI .i64 3, cI .i64 0, cI .i64 0, .ints .u8 32 ((List.replicate 32 0).set 0 5)]), (30, eA [.ints .u8 32 ((List.replicate 32 0).set 0 5)])]) (H' := [(1, ⟨[.ints .u8 32 ((List.replicate 32 0).set 0 5)], 23⟩), (4, ⟨[cI .i64 (vote (⟨0, 3, 2, (List.replicate 32 0)⟩ : Safe) 4 1 true).1.e, cI .i64 (vote (⟨0, 3, 2, (List.replicate 32 0)⟩ : Safe) 4 1 true).1.v, cI .i64 (vote (⟨0, 3, 2, (List.replicate 32 0)⟩ : Safe) 4 1 true).1.l, .ints .u8 32 ((vote (⟨0, 3, 2, (List.replicate 32 0)⟩ : Safe) 4 1 true).1.d)], 25⟩), (8, ⟨[cI .i64 (see (⟨0, 3, 2, (List.replicate 32 0)⟩ : Safe) 3 ((List.replicate 32 0).set 0 5)).e, cI .i64 (see (⟨0, 3, 2, (List.replicate 32 0)⟩ : Safe) 3 ((List.replicate 32 0).set 0 5)).v, cI .i64 (see (⟨0, 3, 2, (List.replicate 32 0)⟩ : Safe) 3 ((List.replicate 32 0).set 0 5)).l, .ints .u8 32 ((see (⟨0, 3, 2, (List.replicate 32 0)⟩ : Safe) 3 ((List.replicate 32 0).set 0 5)).d)], 25⟩), (9, ⟨[cI .i64 (giveUp (⟨0, 3, 2, (List.replicate 32 0)⟩ : Safe) 5).e, cI .i64 (giveUp (⟨0, 3, 2, (List.replicate 32 0)⟩ : Safe) 5).v, cI .i64 (giveUp (⟨0, 3, 2, (List.replicate 32 0)⟩ : Safe) 5).l, .ints .u8 32 ((giveUp (⟨0, 3, 2, (List.replicate 32 0)⟩ : Safe) 5).d)], 25⟩)]) (by kernel_rfl) ?_
  refine wo_op rfl rfl (ot_rd rfl (rd_build (zc := z25) [cI .i64 3, cI .i64 0, cI .i64 0, .ints .u8 32 ((List.replicate 32 0).set 0 5)] rfl z25_zero' z25_ok (fun _ => rfl) (by kernel_rfl) (by kernel_rfl))) ?_
  refine wo_op rfl rfl (ot_rd rfl (rd_eq (b := ((3 == 3) && ((0 == 0) && ((0 == 0) && ((((List.replicate 32 0).set 0 5) == ((List.replicate 32 0).set 0 5)) && true))))) 9 ((3 == 3) && ((0 == 0) && ((0 == 0) && ((((List.replicate 32 0).set 0 5) == ((List.replicate 32 0).set 0 5)) && true)))) rfl rfl rfl (by kernel_rfl) rfl (by kernel_rfl) (.inl ⟨rfl, rfl⟩))) ?_
  refine wo_run [4] [1, 4, 5, 7, 8, 9, 33] [1, 4, 8, 9] (l' := [(1, eL 1 0), (4, eL 4 0), (5, eB (vote (⟨0, 3, 2, (List.replicate 32 0)⟩ : Safe) 4 1 true).2), (7, eB (vote (⟨0, 3, 2, (List.replicate 32 0)⟩ : Safe) 4 2 false).2), (8, eL 8 0), (9, eL 9 0), (33, eB ((3 == 3) && ((0 == 0) && ((0 == 0) && ((((List.replicate 32 0).set 0 5) == ((List.replicate 32 0).set 0 5)) && true)))))]) (H' := [(1, ⟨[.ints .u8 32 ((List.replicate 32 0).set 0 5)], 23⟩), (4, ⟨[cI .i64 (vote (⟨0, 3, 2, (List.replicate 32 0)⟩ : Safe) 4 1 true).1.e, cI .i64 (vote (⟨0, 3, 2, (List.replicate 32 0)⟩ : Safe) 4 1 true).1.v, cI .i64 (vote (⟨0, 3, 2, (List.replicate 32 0)⟩ : Safe) 4 1 true).1.l, .ints .u8 32 ((vote (⟨0, 3, 2, (List.replicate 32 0)⟩ : Safe) 4 1 true).1.d)], 25⟩), (8, ⟨[cI .i64 (see (⟨0, 3, 2, (List.replicate 32 0)⟩ : Safe) 3 ((List.replicate 32 0).set 0 5)).e, cI .i64 (see (⟨0, 3, 2, (List.replicate 32 0)⟩ : Safe) 3 ((List.replicate 32 0).set 0 5)).v, cI .i64 (see (⟨0, 3, 2, (List.replicate 32 0)⟩ : Safe) 3 ((List.replicate 32 0).set 0 5)).l, .ints .u8 32 ((see (⟨0, 3, 2, (List.replicate 32 0)⟩ : Safe) 3 ((List.replicate 32 0).set 0 5)).d)], 25⟩), (9, ⟨[cI .i64 (giveUp (⟨0, 3, 2, (List.replicate 32 0)⟩ : Safe) 5).e, cI .i64 (giveUp (⟨0, 3, 2, (List.replicate 32 0)⟩ : Safe) 5).v, cI .i64 (giveUp (⟨0, 3, 2, (List.replicate 32 0)⟩ : Safe) 5).l, .ints .u8 32 ((giveUp (⟨0, 3, 2, (List.replicate 32 0)⟩ : Safe) 5).d)], 25⟩)]) (by kernel_rfl) ?_
  refine wo_is 33 true rfl (by decide) ?_
  refine wo_run [5, 6, 7] [1, 4, 7, 8, 9, 36] [1, 4, 8, 9] (l' := [(1, eL 1 0), (4, eL 4 0), (7, eB (vote (⟨0, 3, 2, (List.replicate 32 0)⟩ : Safe) 4 2 false).2), (8, eL 8 0), (9, eL 9 0), (36, eB (vote (⟨0, 3, 2, (List.replicate 32 0)⟩ : Safe) 4 1 true).2)]) (H' := [(1, ⟨[.ints .u8 32 ((List.replicate 32 0).set 0 5)], 23⟩), (4, ⟨[cI .i64 (vote (⟨0, 3, 2, (List.replicate 32 0)⟩ : Safe) 4 1 true).1.e, cI .i64 (vote (⟨0, 3, 2, (List.replicate 32 0)⟩ : Safe) 4 1 true).1.v, cI .i64 (vote (⟨0, 3, 2, (List.replicate 32 0)⟩ : Safe) 4 1 true).1.l, .ints .u8 32 ((vote (⟨0, 3, 2, (List.replicate 32 0)⟩ : Safe) 4 1 true).1.d)], 25⟩), (8, ⟨[cI .i64 (see (⟨0, 3, 2, (List.replicate 32 0)⟩ : Safe) 3 ((List.replicate 32 0).set 0 5)).e, cI .i64 (see (⟨0, 3, 2, (List.replicate 32 0)⟩ : Safe) 3 ((List.replicate 32 0).set 0 5)).v, cI .i64 (see (⟨0, 3, 2, (List.replicate 32 0)⟩ : Safe) 3 ((List.replicate 32 0).set 0 5)).l, .ints .u8 32 ((see (⟨0, 3, 2, (List.replicate 32 0)⟩ : Safe) 3 ((List.replicate 32 0).set 0 5)).d)], 25⟩), (9, ⟨[cI .i64 (giveUp (⟨0, 3, 2, (List.replicate 32 0)⟩ : Safe) 5).e, cI .i64 (giveUp (⟨0, 3, 2, (List.replicate 32 0)⟩ : Safe) 5).v, cI .i64 (giveUp (⟨0, 3, 2, (List.replicate 32 0)⟩ : Safe) 5).l, .ints .u8 32 ((giveUp (⟨0, 3, 2, (List.replicate 32 0)⟩ : Safe) 5).d)], 25⟩)]) (by kernel_rfl) ?_
  refine wo_is 36 true rfl (by decide) ?_
  refine wo_run [8, 9, 10, 11, 12] [1, 7, 8, 9, 41] [1, 8, 9] (l' := [(1, eL 1 0), (7, eB (vote (⟨0, 3, 2, (List.replicate 32 0)⟩ : Safe) 4 2 false).2), (8, eL 8 0), (9, eL 9 0), (41, eB ((vote (⟨0, 3, 2, (List.replicate 32 0)⟩ : Safe) 4 1 true).1.v == 4))]) (H' := [(1, ⟨[.ints .u8 32 ((List.replicate 32 0).set 0 5)], 23⟩), (8, ⟨[cI .i64 (see (⟨0, 3, 2, (List.replicate 32 0)⟩ : Safe) 3 ((List.replicate 32 0).set 0 5)).e, cI .i64 (see (⟨0, 3, 2, (List.replicate 32 0)⟩ : Safe) 3 ((List.replicate 32 0).set 0 5)).v, cI .i64 (see (⟨0, 3, 2, (List.replicate 32 0)⟩ : Safe) 3 ((List.replicate 32 0).set 0 5)).l, .ints .u8 32 ((see (⟨0, 3, 2, (List.replicate 32 0)⟩ : Safe) 3 ((List.replicate 32 0).set 0 5)).d)], 25⟩), (9, ⟨[cI .i64 (giveUp (⟨0, 3, 2, (List.replicate 32 0)⟩ : Safe) 5).e, cI .i64 (giveUp (⟨0, 3, 2, (List.replicate 32 0)⟩ : Safe) 5).v, cI .i64 (giveUp (⟨0, 3, 2, (List.replicate 32 0)⟩ : Safe) 5).l, .ints .u8 32 ((giveUp (⟨0, 3, 2, (List.replicate 32 0)⟩ : Safe) 5).d)], 25⟩)]) (by kernel_rfl) ?_
  refine wo_is 41 true rfl (by decide) ?_
  refine wo_run [13, 14, 15, 16] [1, 8, 9, 45] [1, 8, 9] (l' := [(1, eL 1 0), (8, eL 8 0), (9, eL 9 0), (45, eB (!(vote (⟨0, 3, 2, (List.replicate 32 0)⟩ : Safe) 4 2 false).2))]) (H' := [(1, ⟨[.ints .u8 32 ((List.replicate 32 0).set 0 5)], 23⟩), (8, ⟨[cI .i64 (see (⟨0, 3, 2, (List.replicate 32 0)⟩ : Safe) 3 ((List.replicate 32 0).set 0 5)).e, cI .i64 (see (⟨0, 3, 2, (List.replicate 32 0)⟩ : Safe) 3 ((List.replicate 32 0).set 0 5)).v, cI .i64 (see (⟨0, 3, 2, (List.replicate 32 0)⟩ : Safe) 3 ((List.replicate 32 0).set 0 5)).l, .ints .u8 32 ((see (⟨0, 3, 2, (List.replicate 32 0)⟩ : Safe) 3 ((List.replicate 32 0).set 0 5)).d)], 25⟩), (9, ⟨[cI .i64 (giveUp (⟨0, 3, 2, (List.replicate 32 0)⟩ : Safe) 5).e, cI .i64 (giveUp (⟨0, 3, 2, (List.replicate 32 0)⟩ : Safe) 5).v, cI .i64 (giveUp (⟨0, 3, 2, (List.replicate 32 0)⟩ : Safe) 5).l, .ints .u8 32 ((giveUp (⟨0, 3, 2, (List.replicate 32 0)⟩ : Safe) 5).d)], 25⟩)]) (by kernel_rfl) ?_
  refine wo_is 45 true rfl (by decide) ?_
  refine wo_run [17, 18, 19] [8, 9, 45, 47, 48] [8, 9] (l' := [(8, eL 8 0), (9, eL 9 0), (45, eB true), (47, eA [.ints .u8 32 ((see (⟨0, 3, 2, (List.replicate 32 0)⟩ : Safe) 3 ((List.replicate 32 0).set 0 5)).d)]), (48, eA [.ints .u8 32 ((List.replicate 32 0).set 0 5)])]) (H' := [(8, ⟨[cI .i64 (see (⟨0, 3, 2, (List.replicate 32 0)⟩ : Safe) 3 ((List.replicate 32 0).set 0 5)).e, cI .i64 (see (⟨0, 3, 2, (List.replicate 32 0)⟩ : Safe) 3 ((List.replicate 32 0).set 0 5)).v, cI .i64 (see (⟨0, 3, 2, (List.replicate 32 0)⟩ : Safe) 3 ((List.replicate 32 0).set 0 5)).l, .ints .u8 32 ((see (⟨0, 3, 2, (List.replicate 32 0)⟩ : Safe) 3 ((List.replicate 32 0).set 0 5)).d)], 25⟩), (9, ⟨[cI .i64 (giveUp (⟨0, 3, 2, (List.replicate 32 0)⟩ : Safe) 5).e, cI .i64 (giveUp (⟨0, 3, 2, (List.replicate 32 0)⟩ : Safe) 5).v, cI .i64 (giveUp (⟨0, 3, 2, (List.replicate 32 0)⟩ : Safe) 5).l, .ints .u8 32 ((giveUp (⟨0, 3, 2, (List.replicate 32 0)⟩ : Safe) 5).d)], 25⟩)]) (by kernel_rfl) ?_
  refine wo_op rfl rfl (ot_rd rfl (rd_eq (b := ((see (⟨0, 3, 2, (List.replicate 32 0)⟩ : Safe) 3 ((List.replicate 32 0).set 0 5)).d == ((List.replicate 32 0).set 0 5))) 9 ((see (⟨0, 3, 2, (List.replicate 32 0)⟩ : Safe) 3 ((List.replicate 32 0).set 0 5)).d == ((List.replicate 32 0).set 0 5)) rfl rfl rfl (by kernel_rfl) rfl (by kernel_rfl) (.inl ⟨rfl, rfl⟩))) ?_
  refine wo_run [21, 22] [8, 9, 51] [8, 9] (l' := [(8, eL 8 0), (9, eL 9 0), (51, eB ((see (⟨0, 3, 2, (List.replicate 32 0)⟩ : Safe) 3 ((List.replicate 32 0).set 0 5)).d == ((List.replicate 32 0).set 0 5)))]) (H' := [(8, ⟨[cI .i64 (see (⟨0, 3, 2, (List.replicate 32 0)⟩ : Safe) 3 ((List.replicate 32 0).set 0 5)).e, cI .i64 (see (⟨0, 3, 2, (List.replicate 32 0)⟩ : Safe) 3 ((List.replicate 32 0).set 0 5)).v, cI .i64 (see (⟨0, 3, 2, (List.replicate 32 0)⟩ : Safe) 3 ((List.replicate 32 0).set 0 5)).l, .ints .u8 32 ((see (⟨0, 3, 2, (List.replicate 32 0)⟩ : Safe) 3 ((List.replicate 32 0).set 0 5)).d)], 25⟩), (9, ⟨[cI .i64 (giveUp (⟨0, 3, 2, (List.replicate 32 0)⟩ : Safe) 5).e, cI .i64 (giveUp (⟨0, 3, 2, (List.replicate 32 0)⟩ : Safe) 5).v, cI .i64 (giveUp (⟨0, 3, 2, (List.replicate 32 0)⟩ : Safe) 5).l, .ints .u8 32 ((giveUp (⟨0, 3, 2, (List.replicate 32 0)⟩ : Safe) 5).d)], 25⟩)]) (by kernel_rfl) ?_
  refine wo_is 51 true rfl (by decide) ?_
  refine wo_run [23, 24, 25, 26, 27] [9, 56] [9] (l' := [(9, eL 9 0), (56, eB ((see (⟨0, 3, 2, (List.replicate 32 0)⟩ : Safe) 3 ((List.replicate 32 0).set 0 5)).l == 3))]) (H' := [(9, ⟨[cI .i64 (giveUp (⟨0, 3, 2, (List.replicate 32 0)⟩ : Safe) 5).e, cI .i64 (giveUp (⟨0, 3, 2, (List.replicate 32 0)⟩ : Safe) 5).v, cI .i64 (giveUp (⟨0, 3, 2, (List.replicate 32 0)⟩ : Safe) 5).l, .ints .u8 32 ((giveUp (⟨0, 3, 2, (List.replicate 32 0)⟩ : Safe) 5).d)], 25⟩)]) (by kernel_rfl) ?_
  refine wo_is 56 true rfl (by decide) ?_
  refine wo_run [28, 29, 30, 31, 32] [0] [] (l' := [(0, eB ((giveUp (⟨0, 3, 2, (List.replicate 32 0)⟩ : Safe) 5).v == 5))]) (H' := []) (by kernel_rfl) ?_
  refine wo_nil ?_
  refine we_then ?_
  refine wc_ret ?_
  refine we_ret (.inl rfl) (v := eB ((giveUp (⟨0, 3, 2, (List.replicate 32 0)⟩ : Safe) 5).v == 5)) (by kernel_rfl) ?_
  intro ρ' w' hf
  refine ⟨?_, hf.below noS⟩
  exact congrArg (fun b => Ending.returned (EV.conc ρ (eB b))) (by decide)

end Go.Proofs.Ytckhcmdjgkoocaa
