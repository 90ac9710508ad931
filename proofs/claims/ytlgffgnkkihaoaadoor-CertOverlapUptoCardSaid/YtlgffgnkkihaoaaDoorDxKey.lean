/- Keys of maps: numbers; structs and rows of numbers. -/
import Derived.Test.YtlgffgnkkihaoaaDoorDxWp
namespace Go.Dx
open Go.RowKit
set_option linter.unusedVariables false
set_option linter.unusedSimpArgs false
def atC : AS → Atom → List DC
  | .i k, .inl x => [.one (.v (.int k x))]
  | .s, .inr (.inl b) => [.one (.v (.string b))]
  | .b, .inr (.inr (.inl b)) => [.one (.v (.bool b))]
  | .r k n, .inr (.inr (.inr L)) => [.ints k n L]
  | _, _ => []
def kC : List AS → KK → List DC
  | q :: r, a :: s => match atC q a with
    | c :: _ => c :: kC r s
    | [] => kC r s
  | _, _ => []
theorem kC_rep {m : Mem} : ∀ {qs : List AS} {a : KK}, shQ qs a = true → CRep m (kC qs a) (kVs qs a)
  | [], [], _ => rfl
  | q :: r, a :: s, h => by
    simp only [shQ, Bool.and_eq_true] at h
    have ih := kC_rep (m := m) h.2
    cases q with
    | i k =>
      rcases a with a | a | a | a <;> simp [atB] at h
      exact ⟨_, _, rfl, rfl, rfl, ih⟩
    | s =>
      rcases a with a | a | a | a <;> simp [atB] at h
      exact ⟨_, _, rfl, rfl, rfl, ih⟩
    | b =>
      rcases a with a | a | a | a <;> simp [atB] at h
      exact ⟨_, _, rfl, rfl, rfl, ih⟩
    | r k n =>
      rcases a with a | a | a | a <;> simp [atB] at h
      exact ⟨_, rfl, h.1, ih⟩
  | [], _ :: _, h => by cases h
  | _ :: _, [], h => by cases h
theorem keyOk_int {P : Program} {kt : TypeId} {k : IntKind} (h : P.underlying kt = some (.int k)) : KeyOk P kt false [.i k] := fun a ha w => by
  have one : ∀ b : KK, shQ [.i k] b = true → ∃ x, kV false [.i k] b = .int k x := fun b hb => by
    match b, hb with
    | [.inl x], _ => exact ⟨x, rfl⟩
    | [.inr _], hb => simp [shQ, atB] at hb
    | [], hb => cases hb
    | _ :: _ :: _, hb => simp [shQ] at hb
  obtain ⟨x, hx⟩ := one a ha
  rw [hx]
  have hk : MapKept.IsKey (.int k) (.int k x) := rfl
  refine ⟨fun em => MapKept.run_checkKey h hk em 9999, by simp [Instr.sameBits], fun es hes => ?_⟩
  rcases MapKept.findNow_spec hk es 0 (fun e he => by
    obtain ⟨b, hb, e1⟩ := hes e he
    obtain ⟨y, hy⟩ := one b hb
    rw [e1, hy]; rfl) with ⟨f1, f2⟩ | ⟨j, e, f1, f2, f3⟩
  · exact .inl ⟨MapKept.run_findKey h f1, f2⟩
  · exact .inr ⟨j, e, by simpa using MapKept.run_findKey h f1, f2, f3⟩
theorem findAsking_run {P : Program} {kt : TypeId} {k : Value} {w : World} : ∀ (es : List MapEntry) (i : Nat), (∀ e ∈ es, ∃ b, (Op.equal kt k e.key).run P w = .ok b w ∧ (b = true → e.key = k) ∧ (b = false → e.key ≠ k)) →
    ((Instr.findAsking kt k es i).run P w = .ok none w ∧ ∀ e ∈ es, e.key ≠ k) ∨ ∃ (j : Nat) (e : MapEntry), (Instr.findAsking kt k es i).run P w = .ok (some (i + j, e.val)) w ∧ es[j]? = some e ∧ e.key = k
  | [], i, _ => .inl ⟨rfl, by simp⟩
  | e :: es, i, h => by
    obtain ⟨b, h1, h2, h3⟩ := h e (by simp)
    cases b with
    | true => exact .inr ⟨0, e, by simp [Instr.findAsking, h1], rfl, h2 rfl⟩
    | false =>
      rcases findAsking_run es (i + 1) (fun x hx => h x (by simp [hx])) with ⟨f1, f2⟩ | ⟨j, x, f1, f2, f3⟩
      · exact .inl ⟨by simp [Instr.findAsking, h1, f1], fun x hx => by
          rcases List.mem_cons.1 hx with rfl | hx
          · exact h3 rfl
          · exact f2 x hx⟩
      · exact .inr ⟨j + 1, x, by simp [Instr.findAsking, h1, f1]; omega, f2, f3⟩
theorem keyOk_agg {P : Program} {kt : TypeId} {qs : List AS} (hu : ∃ d, P.underlying kt = some d ∧ (∀ v : Array Value, ∀ u, Instr.sameNow d (.agg v) u = none))
    (hc : ∀ a, shQ qs a = true → ∀ em w, (Instr.checkKey em 10000 kt (kV true qs a)).run P w = .ok () w) (hs : ∀ a, shQ qs a = true → Instr.sameBits 10000 (kV true qs a) (kV true qs a) = true)
    (he : ∀ a b, shQ qs a = true → shQ qs b = true → eqV P 60 kt (.agg (upC (kC qs a))) (.agg (upC (kC qs b))) = some (decide (a = b))) : KeyOk P kt true qs := fun a ha w => by
  obtain ⟨d, hd, hsn⟩ := hu
  refine ⟨fun em => hc a ha em w, hs a ha, fun es hes => ?_⟩
  have heq : ∀ e ∈ es, ∃ b, (Op.equal kt (kV true qs a) e.key).run P w = .ok b w ∧ (b = true → e.key = kV true qs a) ∧ (b = false → e.key ≠ kV true qs a) := fun e hm => by
    obtain ⟨c, hcs, e1⟩ := hes e hm
    have r1 : ∀ k, shQ qs k = true → SRep ⟨w, fun _ => False⟩ (fun _ => loc1 0 0 0) (.agg (upC (kC qs k))) (kV true qs k) := fun k hk => ⟨_, rfl, upC_rep (kC_rep hk)⟩
    refine ⟨decide (a = c), ?_, fun h => ?_, fun h => ?_⟩
    · rw [e1]; exact eqV_run (r1 a ha) (r1 c hcs) (he a c ha hcs) _ (by decide) w
    · rw [e1, of_decide_eq_true h]
    · intro hk
      exact of_decide_eq_false h (kV_inj (ag := true) (qs := qs) rfl ha hcs (hk.symm.trans e1))
  have hrun : ∀ r, (Instr.findAsking kt (kV true qs a) es 0).run P w = .ok r w → (es = [] → r = none) → (Instr.findKey kt (kV true qs a) es).run P w = .ok r w := fun r hr hn => by
    cases es with
    | nil =>
      rw [hn rfl]
      exact MapKept.run_findKey hd rfl
    | cons e es =>
      have : Instr.findNow d (kV true qs a) (e :: es) 0 = none := by
        simp only [Instr.findNow, kV, hsn]
      simp [Instr.findKey, run_underlying hd, this, hr]
  rcases findAsking_run es 0 heq with ⟨f1, f2⟩ | ⟨j, e, f1, f2, f3⟩
  · exact .inl ⟨hrun _ f1 (fun _ => rfl), f2⟩
  · exact .inr ⟨j, e, hrun _ (by simpa using f1) (fun h => by subst h; simp at f2), f2, f3⟩
theorem MpEq.self {qs : List AS} {has : KK → Bool} {v : KK → AV} {rf : List Nat} (h : ∀ kk, (v kk).refs = []) : MpEq qs has has v v rf := ⟨fun _ => rfl, fun _ _ => rfl, fun kk k hk => by rw [h kk] at hk; cases hk⟩
theorem MpEq.of {qs : List AS} {has has' : KK → Bool} {v v' : KK → AV} {rf : List Nat} (h1 : ∀ kk, has kk = has' kk) (h2 : ∀ kk, shQ qs kk = true → v kk = v' kk) (h : ∀ kk, (v' kk).refs = []) : MpEq qs has has' v v' rf := ⟨h1, h2, fun kk k hk => by rw [h kk] at hk; cases hk⟩
end Go.Dx
