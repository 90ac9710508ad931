/- A run of four validators: what the three laws ask behind any moves. -/
import Derived.Test.YtckhcmdjgkoocaaRulesT
namespace Go.Proofs.Ytckhcmdjgkoocaa
open Go.RowKit Go.Sx
set_option linter.unusedVariables false
set_option linter.unusedSimpArgs false
theorem mwho_lt (m : Mv) : mwho m < 4 := by
  unfold mwho
  rcases who4 m.who with h | h | h | h <;> rw [h] <;> decide
/-! RulesView -/
theorem Good.view {r : Run} {cap : Nat} {rest : List Value} (hr : r.ok cap rest) (h : Good r) {i k : Nat} (hi : i < r.n) (hk : 1 ≤ k) (hki : k < i) (hv : (bk r.L i).view = (bk r.L k).view) (ci : certB r.L i = true) (ck : certB r.L k = true) : False := by
  have := hr.ln0
  have := h.1.view_one (i := i) (j := k) (by omega) (by omega) (by omega) (by omega) ci ck hv
  omega
/-! RulesAgree -/
/-- A block that is committed. -/
def Head (r : Run) (a : Nat) : Prop := 0 < a ∧ ∃ i, i < r.n ∧ firstI r.L i = (a : Int)
theorem first_facts {r : Run} {cap : Nat} {rest : List Value} (hr : r.ok cap rest) (h : Good r) {i a : Nat} (hi : i < r.n) (ha : 0 < a) (e : firstI r.L i = (a : Int)) :
    0 < i ∧ 0 < (bk r.L i).up ∧ (bk r.L (bk r.L i).up).up = a ∧ (bk r.L a).view + 1 = (bk r.L (bk r.L i).up).view ∧ (bk r.L (bk r.L i).up).view + 1 = (bk r.L i).view ∧ certB r.L i = true := by
  have hln := hr.ln0
  unfold firstI at e
  split at e
  · omega
  · rename_i h1
    split at e
    · omega
    · rename_i h2
      have ea : (bk r.L (bk r.L i).up).up = a := by omega
      have hil : i < r.L.length := by omega
      have hu := h.1.up_in hil
      have huu := h.1.up_in hu
      have b1 := h.2.vsm _ hu
      have b2 := h.2.vsm _ huu
      have c1 := h.1.vw0_le hu
      have c2 := h.1.vw0_le huu
      have h4 := h.2.n4
      have w1 := i64_of (a := (bk r.L (bk r.L i).up).view + 1) (by omega) (by omega)
      have w2 := i64_of (a := (bk r.L (bk r.L (bk r.L i).up).up).view + 1) (by omega) (by omega)
      rw [w1, w2] at h2
      have n1 : ¬ i = 0 := fun x => h1 (.inl x)
      have n2 : ¬ (bk r.L i).up = 0 := fun x => h1 (.inr (.inl x))
      have n3 : ¬ certB r.L i = false := fun x => h1 (.inr (.inr x))
      have n4 : (bk r.L (bk r.L (bk r.L i).up).up).view + 1 = (bk r.L (bk r.L i).up).view := Classical.byContradiction fun x => h2 (.inr (.inl x))
      have n5 : (bk r.L (bk r.L i).up).view + 1 = (bk r.L i).view := Classical.byContradiction fun x => h2 (.inr (.inr x))
      rw [ea] at n4
      refine ⟨by omega, by omega, ea, n4, n5, ?_⟩
      cases hc : certB r.L i with
      | true => rfl
      | false => exact absurd hc n3
theorem Head.lt {r : Run} {cap : Nat} {rest : List Value} (hr : r.ok cap rest) (h : Good r) {a : Nat} (ha : Head r a) : a < r.n := by
  obtain ⟨h0, i, hi, e⟩ := ha
  obtain ⟨a1, a2, a3, _⟩ := first_facts hr h hi h0 e
  have := hr.ln0
  have := h.1.up_in (h.1.up_in (i := i) (by omega))
  omega
theorem heads_agree {r : Run} {cap : Nat} {rest : List Value} (hr : r.ok cap rest) (h : Good r) {a b : Nat} (ha : Head r a) (hb : Head r b) : ext r.L a a b = true ∨ ext r.L b b a = true := by
  have hla := ha.lt hr h
  have hlb := hb.lt hr h
  have hln := hr.ln0
  obtain ⟨a0, i, hi, ei⟩ := ha
  obtain ⟨b0, j, hj, ej⟩ := hb
  obtain ⟨i1, i2, i3, i4, i5, i6⟩ := first_facts hr h hi a0 ei
  obtain ⟨j1, j2, j3, j4, j5, j6⟩ := first_facts hr h hj b0 ej
  have ca : certB r.L a = true := i3 ▸ h.1.cup _ i2 (h.1.up_in (by omega))
  have cb : certB r.L b = true := j3 ▸ h.1.cup _ j2 (h.1.up_in (by omega))
  rcases Int.le_total (bk r.L a).view (bk r.L b).view with hv | hv
  · exact .inr (h.1.agree i1 (by omega) i2 i3 a0 i4 i5 i6 b b (Nat.le_refl _) (by omega) cb hv)
  · exact .inl (h.1.agree j1 (by omega) j2 j3 b0 j4 j5 j6 a a (Nat.le_refl _) (by omega) ca hv)
/-! RulesGo -/
def pushR (r : Run) (u : Nat) (v : Int) : Run := ⟨r.n + 1, r.L ++ [⟨u, v, fun _ => false⟩], r.s0, r.s1, r.s2⟩
theorem push_ok {r : Run} {cap : Nat} {rest : List Value} (hr : r.ok cap rest) {u : Nat} {v : Int} (hu : u < r.n) (hs : r.n < 490) {cap1 : Nat} {rest1 : List Value} (hx : r.n + 1 ≤ cap1 ∧ cap1 ≤ maxLen ∧ rest1.length = (cap1 - (r.n + 1)) * 6) : (pushR r u v).ok cap1 rest1 := by
  obtain ⟨a1, a2, a3, a4, a5, a6, a7, a8, a9⟩ := hr
  exact ⟨wf_push a1 (by rw [a2]; exact hu), by simp [pushR, a2], hx.1, hx.2.1, hx.2.2, a6, a7, a8, by show r.n + 1 ≤ 490; omega⟩
theorem voteR_n (r : Run) (who b : Nat) : (voteR r who b).n = r.n := by
  unfold voteR setS; (repeat' split) <;> rfl
theorem voteR_votes {r : Run} {who b : Nat} {i k : Nat} (h : (bk r.L i).votes k = true) : (bk (voteR r who b).L i).votes k = true := by
  unfold voteR
  (repeat' split)
  · exact votes_set.2 (.inl h)
  · exact votes_set.2 (.inl h)
  · rw [setS_L]; exact h
theorem voteR_cert {r : Run} {who b i : Nat} (h : i ≠ b) : certB (voteR r who b).L i = certB r.L i := by
  unfold voteR
  (repeat' split)
  · exact cert_other h
  · exact cert_other h
  · rw [setS_L]
theorem voteR_other {r : Run} {who b k : Nat} (hw : who < 3) (hk : k < 3) (h : k ≠ who) : getS (voteR r who b) k = getS r k := by
  unfold voteR
  rw [if_neg (by omega)]
  split
  · rw [getS_set r hw hk, if_neg h]
  · rw [getS_set' r hw hk, if_neg h]
/-- A block on the greatest certified one is being voted for. -/
structure Vt (q : Run) (b p w : Nat) : Prop where
  inv : Inv q
  len : q.L.length ≤ 490
  b0 : 0 < b
  hb : b < q.L.length
  up : (bk q.L b).up = p
  mx : ∀ i, i < q.L.length → i ≠ b → certB q.L i = true → (bk q.L i).view ≤ (bk q.L p).view
  vs : ∀ k, k < 3 → w ≤ k → (getS q k).v < (bk q.L b).view
  vm : ∀ k, k < 3 → (getS q k).v ≤ (bk q.L b).view
  vd : ∀ k, k < w → (bk q.L b).votes k = true
theorem Vt.may {q : Run} {b p w : Nat} (h : Vt q b p w) {k : Nat} (hk : k < 3) (hw : w ≤ k) : (voteS q (getS q k) b).2 = true := by
  rw [voteS_eq]
  obtain ⟨c, g1, g2, g3, g4⟩ := h.inv.seeS hk h.hb
  have hv := h.vs k hk hw
  have hsv := seeS_v q (getS q k) b
  have hlen := h.len
  have hpl : p < q.L.length := h.up ▸ h.inv.up_in h.hb
  unfold vote
  split
  · rename_i hc
    exfalso
    rw [hsv] at hc
    rcases hc with hc | ⟨hc, hj⟩
    · omega
    rw [g2, lk_id (by omega)] at hc
    rw [g3, h.up] at hj
    by_cases hcb : c = b
    · subst hcb; rw [ext_self] at hc; exact absurd hc (by decide)
    have hm := h.mx c g1 hcb g4
    have hcp : c = p := by
      rcases Nat.eq_zero_or_pos c with rfl | c0
      · rcases Nat.eq_zero_or_pos p with rfl | p0
        · rfl
        · have := h.inv.vw_lt p0 hpl
          rw [h.inv.vw0] at hj; omega
      · have hcv := h.inv.vw_lt c0 g1
        have p0 : 0 < p := by
          rcases Nat.eq_zero_or_pos p with rfl | p0
          · rw [h.inv.vw0] at hm; omega
          · exact p0
        exact h.inv.view_one c0 p0 g1 hpl g4 (h.up ▸ h.inv.cup b h.b0 h.hb) (by omega)
    subst hcp
    rw [ext_of_up h.inv.wf h.hb h.b0 (by rw [h.up]; exact ext_self _ _)] at hc
    exact absurd hc (by decide)
  · rfl
theorem Vt.step {q : Run} {b p w : Nat} (h : Vt q b p w) (hw : w < 3) : Vt (voteR q w b) b p (w + 1) := by
  have hm := h.may hw (Nat.le_refl w)
  have hlen := voteR_len q w b
  constructor
  · exact h.inv.voteR h.len (by omega) h.b0 h.hb
  · rw [hlen]; exact h.len
  · exact h.b0
  · rw [hlen]; exact h.hb
  · rw [voteR_up]; exact h.up
  · intro i hi hib hc
    rw [hlen] at hi; rw [voteR_cert hib] at hc
    rw [voteR_view, voteR_view]
    exact h.mx i hi hib hc
  · intro k hk hwk
    rw [voteR_view, voteR_other hw hk (by omega)]
    exact h.vs k hk (by omega)
  · intro k hk
    rw [voteR_view]
    rcases voteR_v q (who := w) (by omega) b hk with e | e <;> rw [e]
    · exact h.vm k hk
    · exact Int.le_refl _
  · intro k hk
    by_cases hkw : k = w
    · subst hkw
      rw [voteR_yes (by omega) hm]
      exact votes_set.2 (.inr ⟨rfl, h.hb, rfl⟩)
    · exact voteR_votes (h.vd k (by omega))
theorem Vt.cert {q : Run} {b p : Nat} (h : Vt q b p 3) : certB q.L b = true :=
  cert_of (three_votes (h.vd 0 (by decide)) (h.vd 1 (by decide)) (h.vd 2 (by decide)))
/-- c rounds of three that work together lie behind. -/
structure GoI (r : Run) (best : Nat) (view : Int) (c : Nat) : Prop where
  inv : Inv r
  len : r.L.length ≤ 400 + c
  bl : best < r.L.length
  cb : certB r.L best = true
  mx : ∀ i, i < r.L.length → certB r.L i = true → (bk r.L i).view ≤ (bk r.L best).view
  vw : ∀ i, i < r.L.length → (bk r.L i).view ≤ view
  vs : ∀ k, k < 3 → (getS r k).v ≤ view
  small : view ≤ 1200 + c
  c3 : c ≤ 3
  e1 : 1 ≤ c → 0 < best ∧ (bk r.L best).view = view
  e2 : 2 ≤ c → 0 < (bk r.L best).up ∧ (bk r.L (bk r.L best).up).view + 1 = (bk r.L best).view
  e3 : 3 ≤ c → 0 < (bk r.L (bk r.L best).up).up ∧ (bk r.L (bk r.L (bk r.L best).up).up).view + 1 = (bk r.L (bk r.L best).up).view
theorem push_bk (r : Run) (u : Nat) (v : Int) (i : Nat) (h : i < r.L.length) : bk (pushR r u v).L i = bk r.L i := by
  show bk (r.L ++ [_]) i = _
  rw [bk_push, if_neg (by omega)]
theorem push_new (r : Run) (u : Nat) (v : Int) : bk (pushR r u v).L r.L.length = ⟨u, v, fun _ => false⟩ := by
  show bk (r.L ++ [_]) _ = _
  rw [bk_push, if_pos rfl]
theorem push_len (r : Run) (u : Nat) (v : Int) : (pushR r u v).L.length = r.L.length + 1 := by simp [pushR]
theorem push_S (r : Run) (u : Nat) (v : Int) (k : Nat) : getS (pushR r u v) k = getS r k := rfl
theorem GoI.start {r : Run} {best c : Nat} {view : Int} (h : GoI r best view c) : Vt (pushR r best (view + 1)) r.L.length best 0 := by
  have hl := h.len
  have hc3 := h.c3
  have h0 := h.inv.wf.1
  have hbv := h.vw best h.bl
  constructor
  · exact h.inv.push h.bl h.cb (by omega)
  · rw [push_len]; omega
  · exact h0
  · rw [push_len]; omega
  · rw [push_new]
  · intro i hi hib hc
    rw [push_len] at hi
    have hil : i < r.L.length := by omega
    rw [push_bk r _ _ i hil, push_bk r _ _ best h.bl]
    refine h.mx i hil ?_
    unfold certB at hc ⊢
    rw [push_bk r _ _ i hil] at hc
    exact hc
  · intro k hk _
    rw [push_S, push_new]
    have := h.vs k hk
    simp only []; omega
  · intro k hk
    rw [push_S, push_new]
    have := h.vs k hk
    simp only []; omega
  · intro k hk; omega
theorem GoI.step {r : Run} {best c : Nat} {view : Int} (h : GoI r best view c) (hc : c < 3) : GoI (voteR (voteR (voteR (pushR r best (view + 1)) 0 r.L.length) 1 r.L.length) 2 r.L.length) r.L.length (view + 1) (c + 1) := by
  have h3 := ((h.start.step (by decide)).step (by decide)).step (by decide)
  have hlen : (voteR (voteR (voteR (pushR r best (view + 1)) 0 r.L.length) 1 r.L.length) 2 r.L.length).L.length = r.L.length + 1 := by
    rw [voteR_len, voteR_len, voteR_len, push_len]
  have hl := h.len
  have hb : ∀ i, i < r.L.length → (bk (voteR (voteR (voteR (pushR r best (view + 1)) 0 r.L.length) 1 r.L.length) 2 r.L.length).L i).view = (bk r.L i).view ∧ (bk (voteR (voteR (voteR (pushR r best (view + 1)) 0 r.L.length) 1 r.L.length) 2 r.L.length).L i).up = (bk r.L i).up := fun i hi => by
    rw [voteR_view, voteR_view, voteR_view, voteR_up, voteR_up, voteR_up, push_bk r _ _ i hi]; exact ⟨rfl, rfl⟩
  have hn : (bk (voteR (voteR (voteR (pushR r best (view + 1)) 0 r.L.length) 1 r.L.length) 2 r.L.length).L r.L.length).view = view + 1 ∧ (bk (voteR (voteR (voteR (pushR r best (view + 1)) 0 r.L.length) 1 r.L.length) 2 r.L.length).L r.L.length).up = best := by
    rw [voteR_view, voteR_view, voteR_view, voteR_up, voteR_up, voteR_up, push_new]; exact ⟨rfl, rfl⟩
  have hup := h.inv.up_in h.bl
  have hsm := h.small
  constructor
  · exact h3.inv
  · rw [hlen]; omega
  · rw [hlen]; omega
  · exact h3.cert
  · intro i hi _
    rw [hlen] at hi
    rw [hn.1]
    rcases Nat.lt_or_ge i r.L.length with hl' | hl'
    · rw [(hb i hl').1]; have := h.vw i hl'; omega
    · obtain rfl : i = r.L.length := by omega
      rw [hn.1]; exact Int.le_refl _
  · intro i hi
    rw [hlen] at hi
    rcases Nat.lt_or_ge i r.L.length with hl' | hl'
    · rw [(hb i hl').1]; have := h.vw i hl'; omega
    · obtain rfl : i = r.L.length := by omega
      rw [hn.1]; exact Int.le_refl _
  · intro k hk
    have := h3.vm k hk
    rw [hn.1] at this; exact this
  · push_cast; omega
  · omega
  · intro _
    exact ⟨h.inv.wf.1, hn.1⟩
  · intro h2
    obtain ⟨g1, g2⟩ := h.e1 (by omega)
    rw [hn.2, (hb best h.bl).1, hn.1, g2]
    exact ⟨g1, rfl⟩
  · intro h2
    obtain ⟨g1, g2⟩ := h.e2 (by omega)
    rw [hn.2, (hb best h.bl).2, (hb best h.bl).1, (hb _ hup).1]
    exact ⟨g1, g2⟩
theorem GoI.last {r : Run} {best : Nat} {view : Int} (h : GoI r best view 3) : 0 < firstI r.L best := by
  obtain ⟨a1, a2⟩ := h.e1 (by decide)
  obtain ⟨b1, b2⟩ := h.e2 (by decide)
  obtain ⟨c1, c2⟩ := h.e3 (by decide)
  have hu := h.inv.up_in h.bl
  have huu := h.inv.up_in hu
  have d1 := h.vw _ hu
  have d2 := h.vw _ huu
  have d3 := h.inv.vw0_le hu
  have d4 := h.inv.vw0_le huu
  have hs := h.small
  have w1 := i64_of (a := (bk r.L (bk r.L best).up).view + 1) (by omega) (by omega)
  have w2 := i64_of (a := (bk r.L (bk r.L (bk r.L best).up).up).view + 1) (by omega) (by omega)
  have hc := h.cb
  unfold firstI
  rw [if_neg (by
    rintro (h1 | h1 | h1)
    · omega
    · omega
    · rw [hc] at h1; exact absurd h1 (by decide)), w1, w2, if_neg (by
    rintro (h1 | h1 | h1)
    · omega
    · exact h1 c2
    · exact h1 b2)]
  omega
/-- The greatest certified block, and a view that is not below any, among the first i. -/
structure Best (r : Run) (i best : Nat) (view : Int) : Prop where
  bl : best < r.L.length
  cb : certB r.L best = true
  mx : ∀ j, j < i → j < r.L.length → certB r.L j = true → (bk r.L j).view ≤ (bk r.L best).view
  vw : ∀ j, j < i → j < r.L.length → (bk r.L j).view ≤ view
  small : view ≤ 1200
theorem Best.zero {r : Run} (h : Good r) : Best r 0 0 0 := ⟨h.1.wf.1, cert_zero _, fun j hj => by omega, fun j hj => by omega, by decide⟩
theorem Best.next {r : Run} (h : Good r) {i best : Nat} {view : Int} (hb : Best r i best view) (hi : i < r.L.length) {best' : Nat} (hc : (best' = i ∧ certB r.L i = true ∧ (bk r.L i).view > (bk r.L best).view) ∨ (best' = best ∧ (certB r.L i = false ∨ ¬ (bk r.L i).view > (bk r.L best).view))) :
    Best r (i + 1) best' (if (bk r.L i).view > view then (bk r.L i).view else view) := by
  obtain ⟨a1, a2, a3, a4, a5⟩ := hb
  have hv := h.2.vsm i hi
  have h4 := h.2.n4
  have hview : ∀ j, j < i + 1 → j < r.L.length → (bk r.L j).view ≤ (if (bk r.L i).view > view then (bk r.L i).view else view) := fun j hj hjl => by
    by_cases e : j = i
    · subst e; split <;> omega
    · have := a4 j (by omega) hjl
      split <;> omega
  have hsm : (if (bk r.L i).view > view then (bk r.L i).view else view) ≤ 1200 := by split <;> omega
  rcases hc with ⟨rfl, c1, c2⟩ | ⟨rfl, c1⟩
  · refine ⟨hi, c1, fun j hj hjl hc => ?_, hview, hsm⟩
    by_cases e : j = best'
    · subst e; exact Int.le_refl _
    · have := a3 j (by omega) hjl hc
      omega
  · refine ⟨a1, a2, fun j hj hjl hc => ?_, hview, hsm⟩
    by_cases e : j = i
    · subst e
      rcases c1 with c1 | c1
      · rw [c1] at hc; exact absurd hc (by decide)
      · omega
    · exact a3 j (by omega) hjl hc
theorem Best.go {r : Run} (h : Good r) {best : Nat} {view v' : Int} (hb : Best r r.L.length best view) (h0 : view ≤ v') (h1 : ∀ k, k < 3 → (getS r k).v ≤ v') (h2 : v' ≤ 1200) : GoI r best v' 0 :=
  ⟨h.1, h.2.n4, hb.bl, hb.cb, fun i hi hc => hb.mx i hi hi hc, fun i hi => Int.le_trans (hb.vw i hi hi) h0, h1, by simpa using h2, by decide, fun x => by omega, fun x => by omega, fun x => by omega⟩
end Go.Proofs.Ytckhcmdjgkoocaa
