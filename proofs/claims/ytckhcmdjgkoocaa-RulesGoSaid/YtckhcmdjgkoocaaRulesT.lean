/- A run of four validators: what is always so stays so behind each move. -/
import Derived.Test.YtckhcmdjgkoocaaRulesS
namespace Go.Proofs.Ytckhcmdjgkoocaa
open Go.RowKit Go.Sx
set_option linter.unusedVariables false
set_option linter.unusedSimpArgs false
theorem votes_set {L : List Bk} {b k i j : Nat} : (bk (setVote L b k) i).votes j = true ↔ (bk L i).votes j = true ∨ (i = b ∧ b < L.length ∧ j = k) := by
  rw [bk_set]
  split
  · rename_i h
    obtain ⟨rfl, hl⟩ := h
    simp only []
    split
    · rename_i e; simp [e, hl]
    · rename_i e; simp [e]
  · rename_i h
    constructor
    · exact .inl
    · rintro (h1 | ⟨rfl, h1, _⟩)
      · exact h1
      · exact absurd ⟨rfl, h1⟩ h
theorem ext_set {L : List Bk} (hw : Wf L) (b k : Nat) {x : Nat} (hx : x < L.length) (c : Nat) : ext (setVote L b k) x x c = ext L x x c := ext_congr hw (fun i _ => up_set L b k i) c x x hx
theorem cert_set {L : List Bk} {b k x : Nat} (h : certB L x = true) : certB (setVote L b k) x = true := cert_mono (fun j hj => votes_set.2 (.inl hj)) h
theorem cert_other {L : List Bk} {b k x : Nat} (h : x ≠ b) : certB (setVote L b k) x = certB L x := by
  unfold certB
  rw [bk_set, if_neg (fun e => h e.1)]
theorem clean_set {L : List Bk} (hw : Wf L) {b k j x : Nat} (hx : x < L.length) (h : Clean L j x) (hn : j = k → (bk L x).view ≤ (bk L b).view) : Clean (setVote L b k) j x := by
  intro i hi hv hlt h0
  rw [setVote_len] at hi
  simp only [view_set, up_set] at hlt h0 ⊢
  rcases votes_set.1 hv with hv | ⟨rfl, hb, rfl⟩
  · rcases h i hi hv hlt h0 with h1 | ⟨c, h1, h2, h3, h4⟩
    · exact .inl h1
    · exact .inr ⟨c, h1, by rw [ext_set hw b k hx]; exact h2, cert_set h3, h4⟩
  · have := hn rfl
    omega
theorem Inv.voters_set {r : Run} (h : Inv r) {b k : Nat} (hb0 : 0 < b) (hb : b < r.L.length) (hk : k < 3 → (getS r k).v < (bk r.L b).view ∧ (certB r.L b = false → Clean r.L k b)) {x : Nat} (hx0 : 0 < x) (hx : x < r.L.length) : Voters (setVote r.L b k) x := by
  have old : ∀ j, j < 3 → (bk r.L x).votes j = true → Clean r.L j x → Clean (setVote r.L b k) j x := fun j hj hv hc =>
    clean_set h.wf hx hc (fun e => by
      subst e
      have h1 := (h.h j hj).hv x hx hv
      have h2 := (hk hj).1
      omega)
  rcases h.cl x hx0 hx with ⟨m, hm⟩ | ⟨hc, hm⟩
  · exact .inl ⟨m, fun j hj hjm => ⟨votes_set.2 (.inl (hm j hj hjm).1), fun h3 => old j h3 (hm j hj hjm).1 ((hm j hj hjm).2 h3)⟩⟩
  · by_cases hxb : x = b
    · subst hxb
      have all : ∀ j, j < 3 → (bk (setVote r.L x k) x).votes j = true → Clean (setVote r.L x k) j x := fun j hj hv => by
        rcases votes_set.1 hv with hv | ⟨_, _, rfl⟩
        · exact old j hj hv (hm j hj hv)
        · exact clean_set h.wf hx ((hk hj).2 hc) (fun _ => Int.le_refl _)
      cases hc' : certB (setVote r.L x k) x with
      | false => exact .inr ⟨hc', all⟩
      | true =>
        obtain ⟨m, h1⟩ := cert_three hx0 hc'
        exact .inl ⟨m, fun j hj hjm => ⟨h1 j hj hjm, fun h3 => all j h3 (h1 j hj hjm)⟩⟩
    · refine .inr ⟨by rw [cert_other hxb]; exact hc, fun j hj hv => ?_⟩
      rcases votes_set.1 hv with hv | ⟨e, _⟩
      · exact old j hj hv (hm j hj hv)
      · exact absurd e hxb
theorem HInv.set_other {L : List Bk} {s : Safe} {b k j : Nat} (h : HInv L s j) (hj : j ≠ k) : HInv (setVote L b k) s j := by
  have hv : ∀ i, (bk (setVote L b k) i).votes j = true → (bk L i).votes j = true := fun i hv => by
    rcases votes_set.1 hv with hv | ⟨_, _, e⟩
    · exact hv
    · exact absurd e hj
  obtain ⟨c, h1, h2, h3, h4⟩ := h.lock
  constructor
  · exact ⟨c, by rw [setVote_len]; exact h1, h2, by rw [view_set]; exact h3, cert_set h4⟩
  · intro i hi hh
    rw [setVote_len] at hi; rw [view_set]
    exact h.hv i hi (hv i hh)
  · intro i i' hi hi' hh hh' e
    rw [setVote_len] at hi hi'; rw [view_set, view_set] at e
    exact h.one i i' hi hi' (hv i hh) (hv i' hh') e
  · intro i hi hh h0
    rw [setVote_len] at hi; rw [up_set] at h0; simp only [view_set, up_set]
    exact h.lv i hi (hv i hh) h0
theorem HInv.set_self {L : List Bk} {s : Safe} {b k : Nat} (h : HInv L s k) (hs : s.v < (bk L b).view) (h4 : 0 < (bk L b).up → (bk L (bk L (bk L b).up).up).view ≤ s.l) : HInv (setVote L b k) ⟨s.e, (bk L b).view, s.l, s.d⟩ k := by
  have hv : ∀ i, (bk (setVote L b k) i).votes k = true → (bk L i).votes k = true ∨ i = b := fun i hv => by
    rcases votes_set.1 hv with hv | ⟨e, _, _⟩
    · exact .inl hv
    · exact .inr e
  obtain ⟨c, h1, h2, h3, h5⟩ := h.lock
  constructor
  · exact ⟨c, by rw [setVote_len]; exact h1, h2, by rw [view_set]; exact h3, cert_set h5⟩
  · intro i hi hh
    rw [setVote_len] at hi; rw [view_set]
    rcases hv i hh with hh | rfl
    · have := h.hv i hi hh
      simp only []; omega
    · exact Int.le_refl _
  · intro i i' hi hi' hh hh' e
    rw [setVote_len] at hi hi'; rw [view_set, view_set] at e
    rcases hv i hh with g | rfl
    · rcases hv i' hh' with g' | rfl
      · exact h.one i i' hi hi' g g' e
      · have := h.hv i hi g
        omega
    · rcases hv i' hh' with g' | rfl
      · have := h.hv i' hi' g'
        omega
      · rfl
  · intro i hi hh h0
    rw [setVote_len] at hi; rw [up_set] at h0; simp only [view_set, up_set]
    rcases hv i hh with hh | rfl
    · exact h.lv i hi hh h0
    · exact h4 h0
theorem getS_set (r : Run) {k j : Nat} (hk : k < 3) (hj : j < 3) (s : Safe) (L : List Bk) : getS { setS r k s with L := L } j = if j = k then s else getS r j := by
  have h1 : k = 0 ∨ k = 1 ∨ k = 2 := by omega
  have h2 : j = 0 ∨ j = 1 ∨ j = 2 := by omega
  rcases h1 with rfl | rfl | rfl <;> rcases h2 with rfl | rfl | rfl <;> rfl
theorem getS_set' (r : Run) {k j : Nat} (hk : k < 3) (hj : j < 3) (s : Safe) : getS (setS r k s) j = if j = k then s else getS r j := by
  have h1 : k = 0 ∨ k = 1 ∨ k = 2 := by omega
  have h2 : j = 0 ∨ j = 1 ∨ j = 2 := by omega
  rcases h1 with rfl | rfl | rfl <;> rcases h2 with rfl | rfl | rfl <;> rfl
theorem HInv.state {L : List Bk} {s s' : Safe} {k : Nat} (h : HInv L s k) (h1 : s.v ≤ s'.v) (h2 : s.l ≤ s'.l) (hl : ∃ b, b < L.length ∧ s'.d = idD b ∧ s'.l = (bk L b).view ∧ certB L b = true) : HInv L s' k :=
  ⟨hl, fun i hi hv => Int.le_trans (h.hv i hi hv) h1, h.one, fun i hi hv h0 => Int.le_trans (h.lv i hi hv h0) h2⟩
theorem Inv.state {r : Run} (h : Inv r) {k : Nat} (hk : k < 3) {s' : Safe} (h1 : (getS r k).v ≤ s'.v) (h2 : (getS r k).l ≤ s'.l) (hl : ∃ b, b < r.L.length ∧ s'.d = idD b ∧ s'.l = (bk r.L b).view ∧ certB r.L b = true) : Inv (setS r k s') := by
  obtain ⟨a1, a2, a3, a4, a5, a6⟩ := h
  have e := setS_L r k s'
  constructor
  · rw [e]; exact a1
  · rw [e]; exact a2
  · rw [e]; exact a3
  · rw [e]; exact a4
  · intro j hj
    rw [e, getS_set' r hk hj]
    split
    · rename_i hjk; subst hjk; exact (a5 j hj).state h1 h2 hl
    · exact a5 j hj
  · rw [e]; exact a6
theorem Inv.liar {r : Run} (h : Inv r) {b : Nat} (hb0 : 0 < b) (hb : b < r.L.length) : Inv { r with L := setVote r.L b 3 } := by
  constructor
  · exact wf_set h.wf _ _
  · show (bk (setVote r.L b 3) 0).view = 0
    rw [view_set]; exact h.vw0
  · intro i h0 hi
    simp only [view_set, up_set]
    exact h.vup i h0 (by simpa only [setVote_len] using hi)
  · intro i h0 hi
    simp only [up_set]
    exact cert_set (h.cup i h0 (by simpa only [setVote_len] using hi))
  · intro j hj
    exact (h.h j hj).set_other (by omega)
  · intro x h0 hx
    exact h.voters_set hb0 hb (fun h => by omega) h0 (by simpa only [setVote_len] using hx)
theorem Inv.honest {r : Run} (h : Inv r) (hn : r.L.length ≤ 490) {b k : Nat} (hk : k < 3) (hb0 : 0 < b) (hb : b < r.L.length) (hs : (getS r k).v < (bk r.L b).view) (h4 : 0 < (bk r.L b).up → (bk r.L (bk r.L (bk r.L b).up).up).view ≤ (getS r k).l)
    (h5 : (getS r k).l < (bk r.L (bk r.L b).up).view ∨ ext r.L b b (lk (getS r k).d) = true) : Inv { setS r k ⟨(getS r k).e, (bk r.L b).view, (getS r k).l, (getS r k).d⟩ with L := setVote r.L b k } := by
  constructor
  · exact wf_set h.wf _ _
  · show (bk (setVote r.L b k) 0).view = 0
    rw [view_set]; exact h.vw0
  · intro i h0 hi
    simp only [view_set, up_set]
    exact h.vup i h0 (by simpa only [setVote_len] using hi)
  · intro i h0 hi
    simp only [up_set]
    exact cert_set (h.cup i h0 (by simpa only [setVote_len] using hi))
  · intro j hj
    rw [getS_set r hk hj]
    show HInv (setVote r.L b k) _ j
    split
    · rename_i e; subst e; exact (h.h j hj).set_self hs h4
    · rename_i e; exact (h.h j hj).set_other e
  · intro x h0 hx
    refine h.voters_set hb0 hb (fun _ => ⟨hs, fun hc => ?_⟩) h0 (by simpa only [setVote_len] using hx)
    intro i hi hv hlt hu
    have hlv := (h.h k hk).lv i hi hv hu
    rcases h5 with h5 | h5
    · left; omega
    · right
      obtain ⟨c, g1, g2, g3, g4⟩ := (h.h k hk).lock
      rw [g2, lk_id (by omega)] at h5
      have hle := ext_le h5
      refine ⟨c, ?_, h5, g4, by omega⟩
      rcases Nat.lt_or_ge c b with hcb | hcb
      · exact hcb
      · exfalso
        obtain rfl : c = b := by omega
        rw [g4] at hc; exact absurd hc (by decide)
def seeS (r : Run) (s : Safe) (b : Nat) : Safe := if 0 < (bk r.L b).up then see s (bk r.L (bk r.L (bk r.L b).up).up).view (idD (bk r.L (bk r.L b).up).up) else s
theorem voteS_eq (r : Run) (s : Safe) (b : Nat) : voteS r s b = vote (seeS r s b) (bk r.L b).view (bk r.L (bk r.L b).up).view (ext r.L b b (lk (seeS r s b).d)) := rfl
theorem seeS_v (r : Run) (s : Safe) (b : Nat) : (seeS r s b).v = s.v := by
  unfold seeS see; (repeat' split) <;> rfl
theorem seeS_l (r : Run) (s : Safe) (b : Nat) : s.l ≤ (seeS r s b).l := by
  unfold seeS see; (repeat' split) <;> (try simp only []) <;> omega
theorem seeS_up (r : Run) (s : Safe) (b : Nat) (h : 0 < (bk r.L b).up) : (bk r.L (bk r.L (bk r.L b).up).up).view ≤ (seeS r s b).l := by
  unfold seeS see
  rw [if_pos h]
  split <;> (try simp only []) <;> omega
theorem Inv.seeS {r : Run} (h : Inv r) {b k : Nat} (hk : k < 3) (hb : b < r.L.length) : ∃ c, c < r.L.length ∧ (seeS r (getS r k) b).d = idD c ∧ (seeS r (getS r k) b).l = (bk r.L c).view ∧ certB r.L c = true := by
  unfold Proofs.Ytckhcmdjgkoocaa.seeS see
  split
  · rename_i hu
    split
    · have h1 := h.up_in hb
      exact ⟨_, h.up_in h1, rfl, rfl, h.cup _ hu h1⟩
    · exact (h.h k hk).lock
  · exact (h.h k hk).lock
theorem setS_set (r : Run) {k : Nat} (s t : Safe) : setS (setS r k s) k t = setS r k t := by
  unfold setS; (repeat' split) <;> rfl
theorem Inv.voteR {r : Run} (h : Inv r) (hn : r.L.length ≤ 490) {who b : Nat} (hw : who < 4) (hb0 : 0 < b) (hb : b < r.L.length) : Inv (voteR r who b) := by
  unfold Proofs.Ytckhcmdjgkoocaa.voteR
  split
  · exact h.liar hb0 hb
  · rename_i h3
    have hk : who < 3 := by omega
    have hg : getS (setS r who (Proofs.Ytckhcmdjgkoocaa.seeS r (getS r who) b)) who = Proofs.Ytckhcmdjgkoocaa.seeS r (getS r who) b := by rw [getS_set' r hk hk, if_pos rfl]
    have h1 : Inv (setS r who (Proofs.Ytckhcmdjgkoocaa.seeS r (getS r who) b)) := h.state hk (by rw [seeS_v]; exact Int.le_refl _) (seeS_l _ _ _) (h.seeS hk hb)
    have e := setS_L r who (Proofs.Ytckhcmdjgkoocaa.seeS r (getS r who) b)
    rw [voteS_eq]
    unfold vote
    split
    · rw [if_neg (by simp)]; exact h1
    · rename_i hc
      rw [if_pos rfl]
      have h2 := h1.honest (by rw [e]; exact hn) (b := b) (k := who) hk hb0 (by rw [e]; exact hb) (by rw [e, hg]; omega) (by rw [e, hg]; exact seeS_up _ _ _)
        (by
          rw [e, hg]
          cases hx : ext r.L b b (lk (Proofs.Ytckhcmdjgkoocaa.seeS r (getS r who) b).d) with
          | true => exact .inr rfl
          | false => left; simp only [hx] at hc; simp at hc; omega)
      rw [setS_set, e, hg] at h2
      exact h2
theorem Inv.push {r : Run} (h : Inv r) {u n : Nat} {v : Int} (hu : u < r.L.length) (cu : certB r.L u = true) (hv : (bk r.L u).view < v) : Inv ⟨n, r.L ++ [⟨u, v, fun _ => false⟩], r.s0, r.s1, r.s2⟩ := by
  have hb : ∀ i, i < r.L.length → bk (r.L ++ [⟨u, v, fun _ => false⟩]) i = bk r.L i := fun i hi => by rw [bk_push, if_neg (by omega)]
  have hN : bk (r.L ++ [⟨u, v, fun _ => false⟩]) r.L.length = ⟨u, v, fun _ => false⟩ := by rw [bk_push, if_pos rfl]
  have hc : ∀ i, i < r.L.length → certB (r.L ++ [⟨u, v, fun _ => false⟩]) i = certB r.L i := fun i hi => by unfold certB; rw [hb i hi]
  have hx : ∀ i c, i < r.L.length → ext (r.L ++ [⟨u, v, fun _ => false⟩]) i i c = ext r.L i i c := fun i c hi => ext_congr h.wf (fun j hj => by rw [hb j hj]) c i i hi
  have hlen : (r.L ++ [(⟨u, v, fun _ => false⟩ : Bk)]).length = r.L.length + 1 := by simp
  have h0 := h.wf.1
  constructor
  · exact wf_push h.wf hu
  · show (bk (r.L ++ [⟨u, v, fun _ => false⟩]) 0).view = 0
    rw [hb 0 h0]; exact h.vw0
  · intro i hi0 hi
    simp only [hlen] at hi ⊢
    rcases Nat.lt_or_ge i r.L.length with hl | hl
    · rw [hb i hl, hb _ (h.up_in hl)]; exact h.vup i hi0 hl
    · obtain rfl : i = r.L.length := by omega
      rw [hN, hb u hu]; exact hv
  · intro i hi0 hi
    simp only [hlen] at hi ⊢
    rcases Nat.lt_or_ge i r.L.length with hl | hl
    · rw [hb i hl, hc _ (h.up_in hl)]; exact h.cup i hi0 hl
    · obtain rfl : i = r.L.length := by omega
      rw [hN, hc u hu]; exact cu
  · intro k hk
    show HInv (r.L ++ [⟨u, v, fun _ => false⟩]) (getS r k) k
    have hh := h.h k hk
    have old : ∀ i, i < r.L.length + 1 → (bk (r.L ++ [⟨u, v, fun _ => false⟩]) i).votes k = true → i < r.L.length ∧ (bk r.L i).votes k = true := fun i hi hv => by
      rcases Nat.lt_or_ge i r.L.length with hl | hl
      · rw [hb i hl] at hv; exact ⟨hl, hv⟩
      · obtain rfl : i = r.L.length := by omega
        rw [hN] at hv; exact absurd hv Bool.false_ne_true
    obtain ⟨c, g1, g2, g3, g4⟩ := hh.lock
    constructor
    · exact ⟨c, by rw [hlen]; omega, g2, by rw [hb c g1]; exact g3, by rw [hc c g1]; exact g4⟩
    · intro i hi hv
      rw [hlen] at hi
      obtain ⟨a1, a2⟩ := old i hi hv
      rw [hb i a1]; exact hh.hv i a1 a2
    · intro i j hi hj hv hv' e
      rw [hlen] at hi hj
      obtain ⟨a1, a2⟩ := old i hi hv
      obtain ⟨b1, b2⟩ := old j hj hv'
      rw [hb i a1, hb j b1] at e
      exact hh.one i j a1 b1 a2 b2 e
    · intro i hi hv hu
      rw [hlen] at hi
      obtain ⟨a1, a2⟩ := old i hi hv
      rw [hb i a1] at hu ⊢
      rw [hb _ (h.up_in a1), hb _ (h.up_in (h.up_in a1))]
      exact hh.lv i a1 a2 hu
  · intro x hx0 hxl
    simp only [hlen] at hxl
    show Voters (r.L ++ [⟨u, v, fun _ => false⟩]) x
    rcases Nat.lt_or_ge x r.L.length with hl | hl
    · have old : ∀ k, Clean r.L k x → Clean (r.L ++ [⟨u, v, fun _ => false⟩]) k x := fun k hcl i hi hv hlt hu => by
        rw [hlen] at hi
        rcases Nat.lt_or_ge i r.L.length with hil | hil
        · rw [hb i hil] at hv hlt hu ⊢
          rw [hb x hl] at hlt ⊢
          rw [hb _ (h.up_in hil), hb _ (h.up_in (h.up_in hil)), hb _ (h.up_in hl)]
          rcases hcl i hil hv hlt hu with h1 | ⟨c, h1, h2, h3, h4⟩
          · exact .inl h1
          · exact .inr ⟨c, h1, by rw [hx x c hl]; exact h2, by rw [hc c (by omega)]; exact h3, by rw [hb c (by omega)]; exact h4⟩
        · obtain rfl : i = r.L.length := by omega
          rw [hN] at hv; exact absurd hv Bool.false_ne_true
      rcases h.cl x hx0 hl with ⟨m, hm⟩ | ⟨h1, hm⟩
      · exact .inl ⟨m, fun k hk hkm => ⟨by rw [hb x hl]; exact (hm k hk hkm).1, fun h3 => old k ((hm k hk hkm).2 h3)⟩⟩
      · exact .inr ⟨by rw [hc x hl]; exact h1, fun k hk hv => by rw [hb x hl] at hv; exact old k (hm k hk hv)⟩
    · obtain rfl : x = r.L.length := by omega
      refine .inr ⟨?_, fun k hk hv => by rw [hN] at hv; exact absurd hv Bool.false_ne_true⟩
      unfold certB
      rw [hN]
      show (decide (r.L.length = 0) || decide (3 ≤ 0)) = false
      rw [decide_eq_false (by omega)]
      rfl
structure Bnd (r : Run) : Prop where
  n4 : r.L.length ≤ 400
  vsm : ∀ i, i < r.L.length → (bk r.L i).view ≤ 3 * (i : Int)
  vs : ∀ k, k < 3 → (getS r k).v ≤ 1200
/-- What is so of a run behind any moves. -/
def Good (r : Run) : Prop := Inv r ∧ Bnd r
theorem voteR_len (r : Run) (who b : Nat) : (voteR r who b).L.length = r.L.length := by
  unfold voteR; (repeat' split) <;> simp only [setVote_len, setS_L]
theorem voteR_view (r : Run) (who b i : Nat) : (bk (voteR r who b).L i).view = (bk r.L i).view := by
  unfold voteR; (repeat' split) <;> simp only [view_set, setS_L]
theorem voteR_up (r : Run) (who b i : Nat) : (bk (voteR r who b).L i).up = (bk r.L i).up := by
  unfold voteR; (repeat' split) <;> simp only [up_set, setS_L]
theorem voteS_v (r : Run) (s : Safe) (b : Nat) : (voteS r s b).1.v = s.v ∨ (voteS r s b).1.v = (bk r.L b).view := by
  rw [voteS_eq]; unfold vote
  split
  · left; exact seeS_v _ _ _
  · right; rfl
theorem voteR_v (r : Run) {who : Nat} (hw : who < 4) (b : Nat) {k : Nat} (hk : k < 3) : (getS (voteR r who b) k).v = (getS r k).v ∨ (getS (voteR r who b) k).v = (bk r.L b).view := by
  unfold voteR
  split
  · left; rfl
  · have h3 : who < 3 := by omega
    split
    · rw [getS_set r h3 hk]
      split
      · rename_i e; subst e; exact voteS_v _ _ _
      · left; rfl
    · rw [getS_set' r h3 hk]
      split
      · rename_i e; subst e; exact voteS_v _ _ _
      · left; rfl
theorem tmod_lt (a : Int) : Int.tmod a 1000 ≤ 999 := by
  have := Int.tmod_lt_of_pos a (show (0 : Int) < 1000 by decide)
  omega
theorem Good.play {r : Run} {cap : Nat} {rest : List Value} (hr : r.ok cap rest) (h : Good r) (m : Mv) {who : Nat} (hw : who < 4) : Good (playR r m who) := by
  obtain ⟨hi, hb⟩ := h
  have hmb := mb_lt (m := m) hr
  have hln := hr.ln0
  have h4 := hb.n4
  unfold playR
  split
  · split
    · rename_i hg
      simp only [grows, Bool.and_eq_true, decide_eq_true_eq] at hg
      have h1 := hb.vsm (mb r m) (by omega)
      have h2 := hi.vw0_le (i := mb r m) (by omega)
      have ht : 0 ≤ Int.tmod (IntKind.wrap .u64 m.view) 3 ∧ Int.tmod (IntKind.wrap .u64 m.view) 3 < 3 := by
        rw [Int.tmod_eq_emod_of_nonneg (u64_ge m.view)]
        exact ⟨Int.emod_nonneg _ (by decide), Int.emod_lt_of_pos _ (by decide)⟩
      have e : (newB r m).view = (bk r.L (mb r m)).view + 1 + Int.tmod (IntKind.wrap .u64 m.view) 3 := by
        unfold newB
        simp only []
        rw [i64_of (a := (bk r.L (mb r m)).view + 1) (by omega) (by omega), i64_of (a := Int.tmod _ _) (by omega) (by omega), i64_of (by omega) (by omega)]
      refine ⟨hi.push (by omega) hg.2.1 (by show _ < (newB r m).view; rw [e]; omega), ?_, ?_, ?_⟩
      · simp; omega
      · intro i hil
        simp only [List.length_append, List.length_singleton] at hil ⊢
        show (bk (r.L ++ [newB r m]) i).view ≤ _
        rw [bk_push]
        split
        · rename_i e'; subst e'; rw [e]; omega
        · exact hb.vsm i (by omega)
      · exact hb.vs
    · exact ⟨hi, hb⟩
  · split
    · split
      · rename_i h0
        refine ⟨hi.voteR (by omega) hw h0 (by omega), by rw [voteR_len]; exact h4, fun i hil => ?_, fun k hk => ?_⟩
        · rw [voteR_len] at hil; rw [voteR_view]; exact hb.vsm i hil
        · have h1 := hb.vs k hk
          have h2 := hb.vsm (mb r m) (by omega)
          rcases voteR_v r hw (mb r m) hk with e | e <;> rw [e] <;> omega
      · exact ⟨hi, hb⟩
    · split
      · rename_i h3
        have ht := tmod_lt m.view
        refine ⟨hi.state h3 ?_ ?_ ?_, by rw [setS_L]; exact h4, by rw [setS_L]; exact hb.vsm, fun k hk => ?_⟩
        · unfold giveUp; split <;> (try simp only []) <;> omega
        · unfold giveUp; split <;> exact Int.le_refl _
        · obtain ⟨c, g1, g2, g3, g4⟩ := (hi.h who h3).lock
          refine ⟨c, g1, ?_, ?_, g4⟩
          · unfold giveUp; split <;> exact g2
          · unfold giveUp; split <;> exact g3
        · rw [getS_set' r h3 hk]
          split
          · have := hb.vs who h3
            unfold giveUp; split <;> (try simp only []) <;> omega
          · exact hb.vs k hk
      · exact ⟨hi, hb⟩
/-! the run's beginning -/
def s00 : Safe := ⟨0, 0, 0, idD 0⟩
def run0 : Run := ⟨1, [⟨0, 0, fun _ => false⟩], s00, s00, s00⟩
theorem run0_ok : run0.ok 1 [] := by
  refine ⟨⟨by decide, rfl, fun i hi h0 => ?_⟩, rfl, Nat.le_refl _, by decide, rfl, ⟨0, by decide, rfl⟩, ⟨0, by decide, rfl⟩, ⟨0, by decide, rfl⟩, by decide⟩
  have : i < 1 := hi
  omega
theorem run0_good : Good run0 := by
  have e : ∀ i, i < run0.L.length → i = 0 := fun i hi => by
    have : i < 1 := hi
    omega
  have es : ∀ k, getS run0 k = s00 := fun k => by unfold getS; (repeat' split) <;> rfl
  have nv : ∀ i k, (bk run0.L i).votes k = true → False := fun i k h => by
    rcases Nat.eq_zero_or_pos i with rfl | h0
    · exact absurd h Bool.false_ne_true
    · have : bk run0.L i = ⟨0, 0, fun _ => false⟩ := by
        unfold bk run0
        rw [List.getD_eq_getElem?_getD, List.getElem?_eq_none (by simp; omega)]; rfl
      rw [this] at h; exact absurd h Bool.false_ne_true
  refine ⟨⟨run0_ok.wf, rfl, fun i h0 hi => ?_, fun i h0 hi => ?_, fun k hk => ?_, fun x h0 hx => ?_⟩, by decide, fun i hi => ?_, fun k hk => ?_⟩
  · have := e i hi; omega
  · have := e i hi; omega
  · rw [es]
    exact ⟨⟨0, by decide, rfl, rfl, rfl⟩, fun i hi hv => (nv i k hv).elim, fun i j hi hj hv => (nv i k hv).elim, fun i hi hv => (nv i k hv).elim⟩
  · have := e x hx; omega
  · rw [e i hi]; decide
  · rw [es]; decide
end Go.Proofs.Ytckhcmdjgkoocaa
