/- Matched places have one level; what is seen. No program in sight. -/
import Derived.Test.YtkfjhannbnijkaaPlG
import Derived.Test.YtkfjhannbnijkaaPlH
namespace Go.Proofs.Ytkfjhannbnijkaa
open Go.RowKit

theorem pair_level {l : List Int} {mt : Nat → Int} {p : Int} {i m : Nat} (h : Pair l i m) : LV l mt p i = LV l mt p m := by
  have hst := pair_state (mt := mt) (p := p) h
  have hi := h.lt.2
  obtain ⟨q, hq, q1, q2, q3, q4⟩ := next_p l mt p m
  obtain ⟨r, hr, r1, r2, r3, r4⟩ := next_p l mt p i
  have e1 : q.v = q.t.lev := by
    rw [hq, h.1]
    unfold pstep
    rw [if_neg (by omega), if_neg (by omega), if_neg (by decide), if_pos rfl]
  have e2 : r.v = (lrun l mt p i).top.lev := by
    have h3 : 20 ≤ l.getD i 0 ∧ l.getD i 0 ≤ 22 := by simpa only [initB, decide_eq_true_eq] using hi
    rw [hr]
    unfold pstep
    rw [if_neg (by omega), if_neg (by omega), if_pos hi]
    cases frIn (lrun l mt p i).top (isoR l mt i) <;> rfl
  rw [q3, r3, e1, e2, ← q1, hst.1]

theorem one_level (l : List Int) (p : Int) (lv : Nat → Int) (hlv : ∀ j, j < l.length → lv j = LV l (mat l) p j) : OneLevel l ((List.range l.length).map lv) := by
  intro i m h hm
  have him := h.lt.1
  have e : ∀ j, j < l.length → ((List.range l.length).map lv).getD j 0 = lv j := by
    intro j hj
    rw [List.getD_eq_getElem?_getD]
    simp [hj]
  rw [e i (by omega), e m hm, hlv i (by omega), hlv m hm]
  exact pair_level h

theorem sq_lt (l L : List Int) (base : Int) {x : Nat} (hx : x < l.length) (hr : remB (l.getD x 0) = false) : sqOf l L base x < RefN l L base := by
  obtain ⟨x1, -⟩ := plc_at l hx hr
  rw [(RefS_gat l L base).1]
  have h1 := sOf_lt (pd_lt l L base) _ x1
  have h2 := nS_mono (pd := pdOf l L base) (i := (filt l x).length + 1) (j := npl l) (by omega)
  unfold sqOf
  omega

theorem seen_start (l L : List Int) (base : Int) (x : Nat) : seenF l L base 0 (-1) x = false := by
  unfold seenF
  have h1 : decide (sqOf l L base x < 0) = false := by simp
  have h2 : decide ((x : Int) ≤ -1) = false := by simp; omega
  rw [h1, h2]
  simp

theorem seen_fin (l L : List Int) (base : Int) {x : Nat} (hx : x < l.length) : seenF l L base (RefN l L base) (-1) x = !remB (l.getD x 0) := by
  unfold seenF
  cases hr : remB (l.getD x 0) with
  | true => rfl
  | false =>
    have := sq_lt l L base hx hr
    rw [decide_eq_true this]
    rfl

theorem seen_step {l L : List Int} {base : Int} {i : Nat} {last : Int} {p : Nat} (h1 : last < p) (h2 : remB (l.getD p 0) = false) (h3 : sqOf l L base p = i) (h4 : ∀ x : Nat, last < x → x < p → remB (l.getD x 0) = false → sqOf l L base x ≠ i) (x : Nat) :
    (if x = p then true else seenF l L base i last x) = seenF l L base i p x := by
  unfold seenF
  by_cases e : x = p
  · subst e
    rw [if_pos rfl, h2, h3]
    simp
  · rw [if_neg e]
    cases hr : remB (l.getD x 0) with
    | true => rfl
    | false =>
      by_cases hs : sqOf l L base x = i
      · rw [hs]
        by_cases hx : (x : Int) ≤ last
        · have : (x : Int) ≤ p := by omega
          simp [hx, this]
        · have hx2 : ¬ (x : Int) ≤ p := fun h5 => h4 x (by omega) (by omega) hr hs
          simp [hx, hx2]
      · simp [hs]

theorem seen_before {l L : List Int} {base : Int} {i : Nat} {last : Int} {p : Nat} (h1 : last < p) (h3 : sqOf l L base p = i) : seenF l L base i last p = false := by
  unfold seenF
  rw [h3]
  have : ¬ (p : Int) ≤ last := by omega
  simp [this]

theorem seen_end {l L : List Int} {base : Int} {i : Nat} {last : Int} (h : ∀ x : Nat, x < l.length → remB (l.getD x 0) = false → sqOf l L base x = i → (x : Int) ≤ last) {x : Nat} (hx : x < l.length) : seenF l L base i last x = seenF l L base (i + 1) (-1) x := by
  unfold seenF
  cases hr : remB (l.getD x 0) with
  | true => rfl
  | false =>
    have h2 : decide ((x : Int) ≤ -1) = false := by simp; omega
    rw [h2]
    by_cases hs : sqOf l L base x = i
    · have := h x hx hr hs
      simp [hs, this]
    · have e : (sqOf l L base x < i) ↔ (sqOf l L base x < i + 1) := by omega
      simp [hs, e]
end Go.Proofs.Ytkfjhannbnijkaa
