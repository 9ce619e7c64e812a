/- The first strong class, told twice: by the matching ones, by a depth: the same. No program in sight. -/
import Derived.Test.YtkfjhannbnijkaaRvA
import Derived.Test.YtkfjhannbnijkaaLvG
namespace Go.Proofs.Ytkfjhannbnijkaa
open Go.RowKit

/-- The match of an initiator, by the balance. -/
theorem mat_rfind (l : List Int) {i : Nat} (hi : initB (l.getD i 0) = true) (hl : i < l.length) : mat l i = (match rfind l (l.length - i) i 0 with | some m => (m : Int) | none => -1) := by
  have h := rfind_init (l := l) (i := i) hi (f := l.length - i - 1)
  rw [show l.length - i - 1 + 1 = l.length - i by omega] at h
  have ho := (mrun_ok l l.length).2 i hl
  show (mrun l l.length).out i = _
  cases hr : rfind l (l.length - i) i 0 with
  | some m =>
    rw [hr] at h
    obtain ⟨h1, h2⟩ := h
    rcases ho with ⟨_, h3⟩ | ⟨m', h3, h4, h5⟩
    · exact absurd h1 (h3 m (by omega)).1
    · rcases h4 with h4 | h4
      · rw [h5, h1.right h4]
      · exact absurd h4.1 (init23 hi).1
  | none =>
    rw [hr] at h
    have h : ∀ m, m < i + (l.length - i) → ¬ Pair l i m := h
    rcases ho with ⟨h3, _⟩ | ⟨m', h3, h4, h5⟩
    · exact h3
    · rcases h4 with h4 | h4
      · exact absurd h4 (h m' (by omega))
      · exact absurd h4.1 (init23 hi).1

theorem bal_init {c : Int} (h : initB c = true) : bal c = 1 := by unfold bal; rw [if_pos h, if_neg (init23 h).1]; rfl
theorem bal_pdi {c : Int} (h : c = 23) : bal c = -1 := by subst h; decide
theorem bal_other {c : Int} (h : initB c = false) (h2 : c ≠ 23) : bal c = 0 := by unfold bal; rw [if_neg (by rw [h]; simp), if_neg h2]; rfl

/-- In the depth, the balance's place is come to, or nothing is found. -/
theorem rrw_deep (l : List Int) (iso : Bool) : ∀ f k d, 0 < d → rrw l iso f k d = (match rfind l f k d with
    | some m => rrw l iso (f - (m + 1 - k)) (m + 1) 0
    | none => false) := by
  intro f
  induction f with
  | zero => intro k d hd; rfl
  | succ f ih =>
    intro k d hd
    rw [rrw]
    by_cases hB : l.getD k 0 = 11
    · rw [if_pos (Or.inr hB), rfind_B hB]
    · by_cases hk : l.length ≤ k
      · rw [if_pos (Or.inl hk)]
        have hno : ∀ g k, l.length ≤ k → rfind l g k d = none := by
          intro g
          induction g with
          | zero => intro k _; rfl
          | succ g ih2 =>
            intro k hk
            have h0 : l.getD k 0 = 0 := by rw [List.getD_eq_getElem?_getD, List.getElem?_eq_none hk]; rfl
            rw [rfind_go (by rw [h0]; decide) (by rw [h0, bal_other (by decide) (by decide)]; omega), h0, bal_other (by decide) (by decide)]
            exact ih2 (k + 1) (by omega)
        rw [hno _ _ hk]
      · rw [if_neg (by omega)]
        have sub : ∀ d' : Nat, 0 < d' → (d : Int) + bal (l.getD k 0) = (d' : Int) → rrw l iso f (k + 1) d' = (match rfind l (f + 1) k d with
            | some m => rrw l iso (f + 1 - (m + 1 - k)) (m + 1) 0
            | none => false) := by
          intro d' h1 h2
          rw [rfind_go hB (by omega), h2, ih (k + 1) d' h1]
          cases hr : rfind l f (k + 1) d' with
          | none => rfl
          | some m =>
            have := rfind_lt l _ _ _ _ hr
            simp only
            rw [show f - (m + 1 - (k + 1)) = f + 1 - (m + 1 - k) by omega]
        by_cases hi : initB (l.getD k 0) = true
        · rw [if_pos hi]
          exact sub (d + 1) (by omega) (by rw [bal_init hi]; rfl)
        · rw [if_neg hi]
          have hi' : initB (l.getD k 0) = false := by simpa using hi
          by_cases hP : l.getD k 0 = 23
          · rw [if_pos hP, if_pos hd]
            by_cases h1 : d = 1
            · subst h1
              rw [rfind_hit hB (by rw [bal_pdi hP]; rfl)]
              simp only
              rw [show f + 1 - (k + 1 - k) = f by omega]
            · exact sub (d - 1) (by omega) (by rw [bal_pdi hP]; omega)
          · rw [if_neg hP, if_neg (by omega)]
            exact sub d hd (by rw [bal_other hi' hP]; omega)

/-- One depth more: first one is come out of. -/
theorem rfind_more (l : List Int) : ∀ f k (d : Nat), 0 < d → rfind l f k ((d : Int) + 1) = (match rfind l f k d with
    | some m => rfind l (f - (m + 1 - k)) (m + 1) 1
    | none => none) := by
  intro f
  induction f with
  | zero => intro k d hd; rfl
  | succ f ih =>
    intro k d hd
    by_cases hB : l.getD k 0 = 11
    · rw [rfind_B hB, rfind_B hB]
    · have hb : bal (l.getD k 0) = 1 ∨ bal (l.getD k 0) = 0 ∨ bal (l.getD k 0) = -1 := by
        rcases bal_cases (l.getD k 0) with ⟨_, _, h⟩ | ⟨_, _, h⟩ | ⟨_, _, h⟩ <;> omega
      rw [rfind_go hB (by omega)]
      by_cases h0 : (d : Int) + bal (l.getD k 0) = 0
      · rw [rfind_hit hB h0]
        simp only
        rw [show f + 1 - (k + 1 - k) = f by omega, show (d : Int) + 1 + bal (l.getD k 0) = 1 by omega]
      · rw [rfind_go hB h0]
        obtain ⟨d', hd'⟩ : ∃ d' : Nat, (d : Int) + bal (l.getD k 0) = d' := ⟨((d : Int) + bal (l.getD k 0)).toNat, by omega⟩
        rw [show (d : Int) + 1 + bal (l.getD k 0) = (d' : Int) + 1 by omega, hd', ih (k + 1) d' (by omega)]
        cases hr : rfind l f (k + 1) d' with
        | none => rfl
        | some m =>
          have := rfind_lt l _ _ _ _ hr
          simp only
          rw [show f - (m + 1 - (k + 1)) = f + 1 - (m + 1 - k) by omega]

/-- How far it is looked: to the PDI, in an isolate; to the end. -/
def Upto (l : List Int) (iso : Bool) (z i : Nat) : Prop :=
  z ≤ l.length ∧ if iso = true then (match rfind l (l.length - i) i 1 with | some m => z = m | none => z = l.length) else z = l.length

theorem erw_rrw (l : List Int) (iso : Bool) (z : Nat) : ∀ N i f g, z - i ≤ N → z ≤ i + f → l.length ≤ i + g → Upto l iso z i → erw l (mat l) f i z = rrw l iso g i 0 := by
  intro N
  induction N with
  | zero =>
    intro i f g hN hf hg hU
    rw [erw_zero (by omega)]
    cases g with
    | zero => rfl
    | succ g =>
      rw [rrw]
      by_cases hk : l.length ≤ i
      · rw [if_pos (Or.inl hk)]
      · cases iso with
        | false => have := hU.2; simp at this; omega
        | true =>
          have h := hU.2
          rw [if_pos rfl] at h
          cases hr : rfind l (l.length - i) i 1 with
          | none => rw [hr] at h; simp only at h; omega
          | some m =>
            rw [hr] at h
            simp only at h
            have hlt := rfind_lt l _ _ _ _ hr
            obtain rfl : m = i := by omega
            have hP : l.getD m 0 = 23 ∧ l.getD m 0 ≠ 11 := by
              rw [show l.length - m = (l.length - m - 1) + 1 by omega, rfind] at hr
              split at hr
              · cases hr
              · rename_i hB
                split at hr
                · rename_i h0
                  rcases bal_cases (l.getD m 0) with ⟨_, _, h⟩ | ⟨_, h2, h⟩ | ⟨_, _, h⟩
                  · omega
                  · exact ⟨by simpa using h2, hB⟩
                  · omega
                · have := rfind_lt l _ _ _ _ hr; omega
            rw [if_neg (by omega), if_neg (by rw [hP.1]; decide), if_pos hP.1, if_neg (by omega), if_pos rfl]
  | succ N ih =>
    intro i f g hN hf hg hU
    by_cases hlt : i < z
    · have hz := hU.1
      obtain ⟨f', rfl⟩ : ∃ f', f = f' + 1 := ⟨f - 1, by omega⟩
      obtain ⟨g', rfl⟩ : ∃ g', g = g' + 1 := ⟨g - 1, by omega⟩
      rw [erw, rrw, if_neg (by omega)]
      -- the next place
      have next : ∀ (_ : l.getD i 0 ≠ 11) (_ : initB (l.getD i 0) = false) (_ : l.getD i 0 = 23 → iso = false), Upto l iso z (i + 1) := by
        intro h1 h2 h3
        refine ⟨hz, ?_⟩
        have h := hU.2
        split
        · rename_i hiso
          rw [if_pos hiso] at h
          have hP : l.getD i 0 ≠ 23 := fun e => by rw [h3 e] at hiso; cases hiso
          rw [show l.length - i = (l.length - (i + 1)) + 1 by omega, rfind_go h1 (by rw [bal_other h2 hP]; omega), bal_other h2 hP] at h
          exact h
        · rename_i hiso
          rw [if_neg hiso] at h
          exact h
      by_cases hs : l.getD i 0 = 2 ∨ l.getD i 0 = 3
      · rw [if_pos hs, if_neg (show ¬ (l.length ≤ i ∨ l.getD i 0 = 11) by omega), if_neg (by rw [initB_not (by omega)]; simp), if_neg (by omega), if_pos rfl, if_neg (by omega), if_pos hs]
      · rw [if_neg hs]
        by_cases h1 : l.getD i 0 = 1
        · rw [if_pos (Or.inl h1), if_neg (show ¬ (l.length ≤ i ∨ l.getD i 0 = 11) by omega), if_neg (show ¬ initB (l.getD i 0) = true by rw [h1]; decide), if_neg (show ¬ l.getD i 0 = 23 by omega), if_pos rfl, if_pos h1]
        · by_cases hB : l.getD i 0 = 11
          · rw [if_pos (Or.inr hB), if_pos (Or.inr hB)]
          · rw [if_neg (show ¬ (l.getD i 0 = 1 ∨ l.getD i 0 = 11) by omega), if_neg (show ¬ (l.length ≤ i ∨ l.getD i 0 = 11) by omega)]
            by_cases hi : initB (l.getD i 0) = true
            · rw [if_pos hi, if_pos hi, mat_rfind l hi (by omega), show l.length - i = (l.length - (i + 1)) + 1 by omega, rfind_go hB (by rw [bal_init hi]; omega), bal_init hi]
              rw [rrw_deep l iso g' (i + 1) 1 (by omega)]
              -- the fuel
              have fuel : ∀ q k (d : Int), d ≠ 0 → rfind l (l.length - k + q) k d = rfind l (l.length - k) k d := by
                intro q k
                have key : ∀ a k (d : Int), d ≠ 0 → l.length ≤ k + a → rfind l (a + q) k d = rfind l a k d := by
                  intro a
                  induction a with
                  | zero =>
                    intro k d hd hk
                    have : ∀ q k (d : Int), d ≠ 0 → l.length ≤ k → rfind l q k d = none := by
                      intro q
                      induction q with
                      | zero => intro k d _ _; rfl
                      | succ q ihq =>
                        intro k d hd hk
                        have h0 : l.getD k 0 = 0 := by rw [List.getD_eq_getElem?_getD, List.getElem?_eq_none hk]; rfl
                        rw [rfind_go (by rw [h0]; decide) (by rw [h0, bal_other (by decide) (by decide)]; omega), h0, bal_other (by decide) (by decide)]
                        exact ihq (k + 1) _ (by omega) (by omega)
                    rw [Nat.zero_add, this q k d hd (by omega)]
                    rfl
                  | succ a iha =>
                    intro k d hd hk
                    rw [show a + 1 + q = (a + q) + 1 by omega]
                    by_cases hB : l.getD k 0 = 11
                    · rw [rfind_B hB, rfind_B hB]
                    · by_cases h0 : d + bal (l.getD k 0) = 0
                      · rw [rfind_hit hB h0, rfind_hit hB h0]
                      · rw [rfind_go hB h0, rfind_go hB h0]
                        exact iha (k + 1) _ h0 (by omega)
                intro d hd
                exact key _ k d hd (by omega)
              have e1 : rfind l g' (i + 1) ((1 : Nat) : Int) = rfind l (l.length - (i + 1)) (i + 1) 1 := by
                have := fuel (g' - (l.length - (i + 1))) (i + 1) 1 (by omega)
                rw [show l.length - (i + 1) + (g' - (l.length - (i + 1))) = g' by omega] at this
                exact this
              rw [e1]
              cases hr : rfind l (l.length - (i + 1)) (i + 1) 1 with
              | none =>
                rw [show (0 : Int) + 1 = 1 by rfl, hr]
                simp
              | some m =>
                have hm := rfind_lt l _ _ _ _ hr
                have e : (0 : Int) + 1 = 1 := rfl
                rw [e, hr]
                simp only
                rw [if_neg (by omega), Int.toNat_natCast]
                have hU2 : Upto l iso z (m + 1) := by
                  refine ⟨hz, ?_⟩
                  have h := hU.2
                  split
                  · rename_i hiso
                    have hm1 := rfind_more l (l.length - (i + 1)) (i + 1) 1 (by omega)
                    rw [show ((1 : Nat) : Int) = 1 by rfl, hr] at hm1
                    rw [if_pos hiso, show l.length - i = (l.length - (i + 1)) + 1 by omega, rfind_go hB (by rw [bal_init hi]; omega), bal_init hi, hm1] at h
                    simp only at h
                    rw [show l.length - (m + 1) = l.length - (i + 1) - (m + 1 - (i + 1)) by omega]
                    exact h
                  · rename_i hiso
                    rw [if_neg hiso] at h
                    exact h
                by_cases hmz : m < z
                · exact ih (m + 1) f' _ (by omega) (by omega) (by omega) hU2
                · -- not come to: z lies behind m
                  exfalso
                  have h := hU2.2
                  split at h
                  · split at h
                    · rename_i hr2; have := rfind_lt l _ _ _ _ hr2; omega
                    · omega
                  · omega
            · rw [if_neg hi, if_neg hi]
              have hi' : initB (l.getD i 0) = false := by simpa using hi
              by_cases hP : l.getD i 0 = 23
              · rw [if_pos hP, if_neg (by omega)]
                cases iso with
                | false =>
                  rw [if_neg (by simp)]
                  exact ih (i + 1) f' g' (by omega) (by omega) (by omega) (next hB hi' (fun _ => rfl))
                | true =>
                  exfalso
                  have h := hU.2
                  rw [if_pos rfl, show l.length - i = (l.length - (i + 1)) + 1 by omega, rfind_hit hB (by rw [bal_pdi hP]; rfl)] at h
                  simp only at h
                  omega
              · rw [if_neg hP, if_pos rfl, if_neg h1, if_neg hs]
                exact ih (i + 1) f' g' (by omega) (by omega) (by omega) (next hB hi' (fun e => absurd e hP))
    · exact ih i f g (by omega) hf hg hU

theorem pbase_eq (l : List Int) : pbase l = rpbase l := by
  unfold pbase rpbase
  rw [erw_rrw l false l.length l.length 0 l.length l.length (by omega) (by omega) (by omega) ⟨Nat.le_refl _, by simp⟩]

theorem isoR_eq (l : List Int) (i : Nat) (hi : initB (l.getD i 0) = true) (hl : i < l.length) : isoR l (mat l) i = (decide (l.getD i 0 = 21) || (decide (l.getD i 0 = 22) && rrw l true l.length (i + 1) 0)) := by
  unfold isoR
  have hU : Upto l true (isoTo l.length (mat l i)) (i + 1) := by
    rw [mat_rfind l hi hl, show l.length - i = (l.length - (i + 1)) + 1 by omega, rfind_go (init23 hi).2 (by rw [bal_init hi]; omega), bal_init hi, show (0 : Int) + 1 = 1 by rfl]
    unfold Upto isoTo
    cases hr : rfind l (l.length - (i + 1)) (i + 1) 1 with
    | none => simp
    | some m =>
      have := rfind_lt l _ _ _ _ hr
      simp only [if_true]
      rw [if_neg (by omega), Int.toNat_natCast]
      exact ⟨by omega, rfl⟩
  rw [erw_rrw l true _ (isoTo l.length (mat l i) - (i + 1)) (i + 1) l.length l.length (Nat.le_refl _) (by have := hU.1; omega) (by omega) hU]
end Go.Proofs.Ytkfjhannbnijkaa
