/- The levels, told twice: the frames go where the calls go. No program in sight. -/
import Derived.Test.YtkfjhannbnijkaaPlB
import Derived.Test.YtkfjhannbnijkaaRvC
namespace Go.Proofs.Ytkfjhannbnijkaa
open Go.RowKit

theorem frIn_some {t : Fr} {r : Bool} (h : t.is + t.em ≤ 0) (h2 : nextL t.lev r ≤ 125) : frIn t r = some ⟨nextL t.lev r, 0, false, 0, 0⟩ := by unfold frIn; rw [if_pos ⟨h2, h⟩]
theorem frIn_none {t : Fr} {r : Bool} (h : ¬ (t.is + t.em ≤ 0 ∧ nextL t.lev r ≤ 125)) : frIn t r = none := by unfold frIn; rw [if_neg (fun h2 => h ⟨h2.2, h2.1⟩)]

theorem isoRr_eq {l : List Int} {i : Nat} (hi : initB (l.getD i 0) = true) (hl : i < l.length) : isoR l (mat l) i = isoRr l i := by
  rw [isoR_eq l i hi hl]; rfl

theorem rem_of {c : Int} (h : 15 ≤ c ∧ c ≤ 19 ∨ c = 10) : remB c = true := by unfold remB; simp; omega
theorem rem_not {c : Int} (h : ¬ (15 ≤ c ∧ c ≤ 19)) (h2 : c ≠ 10) : remB c = false := by unfold remB; simp; omega

theorem heldUp_iso {t u : Fr} {up : List Fr} (h : t.iso = u.iso) : heldUp t up = heldUp u up := by
  cases up with
  | nil => rfl
  | cons f r => unfold heldUp; rw [h]
theorem held_same {t u : Fr} {up : List Fr} (h : t.iso = u.iso) : (heldUp t up).isSome = (heldUp u up).isSome := by rw [heldUp_iso h]

/-- What the calls tell and what the frames tell. -/
def SimAt (l : List Int) (base : Int) (S : LS) (lev ov kind : Int) (held : Bool) (i : Nat) (r : Nat × LC) : Prop :=
  ∃ k, r.1 = i + k ∧ Agree l base (adv l (mat l) base S i k) r.2 r.1 ∧ OutS l S.up lev ov kind held r.1 (adv l (mat l) base S i k)

theorem SimAt.step {l : List Int} {base : Int} {S S' : LS} {lev ov kind : Int} {held : Bool} {i : Nat} {r : Nat × LC} (hS : LS.step l (mat l) base i S = S') (hu : S'.up = S.up) (h : SimAt l base S' lev ov kind held (i + 1) r) : SimAt l base S lev ov kind held i r := by
  obtain ⟨k, h1, h2, h3⟩ := h
  refine ⟨1 + k, by omega, ?_, ?_⟩
  · rw [adv_one, hS]; exact h2
  · rw [adv_one, hS, ← hu]; exact h3

theorem SimAt.deep {l : List Int} {base : Int} {S S1 : LS} {lev ov kind : Int} {held : Bool} {i k1 j : Nat} {s2 : LC} (h1 : LS.step l (mat l) base i S = S1) (hj : j = i + 1 + k1) (h2 : Agree l base (adv l (mat l) base S1 (i + 1) k1) s2 j) (h3 : OutS l S.up lev ov kind held j (adv l (mat l) base S1 (i + 1) k1)) :
    SimAt l base S lev ov kind held i (j, s2) := by
  refine ⟨1 + k1, by show j = _; omega, ?_, ?_⟩
  · rw [adv_one, h1]; exact h2
  · rw [adv_one, h1]; exact h3

/-- Behind a part that has been gone through. -/
theorem SimAt.after {l : List Int} {base : Int} {S S1 S2 : LS} {lev ov kind : Int} {held : Bool} {i k1 j : Nat} {r : Nat × LC} (hj : j = i + 1 + k1) (h1 : LS.step l (mat l) base i S = S1) (h2 : LS.step l (mat l) base j (adv l (mat l) base S1 (i + 1) k1) = S2) (hu : S2.up = S.up) (h : SimAt l base S2 lev ov kind held (j + 1) r) : SimAt l base S lev ov kind held i r := by
  obtain ⟨k, h3, h4, h5⟩ := h
  have e : adv l (mat l) base S i (1 + (k1 + (1 + k))) = adv l (mat l) base S2 (j + 1) k := by
    rw [adv_one, h1, adv_add, ← hj, adv_one, h2]
  refine ⟨1 + (k1 + (1 + k)), by omega, ?_, ?_⟩
  · rw [e]; exact h4
  · rw [e, ← hu]; exact h5

theorem sim (l : List Int) (base : Int) : ∀ (f i : Nat) (lev ov kind : Int) (held : Bool) (is em : Nat) (s : LC) (S : LS),
    l.length ≤ i + f → i ≤ l.length → S.top = ⟨lev, ov, decide (kind = 2), is, em⟩ → (kind = 0 ∨ kind = 1 ∨ kind = 2) → (kind = 0 → S.up = [] ∧ lev = base ∧ ov = 0) → (kind ≠ 0 → S.up ≠ []) →
    held = (heldUp S.top S.up).isSome → Agree l base S s i → SimAt l base S lev ov kind held i (rwi l base f i lev ov kind held is em s) := by
  intro f
  induction f using Nat.strongRecOn with
  | ind f ih =>
  intro i lev ov kind held is em s S hf hil htop hkind hk0 hk1 hheld hA
  by_cases hlt : i < l.length
  · obtain ⟨g, rfl⟩ : ∃ g, f = g + 1 := ⟨f - 1, by omega⟩
    have hti : S.top.is = is := by rw [htop]
    have hte : S.top.em = em := by rw [htop]
    have htl : S.top.lev = lev := by rw [htop]
    have hto : S.top.ov = ov := by rw [htop]
    have hts : S.top.iso = decide (kind = 2) := by rw [htop]
    obtain ⟨c, hc⟩ : ∃ c, l.getD i 0 = c := ⟨_, rfl⟩
    by_cases hend : rwEnd c kind held is em = true
    · rw [rwi_end hlt (by rw [hc]; exact hend)]
      refine ⟨0, rfl, hA, ?_⟩
      have h3 : (c = 11 ∧ kind ≠ 0) ∨ (c = 23 ∧ is = 0 ∧ held = true) ∨ (c = 19 ∧ is + em = 0 ∧ kind = 1) := by unfold rwEnd at hend; simp only [Bool.or_eq_true, decide_eq_true_eq, or_assoc] at hend; exact hend
      rcases h3 with ⟨h3, h4⟩ | ⟨h3, h4, h5⟩ | ⟨h3, h4, h5⟩
      · exact Or.inr (Or.inl ⟨by rw [hc]; exact h3, h4⟩)
      · refine Or.inr (Or.inr (Or.inl ⟨by rw [hc]; exact h3, h5, ?_, [], is, em, ?_, fun f hf => by simp at hf⟩))
        · show S.top.is = 0; rw [hti]; omega
        · show S.top :: S.up = _; rw [htop]; rfl
      · refine Or.inr (Or.inr (Or.inr ⟨by rw [hc]; exact h3, h5, rfl, ?_⟩))
        show S.top = _
        rw [htop]
        subst h5
        have h6 : is = 0 := by omega
        have h7 : em = 0 := by omega
        subst h6 h7
        rfl
    · have hend' : rwEnd c kind held is em = false := by simpa using hend
      by_cases cB : c = 11
      · -- a paragraph's end
        subst cB
        have hk : kind = 0 := by unfold rwEnd at hend'; simp at hend'; exact hend'
        obtain ⟨hu, hl, ho⟩ := hk0 hk
        rw [rwi_B hlt hc hend']
        have hst : LS.step l (mat l) base i S = S.ends i base 11 := by
          unfold LS.step
          rw [hc, if_neg (by omega), if_neg (by omega), if_neg (by decide), if_neg (by omega), if_pos rfl]
        refine SimAt.step hst (by rw [hu]; rfl) (ih g (by omega) (i + 1) lev ov kind held 0 0 _ _ (by omega) (by omega) ?_ hkind (fun _ => ⟨rfl, hl, ho⟩) (fun h => absurd hk h) ?_ ?_)
        · show (⟨base, 0, false, 0, 0⟩ : Fr) = _
          rw [hl, ho, hk]; rfl
        · rw [hheld, hu]
          simp [heldUp, LS.ends, LS.stands]
        · exact hA.stand (by rw [hc]; decide) base 0 11 _ _
      · by_cases cP : c = 23
        · subst cP
          rw [rwi_P hlt hc hend']
          have hst0 : LS.step l (mat l) base i S = S.closes i 23 := by
            unfold LS.step
            rw [hc, if_neg (by omega), if_neg (by omega), if_neg (by decide), if_pos rfl]
          have hst : LS.step l (mat l) base i S = LS.stands ⟨S.lv, S.cl, ⟨lev, ov, decide (kind = 2), ((is - 1 : Nat) : Int), em⟩, S.up⟩ i 23 := by
            rw [hst0]
            unfold LS.closes
            by_cases hi0 : is = 0
            · have hh : held = false := by unfold rwEnd at hend'; simp [hi0] at hend'; exact hend'
              rw [hh] at hheld
              rw [if_neg (by rw [hti]; omega)]
              cases hx : heldUp S.top S.up with
              | none =>
                simp only
                unfold LS.stands
                rw [htop, hi0]
              | some p => rw [hx] at hheld; simp at hheld
            · rw [if_pos (by rw [hti]; omega), htop]
              simp only
              rw [show ((is : Int) - 1) = ((is - 1 : Nat) : Int) by omega]
          refine SimAt.step hst rfl (ih g (by omega) (i + 1) lev ov kind held (is - 1) em _ _ (by omega) (by omega) rfl hkind (fun h => hk0 h) (fun h => hk1 h) ?_ ?_)
          · rw [hheld]
            exact held_same (by rw [hts]; rfl)
          · exact hA.stand (by rw [hc]; decide) lev ov 23 _ _
        · by_cases cF : c = 19
          · subst cF
            rw [rwi_F hlt hc hend']
            have hF : ¬ (is + em = 0 ∧ kind = 1) := by unfold rwEnd at hend'; simp at hend' ⊢; exact hend'
            have hst0 : LS.step l (mat l) base i S = S.leaves i base := by
              unfold LS.step
              rw [hc, if_neg (by omega), if_pos rfl]
            have hst : LS.step l (mat l) base i S = ⟨(S.goes i base).lv, (S.goes i base).cl, ⟨lev, ov, decide (kind = 2), is, ((if is = 0 then em - 1 else em : Nat) : Int)⟩, S.up⟩ := by
              rw [hst0]
              unfold LS.leaves
              by_cases hi0 : is = 0
              · rw [if_neg (by rw [hti]; omega)]
                by_cases he0 : em = 0
                · rw [if_neg (by rw [hte]; omega), if_pos hi0]
                  have hg : S.goes i base = ⟨(S.goes i base).lv, (S.goes i base).cl, ⟨lev, ov, decide (kind = 2), is, ((em - 1 : Nat) : Int)⟩, S.up⟩ := by
                    unfold LS.goes
                    simp only
                    rw [htop, he0]
                  cases hu : S.up with
                  | nil => simp only; rw [hg, hu]
                  | cons x r =>
                    simp only
                    have hk2 : kind = 2 := by
                      rcases hkind with h | h | h
                      · have := (hk0 h).1; rw [hu] at this; cases this
                      · exact absurd ⟨by omega, h⟩ hF
                      · exact h
                    rw [if_pos (by rw [hts, hk2]; rfl), hg, hu]
                · rw [if_pos (by rw [hte]; omega), htop, if_pos hi0]
                  simp only
                  rw [show ((em : Int) - 1) = ((em - 1 : Nat) : Int) by omega]
              · rw [if_pos (by rw [hti]; omega), if_neg hi0]
                unfold LS.goes
                simp only
                rw [htop]
            refine SimAt.step hst rfl (ih g (by omega) (i + 1) lev ov kind held is _ _ _ (by omega) (by omega) rfl hkind (fun h => hk0 h) (fun h => hk1 h) ?_ ?_)
            · rw [hheld]
              exact held_same (by rw [hts])
            · exact hA.gone (by rw [hc]; decide) _ _
          · -- what is common behind a part
            have bcase : ∀ (S1 : LS) (k1 j : Nat) (s2 : LC), LS.step l (mat l) base i S = S1 → j = i + 1 + k1 → l.getD j 0 = 11 → Agree l base (adv l (mat l) base S1 (i + 1) k1) s2 j →
                SimAt l base S lev ov kind held i (rwi l base g j lev ov kind held is em s2) := by
              intro S1 k1 j s2 h1 hj hcj hA2
              have hjl : j < l.length := getD_lt hcj (by decide)
              obtain ⟨g', rfl⟩ : ∃ g', g = g' + 1 := ⟨g - 1, by omega⟩
              by_cases hk : kind = 0
              · obtain ⟨hu, hl, ho⟩ := hk0 hk
                rw [rwi_B hjl hcj (by unfold rwEnd; simp [hk])]
                have hst : ∀ T : LS, LS.step l (mat l) base j T = T.ends j base 11 := by
                  intro T
                  unfold LS.step
                  rw [hcj, if_neg (by omega), if_neg (by omega), if_neg (by decide), if_neg (by omega), if_pos rfl]
                refine SimAt.after hj h1 (hst _) (by rw [hu]; rfl) (ih g' (by omega) (j + 1) lev ov kind held 0 0 _ _ (by omega) (by omega) ?_ hkind (fun _ => ⟨rfl, hl, ho⟩) (fun h => absurd hk h) ?_ ?_)
                · show (⟨base, 0, false, 0, 0⟩ : Fr) = _
                  rw [hl, ho, hk]; rfl
                · rw [hheld, hu]
                  simp [heldUp, LS.ends, LS.stands]
                · exact hA2.stand (by rw [hcj]; decide) base 0 11 _ _
              · rw [rwi_end hjl (by rw [hcj]; unfold rwEnd; simp [hk])]
                exact SimAt.deep h1 hj hA2 (Or.inr (Or.inl ⟨hcj, hk⟩))
            by_cases hi : initB c = true
            · have hci : 20 ≤ c ∧ c ≤ 22 := by simp [initB] at hi; exact hi
              have hst0 : LS.step l (mat l) base i S = S.isos i c (isoRr l i) := by
                unfold LS.step
                rw [hc, if_neg (by omega), if_neg (by omega), if_pos hi, isoRr_eq (by rw [hc]; exact hi) hlt]
              have hrem : remB (l.getD i 0) = false := by rw [hc]; exact rem_init hi
              have hsl : (S.stands i c).lv = upd S.lv i lev := by unfold LS.stands; rw [htop]
              have hsc : (S.stands i c).cl = upd S.cl i (if ov = 0 then c else ov) := by unfold LS.stands; rw [htop]
              by_cases hm : is + em = 0 ∧ nextL lev (isoRr l i) ≤ 125
              · have hfr : frIn S.top (isoRr l i) = some ⟨nextL lev (isoRr l i), 0, false, 0, 0⟩ := by
                  have := frIn_some (t := S.top) (r := isoRr l i) (by rw [hti, hte]; omega) (by rw [htl]; exact hm.2)
                  rw [htl] at this
                  exact this
                have hst : LS.step l (mat l) base i S = ⟨upd S.lv i lev, upd S.cl i (if ov = 0 then c else ov), ⟨nextL lev (isoRr l i), 0, true, 0, 0⟩, S.top :: S.up⟩ := by
                  rw [hst0]
                  unfold LS.isos
                  rw [hfr]
                  simp only
                  rw [hsl, hsc]
                obtain ⟨k1, e1, a1, o1⟩ := ih g (by omega) (i + 1) (nextL lev (isoRr l i)) 0 2 true 0 0 (s.st i lev ov c) ⟨upd S.lv i lev, upd S.cl i (if ov = 0 then c else ov), ⟨nextL lev (isoRr l i), 0, true, 0, 0⟩, S.top :: S.up⟩ (by omega) (by omega) rfl (Or.inr (Or.inr rfl)) (fun h => by omega) (fun _ => by simp) rfl (hA.stand hrem lev ov c _ _)
                rw [rwi_I hlt hc hi rfl hm]
                generalize rwi l base g (i + 1) (nextL lev (isoRr l i)) 0 2 true 0 0 (s.st i lev ov c) = r at *
                obtain ⟨j, s2⟩ := r
                simp only at e1 a1 o1 ⊢
                rcases o1 with o1 | ⟨o1, -⟩ | ⟨o1, -, o2, ext, x1, x2, o3, o4⟩ | ⟨-, o2, -⟩
                · rw [if_neg (by omega), rwi_out (by omega)]
                  exact SimAt.deep hst e1 a1 (Or.inl o1)
                · rw [if_neg (by rw [o1]; omega)]
                  exact bcase _ k1 j s2 hst e1 o1 a1
                · have hjl : j < l.length := getD_lt o1 (by decide)
                  rw [if_pos ⟨hjl, o1⟩]
                  have hh := heldUp_ext (x := ⟨nextL lev (isoRr l i), 0, decide ((2 : Int) = 2), x1, x2⟩) (rest := S.top :: S.up) rfl ext _ _ o3 o4
                  have hst2 : LS.step l (mat l) base j (adv l (mat l) base ⟨upd S.lv i lev, upd S.cl i (if ov = 0 then c else ov), ⟨nextL lev (isoRr l i), 0, true, 0, 0⟩, S.top :: S.up⟩ (i + 1) k1) = ⟨upd (adv l (mat l) base ⟨upd S.lv i lev, upd S.cl i (if ov = 0 then c else ov), ⟨nextL lev (isoRr l i), 0, true, 0, 0⟩, S.top :: S.up⟩ (i + 1) k1).lv j lev, upd (adv l (mat l) base ⟨upd S.lv i lev, upd S.cl i (if ov = 0 then c else ov), ⟨nextL lev (isoRr l i), 0, true, 0, 0⟩, S.top :: S.up⟩ (i + 1) k1).cl j (if ov = 0 then 23 else ov), S.top, S.up⟩ := by
                    unfold LS.step
                    rw [o1, if_neg (by omega), if_neg (by omega), if_neg (by decide), if_pos rfl]
                    unfold LS.closes
                    rw [if_neg (by rw [o2]; omega), hh]
                    simp only
                    unfold LS.stands
                    simp only
                    rw [htl, hto]
                  exact SimAt.after e1 hst hst2 rfl (ih g (by omega) (j + 1) lev ov kind held is em _ _ (by omega) (by omega) htop hkind (fun h => hk0 h) (fun h => hk1 h) hheld (a1.stand (by rw [o1]; decide) lev ov 23 _ _))
                · omega
              · rw [rwi_I2 hlt hc hi hm]
                have hfr : frIn S.top (isoRr l i) = none := frIn_none (by rw [hti, hte, htl]; intro h; exact hm ⟨by omega, h.2⟩)
                have hst : LS.step l (mat l) base i S = ⟨upd S.lv i lev, upd S.cl i (if ov = 0 then c else ov), ⟨lev, ov, decide (kind = 2), ((is + 1 : Nat) : Int), em⟩, S.up⟩ := by
                  rw [hst0]
                  unfold LS.isos
                  rw [hfr]
                  simp only
                  rw [hsl, hsc, htop]
                  rfl
                refine SimAt.step hst rfl (ih g (by omega) (i + 1) lev ov kind held (is + 1) em _ _ (by omega) (by omega) rfl hkind (fun h => hk0 h) (fun h => hk1 h) ?_ (hA.stand hrem lev ov c _ _))
                rw [hheld]
                exact held_same (by rw [hts])
            · have hi' : initB c = false := by simpa using hi
              by_cases hemb : 15 ≤ c ∧ c ≤ 18
              · have hst0 : LS.step l (mat l) base i S = S.embeds i base c := by
                  unfold LS.step
                  rw [hc, if_pos hemb]
                have hrem : remB (l.getD i 0) = true := by rw [hc]; exact rem_of (by omega)
                by_cases hm : is + em = 0 ∧ nextL lev (embR c) ≤ 125
                · have hfr : frIn S.top (embR c) = some ⟨nextL lev (embR c), 0, false, 0, 0⟩ := by
                    have := frIn_some (t := S.top) (r := embR c) (by rw [hti, hte]; omega) (by rw [htl]; exact hm.2)
                    rw [htl] at this
                    exact this
                  have hst : LS.step l (mat l) base i S = ⟨(S.goes i base).lv, (S.goes i base).cl, ⟨nextL lev (embR c), embO c, false, 0, 0⟩, S.top :: S.up⟩ := by
                    rw [hst0]
                    unfold LS.embeds
                    rw [hfr]
                  obtain ⟨k1, e1, a1, o1⟩ := ih g (by omega) (i + 1) (nextL lev (embR c)) (embO c) 1 held 0 0 s ⟨(S.goes i base).lv, (S.goes i base).cl, ⟨nextL lev (embR c), embO c, false, 0, 0⟩, S.top :: S.up⟩ (by omega) (by omega) rfl (Or.inr (Or.inl rfl)) (fun h => by omega) (fun _ => by simp) hheld (hA.gone hrem _ _)
                  rw [rwi_E hlt hc hemb rfl hm]
                  generalize rwi l base g (i + 1) (nextL lev (embR c)) (embO c) 1 held 0 0 s = r at *
                  obtain ⟨j, s2⟩ := r
                  simp only at e1 a1 o1 ⊢
                  rcases o1 with o1 | ⟨o1, -⟩ | ⟨o1, oh, o2, ext, x1, x2, o3, o4⟩ | ⟨o1, -, o2, o3⟩
                  · rw [if_neg (by omega), rwi_out (by omega)]
                    exact SimAt.deep hst e1 a1 (Or.inl o1)
                  · rw [if_neg (by rw [o1]; omega)]
                    exact bcase _ k1 j s2 hst e1 o1 a1
                  · have hjl : j < l.length := getD_lt o1 (by decide)
                    obtain ⟨g', rfl⟩ : ∃ g', g = g' + 1 := ⟨g - 1, by omega⟩
                    rw [if_neg (by rw [o1]; omega), rwi_end hjl (by rw [o1]; unfold rwEnd; simp [oh]; omega)]
                    refine SimAt.deep hst e1 a1 (Or.inr (Or.inr (Or.inl ⟨o1, oh, o2, ext ++ [⟨nextL lev (embR c), embO c, decide ((1 : Int) = 2), x1, x2⟩], is, em, ?_, ?_⟩)))
                    · rw [o3, ← htop]; simp
                    · intro f hf
                      rcases List.mem_append.1 hf with hf | hf
                      · exact o4 f hf
                      · simp at hf; subst hf; rfl
                  · have hjl : j < l.length := getD_lt o1 (by decide)
                    rw [if_pos ⟨hjl, o1⟩]
                    have hst2 : ∀ T : LS, T.up = S.top :: S.up → T.top = ⟨nextL lev (embR c), embO c, false, 0, 0⟩ → LS.step l (mat l) base j T = ⟨(T.goes j base).lv, (T.goes j base).cl, S.top, S.up⟩ := by
                      intro T h1 h2
                      unfold LS.step
                      rw [o1, if_neg (by omega), if_pos rfl]
                      unfold LS.leaves
                      rw [if_neg (by rw [h2]; simp), if_neg (by rw [h2]; simp), h1]
                      simp only
                      rw [if_neg (by rw [h2]; simp)]
                    exact SimAt.after e1 hst (hst2 _ o2 o3) rfl (ih g (by omega) (j + 1) lev ov kind held is em _ _ (by omega) (by omega) htop hkind (fun h => hk0 h) (fun h => hk1 h) hheld (a1.gone (by rw [o1]; decide) _ _))
                · rw [rwi_E2 hlt hc hemb hm]
                  have hfr : frIn S.top (embR c) = none := frIn_none (by rw [hti, hte, htl]; intro h; exact hm ⟨by omega, h.2⟩)
                  have hst : LS.step l (mat l) base i S = ⟨(S.goes i base).lv, (S.goes i base).cl, ⟨lev, ov, decide (kind = 2), is, ((if is = 0 then em + 1 else em : Nat) : Int)⟩, S.up⟩ := by
                    rw [hst0]
                    unfold LS.embeds
                    rw [hfr]
                    simp only
                    by_cases hi0 : is = 0
                    · rw [if_pos (by rw [hti]; omega), if_pos hi0, htop]
                      rfl
                    · rw [if_neg (by rw [hti]; omega), if_neg hi0]
                      unfold LS.goes
                      simp only
                      rw [htop]
                  refine SimAt.step hst rfl (ih g (by omega) (i + 1) lev ov kind held is _ _ _ (by omega) (by omega) rfl hkind (fun h => hk0 h) (fun h => hk1 h) ?_ (hA.gone hrem _ _))
                  rw [hheld]
                  exact held_same (by rw [hts])
              · by_cases cN : c = 10
                · subst cN
                  rw [rwi_N hlt hc]
                  have hst : LS.step l (mat l) base i S = ⟨(S.goes i base).lv, (S.goes i base).cl, S.top, S.up⟩ := by
                    unfold LS.step
                    rw [hc, if_neg (by omega), if_neg (by omega), if_neg (by decide), if_neg (by omega), if_neg (by omega), if_pos rfl]
                    rfl
                  exact SimAt.step hst rfl (ih g (by omega) (i + 1) lev ov kind held is em _ _ (by omega) (by omega) htop hkind (fun h => hk0 h) (fun h => hk1 h) hheld (hA.gone (by rw [hc]; decide) _ _))
                · rw [rwi_O hlt hc cB cP (by omega) hi' cN]
                  have hst : LS.step l (mat l) base i S = ⟨upd S.lv i lev, upd S.cl i (if ov = 0 then c else ov), S.top, S.up⟩ := by
                    unfold LS.step
                    rw [hc, if_neg (by omega), if_neg cF, if_neg hi, if_neg cP, if_neg cB, if_neg cN]
                    unfold LS.stands
                    rw [htl, hto]
                  exact SimAt.step hst rfl (ih g (by omega) (i + 1) lev ov kind held is em _ _ (by omega) (by omega) htop hkind (fun h => hk0 h) (fun h => hk1 h) hheld (hA.stand (by rw [hc]; exact rem_not (by omega) cN) lev ov c _ _))
  · rw [rwi_out hlt]
    exact ⟨0, rfl, hA, Or.inl (by show i = _; omega)⟩

/-- The whole paragraph: the same. -/
theorem lrun_rwi (l : List Int) (p : Int) : Agree l p (lrun l (mat l) p l.length) (rwi l p l.length 0 p 0 0 false 0 0 ⟨fun _ => 0, fun _ => 0⟩).2 l.length := by
  obtain ⟨k, h1, h2, h3⟩ := sim l p l.length 0 p 0 0 false 0 0 ⟨fun _ => 0, fun _ => 0⟩ (lrun l (mat l) p 0) (by omega) (by omega) rfl (Or.inl rfl) (fun _ => ⟨rfl, rfl, rfl⟩) (fun h => absurd rfl h) rfl (fun k hk => by omega)
  have hn : (rwi l p l.length 0 p 0 0 false 0 0 ⟨fun _ => 0, fun _ => 0⟩).1 = l.length := by
    rcases h3 with h3 | ⟨-, h3⟩ | ⟨-, h3, -⟩ | ⟨-, h3, -⟩
    · exact h3
    · exact absurd rfl h3
    · cases h3
    · omega
  rw [hn] at h1 h2
  obtain rfl : k = l.length := by omega
  rw [adv_lrun] at h2
  exact h2
end Go.Proofs.Ytkfjhannbnijkaa
