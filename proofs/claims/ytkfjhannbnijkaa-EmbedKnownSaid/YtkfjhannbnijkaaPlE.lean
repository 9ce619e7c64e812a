/- What holds of the levels: bounds; what a step writes. No program in sight. -/
import Derived.Test.YtkfjhannbnijkaaLvG
namespace Go.Proofs.Ytkfjhannbnijkaa
open Go.RowKit

/-- A frame that is not below the paragraph's level, its override L, R or none. -/
def FrGE (p : Int) (f : Fr) : Prop := p ≤ f.lev ∧ (f.ov = 0 ∨ f.ov = 1 ∨ f.ov = 2) ∧ 0 ≤ f.lev

def AllGE (p : Int) (s : LS) : Prop := FrGE p s.top ∧ ∀ f ∈ s.up, FrGE p f

/-- What a step writes at its place. -/
def Wrote (l : List Int) (p : Int) (i : Nat) (s s' : LS) : Prop :=
  ∃ v u, s'.lv = upd s.lv i v ∧ s'.cl = upd s.cl i u ∧
    (remB (l.getD i 0) = true → v = (if i = 0 then p else s.lv (i - 1)) ∧ u = 10) ∧
    (remB (l.getD i 0) = false → p ≤ v ∧ (u = l.getD i 0 ∨ u = 1 ∨ u = 2)) ∧ (l.getD i 0 = 11 → v = p)

theorem frIn_GE {p : Int} {f g : Fr} {r : Bool} (h : FrGE p f) (e : frIn f r = some g) (o : Int) (b : Bool) (ho : o = 0 ∨ o = 1 ∨ o = 2) : FrGE p ⟨g.lev, o, b, g.is, g.em⟩ := by
  unfold frIn at e
  split at e
  · injection e with e
    subst e
    have := nextL_bd (lev := f.lev) (r := r)
    obtain ⟨h1, -, h3⟩ := h
    exact ⟨by simp only; omega, ho, by simp only; omega⟩
  · cases e

theorem frIn_ov {f g : Fr} {r : Bool} (e : frIn f r = some g) : g.ov = 0 := by
  unfold frIn at e
  split at e
  · injection e with e; subst e; rfl
  · cases e

theorem heldUp_GE {p : Int} : ∀ (r : List Fr) (t : Fr), (∀ f ∈ r, FrGE p f) → ∀ g q, heldUp t r = some (g, q) → FrGE p g ∧ ∀ f ∈ q, FrGE p f := by
  intro r
  induction r with
  | nil => intro t _ g q e; simp [heldUp] at e
  | cons f r ih =>
    intro t hr g q e
    rw [heldUp] at e
    split at e
    · injection e with e
      injection e with e1 e2
      subst e1 e2
      exact ⟨hr _ (by simp), fun x hx => hr x (by simp [hx])⟩
    · exact ih f (fun x hx => hr x (by simp [hx])) g q e

theorem wrote_stand {l : List Int} {p : Int} {i : Nat} {s s' : LS} {t : Fr} (ht : FrGE p t) (h1 : s'.lv = upd s.lv i t.lev) (h2 : s'.cl = upd s.cl i (if t.ov = 0 then l.getD i 0 else t.ov)) (hr : remB (l.getD i 0) = false) (hB : l.getD i 0 = 11 → t.lev = p) : Wrote l p i s s' := by
  refine ⟨t.lev, _, h1, h2, fun h => ?_, fun _ => ⟨ht.1, ?_⟩, hB⟩
  · rw [hr] at h; cases h
  · obtain ⟨-, ho, -⟩ := ht
    split
    · exact Or.inl rfl
    · rcases ho with ho | ho | ho
      · contradiction
      · exact Or.inr (Or.inl ho)
      · exact Or.inr (Or.inr ho)

theorem wrote_goes {l : List Int} {p : Int} {i : Nat} {s s' : LS} (h1 : s'.lv = (s.goes i p).lv) (h2 : s'.cl = (s.goes i p).cl) (hr : remB (l.getD i 0) = true) : Wrote l p i s s' := by
  refine ⟨_, _, h1, h2, fun _ => ⟨rfl, rfl⟩, fun h => ?_, fun h => ?_⟩
  · rw [hr] at h; cases h
  · rw [h] at hr; cases hr

theorem step_wrote (l : List Int) (mt : Nat → Int) (p : Int) (hp : 0 ≤ p) (i : Nat) (s : LS) (h : AllGE p s) : AllGE p (LS.step l mt p i s) ∧ Wrote l p i s (LS.step l mt p i s) := by
  obtain ⟨ht, hu⟩ := h
  obtain ⟨c, hc⟩ : ∃ c, l.getD i 0 = c := ⟨_, rfl⟩
  unfold LS.step
  rw [hc]
  by_cases g1 : 15 ≤ c ∧ c ≤ 18
  · rw [if_pos g1]
    have hr : remB (l.getD i 0) = true := by rw [hc]; unfold remB; simp; omega
    unfold LS.embeds
    cases hf : frIn s.top (embR c) with
    | some f =>
      refine ⟨⟨frIn_GE ht hf (embO c) f.iso (by unfold embO; repeat' split
                                                all_goals omega), fun x hx => ?_⟩, wrote_goes rfl rfl hr⟩
      rcases List.mem_cons.1 hx with rfl | hx
      · exact ht
      · exact hu x hx
    | none =>
      simp only
      split
      · exact ⟨⟨⟨ht.1, ht.2.1, ht.2.2⟩, hu⟩, wrote_goes rfl rfl hr⟩
      · exact ⟨⟨ht, hu⟩, wrote_goes rfl rfl hr⟩
  · rw [if_neg g1]
    by_cases g2 : c = 19
    · rw [if_pos g2]
      have hr : remB (l.getD i 0) = true := by rw [hc, g2]; decide
      unfold LS.leaves
      split
      · exact ⟨⟨ht, hu⟩, wrote_goes rfl rfl hr⟩
      · split
        · exact ⟨⟨⟨ht.1, ht.2.1, ht.2.2⟩, hu⟩, wrote_goes rfl rfl hr⟩
        · split
          · rename_i f r hup
            split
            · exact ⟨⟨ht, hu⟩, wrote_goes rfl rfl hr⟩
            · rw [hup] at hu
              exact ⟨⟨hu f (by simp), fun x hx => hu x (by simp [hx])⟩, wrote_goes rfl rfl hr⟩
          · exact ⟨⟨ht, hu⟩, wrote_goes rfl rfl hr⟩
    · rw [if_neg g2]
      by_cases g3 : initB c = true
      · rw [if_pos g3]
        have h3 := g3
        simp [initB] at h3
        have hr : remB (l.getD i 0) = false := by rw [hc]; exact rem_init g3
        unfold LS.isos
        cases hf : frIn s.top (isoR l mt i) with
        | some f =>
          refine ⟨⟨frIn_GE ht hf f.ov true (Or.inl (frIn_ov hf)), fun x hx => ?_⟩, wrote_stand ht rfl (by rw [hc]; rfl) hr (fun h => by omega)⟩
          rcases List.mem_cons.1 hx with rfl | hx
          · exact ht
          · exact hu x hx
        | none => exact ⟨⟨⟨ht.1, ht.2.1, ht.2.2⟩, hu⟩, wrote_stand ht rfl (by rw [hc]; rfl) hr (fun h => by omega)⟩
      · rw [if_neg g3]
        by_cases g4 : c = 23
        · rw [if_pos g4]
          have hr : remB (l.getD i 0) = false := by rw [hc, g4]; decide
          unfold LS.closes
          split
          · exact ⟨⟨⟨ht.1, ht.2.1, ht.2.2⟩, hu⟩, wrote_stand (t := s.top) ht rfl (by rw [hc]; rfl) hr (fun h => by omega)⟩
          · split
            · rename_i f r hf
              obtain ⟨k1, k2⟩ := heldUp_GE _ _ hu _ _ hf
              exact ⟨⟨k1, k2⟩, wrote_stand k1 rfl (by rw [hc]; rfl) hr (fun h => by omega)⟩
            · exact ⟨⟨ht, hu⟩, wrote_stand ht rfl (by rw [hc]; rfl) hr (fun h => by omega)⟩
        · rw [if_neg g4]
          by_cases g5 : c = 11
          · rw [if_pos g5]
            have hz : FrGE p ⟨p, 0, false, 0, 0⟩ := ⟨Int.le_refl _, Or.inl rfl, hp⟩
            exact ⟨⟨hz, fun x hx => by simp [LS.ends, LS.stands] at hx⟩, wrote_stand hz rfl (by rw [hc]; rfl) (by rw [hc, g5]; decide) (fun _ => rfl)⟩
          · rw [if_neg g5]
            by_cases g6 : c = 10
            · rw [if_pos g6]
              exact ⟨⟨ht, hu⟩, wrote_goes rfl rfl (by rw [hc, g6]; decide)⟩
            · rw [if_neg g6]
              exact ⟨⟨ht, hu⟩, wrote_stand ht rfl (by rw [hc]; rfl) (by rw [hc]; unfold remB; simp; omega) (fun h => by omega)⟩

/-- What holds of a place's level and class. -/
def PlaceOK (l : List Int) (p : Int) (lv cl : Nat → Int) (j : Nat) : Prop :=
  p ≤ lv j ∧ (l.getD j 0 = 11 → lv j = p) ∧ (remB (l.getD j 0) = true → lv j = (if j = 0 then p else lv (j - 1)) ∧ cl j = 10) ∧ (remB (l.getD j 0) = false → cl j = l.getD j 0 ∨ cl j = 1 ∨ cl j = 2)

theorem lrun_places (l : List Int) (mt : Nat → Int) (p : Int) (hp : 0 ≤ p) (k : Nat) : AllGE p (lrun l mt p k) ∧ ∀ j, j < k → PlaceOK l p (lrun l mt p k).lv (lrun l mt p k).cl j := by
  induction k with
  | zero => exact ⟨⟨⟨Int.le_refl _, Or.inl rfl, hp⟩, fun x hx => by simp [lrun] at hx⟩, fun j hj => by omega⟩
  | succ k ih =>
    obtain ⟨h1, h2⟩ := ih
    obtain ⟨h3, v, u, e1, e2, e3, e4, e5⟩ := step_wrote l mt p hp k _ h1
    refine ⟨h3, fun j hj => ?_⟩
    show PlaceOK l p (LS.step l mt p k (lrun l mt p k)).lv (LS.step l mt p k (lrun l mt p k)).cl j
    rw [e1, e2]
    by_cases e : j = k
    · subst e
      have ev : upd (lrun l mt p j).lv j v j = v := by simp [upd]
      have eu : upd (lrun l mt p j).cl j u j = u := by simp [upd]
      unfold PlaceOK
      rw [ev, eu]
      refine ⟨?_, e5, fun hr => ?_, fun hr => (e4 hr).2⟩
      · by_cases hr : remB (l.getD j 0) = true
        · rw [(e3 hr).1]
          split
          · omega
          · exact (h2 (j - 1) (by omega)).1
        · exact (e4 (by simpa using hr)).1
      · rw [(e3 hr).1, (e3 hr).2]
        refine ⟨?_, rfl⟩
        by_cases h0 : j = 0
        · rw [if_pos h0, if_pos h0]
        · rw [if_neg h0, if_neg h0]
          simp only [upd]
          rw [if_neg (by omega)]
    · have ev : ∀ i, i < k → upd (lrun l mt p k).lv k v i = (lrun l mt p k).lv i := fun i hi => by simp only [upd]; rw [if_neg (by omega)]
      have eu : upd (lrun l mt p k).cl k u j = (lrun l mt p k).cl j := by simp only [upd]; rw [if_neg e]
      have h4 := h2 j (by omega)
      unfold PlaceOK at h4 ⊢
      rw [ev j (by omega), eu]
      by_cases h0 : j = 0
      · rw [if_pos h0] at h4 ⊢; exact h4
      · rw [if_neg h0] at h4 ⊢; rw [ev (j - 1) (by omega)]; exact h4

/-! Classes without controls. -/
def Calm (c : Int) : Prop := (1 ≤ c ∧ c ≤ 14) ∨ c = 19 ∨ c = 23

theorem lrun_calm (l : List Int) (mt : Nat → Int) (p : Int) (h : ∀ i, i < l.length → Calm (l.getD i 0)) (k : Nat) (hk : k ≤ l.length) :
    (lrun l mt p k).top = ⟨p, 0, false, 0, 0⟩ ∧ (lrun l mt p k).up = [] ∧ ∀ j, j < k → (lrun l mt p k).lv j = p ∧ (lrun l mt p k).cl j = (if l.getD j 0 = 19 then 10 else l.getD j 0) := by
  induction k with
  | zero => exact ⟨rfl, rfl, fun j hj => by omega⟩
  | succ k ih =>
    obtain ⟨h1, h2, h3⟩ := ih (by omega)
    have hcm := h k (by omega)
    obtain ⟨c, hc⟩ : ∃ c, l.getD k 0 = c := ⟨_, rfl⟩
    rw [hc] at hcm
    unfold Calm at hcm
    generalize hs : lrun l mt p k = s at *
    obtain ⟨lv, cl, t, up⟩ := s
    simp only at h1 h2 h3
    subst h1 h2
    have old : ∀ v u j, j < k → upd lv k v j = p ∧ upd cl k u j = (if l.getD j 0 = 19 then 10 else l.getD j 0) := by
      intro v u j hj
      simp only [upd]
      rw [if_neg (by omega), if_neg (by omega)]
      exact h3 j hj
    have goal : ∀ v u, v = p → u = (if c = 19 then 10 else c) → ∀ j, j < k + 1 → upd lv k v j = p ∧ upd cl k u j = (if l.getD j 0 = 19 then 10 else l.getD j 0) := by
      intro v u hv hu j hj
      by_cases e : j = k
      · subst e
        simp only [upd, if_true]
        rw [hc]
        exact ⟨hv, hu⟩
      · exact old v u j (by omega)
    have hgo : (if k = 0 then p else lv (k - 1)) = p := by
      split
      · rfl
      · exact (h3 (k - 1) (by omega)).1
    show (LS.step l mt p k (lrun l mt p k)).top = _ ∧ (LS.step l mt p k (lrun l mt p k)).up = [] ∧ ∀ j, j < k + 1 → (LS.step l mt p k (lrun l mt p k)).lv j = p ∧ (LS.step l mt p k (lrun l mt p k)).cl j = _
    rw [hs]
    unfold LS.step
    rw [hc, if_neg (by omega)]
    by_cases g2 : c = 19
    · rw [if_pos g2]
      unfold LS.leaves
      rw [if_neg (by simp), if_neg (by simp)]
      exact ⟨rfl, rfl, goal _ _ hgo (by rw [if_pos g2])⟩
    · rw [if_neg g2, if_neg (by unfold initB; simp; omega)]
      by_cases g4 : c = 23
      · rw [if_pos g4]
        unfold LS.closes
        rw [if_neg (by simp)]
        exact ⟨rfl, rfl, goal _ _ rfl (by rw [if_neg g2]; rfl)⟩
      · rw [if_neg g4]
        by_cases g5 : c = 11
        · rw [if_pos g5]
          exact ⟨rfl, rfl, goal _ _ rfl (by rw [if_neg g2]; rfl)⟩
        · rw [if_neg g5]
          by_cases g6 : c = 10
          · rw [if_pos g6]
            exact ⟨rfl, rfl, goal _ _ hgo (by rw [if_neg g2]; exact g6.symm)⟩
          · rw [if_neg g6]
            exact ⟨rfl, rfl, goal _ _ rfl (by rw [if_neg g2]; rfl)⟩
end Go.Proofs.Ytkfjhannbnijkaa
