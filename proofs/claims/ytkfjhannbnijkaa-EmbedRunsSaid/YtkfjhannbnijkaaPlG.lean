/- Runs that go alike; what a B parts. No program in sight. -/
import Derived.Test.YtkfjhannbnijkaaPlF
namespace Go.Proofs.Ytkfjhannbnijkaa
open Go.RowKit

/-- A place's level and class. -/
def LV (l : List Int) (mt : Nat → Int) (p : Int) (j : Nat) : Int := (lrun l mt p (j + 1)).lv j
def CL (l : List Int) (mt : Nat → Int) (p : Int) (j : Nat) : Int := (lrun l mt p (j + 1)).cl j

theorem lrun_keep (l : List Int) (mt : Nat → Int) (p : Int) {j : Nat} (d : Nat) : (lrun l mt p (j + 1 + d)).lv j = LV l mt p j ∧ (lrun l mt p (j + 1 + d)).cl j = CL l mt p j := by
  induction d with
  | zero => exact ⟨rfl, rfl⟩
  | succ d ih =>
    obtain ⟨q, -, hst⟩ := LS.step_p l mt p (j + 1 + d) (lrun l mt p (j + 1 + d))
    have hrun : lrun l mt p (j + 1 + (d + 1)) = LS.step l mt p (j + 1 + d) (lrun l mt p (j + 1 + d)) := rfl
    rw [hrun, hst]
    simp only [upd]
    rw [if_neg (by omega), if_neg (by omega)]
    exact ih

theorem lrun_LV (l : List Int) (mt : Nat → Int) (p : Int) {j k : Nat} (h : j < k) : (lrun l mt p k).lv j = LV l mt p j ∧ (lrun l mt p k).cl j = CL l mt p j := by
  have := lrun_keep l mt p (j := j) (k - (j + 1))
  rw [show j + 1 + (k - (j + 1)) = k by omega] at this
  exact this

def prevOf (l : List Int) (mt : Nat → Int) (p : Int) (k : Nat) : Int := if k = 0 then p else LV l mt p (k - 1)

theorem next_p (l : List Int) (mt : Nat → Int) (p : Int) (k : Nat) : ∃ q, q = pstep p (l.getD k 0) (isoR l mt k) (prevOf l mt p k) (lrun l mt p k).top (lrun l mt p k).up ∧
    (lrun l mt p (k + 1)).top = q.t ∧ (lrun l mt p (k + 1)).up = q.up ∧ LV l mt p k = q.v ∧ CL l mt p k = q.u := by
  obtain ⟨q, hq, hst⟩ := LS.step_p l mt p k (lrun l mt p k)
  have hrun : lrun l mt p (k + 1) = LS.step l mt p k (lrun l mt p k) := rfl
  refine ⟨q, ?_, ?_, ?_, ?_, ?_⟩
  · rw [hq]
    unfold prevOf
    by_cases h0 : k = 0
    · rw [if_pos h0, if_pos h0]
    · rw [if_neg h0, if_neg h0, (lrun_LV l mt p (show k - 1 < k by omega)).1]
  · rw [hrun, hst]
  · rw [hrun, hst]
  · unfold LV; rw [hrun, hst]; simp [upd]
  · unfold CL; rw [hrun, hst]; simp [upd]

theorem pstep_iso {base c : Int} {r r' : Bool} {prev : Int} {t : Fr} {up : List Fr} (h : initB c = false) : pstep base c r prev t up = pstep base c r' prev t up := by
  unfold pstep
  rw [if_neg (show ¬ initB c = true by rw [h]; simp), if_neg (show ¬ initB c = true by rw [h]; simp)]

/-- Runs over the same classes, from the same frames. -/
theorem run_cong (l l' : List Int) (mt mt' : Nat → Int) (p : Int) (o o' N : Nat) (h1 : (lrun l mt p o).top = (lrun l' mt' p o').top) (h2 : (lrun l mt p o).up = (lrun l' mt' p o').up) (h3 : prevOf l mt p o = prevOf l' mt' p o')
    (hs : ∀ k, k < N → l.getD (o + k) 0 = l'.getD (o' + k) 0 ∧ (initB (l.getD (o + k) 0) = true → isoR l mt (o + k) = isoR l' mt' (o' + k))) :
    ∀ k, k ≤ N → (lrun l mt p (o + k)).top = (lrun l' mt' p (o' + k)).top ∧ (lrun l mt p (o + k)).up = (lrun l' mt' p (o' + k)).up ∧ prevOf l mt p (o + k) = prevOf l' mt' p (o' + k) ∧
      ∀ j, j < k → LV l mt p (o + j) = LV l' mt' p (o' + j) ∧ CL l mt p (o + j) = CL l' mt' p (o' + j) := by
  intro k
  induction k with
  | zero => intro _; exact ⟨h1, h2, h3, fun j hj => by omega⟩
  | succ k ih =>
    intro hk
    obtain ⟨i1, i2, i3, i4⟩ := ih (by omega)
    obtain ⟨e1, e2⟩ := hs k (by omega)
    obtain ⟨q, hq, q1, q2, q3, q4⟩ := next_p l mt p (o + k)
    obtain ⟨q', hq', q1', q2', q3', q4'⟩ := next_p l' mt' p (o' + k)
    have hqq : q = q' := by
      rw [hq, hq', ← e1, ← i1, ← i2, ← i3]
      by_cases hi : initB (l.getD (o + k) 0) = true
      · rw [e2 hi]
      · exact pstep_iso (by simpa using hi)
    subst hqq
    refine ⟨?_, ?_, ?_, ?_⟩
    · rw [← Nat.add_assoc, ← Nat.add_assoc, q1, q1']
    · rw [← Nat.add_assoc, ← Nat.add_assoc, q2, q2']
    · unfold prevOf
      rw [if_neg (by omega), if_neg (by omega), ← Nat.add_assoc, ← Nat.add_assoc, Nat.add_sub_cancel, Nat.add_sub_cancel, q3, q3']
    · intro j hj
      by_cases e : j = k
      · subst e; exact ⟨by rw [q3, q3'], by rw [q4, q4']⟩
      · exact i4 j (by omega)

/-- The look ahead over the same classes, up to an end or a B. -/
theorem rrw_cong (l l' : List Int) (iso : Bool) (o o' N : Nat) (hs : ∀ k, k < N → l.getD (o + k) 0 = l'.getD (o' + k) 0) (hin : o + N ≤ l.length) (hin' : o' + N ≤ l'.length)
    (he : l.length ≤ o + N ∨ l.getD (o + N) 0 = 11) (he' : l'.length ≤ o' + N ∨ l'.getD (o' + N) 0 = 11) : ∀ M k f g d, N - k ≤ M → k ≤ N → N ≤ k + f → N ≤ k + g → rrw l iso f (o + k) d = rrw l' iso g (o' + k) d := by
  have hstop : ∀ f d, rrw l iso f (o + N) d = false := by
    intro f d
    cases f with
    | zero => rfl
    | succ f => rw [rrw, if_pos he]
  have hstop' : ∀ f d, rrw l' iso f (o' + N) d = false := by
    intro f d
    cases f with
    | zero => rfl
    | succ f => rw [rrw, if_pos he']
  intro M
  induction M with
  | zero =>
    intro k f g d h1 h2 _ _
    obtain rfl : k = N := by omega
    rw [hstop, hstop']
  | succ M ih =>
    intro k f g d h1 h2 h3 h4
    by_cases hk : k = N
    · subst hk; rw [hstop, hstop']
    · obtain ⟨f, rfl⟩ : ∃ f', f = f' + 1 := ⟨f - 1, by omega⟩
      obtain ⟨g, rfl⟩ : ∃ g', g = g' + 1 := ⟨g - 1, by omega⟩
      have ihn : ∀ d, rrw l iso f (o + k + 1) d = rrw l' iso g (o' + k + 1) d := fun d => by
        have := ih (k + 1) f g d (by omega) (by omega) (by omega) (by omega)
        exact this
      rw [rrw, rrw, ← hs k (by omega)]
      have c1 : ¬ l.length ≤ o + k := by omega
      have c2 : ¬ l'.length ≤ o' + k := by omega
      simp only [c1, c2, false_or, ihn]

theorem rrw_fuel (l : List Int) (iso : Bool) (i f g d : Nat) (h1 : l.length ≤ i + f) (h2 : l.length ≤ i + g) (h3 : i ≤ l.length) : rrw l iso f i d = rrw l iso g i d := by
  have := rrw_cong l l iso i i (l.length - i) (fun _ _ => rfl) (by omega) (by omega) (Or.inl (by omega)) (Or.inl (by omega)) (l.length - i) 0 f g d (by omega) (by omega) (by omega) (by omega)
  exact this

/-- What an initiator looks ahead for: the same. -/
theorem isoR_cong (l l' : List Int) (o o' N : Nat) (hs : ∀ k, k < N → l.getD (o + k) 0 = l'.getD (o' + k) 0) (hin : o + N ≤ l.length) (hin' : o' + N ≤ l'.length)
    (he : l.length ≤ o + N ∨ l.getD (o + N) 0 = 11) (he' : l'.length ≤ o' + N ∨ l'.getD (o' + N) 0 = 11) {k : Nat} (hk : k < N) (hi : initB (l.getD (o + k) 0) = true) : isoR l (mat l) (o + k) = isoR l' (mat l') (o' + k) := by
  rw [isoR_eq l (o + k) hi (by omega), isoR_eq l' (o' + k) (by rw [← hs k hk]; exact hi) (by omega), ← hs k hk]
  have := rrw_cong l l' true o o' N hs hin hin' he he' N (k + 1) l.length l'.length 0 (by omega) (by omega) (by omega) (by omega)
  rw [← Nat.add_assoc, ← Nat.add_assoc] at this
  rw [this]

/-- What a B parts is as if each part stood alone. -/
theorem par_law (a b : List Int) (p : Int) :
    (∀ j, j < a.length → LV (a ++ 11 :: b) (mat (a ++ 11 :: b)) p j = LV a (mat a) p j ∧ CL (a ++ 11 :: b) (mat (a ++ 11 :: b)) p j = CL a (mat a) p j) ∧
    (LV (a ++ 11 :: b) (mat (a ++ 11 :: b)) p a.length = p ∧ CL (a ++ 11 :: b) (mat (a ++ 11 :: b)) p a.length = 11) ∧
    ∀ j, j < b.length → LV (a ++ 11 :: b) (mat (a ++ 11 :: b)) p (a.length + 1 + j) = LV b (mat b) p j ∧ CL (a ++ 11 :: b) (mat (a ++ 11 :: b)) p (a.length + 1 + j) = CL b (mat b) p j := by
  generalize hl : a ++ 11 :: b = l
  have hlen : l.length = a.length + 1 + b.length := by rw [← hl]; simp; omega
  have g1 : ∀ k, k < a.length → l.getD (0 + k) 0 = a.getD (0 + k) 0 := by
    intro k hk
    rw [← hl, Nat.zero_add, List.getD_eq_getElem?_getD, List.getD_eq_getElem?_getD, List.getElem?_append_left hk]
  have g2 : l.getD a.length 0 = 11 := by rw [← hl, List.getD_eq_getElem?_getD, List.getElem?_append_right (Nat.le_refl _)]; simp
  have g3 : ∀ k, k < b.length → l.getD (a.length + 1 + k) 0 = b.getD (0 + k) 0 := by
    intro k hk
    rw [← hl, Nat.zero_add, List.getD_eq_getElem?_getD, List.getD_eq_getElem?_getD, List.getElem?_append_right (by omega), show a.length + 1 + k - a.length = k + 1 by omega, List.getElem?_cons_succ]
  have r1 := run_cong l a (mat l) (mat a) p 0 0 a.length rfl rfl rfl (fun k hk => ⟨g1 k hk, fun hi => isoR_cong l a 0 0 a.length g1 (by omega) (by omega) (Or.inr (by rw [Nat.zero_add]; exact g2)) (Or.inl (by omega)) hk hi⟩) a.length (Nat.le_refl _)
  obtain ⟨q, hq, q1, q2, q3, q4⟩ := next_p l (mat l) p a.length
  have hB : q = ⟨⟨p, 0, false, 0, 0⟩, [], p, 11⟩ := by
    rw [hq, g2]
    unfold pstep
    rw [if_neg (by omega), if_neg (by omega), if_neg (by decide), if_neg (by omega), if_pos rfl]
  rw [hB] at q1 q2 q3 q4
  have r2 := run_cong l b (mat l) (mat b) p (a.length + 1) 0 b.length q1 q2 (by unfold prevOf; rw [if_neg (by omega), if_pos rfl, Nat.add_sub_cancel, q3]) (fun k hk => ⟨g3 k hk, fun hi => isoR_cong l b (a.length + 1) 0 b.length g3 (by omega) (by omega) (Or.inl (by omega)) (Or.inl (by omega)) hk hi⟩) b.length (Nat.le_refl _)
  refine ⟨fun j hj => ?_, ⟨q3, q4⟩, fun j hj => ?_⟩
  · have := r1.2.2.2 j hj
    rw [Nat.zero_add] at this
    exact this
  · have := r2.2.2.2 j hj
    rw [Nat.zero_add] at this
    exact this

theorem range_LV (l : List Int) (p : Int) (n : Nat) : (List.range n).map (lrun l (mat l) p n).lv = (List.range n).map (LV l (mat l) p) ∧ (List.range n).map (lrun l (mat l) p n).cl = (List.range n).map (CL l (mat l) p) :=
  ⟨List.map_congr_left fun _ hj => (lrun_LV l (mat l) p (List.mem_range.1 hj)).1, List.map_congr_left fun _ hj => (lrun_LV l (mat l) p (List.mem_range.1 hj)).2⟩

theorem range_par (f g h : Nat → Int) (x : Int) (a b : Nat) (h1 : ∀ j, j < a → f j = g j) (h2 : f a = x) (h3 : ∀ j, j < b → f (a + 1 + j) = h j) : (List.range (a + 1 + b)).map f = (List.range a).map g ++ [x] ++ (List.range b).map h := by
  apply List.ext_getElem
  · simp; omega
  · intro i hi hi'
    simp at hi
    simp only [List.getElem_map, List.getElem_range]
    by_cases c1 : i < a
    · rw [List.getElem_append_left (by simp; omega), List.getElem_append_left (by simp; omega)]
      simp [h1 i c1]
    · by_cases c2 : i = a
      · subst c2
        rw [List.getElem_append_left (by simp), List.getElem_append_right (by simp)]
        simp [h2]
      · rw [List.getElem_append_right (by simp; omega)]
        simp only [List.getElem_map, List.getElem_range, List.length_append, List.length_map, List.length_range, List.length_singleton]
        have := h3 (i - (a + 1)) (by omega)
        rw [show a + 1 + (i - (a + 1)) = i by omega] at this
        exact this
end Go.Proofs.Ytkfjhannbnijkaa
