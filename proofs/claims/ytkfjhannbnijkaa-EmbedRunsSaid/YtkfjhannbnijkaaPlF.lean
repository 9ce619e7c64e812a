/- A step of the frames, by itself; behind a PDI the frames are those ahead of its initiator. No program in sight. -/
import Derived.Test.YtkfjhannbnijkaaPlA
namespace Go.Proofs.Ytkfjhannbnijkaa
open Go.RowKit

structure PS where
  t : Fr
  up : List Fr
  v : Int
  u : Int

def ovC (t : Fr) (c : Int) : Int := if t.ov = 0 then c else t.ov

def pclose (t : Fr) (up : List Fr) : Fr × List Fr :=
  if 0 < t.is then (⟨t.lev, t.ov, t.iso, t.is - 1, t.em⟩, up) else (match heldUp t up with | some p => p | none => (t, up))

def pleave (t : Fr) (up : List Fr) : Fr × List Fr :=
  if 0 < t.is then (t, up) else if 0 < t.em then (⟨t.lev, t.ov, t.iso, t.is, t.em - 1⟩, up)
  else (match up with | f :: r => if t.iso = true then (t, up) else (f, r) | [] => (t, up))

/-- The frames behind a class, and the level and class that it has. -/
def pstep (base c : Int) (r : Bool) (prev : Int) (t : Fr) (up : List Fr) : PS :=
  if 15 ≤ c ∧ c ≤ 18 then (match frIn t (embR c) with
    | some f => ⟨⟨f.lev, embO c, f.iso, f.is, f.em⟩, t :: up, prev, 10⟩
    | none => if t.is = 0 then ⟨⟨t.lev, t.ov, t.iso, t.is, t.em + 1⟩, up, prev, 10⟩ else ⟨t, up, prev, 10⟩)
  else if c = 19 then ⟨(pleave t up).1, (pleave t up).2, prev, 10⟩
  else if initB c = true then (match frIn t r with
    | some f => ⟨⟨f.lev, f.ov, true, f.is, f.em⟩, t :: up, t.lev, ovC t c⟩
    | none => ⟨⟨t.lev, t.ov, t.iso, t.is + 1, t.em⟩, up, t.lev, ovC t c⟩)
  else if c = 23 then ⟨(pclose t up).1, (pclose t up).2, (pclose t up).1.lev, ovC (pclose t up).1 c⟩
  else if c = 11 then ⟨⟨base, 0, false, 0, 0⟩, [], base, c⟩
  else if c = 10 then ⟨t, up, prev, 10⟩
  else ⟨t, up, t.lev, ovC t c⟩

theorem LS.step_p (l : List Int) (mt : Nat → Int) (base : Int) (i : Nat) (s : LS) : ∃ q, q = pstep base (l.getD i 0) (isoR l mt i) (if i = 0 then base else s.lv (i - 1)) s.top s.up ∧ LS.step l mt base i s = ⟨upd s.lv i q.v, upd s.cl i q.u, q.t, q.up⟩ := by
  refine ⟨_, rfl, ?_⟩
  obtain ⟨c, hc⟩ : ∃ c, l.getD i 0 = c := ⟨_, rfl⟩
  obtain ⟨lv, cl, t, up⟩ := s
  unfold LS.step pstep
  rw [hc]
  by_cases g1 : 15 ≤ c ∧ c ≤ 18
  · rw [if_pos g1, if_pos g1]
    unfold LS.embeds
    simp only
    cases hf : frIn t (embR c) with
    | some f => rfl
    | none =>
      simp only
      split <;> rfl
  · rw [if_neg g1, if_neg g1]
    by_cases g2 : c = 19
    · rw [if_pos g2, if_pos g2]
      unfold LS.leaves pleave
      simp only
      split
      · rfl
      · split
        · rfl
        · cases up with
          | nil => rfl
          | cons f r =>
            simp only
            split <;> rfl
    · rw [if_neg g2, if_neg g2]
      by_cases g3 : initB c = true
      · rw [if_pos g3, if_pos g3]
        unfold LS.isos
        simp only
        cases hf : frIn t (isoR l mt i) with
        | some f => rfl
        | none => rfl
      · rw [if_neg g3, if_neg g3]
        by_cases g4 : c = 23
        · rw [if_pos g4, if_pos g4]
          unfold LS.closes pclose
          simp only
          split
          · rfl
          · cases hh : heldUp t up with
            | some p => rfl
            | none => rfl
        · rw [if_neg g4, if_neg g4]
          by_cases g5 : c = 11
          · rw [if_pos g5, if_pos g5]; rfl
          · rw [if_neg g5, if_neg g5]
            by_cases g6 : c = 10
            · rw [if_pos g6, if_pos g6]; rfl
            · rw [if_neg g6, if_neg g6]; rfl

/-- What waits: of each initiator that has no PDI yet the frames that come back. -/
inductive Pend : Fr → List Fr → List (Fr × List Fr) → Prop
  | over (t : Fr) (up : List Fr) (st : List (Fr × List Fr)) : 0 ≤ t.is → Pend t up st → Pend ⟨t.lev, t.ov, t.iso, t.is + 1, t.em⟩ up ((t, up) :: st)
  | none (t : Fr) (up : List Fr) : t.is = 0 → heldUp t up = .none → Pend t up []
  | iso (t : Fr) (up : List Fr) (g : Fr) (r : List Fr) (st : List (Fr × List Fr)) : t.is = 0 → heldUp t up = some (g, r) → Pend g r st → Pend t up ((g, r) :: st)

theorem heldUp_same {t u : Fr} {up : List Fr} (h : t.iso = u.iso) : heldUp t up = heldUp u up := by
  cases up with
  | nil => rfl
  | cons f r => unfold heldUp; rw [h]

theorem Pend.zero {t u : Fr} {up vp : List Fr} {st : List (Fr × List Fr)} (h : Pend t up st) (h0 : t.is = 0) (hu : u.is = 0) (hh : heldUp u vp = heldUp t up) : Pend u vp st := by
  cases h with
  | over t' _ st' h1 h2 => simp only at h0; omega
  | none _ _ h1 h2 => exact Pend.none _ _ hu (by rw [hh]; exact h2)
  | iso _ _ g r st' h1 h2 h3 => exact Pend.iso _ _ g r st' hu (by rw [hh]; exact h2) h3

theorem Pend.pop {t : Fr} {up : List Fr} {x : Fr × List Fr} {st : List (Fr × List Fr)} (h : Pend t up (x :: st)) : pclose t up = x ∧ Pend x.1 x.2 st := by
  cases h with
  | over t' _ _ h1 h2 =>
    unfold pclose
    rw [if_pos (by simp only; omega)]
    simp only
    rw [show t'.is + 1 - 1 = t'.is by omega]
    exact ⟨rfl, h2⟩
  | iso _ _ g r _ h1 h2 h3 =>
    unfold pclose
    rw [if_neg (by omega), h2]
    exact ⟨rfl, h3⟩

theorem Pend.empty {t : Fr} {up : List Fr} (h : Pend t up []) : pclose t up = (t, up) := by
  cases h with
  | none _ _ h1 h2 =>
    unfold pclose
    rw [if_neg (by omega), h2]

/-- What holds of the counts. -/
def CntOK (t : Fr) (up : List Fr) : Prop := (0 ≤ t.is ∧ 0 ≤ t.em) ∧ ∀ f ∈ up, f.is = 0 ∧ f.em = 0

theorem frIn_cnt {t f : Fr} {r : Bool} (e : frIn t r = some f) : f.is = 0 ∧ f.em = 0 ∧ f.iso = false ∧ t.is + t.em ≤ 0 := by
  unfold frIn at e
  split at e
  · rename_i h
    injection e with e; subst e; exact ⟨rfl, rfl, rfl, h.2⟩
  · cases e

theorem heldUp_cnt : ∀ (r : List Fr) (t : Fr), (∀ f ∈ r, f.is = 0 ∧ f.em = 0) → ∀ g q, heldUp t r = some (g, q) → (g.is = 0 ∧ g.em = 0) ∧ ∀ f ∈ q, f.is = 0 ∧ f.em = 0 := by
  intro r
  induction r with
  | nil => intro t _ g q e; simp [heldUp] at e
  | cons f r ih =>
    intro t hr g q e
    rw [heldUp] at e
    split at e
    · injection e with e
      injection e with e1 e2
      subst e1 e2
      exact ⟨hr _ (by simp), fun x hx => hr x (by simp [hx])⟩
    · exact ih f (fun x hx => hr x (by simp [hx])) g q e

def svOf (l : List Int) (mt : Nat → Int) (p : Int) (k : Nat) : List (Fr × List Fr) := (stk l k).map fun i => ((lrun l mt p i).top, (lrun l mt p i).up)

theorem lrun_pend (l : List Int) (mt : Nat → Int) (p : Int) (k : Nat) : CntOK (lrun l mt p k).top (lrun l mt p k).up ∧ Pend (lrun l mt p k).top (lrun l mt p k).up (svOf l mt p k) := by
  induction k with
  | zero => exact ⟨⟨⟨by simp [lrun], by simp [lrun]⟩, fun f hf => by simp [lrun] at hf⟩, Pend.none _ _ rfl rfl⟩
  | succ k ih =>
    obtain ⟨hc, hP⟩ := ih
    have hself : ((lrun l mt p k).top, (lrun l mt p k).up) = ((lrun l mt p k).top, (lrun l mt p k).up) := rfl
    have hsv : svOf l mt p (k + 1) = if initB (l.getD k 0) = true then ((lrun l mt p k).top, (lrun l mt p k).up) :: svOf l mt p k else if l.getD k 0 = 11 then [] else if l.getD k 0 = 23 then (svOf l mt p k).tail else svOf l mt p k := by
      unfold svOf
      rw [stk]
      split
      · rfl
      · split
        · rfl
        · split
          · rw [List.map_tail]
          · rfl
    obtain ⟨q, hq, hst⟩ := LS.step_p l mt p k (lrun l mt p k)
    have hrun : lrun l mt p (k + 1) = LS.step l mt p k (lrun l mt p k) := rfl
    rw [hrun, hst, hsv]
    show CntOK q.t q.up ∧ Pend q.t q.up _
    generalize svOf l mt p k = sv at *
    generalize (lrun l mt p k).top = t at *
    generalize (lrun l mt p k).up = up at *
    generalize (if k = 0 then p else (lrun l mt p k).lv (k - 1)) = prev at *
    generalize isoR l mt k = r at *
    generalize l.getD k 0 = c at *
    clear hsv hst hrun hself
    obtain ⟨⟨hi, he⟩, hu⟩ := hc
    subst hq
    unfold pstep
    by_cases g1 : 15 ≤ c ∧ c ≤ 18
    · rw [if_pos g1, if_neg (show ¬ initB c = true by rw [initB_not (by omega)]; simp), if_neg (show ¬ c = 11 by omega), if_neg (show ¬ c = 23 by omega)]
      cases hf : frIn t (embR c) with
      | some f =>
        obtain ⟨f1, f2, f3, f4⟩ := frIn_cnt hf
        simp only
        refine ⟨⟨⟨by simp only; omega, by simp only; omega⟩, fun x hx => ?_⟩, hP.zero (by omega) (by simp only; exact f1) ?_⟩
        · rcases List.mem_cons.1 hx with rfl | hx
          · exact ⟨by omega, by omega⟩
          · exact hu x hx
        · simp only [heldUp]; rw [if_neg (by rw [f3]; simp)]
      | none =>
        simp only
        by_cases h0 : t.is = 0
        · rw [if_pos h0]
          exact ⟨⟨⟨hi, by simp only; omega⟩, hu⟩, hP.zero h0 h0 (heldUp_same rfl)⟩
        · rw [if_neg h0]
          exact ⟨⟨⟨hi, he⟩, hu⟩, hP⟩
    · rw [if_neg g1]
      by_cases g2 : c = 19
      · rw [if_pos g2, if_neg (show ¬ initB c = true by rw [initB_not (by omega)]; simp), if_neg (show ¬ c = 11 by omega), if_neg (show ¬ c = 23 by omega)]
        unfold pleave
        by_cases h0 : 0 < t.is
        · rw [if_pos h0]; exact ⟨⟨⟨hi, he⟩, hu⟩, hP⟩
        · rw [if_neg h0]
          by_cases h1 : 0 < t.em
          · rw [if_pos h1]
            exact ⟨⟨⟨hi, by simp only; omega⟩, hu⟩, hP.zero (by omega) (by simp only; omega) (heldUp_same rfl)⟩
          · rw [if_neg h1]
            cases up with
            | nil => exact ⟨⟨⟨hi, he⟩, hu⟩, hP⟩
            | cons f q =>
              simp only
              by_cases h2 : t.iso = true
              · rw [if_pos h2]; exact ⟨⟨⟨hi, he⟩, hu⟩, hP⟩
              · rw [if_neg h2]
                have hf := hu f (by simp)
                refine ⟨⟨⟨by simp only; omega, by simp only; omega⟩, fun x hx => hu x (by simp [hx])⟩, hP.zero (by omega) hf.1 ?_⟩
                simp only [heldUp]; rw [if_neg h2]
      · rw [if_neg g2]
        by_cases g3 : initB c = true
        · rw [if_pos g3, if_pos g3]
          cases hf : frIn t r with
          | some f =>
            obtain ⟨f1, f2, f3, f4⟩ := frIn_cnt hf
            simp only
            refine ⟨⟨⟨by simp only; omega, by simp only; omega⟩, fun x hx => ?_⟩, Pend.iso _ _ t up sv (by simp only; exact f1) (by simp [heldUp]) hP⟩
            rcases List.mem_cons.1 hx with rfl | hx
            · exact ⟨by omega, by omega⟩
            · exact hu x hx
          | none => exact ⟨⟨⟨by simp only; omega, he⟩, hu⟩, Pend.over t up sv hi hP⟩
        · rw [if_neg g3, if_neg g3]
          by_cases g4 : c = 23
          · rw [if_pos g4, if_neg (show ¬ c = 11 by omega), if_pos g4]
            have hcl : CntOK (pclose t up).1 (pclose t up).2 := by
              unfold pclose
              by_cases h0 : 0 < t.is
              · rw [if_pos h0]; exact ⟨⟨by simp only; omega, he⟩, hu⟩
              · rw [if_neg h0]
                cases hh : heldUp t up with
                | none => exact ⟨⟨hi, he⟩, hu⟩
                | some x =>
                  obtain ⟨g, q⟩ := x
                  obtain ⟨k1, k2⟩ := heldUp_cnt up t hu g q hh
                  exact ⟨⟨by simp only; omega, by simp only; omega⟩, k2⟩
            refine ⟨hcl, ?_⟩
            cases sv with
            | nil => rw [hP.empty]; exact hP
            | cons x sv =>
              obtain ⟨k1, k2⟩ := hP.pop
              rw [k1]
              exact k2
          · rw [if_neg g4]
            by_cases g5 : c = 11
            · rw [if_pos g5, if_pos g5]
              exact ⟨⟨⟨Int.le_refl _, Int.le_refl _⟩, fun f hf => by simp at hf⟩, Pend.none _ _ rfl rfl⟩
            · rw [if_neg g5, if_neg g5, if_neg g4]
              by_cases g6 : c = 10
              · rw [if_pos g6]; exact ⟨⟨⟨hi, he⟩, hu⟩, hP⟩
              · rw [if_neg g6]; exact ⟨⟨⟨hi, he⟩, hu⟩, hP⟩

/-- Behind a PDI the frames are those ahead of its initiator. -/
theorem pair_state {l : List Int} {mt : Nat → Int} {p : Int} {i m : Nat} (h : Pair l i m) : (lrun l mt p (m + 1)).top = (lrun l mt p i).top ∧ (lrun l mt p (m + 1)).up = (lrun l mt p i).up := by
  obtain ⟨hc, t, ht⟩ := h
  have hP := (lrun_pend l mt p m).2
  unfold svOf at hP
  rw [ht, List.map_cons] at hP
  obtain ⟨k1, -⟩ := hP.pop
  obtain ⟨q, hq, hst⟩ := LS.step_p l mt p m (lrun l mt p m)
  have hrun : lrun l mt p (m + 1) = LS.step l mt p m (lrun l mt p m) := rfl
  rw [hrun, hst]
  show q.t = _ ∧ q.up = _
  rw [hq]
  unfold pstep
  rw [hc, if_neg (by omega), if_neg (by omega), if_neg (by decide), if_pos rfl]
  simp only
  rw [k1]
  exact ⟨rfl, rfl⟩
end Go.Proofs.Ytkfjhannbnijkaa
