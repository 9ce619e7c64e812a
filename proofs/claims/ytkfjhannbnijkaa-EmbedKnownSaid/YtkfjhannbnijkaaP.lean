/- The matching ones, told twice: by a stack, by a balance: they are the same. No program is in sight. -/
import Derived.Test.YtkfjhannbnijkaaC
namespace Go.Proofs.Ytkfjhannbnijkaa
open Go.RowKit

/-- The initiators that wait ahead of place k, the innermost first. -/
def stk (l : List Int) : Nat → List Nat
  | 0 => []
  | k + 1 => if initB (l.getD k 0) = true then k :: stk l k else if l.getD k 0 = 11 then [] else if l.getD k 0 = 23 then (stk l k).tail else stk l k

/-- The m-th class is the PDI of the i-th. -/
def Pair (l : List Int) (i m : Nat) : Prop := l.getD m 0 = 23 ∧ ∃ t, stk l m = i :: t

theorem stk_lt (l : List Int) (k : Nat) : ∀ i ∈ stk l k, i < k ∧ initB (l.getD i 0) = true := by
  induction k with
  | zero => simp [stk]
  | succ k ih =>
    intro i hi
    simp only [stk] at hi
    split at hi
    · rename_i h
      rcases List.mem_cons.1 hi with rfl | h2
      · exact ⟨by omega, h⟩
      · have := ih i h2; exact ⟨by omega, this.2⟩
    · split at hi
      · simp at hi
      · split at hi
        · have := ih i (List.mem_of_mem_tail hi); exact ⟨by omega, this.2⟩
        · have := ih i hi; exact ⟨by omega, this.2⟩

theorem Pair.lt {l : List Int} {i m : Nat} (h : Pair l i m) : i < m ∧ initB (l.getD i 0) = true := by
  obtain ⟨_, t, ht⟩ := h
  exact stk_lt l m i (by rw [ht]; simp)
theorem Pair.left {l : List Int} {i j m : Nat} (h : Pair l i m) (h2 : Pair l j m) : i = j := by
  obtain ⟨_, t, ht⟩ := h
  obtain ⟨_, u, hu⟩ := h2
  rw [ht] at hu
  injection hu
theorem init23 {c : Int} (h : initB c = true) : c ≠ 23 ∧ c ≠ 11 := by simp [initB] at h; omega

/-- One that has gone out of the stack does not come back. -/
theorem stk_back (l : List Int) {i k : Nat} (hk : i < k) (h : i ∉ stk l k) (d : Nat) : i ∉ stk l (k + d) := by
  induction d with
  | zero => exact h
  | succ d ih =>
    rw [← Nat.add_assoc, stk]
    split
    · intro hh
      rcases List.mem_cons.1 hh with e | h2
      · omega
      · exact ih h2
    · split
      · simp
      · split
        · exact fun hh => ih (List.mem_of_mem_tail hh)
        · exact ih

theorem stk_nodup (l : List Int) (k : Nat) : (stk l k).Nodup := by
  induction k with
  | zero => simp [stk]
  | succ k ih =>
    rw [stk]
    split
    · refine List.nodup_cons.2 ⟨fun h => ?_, ih⟩
      have := (stk_lt l k k h).1
      omega
    · split
      · simp
      · split
        · exact ih.sublist (List.tail_sublist _)
        · exact ih

theorem Pair.gone {l : List Int} {i m : Nat} (h : Pair l i m) : i ∉ stk l (m + 1) := by
  obtain ⟨hc, t, ht⟩ := h
  have hn := stk_nodup l m
  rw [ht] at hn
  have : stk l (m + 1) = t := by
    rw [stk, if_neg (by rw [hc]; decide), if_neg (by rw [hc]; decide), if_pos hc, ht]; rfl
  rw [this]
  exact (List.nodup_cons.1 hn).1

theorem Pair.right {l : List Int} {i m k : Nat} (h : Pair l i m) (h2 : Pair l i k) : m = k := by
  rcases Nat.lt_trichotomy m k with h3 | h3 | h3
  · exfalso
    have := stk_back l (k := m + 1) (by have := h.lt; omega) h.gone (k - (m + 1))
    rw [show m + 1 + (k - (m + 1)) = k by omega] at this
    obtain ⟨_, t, ht⟩ := h2
    exact this (by rw [ht]; simp)
  · exact h3
  · exfalso
    have := stk_back l (k := k + 1) (by have := h2.lt; omega) h2.gone (m - (k + 1))
    rw [show k + 1 + (m - (k + 1)) = m by omega] at this
    obtain ⟨_, t, ht⟩ := h
    exact this (by rw [ht]; simp)

/-- What matches below k. -/
def OutOK (l : List Int) (k : Nat) (f : Nat → Int) : Prop :=
  ∀ j, j < k → (f j = -1 ∧ ∀ m, m < k → ¬ Pair l j m ∧ ¬ Pair l m j) ∨ ∃ m, m < k ∧ (Pair l j m ∨ Pair l m j) ∧ f j = m

theorem OutOK.unique {l : List Int} {k : Nat} {f g : Nat → Int} (h : OutOK l k f) (h2 : OutOK l k g) {j : Nat} (hj : j < k) : f j = g j := by
  rcases h j hj with ⟨h1, h3⟩ | ⟨m, hm, hp, hf⟩
  · rcases h2 j hj with ⟨h4, _⟩ | ⟨m, hm, hp, _⟩
    · rw [h1, h4]
    · rcases hp with hp | hp
      · exact absurd hp (h3 m hm).1
      · exact absurd hp (h3 m hm).2
  · rcases h2 j hj with ⟨_, h3⟩ | ⟨m', hm', hp', hf'⟩
    · rcases hp with hp | hp
      · exact absurd hp (h3 m hm).1
      · exact absurd hp (h3 m hm).2
    · rw [hf, hf']
      rcases hp with hp | hp <;> rcases hp' with hp' | hp'
      · rw [hp.right hp']
      · exact absurd hp'.1 (init23 hp.lt.2).1
      · exact absurd hp.1 (init23 hp'.lt.2).1
      · rw [hp.left hp']

def Chain (ar : Nat → Int) : Int → List Nat → Prop
  | x, [] => x = -1
  | x, i :: t => x = i ∧ Chain ar (ar i) t

theorem Chain.congr {ar br : Nat → Int} {x : Int} {t : List Nat} (h : Chain ar x t) (e : ∀ i ∈ t, ar i = br i) : Chain br x t := by
  induction t generalizing x with
  | nil => exact h
  | cons i t ih =>
    obtain ⟨h1, h2⟩ := h
    refine ⟨h1, ?_⟩
    rw [← e i (by simp)]
    exact ih h2 (fun j hj => e j (by simp [hj]))

theorem not_pair_of {l : List Int} {k : Nat} (h : l.getD k 0 ≠ 23) (j : Nat) : ¬ Pair l j k := fun hp => h hp.1

theorem OutOK.skip {l : List Int} {k : Nat} {f : Nat → Int} (h : OutOK l k f) (hp : ∀ j, ¬ Pair l j k) : OutOK l (k + 1) (upd f k (-1)) := by
  intro j hj
  by_cases e : j = k
  · subst e
    left
    refine ⟨by simp [upd], fun m hm => ⟨fun h2 => by have := h2.lt; omega, hp m⟩⟩
  · simp only [upd, if_neg e]
    rcases h j (by omega) with ⟨h1, h2⟩ | ⟨m, hm, h1, h2⟩
    · left
      refine ⟨h1, fun m hm => ?_⟩
      by_cases e2 : m = k
      · subst e2
        exact ⟨hp j, fun h3 => by have := h3.lt; omega⟩
      · exact h2 m (by omega)
    · exact Or.inr ⟨m, by omega, h1, h2⟩

theorem mrun_ok (l : List Int) (k : Nat) : Chain (mrun l k).ar (mrun l k).last (stk l k) ∧ OutOK l k (mrun l k).out := by
  induction k with
  | zero => exact ⟨rfl, fun j hj => by omega⟩
  | succ k ih =>
    obtain ⟨h1, h2⟩ := ih
    rw [mrun, stk]
    by_cases hi : initB (l.getD k 0) = true
    · rw [mstep_init hi, if_pos hi]
      refine ⟨⟨rfl, ?_⟩, h2.skip (not_pair_of (init23 hi).1)⟩
      show Chain (upd _ _ _) (upd _ _ _ _) _
      rw [show upd (mrun l k).ar k (mrun l k).last k = (mrun l k).last by simp [upd]]
      exact h1.congr (fun i hi => by have := (stk_lt l k i hi).1; simp only [upd]; rw [if_neg (by omega)])
    · rw [if_neg hi]
      by_cases hb : l.getD k 0 = 11
      · rw [mstep_B hb, if_pos hb]
        exact ⟨rfl, h2.skip (not_pair_of (by omega))⟩
      · rw [if_neg hb]
        have hi' : initB (l.getD k 0) = false := by simpa using hi
        by_cases hc : l.getD k 0 = 23
        · rw [if_pos hc]
          cases hs : stk l k with
          | nil =>
            rw [hs] at h1
            have h1' : (mrun l k).last = -1 := h1
            rw [mstep_o hi' hb (fun _ => by omega)]
            exact ⟨h1', h2.skip (fun j hp => by obtain ⟨_, t, ht⟩ := hp; rw [hs] at ht; cases ht)⟩
          | cons i t =>
            rw [hs] at h1
            obtain ⟨h3, h4⟩ := h1
            rw [mstep_P hc (by omega), h3, Int.toNat_natCast]
            refine ⟨h4, ?_⟩
            have hp : Pair l i k := ⟨hc, t, hs⟩
            have hik := hp.lt.1
            intro j hj
            by_cases e : j = i
            · subst e
              exact Or.inr ⟨k, by omega, Or.inl hp, by simp [upd]⟩
            · by_cases e2 : j = k
              · subst e2
                exact Or.inr ⟨i, by omega, Or.inr hp, by simp [upd, e]⟩
              · simp only [upd, if_neg e, if_neg e2]
                rcases h2 j (by omega) with ⟨h5, h6⟩ | ⟨m, hm, h5, h6⟩
                · left
                  refine ⟨h5, fun m hm => ?_⟩
                  by_cases e3 : m = k
                  · subst e3
                    exact ⟨fun h7 => e (h7.left hp), fun h7 => by have := h7.lt; omega⟩
                  · exact h6 m (by omega)
                · exact Or.inr ⟨m, by omega, h5, h6⟩
        · rw [if_neg hc, mstep_o hi' hb (fun e => absurd e hc)]
          exact ⟨h1, h2.skip (not_pair_of hc)⟩

/-- The balance finds what the stack finds. -/
theorem rfind_ok (l : List Int) (i : Nat) (t : List Nat) : ∀ (f k : Nat) (A : List Nat), i < k → stk l k = A ++ i :: t → (match rfind l f k ((A.length : Int) + 1) with
    | some m => Pair l i m ∧ m < k + f
    | none => ∀ m, m < k + f → ¬ Pair l i m) ∨ ∃ m, m < k ∧ Pair l i m := by
  intro f
  induction f with
  | zero =>
    intro k A hk hs
    by_cases h : ∃ m, m < k ∧ Pair l i m
    · exact Or.inr h
    · left
      simp only [rfind]
      exact fun m hm hp => h ⟨m, hm, hp⟩
  | succ f ih =>
    intro k A hk hs
    by_cases hex : ∃ m, m < k ∧ Pair l i m
    · exact Or.inr hex
    left
    by_cases hb : l.getD k 0 = 11
    · rw [rfind_B hb]
      have hgone : i ∉ stk l (k + 1) := by rw [stk, if_neg (by rw [hb]; decide), if_pos hb]; simp
      intro m hm hp
      by_cases e : m < k
      · exact hex ⟨m, e, hp⟩
      · by_cases e2 : m = k
        · subst e2; have := hp.1; omega
        · have := stk_back l (k := k + 1) (by omega) hgone (m - (k + 1))
          rw [show k + 1 + (m - (k + 1)) = m by omega] at this
          obtain ⟨_, u, hu⟩ := hp
          exact this (by rw [hu]; simp)
    · have step : ∀ A', stk l (k + 1) = A' ++ i :: t → (A.length : Int) + 1 + bal (l.getD k 0) = (A'.length : Int) + 1 → ¬ Pair l i k →
          (match rfind l (f + 1) k ((A.length : Int) + 1) with
            | some m => Pair l i m ∧ m < k + (f + 1)
            | none => ∀ m, m < k + (f + 1) → ¬ Pair l i m) := by
        intro A' hs' hd hnp
        rw [rfind_go hb (by omega), hd]
        rcases ih (k + 1) A' (by omega) hs' with h | ⟨m, hm, hp⟩
        · rw [show k + (f + 1) = k + 1 + f by omega]; exact h
        · exfalso
          by_cases e : m = k
          · subst e; exact hnp hp
          · exact hex ⟨m, by omega, hp⟩
      by_cases hi : initB (l.getD k 0) = true
      · have hs' : stk l (k + 1) = (k :: A) ++ i :: t := by rw [stk, if_pos hi, hs]; rfl
        refine step (k :: A) hs' ?_ (not_pair_of (init23 hi).1 i)
        have := (init23 hi).1
        unfold bal
        rw [if_pos hi, if_neg this]
        simp
      · by_cases hc : l.getD k 0 = 23
        · cases A with
          | nil =>
            rw [rfind_hit hb (by unfold bal; rw [if_neg hi, if_pos hc]; simp)]
            exact ⟨⟨hc, t, hs⟩, by omega⟩
          | cons a A =>
            have hs' : stk l (k + 1) = A ++ i :: t := by rw [stk, if_neg hi, if_neg hb, if_pos hc, hs]; rfl
            refine step A hs' (by unfold bal; rw [if_neg hi, if_pos hc]; simp; omega) ?_
            intro hp
            obtain ⟨_, u, hu⟩ := hp
            have hn := stk_nodup l k
            rw [hu] at hs
            simp only [List.cons_append, List.cons.injEq] at hs
            rw [hu] at hn
            have := (List.nodup_cons.1 hn).1
            rw [hs.2] at this
            exact this (by simp)
        · have hs' : stk l (k + 1) = A ++ i :: t := by rw [stk, if_neg hi, if_neg hb, if_neg hc, hs]
          exact step A hs' (by unfold bal; rw [if_neg hi, if_neg hc]; simp) (not_pair_of hc i)

theorem rfind_init {l : List Int} {i : Nat} (hi : initB (l.getD i 0) = true) {f : Nat} : (match rfind l (f + 1) i 0 with
    | some m => Pair l i m ∧ m < i + (f + 1)
    | none => ∀ m, m < i + (f + 1) → ¬ Pair l i m) := by
  have hc := init23 hi
  have hb : bal (l.getD i 0) = 1 := by unfold bal; rw [if_pos hi, if_neg hc.1]; rfl
  rw [rfind_go hc.2 (by omega), hb]
  have hs : stk l (i + 1) = [] ++ i :: stk l i := by rw [stk, if_pos hi]; rfl
  rcases rfind_ok l i (stk l i) f (i + 1) [] (by omega) hs with h | ⟨m, hm, hp⟩
  · rw [show i + (f + 1) = i + 1 + f by omega]; exact h
  · have := hp.lt; omega

/-- What the reference has found from the initiators below i. -/
def RefOK (l : List Int) (i : Nat) (f : Nat → Int) : Prop :=
  ∀ j, (f j = -1 ∧ ∀ p m, Pair l p m → p < i → m < l.length → j ≠ p ∧ j ≠ m) ∨ ∃ p m, Pair l p m ∧ p < i ∧ m < l.length ∧ ((j = p ∧ f j = m) ∨ (j = m ∧ f j = p))

theorem RefOK.skip {l : List Int} {i : Nat} {f : Nat → Int} (h : RefOK l i f) (hp : ∀ m, m < l.length → ¬ Pair l i m) : RefOK l (i + 1) f := by
  intro j
  rcases h j with ⟨h1, h2⟩ | ⟨p, m, h1, h2, h3⟩
  · left
    refine ⟨h1, fun p m h3 h4 h5 => ?_⟩
    by_cases e : p = i
    · subst e; exact absurd h3 (hp m h5)
    · exact h2 p m h3 (by omega) h5
  · exact Or.inr ⟨p, m, h1, by omega, h3⟩

theorem rrun_ok (l : List Int) (i : Nat) (hi : i ≤ l.length) : RefOK l i (rrun l i) := by
  induction i with
  | zero => exact fun j => Or.inl ⟨rfl, fun p m _ h => by omega⟩
  | succ i ih =>
    have ih := ih (by omega)
    rw [rrun]
    by_cases hin : initB (l.getD i 0) = true
    · have hneg : rrun l i i < 0 := by
        rcases ih i with ⟨h1, _⟩ | ⟨p, m, h1, h2, _, h3⟩
        · omega
        · exfalso
          rcases h3 with ⟨h3, _⟩ | ⟨h3, _⟩
          · omega
          · subst h3; exact (init23 hin).1 h1.1
      rw [if_pos ⟨hin, hneg⟩]
      have hr := rfind_init hin (f := l.length - i - 1)
      rw [show l.length - i - 1 + 1 = l.length - i by omega] at hr
      cases hf : rfind l (l.length - i) i 0 with
      | none =>
        rw [hf] at hr
        exact ih.skip (fun m hm => hr m (by omega))
      | some m =>
        rw [hf] at hr
        obtain ⟨hp, hm⟩ := hr
        have hlt := hp.lt.1
        intro j
        simp only [rset]
        by_cases e : j = m
        · subst e
          exact Or.inr ⟨i, j, hp, by omega, by omega, Or.inr ⟨rfl, by simp [upd]⟩⟩
        · by_cases e2 : j = i
          · subst e2
            exact Or.inr ⟨j, m, hp, by omega, by omega, Or.inl ⟨rfl, by simp [upd, e]⟩⟩
          · simp only [upd, if_neg e, if_neg e2]
            rcases ih j with ⟨h1, h2⟩ | ⟨p, m', h1, h2, h3⟩
            · left
              refine ⟨h1, fun p m' h3 h4 h5 => ?_⟩
              by_cases e3 : p = i
              · subst e3
                have := h3.right hp
                subst this
                exact ⟨e2, e⟩
              · exact h2 p m' h3 (by omega) h5
            · exact Or.inr ⟨p, m', h1, by omega, h3⟩
    · rw [if_neg (fun h => hin h.1)]
      exact ih.skip (fun m _ hp => hin hp.lt.2)

theorem rmat_ok (l : List Int) : OutOK l l.length (rmat l) := by
  intro j hj
  rcases rrun_ok l l.length (Nat.le_refl _) j with ⟨h1, h2⟩ | ⟨p, m, h1, h2, h3, h4⟩
  · left
    refine ⟨h1, fun m hm => ⟨fun h => ?_, fun h => ?_⟩⟩
    · exact (h2 j m h (by omega) hm).1 rfl
    · exact (h2 m j h (by omega) hj).2 rfl
  · right
    rcases h4 with ⟨rfl, h4⟩ | ⟨rfl, h4⟩
    · exact ⟨m, h3, Or.inl h1, h4⟩
    · exact ⟨p, h2, Or.inr h1, h4⟩

/-- THE TWO ARE THE SAME. -/
theorem mat_eq (l : List Int) {i : Nat} (hi : i < l.length) : mat l i = rmat l i := OutOK.unique (mrun_ok l l.length).2 (rmat_ok l) hi

/-- What holds of a place that has another one. -/
theorem rmat_pair (l : List Int) {i : Nat} (h : 0 ≤ rmat l i) : ∃ m, m < l.length ∧ i < l.length ∧ rmat l i = m ∧ (Pair l i m ∨ Pair l m i) ∧ rmat l m = i := by
  rcases rrun_ok l l.length (Nat.le_refl _) i with ⟨h1, _⟩ | ⟨p, m, h1, h2, h3, h4⟩
  · unfold rmat at h; omega
  · have key : ∀ p m, Pair l p m → p < l.length → m < l.length → rmat l p = m ∧ rmat l m = p := by
      intro p m hp hpl hml
      constructor
      · rcases rmat_ok l p hpl with ⟨_, h6⟩ | ⟨m', hm', hp', hf'⟩
        · exact absurd hp (h6 m hml).1
        · rcases hp' with hp' | hp'
          · rw [hf', hp.right hp']
          · exact absurd hp'.1 (init23 hp.lt.2).1
      · rcases rmat_ok l m hml with ⟨_, h6⟩ | ⟨m', hm', hp', hf'⟩
        · exact absurd hp (h6 p hpl).2
        · rcases hp' with hp' | hp'
          · exact absurd hp.1 (init23 hp'.lt.2).1
          · rw [hf', hp.left hp']
    have hk := key p m h1 h2 h3
    rcases h4 with ⟨rfl, h4⟩ | ⟨rfl, h4⟩
    · exact ⟨m, h3, h2, hk.1, Or.inl h1, hk.2⟩
    · exact ⟨p, h2, h3, hk.2, Or.inr h1, hk.1⟩

theorem rem_init {c : Int} (h : initB c = true) : remB c = false := by simp [initB] at h; simp [remB]; omega
theorem rem_23 : remB 23 = false := by decide

theorem rmat_law (l : List Int) (i : Nat) (h : 0 ≤ rmat l i) : rmat l i < l.length ∧ remB (l.getD (rmat l i).toNat 0) = false ∧ (initB (l.getD i 0) = true → (i : Int) < rmat l i) := by
  obtain ⟨m, h1, h2, h3, h4, h5⟩ := rmat_pair l h
  rw [h3, Int.toNat_natCast]
  rcases h4 with h4 | h4
  · exact ⟨by omega, by rw [h4.1]; exact rem_23, fun _ => by have := h4.lt; omega⟩
  · exact ⟨by omega, rem_init h4.lt.2, fun h6 => absurd h4.1 (init23 h6).1⟩
end Go.Proofs.Ytkfjhannbnijkaa
