/- The levels, told twice: by frames, by calls within calls: the same. No program in sight. -/
import Derived.Test.YtkfjhannbnijkaaPlA
import Derived.Test.YtkfjhannbnijkaaRvB
namespace Go.Proofs.Ytkfjhannbnijkaa
open Go.RowKit

def adv (l : List Int) (mt : Nat → Int) (base : Int) (S : LS) (i : Nat) : Nat → LS
  | 0 => S
  | k + 1 => LS.step l mt base (i + k) (adv l mt base S i k)

theorem adv_add (l : List Int) (mt : Nat → Int) (base : Int) (S : LS) (i a b : Nat) : adv l mt base S i (a + b) = adv l mt base (adv l mt base S i a) (i + a) b := by
  induction b with
  | zero => rfl
  | succ b ih => rw [← Nat.add_assoc, adv, adv, ih, Nat.add_assoc]

theorem adv_one (l : List Int) (mt : Nat → Int) (base : Int) (S : LS) (i b : Nat) : adv l mt base S i (1 + b) = adv l mt base (LS.step l mt base i S) (i + 1) b := by
  rw [adv_add]; rfl

theorem adv_lrun (l : List Int) (mt : Nat → Int) (base : Int) (k : Nat) : adv l mt base (lrun l mt base 0) 0 k = lrun l mt base k := by
  induction k with
  | zero => rfl
  | succ k ih => rw [adv, ih, Nat.zero_add]; rfl

/-- The removed ones have the level of what stands ahead. -/
def plv (l : List Int) (base : Int) (lv : Nat → Int) : Nat → Int
  | 0 => if remB (l.getD 0 0) = true then base else lv 0
  | i + 1 => if remB (l.getD (i + 1) 0) = true then plv l base lv i else lv (i + 1)

theorem plv_congr {l : List Int} {base : Int} {lv lv' : Nat → Int} (i : Nat) (h : ∀ k, k ≤ i → lv k = lv' k) : plv l base lv i = plv l base lv' i := by
  induction i with
  | zero => unfold plv; rw [h 0 (Nat.le_refl _)]
  | succ i ih => unfold plv; rw [h (i + 1) (Nat.le_refl _), ih (fun k hk => h k (by omega))]

theorem plv_not {l : List Int} {base : Int} {lv : Nat → Int} {i : Nat} (h : remB (l.getD i 0) = false) : plv l base lv i = lv i := by
  cases i with
  | zero => unfold plv; rw [if_neg (by rw [h]; simp)]
  | succ i => unfold plv; rw [if_neg (by rw [h]; simp)]

theorem plv_rem {l : List Int} {base : Int} {lv : Nat → Int} {i : Nat} (h : remB (l.getD i 0) = true) : plv l base lv i = if i = 0 then base else plv l base lv (i - 1) := by
  cases i with
  | zero => unfold plv; rw [if_pos h]; rfl
  | succ i => rw [plv, if_pos h, if_neg (by omega), Nat.add_sub_cancel]

/-- Up to place i both tell the same. -/
def Agree (l : List Int) (base : Int) (S : LS) (s : LC) (i : Nat) : Prop :=
  ∀ k, k < i → S.lv k = plv l base s.lv k ∧ S.cl k = if remB (l.getD k 0) = true then 10 else s.cl k

theorem Agree.stand {l : List Int} {base : Int} {S : LS} {s : LC} {i : Nat} (h : Agree l base S s i) (hr : remB (l.getD i 0) = false) (lev ov c : Int) (t : Fr) (up : List Fr) :
    Agree l base ⟨upd S.lv i lev, upd S.cl i (if ov = 0 then c else ov), t, up⟩ (s.st i lev ov c) (i + 1) := by
  intro k hk
  by_cases e : k = i
  · subst e
    rw [plv_not hr, hr]
    simp [LC.st, upd]
  · obtain ⟨h1, h2⟩ := h k (by omega)
    simp only [LC.st]
    rw [upd_ne _ e, upd_ne _ e, upd_ne _ e, h2]
    refine ⟨?_, rfl⟩
    rw [h1]
    exact plv_congr k (fun j hj => by rw [upd_ne _ (by omega)])

theorem Agree.gone {l : List Int} {base : Int} {S : LS} {s : LC} {i : Nat} (h : Agree l base S s i) (hr : remB (l.getD i 0) = true) (t : Fr) (up : List Fr) :
    Agree l base ⟨(S.goes i base).lv, (S.goes i base).cl, t, up⟩ s (i + 1) := by
  intro k hk
  simp only [LS.goes]
  by_cases e : k = i
  · subst e
    rw [upd_eq, upd_eq, if_pos hr, plv_rem hr]
    refine ⟨?_, rfl⟩
    by_cases h0 : k = 0
    · rw [if_pos h0, if_pos h0]
    · rw [if_neg h0, if_neg h0]
      exact (h (k - 1) (by omega)).1
  · rw [upd_ne _ e, upd_ne _ e]
    exact h k (by omega)

/-- How it has ended. -/
def OutS (l : List Int) (up : List Fr) (lev ov kind : Int) (held : Bool) (j : Nat) (S : LS) : Prop :=
  j = l.length ∨ (l.getD j 0 = 11 ∧ kind ≠ 0) ∨
  (l.getD j 0 = 23 ∧ held = true ∧ S.top.is = 0 ∧ ∃ (ext : List Fr) (is em : Int), S.top :: S.up = ext ++ ⟨lev, ov, decide (kind = 2), is, em⟩ :: up ∧ ∀ f ∈ ext, f.iso = false) ∨
  (l.getD j 0 = 19 ∧ kind = 1 ∧ S.up = up ∧ S.top = ⟨lev, ov, false, 0, 0⟩)

theorem heldUp_ext {x : Fr} {rest : List Fr} (hx : x.iso = true) : ∀ (ext : List Fr) (t : Fr) (up : List Fr), t :: up = ext ++ x :: rest → (∀ f ∈ ext, f.iso = false) → heldUp t up = (match rest with | [] => none | f :: r => some (f, r)) := by
  intro ext
  induction ext with
  | nil =>
    intro t up h _
    simp only [List.nil_append, List.cons.injEq] at h
    obtain ⟨rfl, rfl⟩ := h
    cases up with
    | nil => rfl
    | cons f r => simp only [heldUp]; rw [if_pos hx]
  | cons a ext ih =>
    intro t up h ha
    simp only [List.cons_append, List.cons.injEq] at h
    obtain ⟨rfl, h⟩ := h
    have hne : t.iso = false := ha t (by simp)
    cases up with
    | nil => cases ext <;> simp at h
    | cons f r =>
      rw [heldUp, if_neg (by rw [hne]; simp)]
      exact ih f r h (fun g hg => ha g (by simp [hg]))

theorem getD_lt {l : List Int} {j : Nat} {c : Int} (h : l.getD j 0 = c) (hc : c ≠ 0) : j < l.length := by
  rcases Nat.lt_or_ge j l.length with h2 | h2
  · exact h2
  · rw [List.getD_eq_getElem?_getD, List.getElem?_eq_none h2] at h
    exact absurd h.symm hc
end Go.Proofs.Ytkfjhannbnijkaa
