/- What is removed, put in somewhere: the sequences are the same places. No program is in sight. -/
import Derived.Test.YtkfjhannbnijkaaU
namespace Go.Proofs.Ytkfjhannbnijkaa
open Go.RowKit

inductive Ins (l L : List Int) : Nat → List Int → List Int → List Int → Prop
  | start : Ins l L 0 [] [] []
  | more {i : Nat} {c nv old : List Int} {r v : Int} : Ins l L i c nv old → remB r = true → 0 ≤ v ∧ v ≤ 255 → Ins l L i (c ++ [r]) (nv ++ [v]) (old ++ [-1])
  | next {i : Nat} {c nv old : List Int} : Ins l L i c nv old → Ins l L (i + 1) (c ++ [l.getD i 0]) (nv ++ [L.getD i 0]) (old ++ [(i : Int)])

theorem filt_snoc (c : List Int) (r : Int) (k : Nat) (hk : k ≤ c.length) : filt (c ++ [r]) k = filt c k := by
  induction k with
  | zero => rfl
  | succ k ih => rw [filt, filt, ih (by omega), getD_snoc_lt (by omega)]
theorem kept_snoc (c : List Int) (r : Int) (k : Nat) (hk : k ≤ c.length) : kept (c ++ [r]) k = kept c k := by
  induction k with
  | zero => rfl
  | succ k ih => rw [kept, kept, ih (by omega), getD_snoc_lt (by omega)]
theorem keptL_snoc (c nv : List Int) (r v : Int) (k : Nat) (hk : k ≤ c.length) (hk2 : k ≤ nv.length) : keptL (c ++ [r]) (nv ++ [v]) k = keptL c nv k := by
  induction k with
  | zero => rfl
  | succ k ih => rw [keptL, keptL, ih (by omega) (by omega), getD_snoc_lt (by omega), getD_snoc_lt (by omega)]

theorem filt_range (c : List Int) (k : Nat) : ∀ x, x < (filt c k).length → 0 ≤ (filt c k).getD x 0 ∧ (filt c k).getD x 0 < k := by
  intro x hx
  obtain ⟨i, h1, h2, h3, h4⟩ := filt_get c k hx
  omega

theorem Ins.facts {l L : List Int} {i : Nat} {c nv old : List Int} (h : Ins l L i c nv old) (hL : ∀ i, 0 ≤ L.getD i 0 ∧ L.getD i 0 ≤ 255) :
    nv.length = c.length ∧ old.length = c.length ∧ kept c c.length = kept l i ∧ keptL c nv c.length = keptL l L i ∧ (∀ v ∈ nv, 0 ≤ v ∧ v ≤ 255) ∧
      (filt c c.length).length = (filt l i).length ∧ ∀ x, x < (filt l i).length → old.getD ((filt c c.length).getD x 0).toNat 0 = (filt l i).getD x 0 := by
  induction h with
  | start => exact ⟨rfl, rfl, rfl, rfl, fun v hv => by simp at hv, rfl, fun x hx => by simp [filt] at hx⟩
  | @more i c nv old r v _ hr hv ih =>
    obtain ⟨h1, h2, h3, h4, h5, h6, h7⟩ := ih
    have hg : (c ++ [r]).getD c.length 0 = r := getD_snoc
    refine ⟨by simp [h1], by simp [h2], ?_, ?_, ?_, ?_, ?_⟩
    · rw [List.length_append, List.length_singleton, kept, hg, if_pos hr, kept_snoc _ _ _ (Nat.le_refl _), h3]
    · rw [List.length_append, List.length_singleton, keptL, hg, if_pos hr, keptL_snoc _ _ _ _ _ (Nat.le_refl _) (by omega), h4]
    · intro u hu
      rcases List.mem_append.1 hu with hu | hu
      · exact h5 u hu
      · simp only [List.mem_singleton] at hu; subst hu; exact hv
    · rw [List.length_append, List.length_singleton, filt, hg, if_pos hr, filt_snoc _ _ _ (Nat.le_refl _), h6]
    · intro x hx
      rw [List.length_append, List.length_singleton, filt, hg, if_pos hr, filt_snoc _ _ _ (Nat.le_refl _)]
      have hrg := filt_range c c.length x (by omega)
      rw [getD_snoc_lt (by omega)]
      exact h7 x hx
  | @next i c nv old _ ih =>
    obtain ⟨h1, h2, h3, h4, h5, h6, h7⟩ := ih
    have hg : (c ++ [l.getD i 0]).getD c.length 0 = l.getD i 0 := getD_snoc
    have hg2 : (nv ++ [L.getD i 0]).getD c.length 0 = L.getD i 0 := by rw [← h1]; exact getD_snoc
    refine ⟨by simp [h1], by simp [h2], ?_, ?_, ?_, ?_, ?_⟩
    · rw [List.length_append, List.length_singleton, kept, hg, kept_snoc _ _ _ (Nat.le_refl _), h3]; rfl
    · rw [List.length_append, List.length_singleton, keptL, hg, hg2, keptL_snoc _ _ _ _ _ (Nat.le_refl _) (by omega), h4]; rfl
    · intro u hu
      rcases List.mem_append.1 hu with hu | hu
      · exact h5 u hu
      · simp only [List.mem_singleton] at hu; subst hu; exact hL i
    · rw [List.length_append, List.length_singleton, filt, hg, filt_snoc _ _ _ (Nat.le_refl _), filt]
      split <;> simp [h6]
    · intro x hx
      rw [List.length_append, List.length_singleton, filt, hg, filt_snoc _ _ _ (Nat.le_refl _)]
      rw [filt] at hx ⊢
      by_cases hr : remB (l.getD i 0) = true
      · rw [if_pos hr] at hx ⊢
        rw [if_pos hr]
        have hrg := filt_range c c.length x (by omega)
        rw [getD_snoc_lt (by omega)]
        exact h7 x hx
      · rw [if_neg hr] at hx ⊢
        rw [if_neg hr]
        simp only [List.length_append, List.length_singleton] at hx
        by_cases e : x < (filt l i).length
        · have hrg := filt_range c c.length x (by omega)
          have e0 := getD_snoc_lt (l := filt c c.length) (x := (c.length : Int)) (k := x) (by omega)
          rw [e0, getD_snoc_lt (by omega), getD_snoc_lt e]
          exact h7 x e
        · have hx2 : x = (filt l i).length := by omega
          have e1 : (filt c c.length ++ [(c.length : Int)]).getD x 0 = c.length := by rw [hx2, ← h6]; exact getD_snoc
          have e2 : (filt l i ++ [(i : Int)]).getD x 0 = i := by rw [hx2]; exact getD_snoc
          rw [e1, e2, Int.toNat_natCast, ← h2]
          exact getD_snoc

theorem getD_map {g : Int → Int} {l : List Int} {k : Nat} (h : k < l.length) : (l.map g).getD k 0 = g (l.getD k 0) := by
  simp [List.getD_eq_getElem?_getD, h]
theorem getD_mem {l : List Int} {k : Nat} (h : k < l.length) : l.getD k 0 ∈ l := by
  rw [List.getD_eq_getElem?_getD, List.getElem?_eq_getElem h]; exact List.getElem_mem h

/-- THE SAME PLACES. -/
theorem ref_without {l L c nv old : List Int} (base : Int) (h : Ins l L l.length c nv old) (hL : ∀ i, 0 ≤ L.getD i 0 ∧ L.getD i 0 ≤ 255) :
    RefN c nv base = RefN l L base ∧ ∀ j, (RefS c nv base j).pl.length = (RefS l L base j).pl.length ∧ (RefS c nv base j).lev = (RefS l L base j).lev ∧ (RefS c nv base j).sos = (RefS l L base j).sos ∧ (RefS c nv base j).eos = (RefS l L base j).eos ∧
      ∀ k, k < (RefS l L base j).pl.length → 0 ≤ (RefS c nv base j).pl.getD k 0 ∧ (RefS c nv base j).pl.getD k 0 < old.length ∧ old.getD ((RefS c nv base j).pl.getD k 0).toNat 0 = (RefS l L base j).pl.getD k 0 := by
  obtain ⟨h1, h2, h3, h4, h5, h6, h7⟩ := h.facts hL
  obtain ⟨a1, a2⟩ := ref_kept l L base
  obtain ⟨b1, b2⟩ := ref_kept c nv base
  rw [h3, h4] at b1 b2
  refine ⟨by rw [b1, a1], fun j => ?_⟩
  obtain ⟨a3, a4⟩ := a2 j
  obtain ⟨b3, b4⟩ := b2 j
  rw [a3, b3]
  generalize RefS (kept l l.length) (keptL l L l.length) base j = S at *
  refine ⟨by simp, rfl, rfl, rfl, fun k hk => ?_⟩
  have hk' : k < S.pl.length := by simpa using hk
  simp only
  rw [getD_map hk', getD_map hk']
  obtain ⟨v1, v2⟩ := a4 _ (getD_mem hk')
  obtain ⟨x, hx⟩ := Int.eq_ofNat_of_zero_le v1
  rw [hx, Int.toNat_natCast]
  have hx1 : x < (filt l l.length).length := by omega
  have hx2 : x < (filt c c.length).length := by omega
  obtain ⟨p1, p2, p3, p4⟩ := plc_spec c hx2
  obtain ⟨q1, q2, q3, q4⟩ := plc_spec l hx1
  have := h7 x hx1
  rw [p4, q4, Int.toNat_natCast] at this
  refine ⟨by omega, by omega, ?_⟩
  rw [Int.toNat_natCast]; exact this
end Go.Proofs.Ytkfjhannbnijkaa
