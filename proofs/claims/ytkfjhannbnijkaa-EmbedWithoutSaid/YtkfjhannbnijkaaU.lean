/- Sequences do not see what is removed: told by the kept classes alone. No program is in sight. -/
import Derived.Test.YtkfjhannbnijkaaO
namespace Go.Proofs.Ytkfjhannbnijkaa
open Go.RowKit

def keptL (l L : List Int) : Nat → List Int
  | 0 => []
  | i + 1 => if remB (l.getD i 0) = true then keptL l L i else keptL l L i ++ [L.getD i 0]

theorem keptL_len (l L : List Int) (i : Nat) : (keptL l L i).length = (filt l i).length := by
  induction i with
  | zero => rfl
  | succ i ih => simp only [keptL, filt]; split <;> simp [ih]

theorem keptL_get (l L : List Int) (j : Nat) {k : Nat} (h : k < (filt l j).length) : (keptL l L j).getD k 0 = L.getD ((filt l j).getD k 0).toNat 0 := by
  induction j with
  | zero => simp [filt] at h
  | succ j ih =>
    simp only [filt, keptL] at h ⊢
    split
    · rename_i hr
      rw [if_pos hr] at h
      exact ih h
    · rename_i hr
      rw [if_neg hr] at h
      simp only [List.length_append, List.length_singleton] at h
      by_cases e : k < (filt l j).length
      · rw [getD_snoc_lt (by rw [keptL_len]; exact e), getD_snoc_lt e]; exact ih e
      · have hk : k = (filt l j).length := by omega
        rw [hk, getD_snoc, ← keptL_len l L, getD_snoc, Int.toNat_natCast]

/-- The x-th place. -/
def plc (l : List Int) (x : Nat) : Nat := ((filt l l.length).getD x 0).toNat

section
variable (l : List Int)
theorem plc_spec {x : Nat} (h : x < (filt l l.length).length) : plc l x < l.length ∧ remB (l.getD (plc l x) 0) = false ∧ (filt l (plc l x)).length = x ∧ (filt l l.length).getD x 0 = plc l x := by
  obtain ⟨i, h1, h2, h3, h4⟩ := filt_get l l.length h
  have : plc l x = i := by unfold plc; rw [h4, Int.toNat_natCast]
  rw [this]
  exact ⟨h1, h2, h3, h4⟩
theorem plc_at {i : Nat} (h : i < l.length) (hr : remB (l.getD i 0) = false) : (filt l i).length < (filt l l.length).length ∧ plc l (filt l i).length = i := by
  obtain ⟨h1, h2⟩ := filt_at l l.length h hr
  exact ⟨h1, by unfold plc; rw [h2, Int.toNat_natCast]⟩
theorem kept_plc {x : Nat} (h : x < (filt l l.length).length) : (kept l l.length).getD x 0 = l.getD (plc l x) 0 := kept_get l l.length h

theorem rem_other {c : Int} (h : remB c = true) : initB c = false ∧ c ≠ 11 ∧ c ≠ 23 := by
  simp [remB] at h
  refine ⟨initB_not (by omega), by omega, by omega⟩

theorem stk_kept (i : Nat) (hi : i ≤ l.length) : stk l i = (stk (kept l l.length) (filt l i).length).map (plc l) := by
  induction i with
  | zero => rfl
  | succ i ih =>
    have ih := ih (by omega)
    by_cases hr : remB (l.getD i 0) = true
    · obtain ⟨h1, h2, h3⟩ := rem_other hr
      rw [stk, if_neg (by rw [h1]; simp), if_neg h2, if_neg h3, filt, if_pos hr]
      exact ih
    · have hr' : remB (l.getD i 0) = false := by simpa using hr
      obtain ⟨p1, p2⟩ := plc_at l (show i < l.length by omega) hr'
      have hk := kept_plc l p1
      rw [p2] at hk
      rw [filt, if_neg hr, List.length_append, List.length_singleton, stk, stk, hk]
      split
      · rw [ih, List.map_cons, p2]
      · split
        · rfl
        · split
          · rw [ih, List.map_tail]
          · exact ih

theorem plc_inj {x y : Nat} (hx : x < (filt l l.length).length) (hy : y < (filt l l.length).length) (e : plc l x = plc l y) : x = y := by
  have h1 := (plc_spec l hx).2.2.1
  have h2 := (plc_spec l hy).2.2.1
  rw [e] at h1
  omega

theorem pair_kept {x y : Nat} (hx : x < (filt l l.length).length) (hy : y < (filt l l.length).length) : Pair l (plc l x) (plc l y) ↔ Pair (kept l l.length) x y := by
  obtain ⟨y1, y2, y3, y4⟩ := plc_spec l hy
  unfold Pair
  rw [kept_plc l hy, stk_kept l (plc l y) (by omega), y3]
  constructor
  · rintro ⟨h1, t, ht⟩
    refine ⟨h1, ?_⟩
    cases hs : stk (kept l l.length) y with
    | nil => rw [hs] at ht; simp at ht
    | cons a u =>
      rw [hs] at ht
      simp only [List.map_cons, List.cons.injEq] at ht
      have ha := (stk_lt (kept l l.length) y a (by rw [hs]; simp)).1
      have := plc_inj l (by omega) hx ht.1
      subst this
      exact ⟨u, rfl⟩
  · rintro ⟨h1, t, ht⟩
    exact ⟨h1, t.map (plc l), by rw [ht]; rfl⟩

theorem rmat_kept {x : Nat} (hx : x < (filt l l.length).length) : (rmat l (plc l x) = -1 ∧ rmat (kept l l.length) x = -1) ∨ ∃ y, y < (filt l l.length).length ∧ rmat l (plc l x) = plc l y ∧ rmat (kept l l.length) x = y := by
  have hlen := kept_len l l.length
  have key : OutOK (kept l l.length) (kept l l.length).length (fun x => if rmat l (plc l x) < 0 then -1 else ((filt l (rmat l (plc l x)).toNat).length : Int)) := by
    intro x hx
    rw [hlen] at hx ⊢
    obtain ⟨x1, x2, x3, x4⟩ := plc_spec l hx
    rcases rmat_ok l (plc l x) x1 with ⟨h1, h2⟩ | ⟨m, hm, h1, h2⟩
    · left
      refine ⟨by simp [h1], fun m hm => ?_⟩
      have := h2 (plc l m) (plc_spec l hm).1
      exact ⟨fun hp => this.1 ((pair_kept l hx hm).2 hp), fun hp => this.2 ((pair_kept l hm hx).2 hp)⟩
    · right
      have hr : remB (l.getD m 0) = false := by
        rcases h1 with h1 | h1
        · rw [h1.1]; exact rem_23
        · exact rem_init h1.lt.2
      obtain ⟨p1, p2⟩ := plc_at l hm hr
      refine ⟨(filt l m).length, p1, ?_, ?_⟩
      · rw [← pair_kept l hx p1, ← pair_kept l p1 hx, p2]; exact h1
      · simp only [h2]
        rw [if_neg (by omega), Int.toNat_natCast]
  have hu := OutOK.unique key (rmat_ok (kept l l.length)) (j := x) (by rw [hlen]; exact hx)
  by_cases h0 : rmat l (plc l x) < 0
  · left
    rw [if_pos h0] at hu
    refine ⟨?_, hu.symm⟩
    rcases rmat_ok l (plc l x) (plc_spec l hx).1 with ⟨h1, _⟩ | ⟨m, _, _, h1⟩ <;> omega
  · right
    rw [if_neg h0] at hu
    obtain ⟨m, m1, m2, m3, m4, m5⟩ := rmat_pair l (show 0 ≤ rmat l (plc l x) by omega)
    have hr : remB (l.getD m 0) = false := by
      rcases m4 with h1 | h1
      · rw [h1.1]; exact rem_23
      · exact rem_init h1.lt.2
    obtain ⟨p1, p2⟩ := plc_at l m1 hr
    rw [m3, Int.toNat_natCast] at hu
    exact ⟨(filt l m).length, p1, by rw [p2, m3], hu.symm⟩
end

section
variable (l L : List Int) (base : Int)

theorem kept_all (i : Nat) (hi : i < (kept l l.length).length) : remB ((kept l l.length).getD i 0) = false := kept_rem l l.length i hi

theorem filtK (l : List Int) : (filt (kept l l.length) (kept l l.length).length).length = (filt l l.length).length ∧ (∀ x, x < (filt l l.length).length → (filt (kept l l.length) (kept l l.length).length).getD x 0 = x) ∧ ∀ y, y ≤ (filt l l.length).length → (filt (kept l l.length) y).length = y := by
  have hl := kept_len l l.length
  have h := filt_all (kept_all l) (kept l l.length).length (Nat.le_refl _)
  rw [hl] at h ⊢
  refine ⟨h.1, h.2, fun y hy => ?_⟩
  exact (filt_all (kept_all l) y (by omega)).1

theorem levI_kept (k : Int) : levI (filt (kept l l.length) (kept l l.length).length) (keptL l L l.length) base k = levI (filt l l.length) L base k := by
  obtain ⟨f1, f2, f3⟩ := filtK l
  unfold levI
  rw [f1]
  split
  · rfl
  · rename_i h
    obtain ⟨x, rfl⟩ := Int.eq_ofNat_of_zero_le (show 0 ≤ k by omega)
    rw [Int.toNat_natCast, f2 x (by omega), Int.toNat_natCast, keptL_get l L l.length (by omega)]

theorem levI_kept' {l L : List Int} {base : Int} {P P' : List Int} (hP : filt l l.length = P) (hP' : filt (kept l l.length) (kept l l.length).length = P') {k : Int} : levI P' (keptL l L l.length) base k = levI P L base k := by
  rw [← hP, ← hP']; exact levI_kept l L base k

theorem lead_kept {x : Nat} (hx : x < (filt l l.length).length) :
    rlead l (filt l l.length) L base (rmat l) (atf l) x = rlead (kept l l.length) (filt (kept l l.length) (kept l l.length).length) (keptL l L l.length) base (rmat (kept l l.length)) (atf (kept l l.length)) x := by
  obtain ⟨f1, f2, f3⟩ := filtK l
  have he : rends (filt (kept l l.length) (kept l l.length).length) (keptL l L l.length) base x = rends (filt l l.length) L base x := by
    unfold rends; rw [f1, levI_kept, levI_kept]
  have hb : ∀ k, rbegins (filt (kept l l.length) (kept l l.length).length) (keptL l L l.length) base k = rbegins (filt l l.length) L base k := by
    intro k; unfold rbegins; rw [levI_kept, levI_kept]
  obtain ⟨x1, x2, x3, x4⟩ := plc_spec l hx
  unfold rlead
  rw [he, f2 x hx, Int.toNat_natCast, x4, Int.toNat_natCast, kept_plc l hx]
  rcases rmat_kept l hx with ⟨h1, h2⟩ | ⟨y, hy, h1, h2⟩
  · rw [h1, h2]
    split
    · rfl
    · rw [if_neg (by omega), if_neg (by omega)]
  · rw [h1, h2, Int.toNat_natCast, Int.toNat_natCast]
    have a1 : atf l (plc l y) = y := by unfold atf; rw [(plc_spec l hy).2.2.1]
    have a2 : atf (kept l l.length) y = y := by unfold atf; rw [f3 y (by omega)]
    rw [a1, a2, hb]
    split
    · rfl
    · by_cases hc : initB (l.getD (plc l x) 0) = true ∧ rbegins (filt l l.length) L base (y : Int).toNat = true
      · rw [if_pos ⟨hc.1, by omega, hc.2⟩, if_pos ⟨hc.1, by omega, hc.2⟩]
      · rw [if_neg (fun h => hc ⟨h.1, h.2.2⟩), if_neg (fun h => hc ⟨h.1, h.2.2⟩)]

theorem rled_congr {ld ld' : Nat → Int} {N : Nat} (h : ∀ q, q < N → ld q = ld' q) (K : Nat) (hK : K ≤ N) : rled ld K = rled ld' K := by
  induction K with
  | zero => rfl
  | succ K ih => rw [rled, rled, ih (by omega), h K (by omega)]

theorem rch_kept {P P' : List Int} {ld ld' : Nat → Int} {N : Nat} (g : Int → Int) (hld : ∀ q, q < N → ld q = ld' q) (hr : ∀ q, q < N → ld q < N) (hP : ∀ x, x < N → P'.getD x 0 = x) (hg : ∀ x : Nat, x < N → P.getD x 0 = g x) :
    ∀ f (x last : Int) (acc : List Int), (x < 0 ∨ x < N) → (0 ≤ last ∧ last < N) → (∀ v ∈ acc, 0 ≤ v ∧ v < N) →
      rch P ld f x last (acc.map g) = ((rch P' ld' f x last acc).1.map g, (rch P' ld' f x last acc).2) ∧ (0 ≤ (rch P' ld' f x last acc).2 ∧ (rch P' ld' f x last acc).2 < N) ∧ ∀ v ∈ (rch P' ld' f x last acc).1, 0 ≤ v ∧ v < N := by
  intro f
  induction f with
  | zero => intro x last acc h1 h2 h3; exact ⟨rfl, h2, h3⟩
  | succ f ih =>
    intro x last acc h1 h2 h3
    rw [rch, rch]
    by_cases hx : x < 0
    · rw [if_pos hx, if_pos hx]; exact ⟨rfl, h2, h3⟩
    · rw [if_neg hx, if_neg hx]
      obtain ⟨y, rfl⟩ := Int.eq_ofNat_of_zero_le (show 0 ≤ x by omega)
      have hy : y < N := by omega
      rw [Int.toNat_natCast, hP y hy, hg y hy, ← hld y hy]
      have := ih (ld y) y (acc ++ [(y : Int)]) (by have := hr y hy; omega) (by omega) (fun v hv => by
        rcases List.mem_append.1 hv with h | h
        · exact h3 v h
        · simp only [List.mem_singleton] at h; omega)
      rw [List.map_append, List.map_singleton] at this
      exact this

/-- THE KEPT CLASSES TELL ALL. -/
theorem ref_kept : RefN l L base = RefN (kept l l.length) (keptL l L l.length) base ∧ ∀ j,
    (RefS l L base j = { RefS (kept l l.length) (keptL l L l.length) base j with pl := (RefS (kept l l.length) (keptL l L l.length) base j).pl.map (fun v => (plc l v.toNat : Int)) }) ∧
    ∀ v ∈ (RefS (kept l l.length) (keptL l L l.length) base j).pl, 0 ≤ v ∧ v < (filt l l.length).length := by
  obtain ⟨f1, f2, f3⟩ := filtK l
  have hld := fun q (hq : q < (filt l l.length).length) => lead_kept l L base hq
  have hrange : ∀ q, q < (filt l l.length).length → rlead l (filt l l.length) L base (rmat l) (atf l) q < (filt l l.length).length := fun q hq => (rlead_range l L base (rmat l) l.length (fun i h0 => rmat_law l i h0) hq).2.1
  have hg : ∀ x : Nat, x < (filt l l.length).length → (filt l l.length).getD x 0 = (fun v : Int => (plc l v.toNat : Int)) x := fun x hx => by
    simp only [Int.toNat_natCast]; exact (plc_spec l hx).2.2.2
  have hdd := rled_congr hld (filt l l.length).length (Nat.le_refl _)
  have hbeh : ∀ last : Int, 0 ≤ last → last < (filt l l.length).length → rbeh l (filt l l.length) L base (rmat l) last = rbeh (kept l l.length) (filt (kept l l.length) (kept l l.length).length) (keptL l L l.length) base (rmat (kept l l.length)) last := by
    intro last h0 h1
    obtain ⟨x, rfl⟩ := Int.eq_ofNat_of_zero_le h0
    have hx : x < (filt l l.length).length := by omega
    unfold rbeh
    rw [Int.toNat_natCast, f2 x hx, Int.toNat_natCast, (plc_spec l hx).2.2.2, Int.toNat_natCast, kept_plc l hx, levI_kept]
    rcases rmat_kept l hx with ⟨h1, h2⟩ | ⟨y, hy, h1, h2⟩
    · rw [h1, h2]
    · rw [h1, h2]
      rw [if_neg (by omega), if_neg (by omega)]
  unfold RefN RefS
  rw [f1, ← hdd]
  generalize hP' : filt (kept l l.length) (kept l l.length).length = P' at *
  generalize hP : filt l l.length = P at *
  generalize hN : P.length = N at *
  generalize rlead l P L base (rmat l) (atf l) = ld at *
  generalize rlead (kept l l.length) P' (keptL l L l.length) base (rmat (kept l l.length)) (atf (kept l l.length)) = ld' at *
  generalize rled ld N = dd at *
  have key : ∀ K, K ≤ N → (rout l P L base (rmat l) ld dd K).1 = (rout (kept l l.length) P' (keptL l L l.length) base (rmat (kept l l.length)) ld' dd K).1 ∧ ∀ j,
      ((rout l P L base (rmat l) ld dd K).2 j = { (rout (kept l l.length) P' (keptL l L l.length) base (rmat (kept l l.length)) ld' dd K).2 j with pl := ((rout (kept l l.length) P' (keptL l L l.length) base (rmat (kept l l.length)) ld' dd K).2 j).pl.map (fun v => (plc l v.toNat : Int)) }) ∧
      ∀ v ∈ ((rout (kept l l.length) P' (keptL l L l.length) base (rmat (kept l l.length)) ld' dd K).2 j).pl, 0 ≤ v ∧ v < N := by
    intro K
    induction K with
    | zero => intro _; exact ⟨rfl, fun j => ⟨rfl, fun v hv => by simp [rout] at hv⟩⟩
    | succ K ih =>
      intro hK
      obtain ⟨i1, i2⟩ := ih (by omega)
      rw [rout, rout]
      by_cases hd : dd K = true
      · rw [if_pos hd, if_pos hd]; exact ⟨i1, i2⟩
      · rw [if_neg hd, if_neg hd]
        refine ⟨by simp only [i1], fun j => ?_⟩
        obtain ⟨c1, c2, c3⟩ := rch_kept (P := P) (P' := P') (fun v : Int => (plc l v.toNat : Int)) hld hrange f2 hg N K K [] (by omega) (by omega) (fun v hv => by simp at hv)
        simp only [updS, i1]
        split
        · constructor
          · unfold rseq
            rw [hN, f1]
            rw [List.map_nil] at c1
            rw [c1, levI_kept' hP hP', levI_kept' hP hP', hbeh _ c2.1 c2.2, levI_kept' hP hP']
          · unfold rseq
            rw [f1]
            exact c3
        · exact i2 j
  exact key N (Nat.le_refl _)
end
end Go.Proofs.Ytkfjhannbnijkaa
