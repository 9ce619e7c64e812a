/- The reference's sequences, told by the classes that are kept: where what is removed stands does not matter. No program is in sight. -/
import Derived.Test.YtkfjhannbnijkaaR
namespace Go.Proofs.Ytkfjhannbnijkaa
open Go.RowKit

/-- What the sequences are. -/
theorem ref_desc (l L : List Int) (base : Int) : RefN l L base = nS (prd l (filt l l.length) L base (rmat l)) (filt l l.length).length ∧
    ∀ h, h < (filt l l.length).length → prd l (filt l l.length) L base (rmat l) h = none → ∃ z : Nat, z < (filt l l.length).length ∧ h ≤ z ∧ sOf (prd l (filt l l.length) L base (rmat l)) z = nS (prd l (filt l l.length) L base (rmat l)) h ∧
      (∀ y, z < y → y < (filt l l.length).length → sOf (prd l (filt l l.length) L base (rmat l)) y ≠ nS (prd l (filt l l.length) L base (rmat l)) h) ∧
      RefS l L base (nS (prd l (filt l l.length) L base (rmat l)) h) = ⟨gat (prd l (filt l l.length) L base (rmat l)) (filt l l.length) (nS (prd l (filt l l.length) L base (rmat l)) h) (filt l l.length).length, levI (filt l l.length) L base h,
        sideI (levI (filt l l.length) L base h) (levI (filt l l.length) L base ((h : Int) - 1)), sideI (levI (filt l l.length) L base z) (rbeh l (filt l l.length) L base (rmat l) z)⟩ := by
  have hM := rmat_MT l
  have hlt : ∀ k q, k < (filt l l.length).length → prd l (filt l l.length) L base (rmat l) k = some q → q < k := fun k q hk => prd_lt hM hk
  have hld : ∀ q k, q < (filt l l.length).length → k < (filt l l.length).length → (rlead l (filt l l.length) L base (rmat l) (atf l) q = k ↔ prd l (filt l l.length) L base (rmat l) k = some q) := fun q k hq hk => lead_prd hM hq hk
  have hr : ∀ q, q < (filt l l.length).length → -1 ≤ rlead l (filt l l.length) L base (rmat l) (atf l) q ∧ rlead l (filt l l.length) L base (rmat l) (atf l) q < (filt l l.length).length ∧ (0 ≤ rlead l (filt l l.length) L base (rmat l) (atf l) q → (q : Int) < rlead l (filt l l.length) L base (rmat l) (atf l) q) :=
    fun q hq => rlead_range l L base (rmat l) l.length (fun i h0 => rmat_law l i h0) hq
  have hdd : ∀ k, k < (filt l l.length).length → (rled (rlead l (filt l l.length) L base (rmat l) (atf l)) (filt l l.length).length k = true ↔ prd l (filt l l.length) L base (rmat l) k ≠ none) := by
    intro k hk
    rw [rled_true]
    constructor
    · rintro ⟨q, h1, h2⟩
      rw [(hld q k h1 hk).1 h2]; simp
    · intro h
      cases hp : prd l (filt l l.length) L base (rmat l) k with
      | none => exact absurd hp h
      | some q => have := hlt k q hk hp; exact ⟨q, by omega, (hld q k (by omega) hk).2 hp⟩
  have hR := rout_ok (l := l) (L := L) (base := base) (mt := rmat l) (filt l l.length) (rlead l (filt l l.length) L base (rmat l) (atf l)) (rled (rlead l (filt l l.length) L base (rmat l) (atf l)) (filt l l.length).length) (prd l (filt l l.length) L base (rmat l)) (filt l l.length).length hdd
  refine ⟨hR.1, fun h h1 h2 => ?_⟩
  have h0 : gat (prd l (filt l l.length) L base (rmat l)) (filt l l.length) (nS (prd l (filt l l.length) L base (rmat l)) h) h = [] := by
    rw [gat_skip (a := 0) (b := h) (Nat.zero_le _) (fun z _ hz he => by
      have h1 := sOf_lt hlt z (by omega)
      have h2 := nS_mono (pd := prd l (filt l l.length) L base (rmat l)) (i := z + 1) (j := h) (by omega)
      omega)]
    rfl
  obtain ⟨z, z1, z2, z3, z4, z5⟩ := chain_gat (P := filt l l.length) hlt hld hr (nS (prd l (filt l l.length) L base (rmat l)) h) (filt l l.length).length h h h1 (of_none h2) (by omega)
  rw [h0] at z5
  refine ⟨z, z1, z2, z3, z4, ?_⟩
  have h5 := hR.2 h h1 h2
  unfold RefS
  rw [h5, rseq, z5]

/-- The classes that are kept. -/
def kept (l : List Int) : Nat → List Int
  | 0 => []
  | i + 1 => if remB (l.getD i 0) = true then kept l i else kept l i ++ [l.getD i 0]

theorem kept_len (l : List Int) (i : Nat) : (kept l i).length = (filt l i).length := by
  induction i with
  | zero => rfl
  | succ i ih => simp only [kept, filt]; split <;> simp [ih]

theorem getD_snoc_lt {l : List Int} {x : Int} {k : Nat} (h : k < l.length) : (l ++ [x]).getD k 0 = l.getD k 0 := by
  rw [List.getD_eq_getElem?_getD, List.getElem?_append_left h, ← List.getD_eq_getElem?_getD]
theorem getD_snoc {l : List Int} {x : Int} : (l ++ [x]).getD l.length 0 = x := by
  rw [List.getD_eq_getElem?_getD, List.getElem?_append_right (Nat.le_refl _), Nat.sub_self]; rfl

theorem kept_get (l : List Int) (j : Nat) {k : Nat} (h : k < (filt l j).length) : (kept l j).getD k 0 = l.getD ((filt l j).getD k 0).toNat 0 := by
  induction j with
  | zero => simp [filt] at h
  | succ j ih =>
    simp only [filt, kept] at h ⊢
    split
    · rename_i hr
      rw [if_pos hr] at h
      exact ih h
    · rename_i hr
      rw [if_neg hr] at h
      simp only [List.length_append, List.length_singleton] at h
      by_cases e : k < (filt l j).length
      · rw [getD_snoc_lt (by rw [kept_len]; exact e), getD_snoc_lt e]; exact ih e
      · have hk : k = (filt l j).length := by omega
        rw [hk, getD_snoc, ← kept_len, getD_snoc, Int.toNat_natCast]

theorem kept_rem (l : List Int) (j k : Nat) (h : k < (kept l j).length) : remB ((kept l j).getD k 0) = false := by
  rw [kept_len] at h
  rw [kept_get l j h]
  obtain ⟨i, h1, h2, h3, h4⟩ := filt_get l j h
  rw [h4, Int.toNat_natCast]; exact h2

/-- Where nothing is removed, the places are all. -/
theorem filt_all {c : List Int} (h : ∀ i, i < c.length → remB (c.getD i 0) = false) (k : Nat) (hk : k ≤ c.length) : (filt c k).length = k ∧ ∀ i, i < k → (filt c k).getD i 0 = i := by
  induction k with
  | zero => exact ⟨rfl, fun i hi => by omega⟩
  | succ k ih =>
    obtain ⟨h1, h2⟩ := ih (by omega)
    rw [filt, if_neg (by rw [h k (by omega)]; simp)]
    refine ⟨by simp [h1], fun i hi => ?_⟩
    by_cases e : i = k
    · subst e
      have := getD_snoc (l := filt c i) (x := (i : Int))
      rw [h1] at this
      exact this
    · rw [getD_snoc_lt (by omega)]; exact h2 i (by omega)

/-- ALL OF ONE LEVEL: one sequence. -/
theorem ref_single (c : List Int) (lev base : Int) (hrem : ∀ i, i < c.length → remB (c.getD i 0) = false) (hlb : base ≤ lev) (h0 : 0 < c.length) :
    RefN c (List.replicate c.length lev) base = 1 ∧ (RefS c (List.replicate c.length lev) base 0).pl.length = c.length ∧ (∀ i, i < c.length → (RefS c (List.replicate c.length lev) base 0).pl.getD i 0 = i) ∧
    (RefS c (List.replicate c.length lev) base 0).lev = lev ∧ (RefS c (List.replicate c.length lev) base 0).sos = (if lev % 2 = 1 then 2 else 1) ∧ (RefS c (List.replicate c.length lev) base 0).eos = (if lev % 2 = 1 then 2 else 1) := by
  obtain ⟨f1, f2⟩ := filt_all hrem c.length (Nat.le_refl _)
  obtain ⟨d1, d2⟩ := ref_desc c (List.replicate c.length lev) base
  have hM := rmat_MT c
  have hlev : ∀ k : Nat, k < c.length → levI (filt c c.length) (List.replicate c.length lev) base k = lev := by
    intro k hk
    rw [levI_at (by omega), f2 k hk, Int.toNat_natCast, List.getD_eq_getElem?_getD, List.getElem?_replicate, if_pos hk]; rfl
  have hout : ∀ k : Int, k < 0 ∨ c.length ≤ k → levI (filt c c.length) (List.replicate c.length lev) base k = base := by
    intro k hk
    unfold levI
    rw [if_pos (by omega)]
  have hp0 : prd c (filt c c.length) (List.replicate c.length lev) base (rmat c) 0 = none := by
    unfold prd
    rw [if_neg (by omega), if_neg]
    rw [f2 0 h0]
    intro hh
    obtain ⟨x1, x2, x3⟩ := hh
    simp at x2 x1
    omega
  have hpk : ∀ k, k < c.length → 0 < k → prd c (filt c c.length) (List.replicate c.length lev) base (rmat c) k = some (k - 1) := by
    intro k hk hk0
    unfold prd
    rw [if_pos ⟨hk0, by rw [show (k : Int) - 1 = ((k - 1 : Nat) : Int) by omega, hlev (k - 1) (by omega), hlev k hk]⟩]
  generalize prd c (filt c c.length) (List.replicate c.length lev) base (rmat c) = pd at *
  rw [f1] at d1 d2
  have hn : ∀ k, k ≤ c.length → 0 < k → nS pd k = 1 := by
    intro k
    induction k with
    | zero => intro _ h; omega
    | succ k ih =>
      intro h1 _
      rw [nS]
      by_cases e : k = 0
      · subst e; rw [if_pos hp0]; rfl
      · rw [if_neg (by rw [hpk k (by omega) (by omega)]; simp)]; exact ih (by omega) (by omega)
  have ho : ∀ k, k < c.length → sOf pd k = 0 := by
    intro k
    induction k with
    | zero => intro _; rw [of_none hp0]; rfl
    | succ k ih => intro h; rw [of_some (hpk (k + 1) h (by omega)) (by omega)]; exact ih (by omega)
  obtain ⟨z, z1, _, z3, z4, z5⟩ := d2 0 h0 hp0
  have hn0 : nS pd 0 = 0 := rfl
  rw [hn0] at z3 z4 z5
  have hz : z = c.length - 1 := by
    by_cases e : z = c.length - 1
    · exact e
    · exact absurd (ho (z + 1) (by omega)) (z4 (z + 1) (by omega) (by omega))
  have hg : ∀ k, k ≤ c.length → (gat pd (filt c c.length) 0 k).length = k ∧ ∀ i, i < k → (gat pd (filt c c.length) 0 k).getD i 0 = i := by
    intro k
    induction k with
    | zero => intro _; exact ⟨rfl, fun i hi => by omega⟩
    | succ k ih =>
      intro h
      obtain ⟨i1, i2⟩ := ih (by omega)
      rw [gat, if_pos (ho k (by omega))]
      refine ⟨by simp [i1], fun i hi => ?_⟩
      by_cases e : i = k
      · subst e
        have := getD_snoc (l := gat pd (filt c c.length) 0 i) (x := (filt c c.length).getD i 0)
        rw [i1] at this
        rw [this, f2 i (by omega)]
      · rw [getD_snoc_lt (by omega)]; exact i2 i (by omega)
  have hside : sideI lev base = if lev % 2 = 1 then 2 else 1 := by
    unfold sideI
    rw [show max lev base = lev by omega]
  refine ⟨by rw [d1, hn c.length (Nat.le_refl _) h0], ?_⟩
  rw [z5]
  refine ⟨(hg c.length (Nat.le_refl _)).1, (hg c.length (Nat.le_refl _)).2, hlev 0 h0, ?_, ?_⟩
  · show sideI _ _ = _
    rw [hlev 0 h0, hout _ (by omega), hside]
  · show sideI _ _ = _
    have : rbeh c (filt c c.length) (List.replicate c.length lev) base (rmat c) z = base := by
      unfold rbeh
      split
      · rfl
      · exact hout _ (by omega)
    rw [this, hlev z z1, hside]
end Go.Proofs.Ytkfjhannbnijkaa
