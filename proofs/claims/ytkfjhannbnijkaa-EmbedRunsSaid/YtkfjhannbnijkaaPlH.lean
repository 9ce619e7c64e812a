/- Each place is in just one sequence; what a sequence is. No program in sight. -/
import Derived.Test.YtkfjhannbnijkaaR
namespace Go.Proofs.Ytkfjhannbnijkaa
open Go.RowKit

/-- Which place leads to the z-th one. -/
def pdOf (l L : List Int) (base : Int) : Nat → Option Nat := prd l (filt l l.length) L base (rmat l)
/-- How many places there are. -/
def npl (l : List Int) : Nat := (filt l l.length).length
def plc (l : List Int) (z : Nat) : Int := (filt l l.length).getD z 0

theorem pd_lt (l L : List Int) (base : Int) : ∀ k q, k < npl l → pdOf l L base k = some q → q < k := fun _ _ hk => prd_lt (rmat_MT l) hk

theorem RefS_gat (l L : List Int) (base : Int) : RefN l L base = nS (pdOf l L base) (npl l) ∧
    ∀ j, j < RefN l L base → ∃ h, h < npl l ∧ pdOf l L base h = none ∧ nS (pdOf l L base) h = j ∧ (RefS l L base j).pl = gat (pdOf l L base) (filt l l.length) j (npl l) ∧ (RefS l L base j).lev = levI (filt l l.length) L base h := by
  have hM := rmat_MT l
  have hlt := pd_lt l L base
  have hld : ∀ q k, q < npl l → k < npl l → (rlead l (filt l l.length) L base (rmat l) (atf l) q = k ↔ pdOf l L base k = some q) := fun q k hq hk => lead_prd hM hq hk
  have hr : ∀ q, q < npl l → -1 ≤ rlead l (filt l l.length) L base (rmat l) (atf l) q ∧ rlead l (filt l l.length) L base (rmat l) (atf l) q < npl l ∧ (0 ≤ rlead l (filt l l.length) L base (rmat l) (atf l) q → (q : Int) < rlead l (filt l l.length) L base (rmat l) (atf l) q) :=
    fun q hq => rlead_range l L base (rmat l) l.length (fun i h0 => by
      obtain ⟨m, m1, m2, m3, m4, m5, m6, m7⟩ := hM i h0
      rw [m3, Int.toNat_natCast]
      refine ⟨by omega, m6, fun hi => ?_⟩
      rcases m7 with m7 | m7
      · omega
      · rw [m7.1] at hi; simp at hi) hq
  have hdd : ∀ k, k < npl l → (rled (rlead l (filt l l.length) L base (rmat l) (atf l)) (npl l) k = true ↔ pdOf l L base k ≠ none) := by
    intro k hk
    rw [rled_true]
    constructor
    · rintro ⟨q, h1, h2⟩
      rw [(hld q k h1 hk).1 h2]; simp
    · intro h
      cases hp : pdOf l L base k with
      | none => exact absurd hp h
      | some q => have := hlt k q hk hp; exact ⟨q, by omega, (hld q k (by omega) hk).2 hp⟩
  have hR := rout_ok (l := l) (L := L) (base := base) (mt := rmat l) (filt l l.length) (rlead l (filt l l.length) L base (rmat l) (atf l)) (rled (rlead l (filt l l.length) L base (rmat l) (atf l)) (npl l)) (pdOf l L base) (npl l) hdd
  refine ⟨hR.1, fun j hj => ?_⟩
  have hj' : j < nS (pdOf l L base) (npl l) := by rw [← hR.1]; exact hj
  obtain ⟨h, h1, h2, h3⟩ := nS_head hj'
  have h0 : gat (pdOf l L base) (filt l l.length) j h = [] := by
    rw [gat_skip (a := 0) (b := h) (Nat.zero_le _) (fun z _ hz he => by
      have h1 := sOf_lt hlt z (by omega)
      have h2 := nS_mono (pd := pdOf l L base) (i := z + 1) (j := h) (by omega)
      omega)]
    rfl
  obtain ⟨z, z1, z2, z3, z4, z5⟩ := chain_gat (P := filt l l.length) hlt hld hr j (npl l) h h h1 (by rw [of_none h2, h3]) (by omega)
  rw [h0] at z5
  have h5 := hR.2 h h1 h2
  rw [h3] at h5
  have h6 : RefS l L base j = rseq l (filt l l.length) L base (rmat l) (rlead l (filt l l.length) L base (rmat l) (atf l)) h := h5
  have z6 : (rch (filt l l.length) (rlead l (filt l l.length) L base (rmat l) (atf l)) (filt l l.length).length h h []).1 = gat (pdOf l L base) (filt l l.length) j (npl l) := by
    have := congrArg Prod.fst z5
    exact this
  exact ⟨h, h1, h2, h3, by rw [h6]; exact z6, by rw [h6]; rfl⟩

section
variable {pd : Nat → Option Nat} {P : List Int}
theorem gat_mono (j : Nat) {a b : Nat} (h : a ≤ b) : (gat pd P j a).length ≤ (gat pd P j b).length := by
  induction b with
  | zero => have : a = 0 := by omega
            subst this; exact Nat.le_refl _
  | succ b ih =>
    by_cases e : a = b + 1
    · subst e; exact Nat.le_refl _
    · have := ih (by omega)
      rw [gat]
      split
      · simp; omega
      · exact this

/-- The k-th one of what is gathered. -/
theorem gat_get (j N : Nat) {k : Nat} (h : k < (gat pd P j N).length) : ∃ z, z < N ∧ sOf pd z = j ∧ (gat pd P j z).length = k ∧ (gat pd P j N).getD k 0 = P.getD z 0 := by
  induction N with
  | zero => simp [gat] at h
  | succ N ih =>
    rw [gat] at h ⊢
    by_cases e : sOf pd N = j
    · rw [if_pos e] at h ⊢
      by_cases h2 : k < (gat pd P j N).length
      · obtain ⟨z, h3, h4, h5, h6⟩ := ih h2
        refine ⟨z, by omega, h4, h5, ?_⟩
        rw [List.getD_eq_getElem?_getD, List.getElem?_append_left h2, ← List.getD_eq_getElem?_getD]
        exact h6
      · simp only [List.length_append, List.length_singleton] at h
        have hk : k = (gat pd P j N).length := by omega
        refine ⟨N, by omega, e, hk.symm, ?_⟩
        rw [List.getD_eq_getElem?_getD, hk, List.getElem?_append_right (Nat.le_refl _), Nat.sub_self]
        rfl
    · rw [if_neg e] at h ⊢
      obtain ⟨z, h3, h4⟩ := ih h
      exact ⟨z, by omega, h4⟩

theorem gat_in (j N : Nat) {z : Nat} (hz : z < N) (hj : sOf pd z = j) : (gat pd P j z).length < (gat pd P j N).length := by
  have h1 : gat pd P j (z + 1) = gat pd P j z ++ [P.getD z 0] := by rw [gat, if_pos hj]
  have := gat_mono (pd := pd) (P := P) j (a := z + 1) (b := N) (by omega)
  rw [h1] at this
  simp at this
  omega

/-- Places of one number of places ahead of them, in one sequence: one. -/
theorem gat_inj (j : Nat) {z y : Nat} (hz : sOf pd z = j) (hy : sOf pd y = j) (h : (gat pd P j z).length = (gat pd P j y).length) : z = y := by
  rcases Nat.lt_trichotomy z y with h1 | h1 | h1
  · have := gat_in (pd := pd) (P := P) j y h1 hz; omega
  · exact h1
  · have := gat_in (pd := pd) (P := P) j z h1 hy; omega
end

theorem plc_get (l : List Int) {z : Nat} (hz : z < npl l) : ∃ i : Nat, i < l.length ∧ remB (l.getD i 0) = false ∧ (filt l i).length = z ∧ plc l z = i := filt_get l l.length hz

theorem plc_at (l : List Int) {i : Nat} (hi : i < l.length) (hr : remB (l.getD i 0) = false) : (filt l i).length < npl l ∧ plc l (filt l i).length = i := filt_at l l.length hi hr

theorem plc_lt (l : List Int) {z y : Nat} (hy : y < npl l) (h : z < y) : plc l z < plc l y := by
  obtain ⟨i, h1, h2, h3, h4⟩ := plc_get l (show z < npl l by omega)
  obtain ⟨k, k1, k2, k3, k4⟩ := plc_get l hy
  rw [h4, k4]
  rcases Nat.lt_or_ge i k with h5 | h5
  · omega
  · have := filt_mono l h5; omega

/-- The number of a place's sequence. -/
def sqOf (l L : List Int) (base : Int) (x : Nat) : Nat := sOf (pdOf l L base) (filt l x).length

/-- What is seen, in the i-th sequence, up to the place 'last'. -/
def seenF (l L : List Int) (base : Int) (i : Nat) (last : Int) (x : Nat) : Bool :=
  !remB (l.getD x 0) && (decide (sqOf l L base x < i) || (decide (sqOf l L base x = i) && decide ((x : Int) ≤ last)))

/-- What is asked of the levels: matched places have one level. -/
def OneLevel (l L : List Int) : Prop := ∀ i m, Pair l i m → m < l.length → L.getD i 0 = L.getD m 0

/-- The k-th place of the i-th sequence, its forerunner's place. -/
def lastOf (P : List Int) (k : Nat) : Int := if k = 0 then -1 else P.getD (k - 1) 0

theorem once_law (l L : List Int) (base : Int) (hO : OneLevel l L) (i : Nat) (hi : i < RefN l L base) :
    0 < (RefS l L base i).pl.length ∧
    (∀ k, k < (RefS l L base i).pl.length → ∃ p : Nat, (RefS l L base i).pl.getD k 0 = p ∧ p < l.length ∧ lastOf (RefS l L base i).pl k < p ∧ remB (l.getD p 0) = false ∧ L.getD p 0 = (RefS l L base i).lev ∧ sqOf l L base p = i ∧
      (∀ x : Nat, lastOf (RefS l L base i).pl k < x → x < p → remB (l.getD x 0) = false → sqOf l L base x ≠ i) ∧
      (0 < k → ∀ x : Nat, lastOf (RefS l L base i).pl k < x → x < p → remB (l.getD x 0) = true ∨ rmat l (lastOf (RefS l L base i).pl k).toNat = p)) ∧
    (∀ x : Nat, x < l.length → remB (l.getD x 0) = false → sqOf l L base x = i → (x : Int) ≤ lastOf (RefS l L base i).pl (RefS l L base i).pl.length) ∧
    (∀ i', i' < i → (RefS l L base i').pl.getD 0 0 < (RefS l L base i).pl.getD 0 0) := by
  have hM := rmat_MT l
  have hlt := pd_lt l L base
  have hld : ∀ q k, q < npl l → k < npl l → (rlead l (filt l l.length) L base (rmat l) (atf l) q = k ↔ pdOf l L base k = some q) := fun q k hq hk => lead_prd hM hq hk
  obtain ⟨hN, hG⟩ := RefS_gat l L base
  obtain ⟨h, h1, h2, h3, h4, h5⟩ := hG i hi
  have hsh : sOf (pdOf l L base) h = i := by rw [of_none h2, h3]
  -- the first place of a sequence
  have first : ∀ i, ∀ z, z < npl l → sOf (pdOf l L base) z = i → (gat (pdOf l L base) (filt l l.length) i z).length = 0 → pdOf l L base z = none ∧ nS (pdOf l L base) z = i := by
    intro i z hz hs hg
    cases hp : pdOf l L base z with
    | none => exact ⟨rfl, by rw [← of_none hp]; exact hs⟩
    | some q =>
      have hq := hlt z q hz hp
      rw [of_some hp hq] at hs
      have := gat_in (pd := pdOf l L base) (P := filt l l.length) i z hq hs
      omega
  -- the one ahead of it
  have prev : ∀ z y, z < npl l → sOf (pdOf l L base) z = i → sOf (pdOf l L base) y = i → y < z → (∀ x, y < x → x < z → sOf (pdOf l L base) x ≠ i) → pdOf l L base z = some y := by
    intro z y hz hs hy hyz hno
    cases hp : pdOf l L base z with
    | none =>
      exfalso
      rw [of_none hp] at hs
      have := sOf_lt hlt y (by omega)
      have := nS_mono (pd := pdOf l L base) (i := y + 1) (j := z) (by omega)
      omega
    | some q =>
      have hq := hlt z q hz hp
      have hsq : sOf (pdOf l L base) q = i := by rw [← of_some hp hq]; exact hs
      rcases Nat.lt_trichotomy q y with h6 | h6 | h6
      · exfalso
        have := lead_next hlt hld y q h6 (by omega) (by rw [hsq, hy])
        have := (hld q z (by omega) hz).2 hp
        omega
      · rw [h6]
      · exact absurd hsq (hno q h6 hq)
  -- one level
  have levz : ∀ z, z < npl l → levI (filt l l.length) L base z = L.getD (plc l z).toNat 0 := fun z hz => levI_at hz
  have lev2 : ∀ z q, z < npl l → pdOf l L base z = some q → L.getD (plc l z).toNat 0 = L.getD (plc l q).toNat 0 ∧ (q + 1 = z ∨ (rmat l (plc l q).toNat = plc l z)) := by
    intro z q hz hp
    have hq := hlt z q hz hp
    have hp' : prd l (filt l l.length) L base (rmat l) z = some q := hp
    unfold prd at hp'
    split at hp'
    · rename_i h6
      injection hp' with hp'
      rw [show ((z : Int) - 1) = ((z - 1 : Nat) : Int) by omega, levz (z - 1) (by omega), levz z hz] at h6
      subst hp'
      exact ⟨h6.2.symm, Or.inl (by omega)⟩
    · split at hp'
      · rename_i h6
        injection hp' with hp'
        obtain ⟨x, x1, x2, x3, x4⟩ := plc_get l hz
        have e : (filt l l.length).getD z 0 = (x : Int) := x4
        rw [e, Int.toNat_natCast] at hp' h6
        obtain ⟨m, m1, m2, m3, m4, m5, m6, m7⟩ := hM x h6.1
        rw [m3, Int.toNat_natCast] at hp'
        obtain ⟨-, q2⟩ := plc_at l m1 m6
        rw [hp'] at q2
        rw [q2, x4, Int.toNat_natCast, Int.toNat_natCast]
        refine ⟨?_, Or.inr m4⟩
        obtain ⟨m', n1, n2, n3, n4, n5⟩ := rmat_pair l h6.1
        have hmm : m' = m := by omega
        subst hmm
        rcases n4 with n4 | n4
        · have := n4.lt.1; omega
        · exact (hO _ _ n4 m2).symm
      · cases hp'
  have onel : ∀ z, z < npl l → sOf (pdOf l L base) z = i → L.getD (plc l z).toNat 0 = L.getD (plc l h).toNat 0 := by
    intro z
    induction z using Nat.strongRecOn with
    | ind z ih =>
      intro hz hs
      cases hp : pdOf l L base z with
      | none =>
        rw [of_none hp] at hs
        have : z = h := by
          rcases Nat.lt_trichotomy z h with h6 | h6 | h6
          · have := nS_lt hp h6; omega
          · exact h6
          · have := nS_lt h2 h6; omega
        rw [this]
      | some q =>
        have hq := hlt z q hz hp
        rw [(lev2 z q hz hp).1]
        exact ih q hq (by omega) (by rw [← of_some hp hq]; exact hs)
  refine ⟨?_, fun k hk => ?_, fun x hx hr hs => ?_, fun i' hi' => ?_⟩
  · rw [h4]; have := gat_in (pd := pdOf l L base) (P := filt l l.length) i (npl l) h1 hsh; omega
  · rw [h4] at hk ⊢
    obtain ⟨z, z1, z2, z3, z4⟩ := gat_get i (npl l) hk
    obtain ⟨p, p1, p2, p3, p4⟩ := plc_get l z1
    have z4' : (gat (pdOf l L base) (filt l l.length) i (npl l)).getD k 0 = (p : Int) := z4.trans p4
    -- what is last
    have hlast : ∃ y : Int, lastOf (gat (pdOf l L base) (filt l l.length) i (npl l)) k = y ∧ ((k = 0 ∧ y = -1) ∨ (0 < k ∧ ∃ w, w < z ∧ sOf (pdOf l L base) w = i ∧ (gat (pdOf l L base) (filt l l.length) i w).length = k - 1 ∧ y = plc l w)) := by
      refine ⟨_, rfl, ?_⟩
      unfold lastOf
      by_cases hk0 : k = 0
      · rw [if_pos hk0]; exact Or.inl ⟨hk0, rfl⟩
      · rw [if_neg hk0]
        obtain ⟨w, w1, w2, w3, w4⟩ := gat_get (pd := pdOf l L base) (P := filt l l.length) i (npl l) (k := k - 1) (by omega)
        refine Or.inr ⟨by omega, w, ?_, w2, w3, w4⟩
        rcases Nat.lt_or_ge w z with h6 | h6
        · exact h6
        · have := gat_mono (pd := pdOf l L base) (P := filt l l.length) i h6; omega
    obtain ⟨y, hy, hyc⟩ := hlast
    rw [hy]
    have hyz : y < p := by
      rcases hyc with ⟨-, e⟩ | ⟨-, w, w1, -, -, e⟩
      · omega
      · rw [e, ← p4]; exact plc_lt l z1 w1
    have hsq : sqOf l L base p = i := by unfold sqOf; rw [p3]; exact z2
    have hbet : ∀ x : Nat, y < x → x < p → remB (l.getD x 0) = false → sqOf l L base x ≠ i := by
      intro x hx1 hx2 hr hs
      unfold sqOf at hs
      obtain ⟨x1, x2⟩ := plc_at l (show x < l.length by omega) hr
      have hxz : (filt l x).length < z := by rw [← p3]; exact (filt_at l p hx2 hr).1
      have hg1 := gat_in (pd := pdOf l L base) (P := filt l l.length) i z hxz hs
      rcases hyc with ⟨e0, -⟩ | ⟨e0, w, w1, w2, w3, e⟩
      · omega
      · have hwx : w < (filt l x).length := by
          rcases Nat.lt_or_ge w (filt l x).length with h6 | h6
          · exact h6
          · rcases Nat.lt_or_ge (filt l x).length w with h7 | h7
            · have := plc_lt l (show w < npl l by omega) h7; omega
            · have : (filt l x).length = w := by omega
              rw [this] at x2; omega
        have hg2 := gat_in (pd := pdOf l L base) (P := filt l l.length) i _ hwx w2
        omega
    refine ⟨p, z4', p1, hyz, p2, ?_, hsq, hbet, fun hk0 x hx1 hx2 => ?_⟩
    · rw [h5, levz h h1]
      have := onel z z1 z2
      rw [p4, Int.toNat_natCast] at this
      exact this
    · by_cases hr : remB (l.getD x 0) = true
      · exact Or.inl hr
      · right
        have hr' : remB (l.getD x 0) = false := by simpa using hr
        rcases hyc with ⟨e0, -⟩ | ⟨-, w, w1, w2, w3, e⟩
        · omega
        · have hno : ∀ q, w < q → q < z → sOf (pdOf l L base) q ≠ i := by
            intro q hq1 hq2 hq3
            have g1 := gat_in (pd := pdOf l L base) (P := filt l l.length) i q hq1 w2
            have g2 := gat_in (pd := pdOf l L base) (P := filt l l.length) i z hq2 hq3
            omega
          have hp := prev z w z1 z2 w2 w1 hno
          rcases (lev2 z w z1 hp).2 with e6 | e6
          · exfalso
            obtain ⟨x1, x2⟩ := plc_at l (show x < l.length by omega) hr'
            have hxz : (filt l x).length < z := by rw [← p3]; exact (filt_at l p hx2 hr').1
            have hle : (filt l x).length ≤ w := by omega
            rcases Nat.lt_or_ge (filt l x).length w with h7 | h7
            · have := plc_lt l (show w < npl l by omega) h7; omega
            · have : (filt l x).length = w := by omega
              rw [this] at x2; omega
          · rw [e, e6, p4]
  · unfold sqOf at hs
    obtain ⟨x1, x2⟩ := plc_at l hx hr
    rw [h4]
    have hg := gat_in (pd := pdOf l L base) (P := filt l l.length) i (npl l) x1 hs
    unfold lastOf
    rw [if_neg (by omega)]
    obtain ⟨w, w1, w2, w3, w4⟩ := gat_get (pd := pdOf l L base) (P := filt l l.length) i (npl l) (k := (gat (pdOf l L base) (filt l l.length) i (npl l)).length - 1) (by omega)
    rw [w4]
    show (x : Int) ≤ plc l w
    rcases Nat.lt_trichotomy (filt l x).length w with h6 | h6 | h6
    · have := plc_lt l w1 h6; omega
    · rw [h6] at x2; omega
    · have := gat_in (pd := pdOf l L base) (P := filt l l.length) i _ h6 w2
      omega
  · obtain ⟨g, g1, g2, g3, g4, -⟩ := hG i' (by omega)
    have hgh : g < h := by
      rcases Nat.lt_or_ge g h with h6 | h6
      · exact h6
      · have := nS_mono (pd := pdOf l L base) h6; omega
    have head : ∀ i h, h < npl l → pdOf l L base h = none → nS (pdOf l L base) h = i → (gat (pdOf l L base) (filt l l.length) i (npl l)).getD 0 0 = plc l h := by
      intro i h h1 h2 h3
      have hs : sOf (pdOf l L base) h = i := by rw [of_none h2, h3]
      have := gat_in (pd := pdOf l L base) (P := filt l l.length) i (npl l) h1 hs
      obtain ⟨z, z1, z2, z3, z4⟩ := gat_get (pd := pdOf l L base) (P := filt l l.length) i (npl l) (k := 0) (by omega)
      obtain ⟨k1, k2⟩ := first i z z1 z2 z3
      have : z = h := by
        rcases Nat.lt_trichotomy z h with h6 | h6 | h6
        · have := nS_lt k1 h6; omega
        · exact h6
        · have := nS_lt h2 h6; omega
      rw [z4, this]; rfl
    rw [h4, g4, head i h h1 h2 h3, head i' g g1 g2 g3]
    exact plc_lt l h1 hgh
end Go.Proofs.Ytkfjhannbnijkaa
