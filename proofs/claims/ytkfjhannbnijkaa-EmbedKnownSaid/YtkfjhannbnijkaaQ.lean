/- The sequences, told twice: place by place, and by what each place leads to: they are the same. No program is in sight. -/
import Derived.Test.YtkfjhannbnijkaaH
import Derived.Test.YtkfjhannbnijkaaP
namespace Go.Proofs.Ytkfjhannbnijkaa
open Go.RowKit

/-- What is asked of the matching ones. -/
def MT (l : List Int) (mt : Nat → Int) : Prop :=
  ∀ i, 0 ≤ mt i → ∃ m : Nat, m < l.length ∧ i < l.length ∧ mt i = m ∧ mt m = i ∧ remB (l.getD i 0) = false ∧ remB (l.getD m 0) = false ∧ ((initB (l.getD i 0) = true ∧ i < m) ∨ (initB (l.getD i 0) = false ∧ m < i))

theorem init_not23 {c : Int} (h : c = 23) : initB c = false := by subst h; decide

theorem rmat_MT (l : List Int) : MT l (rmat l) := by
  intro i h
  obtain ⟨m, h1, h2, h3, h4, h5⟩ := rmat_pair l h
  refine ⟨m, h1, h2, h3, h5, ?_⟩
  rcases h4 with h4 | h4
  · exact ⟨rem_init h4.lt.2, by rw [h4.1]; exact rem_23, Or.inl ⟨h4.lt.2, h4.lt.1⟩⟩
  · exact ⟨by rw [h4.1]; exact rem_23, rem_init h4.lt.2, Or.inr ⟨init_not23 h4.1, h4.lt.1⟩⟩

/-- Which place leads to the k-th one. -/
def prd (l P L : List Int) (base : Int) (mt : Nat → Int) (k : Nat) : Option Nat :=
  if 0 < k ∧ levI P L base ((k : Int) - 1) = levI P L base k then some (k - 1)
  else if 0 ≤ mt (P.getD k 0).toNat ∧ mt (P.getD k 0).toNat < (P.getD k 0).toNat ∧ levI P L base ((filt l (mt (P.getD k 0).toNat).toNat).length : Int) ≠ levI P L base (((filt l (mt (P.getD k 0).toNat).toNat).length : Int) + 1) then some (filt l (mt (P.getD k 0).toNat).toNat).length
  else none

section
variable {l L : List Int} {base : Int} {mt : Nat → Int}

theorem filt_lt {i j : Nat} (h : i < j) (hr : remB (l.getD i 0) = false) : (filt l i).length < (filt l j).length := (filt_at l j h hr).1

theorem lead_prd (hM : MT l mt) {q k : Nat} (hq : q < (filt l l.length).length) (hk : k < (filt l l.length).length) :
    rlead l (filt l l.length) L base mt (atf l) q = k ↔ prd l (filt l l.length) L base mt k = some q := by
  obtain ⟨iq, q1, q2, q3, q4⟩ := filt_get l l.length hq
  obtain ⟨ik, k1, k2, k3, k4⟩ := filt_get l l.length hk
  generalize hP : filt l l.length = P at *
  unfold rlead prd
  rw [q4, k4, Int.toNat_natCast, Int.toNat_natCast]
  constructor
  · intro h
    by_cases he : rends P L base q = false
    · rw [if_pos he] at h
      have hk : k = q + 1 := by omega
      subst hk
      unfold rends at he
      simp only [Bool.or_eq_false_iff, bne_eq_false_iff_eq] at he
      rw [if_pos ⟨by omega, by rw [show ((q + 1 : Nat) : Int) - 1 = q by omega, he.2]; rfl⟩]
      rfl
    · rw [if_neg he] at h
      split at h
      · rename_i hc
        obtain ⟨c1, c2, c3⟩ := hc
        obtain ⟨m, m1, m2, m3, m4, m5, m6, m7⟩ := hM iq c2
        rw [m3, Int.toNat_natCast] at h c3
        have hat : (filt l m).length = k := by unfold atf at h; omega
        have hmk : m = ik := by
          have := (filt_at l l.length m1 m6).2
          rw [hP, hat, k4] at this
          omega
        subst hmk
        have hlt : iq < m := by
          rcases m7 with h7 | h7
          · exact h7.2
          · rw [h7.1] at c1; simp at c1
        have hqk := filt_lt hlt m5
        rw [q3, k3] at hqk
        have hatk : (atf l m).toNat = k := by unfold atf; omega
        rw [hatk] at c3
        unfold rbegins at c3
        have c3' : levI P L base k ≠ levI P L base ((k : Int) - 1) := by
          simp only [Bool.or_eq_true, beq_iff_eq, bne_iff_ne, ne_eq] at c3
          rcases c3 with c3 | c3
          · omega
          · exact c3
        rw [if_neg (fun hh => c3' hh.2.symm), m4, Int.toNat_natCast, q3]
        have he' : rends P L base q = true := by simpa using he
        unfold rends at he'
        simp only [Bool.or_eq_true, beq_iff_eq, bne_iff_ne, ne_eq] at he'
        have hne : levI P L base q ≠ levI P L base ((q : Int) + 1) := by
          rcases he' with he' | he'
          · omega
          · exact he'
        rw [if_pos ⟨by omega, by omega, hne⟩]
      · omega
  · intro h
    split at h
    · rename_i hc
      have hqq : q = k - 1 := by injection h with h; exact h.symm
      have : rends P L base q = false := by
        unfold rends
        simp only [Bool.or_eq_false_iff, bne_eq_false_iff_eq, beq_eq_false_iff_ne]
        rw [show (q : Int) + 1 = k by omega, show (q : Int) = (k : Int) - 1 by omega]
        exact ⟨by omega, hc.2⟩
      rw [if_pos this]; omega
    · rename_i hn
      split at h
      · rename_i hc
        obtain ⟨c1, c2, c3⟩ := hc
        obtain ⟨m, m1, m2, m3, m4, m5, m6, m7⟩ := hM ik c1
        rw [m3, Int.toNat_natCast] at h c3
        have hqm : (filt l m).length = q := by injection h
        have hmq : m = iq := by
          have := (filt_at l l.length m1 m6).2
          rw [hP, hqm, q4] at this
          omega
        subst hmq
        rw [hqm] at c3
        have he : rends P L base q = true := by
          unfold rends
          simp only [Bool.or_eq_true, beq_iff_eq, bne_iff_ne, ne_eq]
          exact Or.inr c3
        have hi : initB (l.getD m 0) = true := by
          obtain ⟨m', _, _, e3, _, _, _, e7⟩ := hM m (by omega)
          rcases e7 with e7 | e7
          · exact e7.1
          · omega
        rw [if_neg (by rw [he]; simp), if_pos, m4, Int.toNat_natCast]
        · unfold atf; omega
        · rw [m4, Int.toNat_natCast]
          refine ⟨hi, by omega, ?_⟩
          have : (atf l ik).toNat = k := by unfold atf; omega
          rw [this]
          unfold rbegins
          simp only [Bool.or_eq_true, beq_iff_eq, bne_iff_ne, ne_eq]
          by_cases hk0 : k = 0
          · exact Or.inl hk0
          · exact Or.inr (fun hh => hn ⟨by omega, hh.symm⟩)
      · simp at h

theorem prd_lt (hM : MT l mt) {q k : Nat} (hk : k < (filt l l.length).length) (h : prd l (filt l l.length) L base mt k = some q) : q < k := by
  obtain ⟨ik, k1, k2, k3, k4⟩ := filt_get l l.length hk
  unfold prd at h
  rw [k4, Int.toNat_natCast] at h
  split at h
  · injection h; omega
  · split at h
    · rename_i hc
      obtain ⟨m, m1, m2, m3, m4, m5, m6, m7⟩ := hM ik hc.1
      rw [m3, Int.toNat_natCast] at h hc
      have := filt_lt (l := l) (i := m) (j := ik) (by omega) m6
      injection h; omega
    · simp at h
end

section
variable (pd : Nat → Option Nat)

def nS : Nat → Nat
  | 0 => 0
  | k + 1 => if pd k = none then nS k + 1 else nS k

def ofT : Nat → Nat → Nat
  | 0 => fun _ => 0
  | k + 1 => fun x => if x = k then (match pd k with | some q => ofT k q | none => nS pd k) else ofT k x

/-- The number of the k-th place's sequence. -/
def sOf (k : Nat) : Nat := ofT pd (k + 1) k

/-- The places below k of the j-th sequence. -/
def gat (P : List Int) (j : Nat) : Nat → List Int
  | 0 => []
  | k + 1 => if sOf pd k = j then gat P j k ++ [P.getD k 0] else gat P j k

variable {pd}
theorem ofT_of {x k : Nat} (h : x < k) : ofT pd k x = sOf pd x := by
  induction k with
  | zero => omega
  | succ k ih =>
    by_cases e : x = k
    · subst e; rfl
    · rw [ofT]; simp only [if_neg e]; exact ih (by omega)
theorem of_some {q k : Nat} (h : pd k = some q) (hq : q < k) : sOf pd k = sOf pd q := by
  unfold sOf
  rw [ofT]
  simp only [if_true, h]
  exact ofT_of hq
theorem of_none {k : Nat} (h : pd k = none) : sOf pd k = nS pd k := by
  unfold sOf
  rw [ofT]
  simp only [if_true, h]
theorem nS_mono {i j : Nat} (h : i ≤ j) : nS pd i ≤ nS pd j := by
  induction j with
  | zero => have : i = 0 := by omega
            subst this; exact Nat.le_refl _
  | succ j ih =>
    by_cases e : i = j + 1
    · subst e; exact Nat.le_refl _
    · have := ih (by omega)
      rw [nS]; split <;> omega
theorem nS_lt {h k : Nat} (hh : pd h = none) (hk : h < k) : nS pd h < nS pd k := by
  have := nS_mono (pd := pd) (i := h + 1) (j := k) (by omega)
  rw [nS, if_pos hh] at this
  omega
theorem nS_head {j k : Nat} (h : j < nS pd k) : ∃ x, x < k ∧ pd x = none ∧ nS pd x = j := by
  induction k with
  | zero => simp [nS] at h
  | succ k ih =>
    rw [nS] at h
    split at h
    · rename_i hn
      by_cases e : j < nS pd k
      · obtain ⟨x, h1, h2⟩ := ih e; exact ⟨x, by omega, h2⟩
      · exact ⟨k, by omega, hn, by omega⟩
    · obtain ⟨x, h1, h2⟩ := ih h; exact ⟨x, by omega, h2⟩

theorem sOf_lt {N : Nat} (hlt : ∀ k q, k < N → pd k = some q → q < k) : ∀ k, k < N → sOf pd k < nS pd (k + 1) := by
  intro k
  induction k using Nat.strongRecOn with
  | ind k ih =>
    intro hk
    cases h : pd k with
    | none => rw [of_none h, nS, if_pos h]; omega
    | some q =>
      have hq := hlt k q hk h
      rw [of_some h hq, nS, if_neg (by rw [h]; simp)]
      have := ih q hq (by omega)
      have := nS_mono (pd := pd) (i := q + 1) (j := k) (by omega)
      omega

theorem lead_next {N : Nat} (hlt : ∀ k q, k < N → pd k = some q → q < k) {ld : Nat → Int} (hld : ∀ q k, q < N → k < N → (ld q = k ↔ pd k = some q)) :
    ∀ y x, x < y → y < N → sOf pd x = sOf pd y → 0 ≤ ld x ∧ ld x ≤ y := by
  intro y
  induction y using Nat.strongRecOn with
  | ind y ih =>
    intro x hx hy he
    cases h : pd y with
    | none =>
      exfalso
      rw [of_none h] at he
      have := sOf_lt hlt x (by omega)
      have := nS_mono (pd := pd) (i := x + 1) (j := y) (by omega)
      omega
    | some q =>
      have hq := hlt y q hy h
      have hl := (hld q y (by omega) hy).2 h
      rw [of_some h hq] at he
      rcases Nat.lt_trichotomy x q with h1 | h1 | h1
      · have := ih q hq x h1 (by omega) he; omega
      · subst h1; omega
      · have := ih x hx q h1 (by omega) he.symm; omega

theorem gat_skip {P : List Int} {j a b : Nat} (hab : a ≤ b) (h : ∀ z, a ≤ z → z < b → sOf pd z ≠ j) : gat pd P j b = gat pd P j a := by
  induction b with
  | zero => have : a = 0 := by omega
            subst this; rfl
  | succ b ih =>
    by_cases e : a = b + 1
    · subst e; rfl
    · rw [gat, if_neg (h b (by omega) (by omega))]
      exact ih (by omega) (fun z h1 h2 => h z h1 (by omega))

/-- The chain gathers the places of one sequence. -/
theorem chain_gat {P : List Int} {N : Nat} (hlt : ∀ k q, k < N → pd k = some q → q < k) {ld : Nat → Int} (hld : ∀ q k, q < N → k < N → (ld q = k ↔ pd k = some q))
    (hr : ∀ q, q < N → -1 ≤ ld q ∧ ld q < N ∧ (0 ≤ ld q → (q : Int) < ld q)) (j : Nat) :
    ∀ f x last, x < N → sOf pd x = j → N ≤ x + f → ∃ z : Nat, z < N ∧ x ≤ z ∧ sOf pd z = j ∧ (∀ y, z < y → y < N → sOf pd y ≠ j) ∧ rch P ld f x last (gat pd P j x) = (gat pd P j N, (z : Int)) := by
  intro f
  induction f with
  | zero => intro x last h1 h2 h3; omega
  | succ f ih =>
    intro x last h1 h2 h3
    have hx := hr x h1
    rw [rch, if_neg (by omega), Int.toNat_natCast]
    have hg1 : gat pd P j (x + 1) = gat pd P j x ++ [P.getD x 0] := by rw [gat, if_pos h2]
    rw [← hg1]
    by_cases hl : ld x < 0
    · have hno : ∀ y, x < y → y < N → sOf pd y ≠ j := fun y h4 h5 h6 => by
        have := lead_next hlt hld y x h4 h5 (by rw [h2, h6]); omega
      refine ⟨x, h1, Nat.le_refl _, h2, hno, ?_⟩
      rw [gat_skip (a := x + 1) (b := N) (by omega) (fun z h4 h5 => hno z (by omega) h5)]
      cases f with
      | zero => rfl
      | succ f => rw [rch, if_pos hl]
    · obtain ⟨y, hy⟩ := Int.eq_ofNat_of_zero_le (show 0 ≤ ld x by omega)
      rw [hy] at hx ⊢
      have hxy : x < y := by omega
      have hpd := (hld x y h1 (by omega)).1 hy
      have hoy : sOf pd y = j := by rw [of_some hpd hxy, h2]
      have hgy : gat pd P j y = gat pd P j (x + 1) := gat_skip (by omega) (fun z h4 h5 h6 => by
        have := lead_next hlt hld z x (by omega) (by omega) (by rw [h2, h6]); omega)
      rw [← hgy]
      obtain ⟨z, z1, z2, z3, z4, z5⟩ := ih y x (by omega) hoy (by omega)
      exact ⟨z, z1, by omega, z3, z4, z5⟩

theorem rled_true {ld : Nat → Int} {K k : Nat} : rled ld K k = true ↔ ∃ q, q < K ∧ ld q = k := by
  induction K with
  | zero => simp [rled]
  | succ K ih =>
    rw [rled]
    constructor
    · intro h
      split at h
      · rename_i h0
        unfold updB at h
        split at h
        · exact ⟨K, by omega, by omega⟩
        · obtain ⟨q, h1, h2⟩ := ih.1 h; exact ⟨q, by omega, h2⟩
      · obtain ⟨q, h1, h2⟩ := ih.1 h; exact ⟨q, by omega, h2⟩
    · intro ⟨q, h1, h2⟩
      by_cases e : q = K
      · subst e
        rw [if_pos (by omega)]
        unfold updB
        rw [if_pos (by omega)]
      · have h3 := ih.2 ⟨q, by omega, h2⟩
        split
        · unfold updB
          split
          · rfl
          · exact h3
        · exact h3
end
end Go.Proofs.Ytkfjhannbnijkaa
