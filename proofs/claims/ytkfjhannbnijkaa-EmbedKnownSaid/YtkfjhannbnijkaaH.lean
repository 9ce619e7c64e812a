/- What the reference's Sequences computes, step by step; rows of sequences behind an append of a whole one. No program is in sight. -/
import Derived.Test.YtkfjhannbnijkaaG
namespace Go.Proofs.Ytkfjhannbnijkaa
open Go.RowKit

/-- The places: numbers of those of the first i classes that are not removed. -/
def filt (l : List Int) : Nat → List Int
  | 0 => []
  | i + 1 => if remB (l.getD i 0) = true then filt l i else filt l i ++ [(i : Int)]

def atf (l : List Int) (i : Nat) : Int := (filt l i).length

theorem filt_len (l : List Int) (i : Nat) : (filt l i).length ≤ i := by
  induction i with
  | zero => simp [filt]
  | succ i ih => simp only [filt]; split <;> (try simp only [List.length_append, List.length_singleton]) <;> omega

theorem filt_mono (l : List Int) {i j : Nat} (h : i ≤ j) : (filt l i).length ≤ (filt l j).length := by
  induction j with
  | zero => have : i = 0 := by omega
            subst this; exact Nat.le_refl _
  | succ j ih =>
    by_cases e : i = j + 1
    · subst e; exact Nat.le_refl _
    · have := ih (by omega)
      simp only [filt]; split <;> (try simp only [List.length_append, List.length_singleton]) <;> omega

/-- A place that is not removed has its number's number. -/
theorem filt_at (l : List Int) (j : Nat) {i : Nat} (h : i < j) (hr : remB (l.getD i 0) = false) : (filt l i).length < (filt l j).length ∧ (filt l j).getD (filt l i).length 0 = i := by
  induction j with
  | zero => omega
  | succ j ih =>
    by_cases e : i = j
    · subst e
      simp only [filt, hr, Bool.false_eq_true, if_false, List.length_append, List.length_singleton]
      refine ⟨by omega, ?_⟩
      rw [List.getD_eq_getElem?_getD, List.getElem?_append_right (Nat.le_refl _), Nat.sub_self]; rfl
    · have := ih (by omega)
      simp only [filt]
      split
      · exact this
      · refine ⟨by simp; omega, ?_⟩
        rw [List.getD_eq_getElem?_getD, List.getElem?_append_left this.1, ← List.getD_eq_getElem?_getD]
        exact this.2

/-- The k-th place: which one it is. -/
theorem filt_get (l : List Int) (j : Nat) {k : Nat} (h : k < (filt l j).length) : ∃ i, i < j ∧ remB (l.getD i 0) = false ∧ (filt l i).length = k ∧ (filt l j).getD k 0 = i := by
  induction j with
  | zero => simp [filt] at h
  | succ j ih =>
    simp only [filt] at h ⊢
    split at h
    · rename_i hr
      obtain ⟨i, h1, h2, h3, h4⟩ := ih h
      rw [if_pos hr]
      exact ⟨i, by omega, h2, h3, h4⟩
    · rename_i hr
      rw [if_neg hr]
      by_cases e : k < (filt l j).length
      · obtain ⟨i, h1, h2, h3, h4⟩ := ih e
        refine ⟨i, by omega, h2, h3, ?_⟩
        rw [List.getD_eq_getElem?_getD, List.getElem?_append_left e, ← List.getD_eq_getElem?_getD]; exact h4
      · simp only [List.length_append, List.length_singleton] at h
        have hk : k = (filt l j).length := by omega
        refine ⟨j, by omega, by simpa using hr, hk.symm, ?_⟩
        rw [List.getD_eq_getElem?_getD, hk, List.getElem?_append_right (Nat.le_refl _), Nat.sub_self]; rfl

def rends (P L : List Int) (base : Int) (k : Nat) : Bool := (k : Int) == (P.length : Int) - 1 || levI P L base k != levI P L base (k + 1)
def rbegins (P L : List Int) (base : Int) (k : Nat) : Bool := k == 0 || levI P L base k != levI P L base (k - 1)

/-- Where the k-th place leads. -/
def rlead (l P L : List Int) (base : Int) (mt atl : Nat → Int) (k : Nat) : Int :=
  if rends P L base k = false then k + 1
  else if initB (l.getD (P.getD k 0).toNat 0) = true ∧ 0 ≤ mt (P.getD k 0).toNat ∧ rbegins P L base (atl (mt (P.getD k 0).toNat).toNat).toNat = true then atl (mt (P.getD k 0).toNat).toNat
  else -1

def rled (ld : Nat → Int) : Nat → Nat → Bool
  | 0 => fun _ => false
  | k + 1 => if 0 ≤ ld k then updB (rled ld k) (ld k).toNat true else rled ld k

/-- A chain of places: what is gathered, and the last one. -/
def rch (P : List Int) (ld : Nat → Int) : Nat → Int → Int → List Int → List Int × Int
  | 0, _, last, acc => (acc, last)
  | f + 1, x, last, acc => if x < 0 then (acc, last) else rch P ld f (ld x.toNat) x (acc ++ [P.getD x.toNat 0])

def rbeh (l P L : List Int) (base : Int) (mt : Nat → Int) (last : Int) : Int :=
  if initB (l.getD (P.getD last.toNat 0).toNat 0) = true ∧ mt (P.getD last.toNat 0).toNat < 0 then base else levI P L base (last + 1)

def rseq (l P L : List Int) (base : Int) (mt ld : Nat → Int) (k : Nat) : SeqD :=
  ⟨(rch P ld P.length k k []).1, levI P L base k, sideI (levI P L base k) (levI P L base (k - 1)),
   sideI (levI P L base (rch P ld P.length k k []).2) (rbeh l P L base mt (rch P ld P.length k k []).2)⟩

def rout (l P L : List Int) (base : Int) (mt ld : Nat → Int) (dd : Nat → Bool) : Nat → Nat × (Nat → SeqD)
  | 0 => (0, fun _ => ⟨[], 0, 0, 0⟩)
  | k + 1 => if dd k = true then rout l P L base mt ld dd k else ((rout l P L base mt ld dd k).1 + 1, updS (rout l P L base mt ld dd k).2 (rout l P L base mt ld dd k).1 (rseq l P L base mt ld k))

theorem rlead_range (l L : List Int) (base : Int) (mt : Nat → Int) (n : Nat) (hM : ∀ i, 0 ≤ mt i → mt i < n ∧ remB (l.getD (mt i).toNat 0) = false ∧ (initB (l.getD i 0) = true → i < mt i))
    {j : Nat} (hj : j < (filt l n).length) : -1 ≤ rlead l (filt l n) L base mt (atf l) j ∧ rlead l (filt l n) L base mt (atf l) j < (filt l n).length ∧ (0 ≤ rlead l (filt l n) L base mt (atf l) j → (j : Int) < rlead l (filt l n) L base mt (atf l) j) := by
  unfold rlead
  split
  · rename_i h
    unfold rends at h
    simp only [Bool.or_eq_false_iff, beq_eq_false_iff_ne] at h
    have := h.1
    omega
  · split
    · rename_i h
      obtain ⟨h1, h2, h3⟩ := h
      obtain ⟨q, q1, q2, q3, q4⟩ := filt_get l n hj
      rw [q4, Int.toNat_natCast] at h1 h2 ⊢
      obtain ⟨m1, m2, m3⟩ := hM q h2
      have m4 := m3 h1
      have a1 := filt_at l n (i := (mt q).toNat) (by omega) m2
      have a2 := filt_at l (mt q).toNat (i := q) (by omega) q2
      unfold atf
      omega
    · omega

theorem rout_le (l P L : List Int) (base : Int) (mt ld : Nat → Int) (dd : Nat → Bool) (k : Nat) : (rout l P L base mt ld dd k).1 ≤ k := by
  induction k with
  | zero => simp [rout]
  | succ k ih => simp only [rout]; split <;> omega

theorem levI_range {P L : List Int} {base : Int} (hb : 0 ≤ base ∧ base ≤ 255) (hL : ∀ i, 0 ≤ L.getD i 0 ∧ L.getD i 0 ≤ 255) (k : Int) : 0 ≤ levI P L base k ∧ levI P L base k ≤ 255 := by
  unfold levI
  split
  · exact hb
  · exact hL _

theorem sideI_range (x y : Int) : 0 ≤ sideI x y ∧ sideI x y ≤ 255 := by unfold sideI; split <;> omega

theorem own_since {w w' : World} {B T s : Nat} {v : Value} {n : Nat} {xs : List Value} (h : w.ownsRow B T s v n xs) {C : Nat} (hs : w.Since C w') (hC : ∀ r, v.ownBlock = some r → r < C) : w'.ownsRow B T s v n xs := by
  refine ⟨h.1, ?_⟩
  rcases h.2 with h2 | ⟨g, cap, cur, rfl, h1, h2, r⟩
  · exact Or.inl h2
  · exact Or.inr ⟨g, cap, cur, rfl, h1, by rw [hs.block g (hC g rfl)]; exact h2, r⟩

/-- All that was there is as it was. -/
theorem Seqs.since {w w' : World} {B T : Nat} {va : Value} {n : Nat} {pv : Nat → Value} {sd : Nat → SeqD} (h : Seqs w B T va n pv sd) (hs : w.Since w.heap.size w') : Seqs w' B T va n pv sd := by
  obtain ⟨⟨xs, h1, h2⟩, h3, h4, h5⟩ := h
  exact ⟨⟨xs, own_since h1 hs (fun r e => (h1.lt r e).2), h2⟩, fun j hj => own_since (h3 j hj) hs (fun r e => ((h3 j hj).lt r e).2), h4, h5⟩

/-- A whole sequence more: its row of places lies in new memory. -/
theorem Seqs.appendWhole {w w1 w' : World} {B T : Nat} {va : Value} {n : Nat} {pv : Nat → Value} {sd : Nat → SeqD} {g cap : Nat} {d : SeqD} {pn : Value}
    (h2 : Seqs w B T va n pv sd) (hs : w.Since w.heap.size w1) (hp : w1.ownsRow w.heap.size 3 1 pn d.pl.length (d.pl.map (Value.int .i64))) (hB : B ≤ w.heap.size)
    (h : ∃ xs, w1.ownsRow B T 4 va n xs ∧ (∀ j, j < n → xs[j*4]? = some (pv j) ∧ xs[j*4+1]? = some (.int .u8 (sd j).lev) ∧ xs[j*4+2]? = some (.int .u8 (sd j).sos) ∧ xs[j*4+3]? = some (.int .u8 (sd j).eos)) ∧
      w'.ownsRow B T 4 (.slice (some ⟨g, 0, none⟩) (n + 1) cap) (n + 1) (xs ++ [pn, .int .u8 d.lev, .int .u8 d.sos, .int .u8 d.eos]))
    (hg : w1.grownBy w' va.ownBlock) :
    Seqs w' B T (.slice (some ⟨g, 0, none⟩) (n + 1) cap) (n + 1) (updV pv n pn) (updS sd n d) := by
  have h1 := h2.since hs
  obtain ⟨xs, ho, hx, ho'⟩ := h
  have hl : xs.length = n * 4 := ho.1
  have hold : ∀ j r, j < n → (pv j).ownBlock = some r → r < w.heap.size := fun j r hj e => ((h2.pls j hj).lt r e).2
  have hnew : ∀ r, pn.ownBlock = some r → w.heap.size ≤ r := fun r e => (hp.lt r e).1
  have hpB : w1.ownsRow B 3 1 pn d.pl.length (d.pl.map (Value.int .i64)) := by
    refine ⟨hp.1, ?_⟩
    rcases hp.2 with h2 | ⟨g, cap, cur, rfl, h1, r⟩
    · exact Or.inl h2
    · exact Or.inr ⟨g, cap, cur, rfl, by omega, r⟩
  refine ⟨⟨_, ho', fun j hj => ?_⟩, fun j hj => ?_, fun i j hi hj hij => ?_, h2.ne⟩
  · by_cases e : j = n
    · subst e
      simp only [updV, updS, if_true]
      refine ⟨?_, ?_, ?_, ?_⟩
      · rw [List.getElem?_append_right (by omega), show j * 4 - xs.length = 0 by omega]; rfl
      · rw [List.getElem?_append_right (by omega), show j * 4 + 1 - xs.length = 1 by omega]; rfl
      · rw [List.getElem?_append_right (by omega), show j * 4 + 2 - xs.length = 2 by omega]; rfl
      · rw [List.getElem?_append_right (by omega), show j * 4 + 3 - xs.length = 3 by omega]; rfl
    · simp only [updV, updS, if_neg e]
      rw [List.getElem?_append_left (by omega), List.getElem?_append_left (by omega), List.getElem?_append_left (by omega), List.getElem?_append_left (by omega)]
      exact hx j (by omega)
  · by_cases e : j = n
    · subst e
      simp only [updV, updS, if_true]
      exact hpB.kept hg (own_ne hpB ho (fun e => h2.ne e.symm))
    · simp only [updV, updS, if_neg e]
      exact (h1.pls j (by omega)).kept hg (own_ne (h1.pls j (by omega)) ho (fun e => h2.ne e.symm))
  · by_cases e : i = n
    · subst e
      by_cases e' : j = i
      · exact absurd e'.symm hij
      · simp only [updV, if_true, if_neg e']
        cases hv : pn.ownBlock with
        | none => exact Or.inl rfl
        | some k =>
          right
          intro hh
          have := hold j k (by omega) hh.symm
          have := hnew k hv
          omega
    · by_cases e' : j = n
      · subst e'
        simp only [updV, if_neg e, if_true]
        cases hv : (pv i).ownBlock with
        | none => exact Or.inl rfl
        | some k =>
          right
          intro hh
          have := hold i k (by omega) hv
          have := hnew k hh.symm
          omega
      · simp only [updV, if_neg e, if_neg e']
        exact h2.dis i j (by omega) (by omega) hij

end Go.Proofs.Ytkfjhannbnijkaa
