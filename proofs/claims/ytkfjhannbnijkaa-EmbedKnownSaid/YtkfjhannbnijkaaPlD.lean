/- Both Levels, on any input: the same error, the same levels and classes. -/
import Derived.Test.YtkfjhannbnijkaaPlC
import Derived.Test.YtkfjhannbnijkaaRvD
import Derived.Test.YtkfjhannbnijkaaLwA
namespace Go.Proofs.Ytkfjhannbnijkaa
open Go.RowKit

theorem plev_eq (l : List Int) (base : Int) : plev l base = rplev l base := by unfold plev rplev; rw [pbase_eq]

theorem levels_same (l : List Int) (p : Int) {j : Nat} (hj : j < l.length) : (lrun l (mat l) p l.length).lv j = (rpost l p l.length).lv j ∧ (lrun l (mat l) p l.length).cl j = (rpost l p l.length).cl j := by
  obtain ⟨h1, h2⟩ := lrun_rwi l p j hj
  rw [h1, h2]
  simp only [rpost]
  rw [if_pos hj]
  refine ⟨rfl, ?_⟩
  unfold rwR
  by_cases h : remB (l.getD j 0) = true
  · rw [if_pos h, if_pos ⟨hj, h⟩]
  · rw [if_neg h, if_neg (fun h2 => h h2.2)]

/-- What either function tells, of any input. -/
def LvAny (w : World) (x p : Int) (A C : List Int) (m : Nat) (e : Ending) (w' : World) : Prop :=
  ∃ (a1 a2 : Option Addr) (b1 b2 c1 c2 : Nat), e = .returned (.tuple #[.slice a1 m c1, .slice a2 m c2, .int .u8 p, .int .i64 x]) ∧ Reads w' .u8 a1 b1 0 A ∧ Reads w' .u8 a2 b2 0 C ∧ w.Since w.heap.size w'

theorem reads_nil (w : World) (k : IntKind) : Reads w k none 0 0 [] := ⟨fun h => by simp at h, fun i hi => by simp at hi⟩

theorem LvDone.any {w : World} {n : Nat} {p : Int} {lv cl : Nat → Int} {e : Ending} {w' : World} (h : LvDone w n p lv cl e w') : LvAny w 0 p ((List.range n).map lv) ((List.range n).map cl) n e w' := by
  obtain ⟨bl, bc, h1, -, -, -, h2, h3, h4⟩ := h
  exact ⟨_, _, _, _, _, _, h1, reads_row h2, reads_row h3, h4⟩
theorem LErr.any {w : World} {x : Int} {e : Ending} {w' : World} (h : LErr w x e w') : LvAny w x 0 [] [] 0 e w' := by
  obtain ⟨h1, h2⟩ := h
  subst h2
  exact ⟨_, _, _, _, _, _, h1, reads_nil _ _, reads_nil _ _, World.Since.refl _ _⟩

theorem lv_all (l : List Int) (base : Int) (n : Nat) (hn : l.length = n) (hlen : n ≤ 65536) (hb : 0 ≤ base) :
    ∃ (x p : Int) (A C : List Int) (m : Nat), A.length = m ∧ C.length = m ∧ m ≤ n ∧
      (∀ (cap : Nat) (ao : Option Addr) (b off : Nat) (w : World), Reads w .u8 ao b off l → Calls Try.prog 26 #[.slice ao n cap, .int .u8 base] w (LvAny w x p A C m)) ∧
      (∀ (cap : Nat) (ao : Option Addr) (b off : Nat) (w : World), Reads w .u8 ao b off l → Calls Try.prog 19 #[.slice ao n cap, .int .u8 base] w (LvAny w x p A C m)) := by
  by_cases h : Valid l ∧ base ≤ 2
  · refine ⟨0, plev l base, (List.range n).map (lrun l (mat l) (plev l base) n).lv, (List.range n).map (lrun l (mat l) (plev l base) n).cl, n, by simp, by simp, Nat.le_refl _, fun cap ao b off w hR => ?_, fun cap ao b off w hR => ?_⟩
    · exact (levels_ok l base n cap hn ao b off w hR hlen h.1 ⟨hb, h.2⟩).mono fun e w' h => h.any
    · refine (rlevels_ok l base n cap hn ao b off w hR hlen h.1 ⟨hb, h.2⟩).mono fun e w' h => ?_
      have h2 := h.any
      rw [← plev_eq] at h2
      have e1 : (List.range n).map (rpost l (plev l base) n).lv = (List.range n).map (lrun l (mat l) (plev l base) n).lv := by
        subst hn
        exact List.map_congr_left fun j hj => (levels_same l _ (List.mem_range.1 hj)).1.symm
      have e2 : (List.range n).map (rpost l (plev l base) n).cl = (List.range n).map (lrun l (mat l) (plev l base) n).cl := by
        subst hn
        exact List.map_congr_left fun j hj => (levels_same l _ (List.mem_range.1 hj)).2.symm
      rw [e1, e2] at h2
      exact h2
  · have h' : ¬ Valid l ∨ 2 < base := by
      by_cases hv : Valid l
      · exact Or.inr (by have h1 : ¬ base ≤ 2 := fun h1 => h ⟨hv, h1⟩; omega)
      · exact Or.inl hv
    refine ⟨2, 0, [], [], 0, rfl, rfl, Nat.zero_le _, fun cap ao b off w hR => ?_, fun cap ao b off w hR => ?_⟩
    · exact (levels_arg l base n cap hn ao b off w hR hlen h').mono fun e w' h => h.any
    · exact (rlevels_arg l base n cap hn ao b off w hR hlen h').mono fun e w' h => h.any
end Go.Proofs.Ytkfjhannbnijkaa
