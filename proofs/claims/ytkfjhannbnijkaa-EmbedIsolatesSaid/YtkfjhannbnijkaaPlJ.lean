/- Two contents of an isolate: what is ahead, and what is behind, goes alike. No program in sight. -/
import Derived.Test.YtkfjhannbnijkaaPlG
namespace Go.Proofs.Ytkfjhannbnijkaa
open Go.RowKit

/-- How many initiators wait ahead of place k. -/
def opn (x : List Int) : Nat → Int
  | 0 => 0
  | k + 1 => if initB (x.getD k 0) = true then opn x k + 1 else if x.getD k 0 = 23 then opn x k - 1 else opn x k

/-- A class that is no B, and no PDI of another one's initiator. -/
def Pln (x : List Int) (k : Nat) : Prop := 1 ≤ x.getD k 0 ∧ x.getD k 0 ≤ 23 ∧ x.getD k 0 ≠ 11 ∧ 0 ≤ opn x (k + 1)

structure PlainL (x : List Int) : Prop where
  each : ∀ k, k < x.length → Pln x k
  shut : opn x x.length = 0

theorem PlainL.nonneg {x : List Int} (h : PlainL x) {k : Nat} (hk : k ≤ x.length) : 0 ≤ opn x k := by
  cases k with
  | zero => exact Int.le_refl _
  | succ k => exact (h.each k (by omega)).2.2.2

theorem rrw_init {l : List Int} {i : Nat} (iso : Bool) (f d : Nat) (h : i < l.length) (hi : initB (l.getD i 0) = true) : rrw l iso (f + 1) i d = rrw l iso f (i + 1) (d + 1) := by
  have := init23 hi
  rw [rrw, if_neg (show ¬ (l.length ≤ i ∨ l.getD i 0 = 11) by omega), if_pos hi]

theorem rrw_pdi {l : List Int} {i : Nat} (iso : Bool) (f d : Nat) (h : i < l.length) (hi : l.getD i 0 = 23) : rrw l iso (f + 1) i (d + 1) = rrw l iso f (i + 1) d := by
  rw [rrw, if_neg (show ¬ (l.length ≤ i ∨ l.getD i 0 = 11) by omega), hi, if_neg (show ¬ initB 23 = true by decide), if_pos rfl, if_pos (by omega), Nat.add_sub_cancel]

/-- A content that stands in a text. -/
structure Stands (l x : List Int) (o : Nat) : Prop where
  pl : PlainL x
  get : ∀ k, k < x.length → l.getD (o + k) 0 = x.getD k 0
  inn : o + x.length ≤ l.length

theorem Stands.stack {l x : List Int} {o : Nat} (h : Stands l x o) {t : List Nat} (ht : stk l o = t) : ∀ k, k ≤ x.length → ∃ A, stk l (o + k) = A ++ t ∧ (A.length : Int) = opn x k := by
  intro k
  induction k with
  | zero => intro _; exact ⟨[], by simpa using ht, rfl⟩
  | succ k ih =>
    intro hk
    obtain ⟨A, h1, h2⟩ := ih (by omega)
    have hg := h.get k (by omega)
    obtain ⟨p1, p2, p3, p4⟩ := h.pl.each k (by omega)
    have hn := h.pl.nonneg (show k ≤ x.length by omega)
    rw [opn] at p4 ⊢
    rw [← Nat.add_assoc, stk, hg, h1]
    by_cases g1 : initB (x.getD k 0) = true
    · rw [if_pos g1, if_pos g1]
      exact ⟨(o + k) :: A, rfl, by simp only [List.length_cons]; omega⟩
    · rw [if_neg g1, if_neg g1, if_neg p3]
      rw [if_neg g1] at p4
      by_cases g2 : x.getD k 0 = 23
      · rw [if_pos g2, if_pos g2]
        rw [if_pos g2] at p4
        cases A with
        | nil => simp only [List.length_nil] at h2; omega
        | cons y A => exact ⟨A, rfl, by simp only [List.length_cons] at h2; omega⟩
      · rw [if_neg g2, if_neg g2]
        exact ⟨A, rfl, h2⟩

theorem Stands.back {l x : List Int} {o : Nat} (h : Stands l x o) : stk l (o + x.length) = stk l o := by
  obtain ⟨A, h1, h2⟩ := h.stack rfl x.length (Nat.le_refl _)
  rw [h.pl.shut] at h2
  have : A = [] := by cases A with
    | nil => rfl
    | cons y A => simp only [List.length_cons] at h2; omega
  rw [h1, this, List.nil_append]

theorem Stands.look {l x : List Int} {o : Nat} (h : Stands l x o) (iso : Bool) {D : Nat} (hD : 0 < D) : ∀ k, k ≤ x.length → ∀ f, ∃ d : Nat, (d : Int) = D + opn x k ∧ rrw l iso (f + k) o D = rrw l iso f (o + k) d := by
  intro k
  induction k with
  | zero => intro _ f; exact ⟨D, by simp [opn], rfl⟩
  | succ k ih =>
    intro hk f
    obtain ⟨d, h1, h2⟩ := ih (by omega) (f + 1)
    have hg := h.get k (by omega)
    have hin := h.inn
    obtain ⟨p1, p2, p3, p4⟩ := h.pl.each k (by omega)
    have hn := h.pl.nonneg (show k ≤ x.length by omega)
    rw [opn] at p4 ⊢
    rw [show f + (k + 1) = f + 1 + k by omega, h2, rrw, hg, if_neg (show ¬ (l.length ≤ o + k ∨ x.getD k 0 = 11) by omega)]
    by_cases g1 : initB (x.getD k 0) = true
    · rw [if_pos g1, if_pos g1]
      exact ⟨d + 1, by omega, by rw [Nat.add_assoc]⟩
    · rw [if_neg g1, if_neg g1]
      by_cases g2 : x.getD k 0 = 23
      · rw [if_pos g2, if_pos g2, if_pos (by omega)]
        exact ⟨d - 1, by omega, by rw [Nat.add_assoc]⟩
      · rw [if_neg g2, if_neg g2, if_neg (show ¬ d = 0 by omega)]
        exact ⟨d, by omega, by rw [Nat.add_assoc]⟩

theorem Stands.skip {l x : List Int} {o : Nat} (h : Stands l x o) (iso : Bool) {D : Nat} (hD : 0 < D) (f : Nat) : rrw l iso (f + x.length) o D = rrw l iso f (o + x.length) D := by
  obtain ⟨d, h1, h2⟩ := h.look iso hD x.length (Nat.le_refl _) f
  rw [h.pl.shut] at h1
  rw [h2, show d = D by omega]

/-- An isolate: what is ahead, its content, what is behind. -/
structure Isol (l a x b : List Int) (c : Int) : Prop where
  sec : Stands l x (a.length + 1)
  hc : c = 20 ∨ c = 21
  ahead : ∀ k, k < a.length → l.getD k 0 = a.getD k 0
  at0 : l.getD a.length 0 = c
  at1 : l.getD (a.length + 1 + x.length) 0 = 23
  behind : ∀ k, k < b.length → l.getD (a.length + 1 + x.length + 1 + k) 0 = b.getD k 0
  len : l.length = a.length + 1 + x.length + 1 + b.length

theorem Isol.init {l a x b : List Int} {c : Int} (h : Isol l a x b c) : initB (l.getD a.length 0) = true := by
  rw [h.at0]; rcases h.hc with rfl | rfl <;> decide

theorem Isol.pair {l a x b : List Int} {c : Int} (h : Isol l a x b c) : Pair l a.length (a.length + 1 + x.length) := by
  refine ⟨h.at1, stk l a.length, ?_⟩
  rw [h.sec.back, stk, if_pos h.init]

theorem isol_mk (a x b : List Int) {c : Int} (hc : c = 20 ∨ c = 21) (hx : PlainL x) : Isol (a ++ [c] ++ x ++ [23] ++ b) a x b c := by
  have hl : (a ++ [c] ++ x ++ [23] ++ b).length = a.length + 1 + x.length + 1 + b.length := by simp; omega
  refine ⟨⟨hx, fun k hk => ?_, by rw [hl]; omega⟩, hc, fun k hk => ?_, ?_, ?_, fun k hk => ?_, hl⟩
  · simp only [List.getD_eq_getElem?_getD]
    rw [List.append_assoc, List.append_assoc, List.getElem?_append_right (by simp), List.getElem?_append_left (by simp; omega)]
    simp
  · simp only [List.getD_eq_getElem?_getD]
    simp only [List.append_assoc]
    rw [List.getElem?_append_left hk]
  · simp only [List.getD_eq_getElem?_getD]
    simp only [List.append_assoc]
    rw [List.getElem?_append_right (by omega)]
    simp
  · simp only [List.getD_eq_getElem?_getD]
    rw [List.append_assoc (a ++ [c] ++ x), List.getElem?_append_right (by simp; omega)]
    rw [show a.length + 1 + x.length - (a ++ [c] ++ x).length = 0 by simp; omega]
    rfl
  · simp only [List.getD_eq_getElem?_getD]
    rw [List.getElem?_append_right (by simp; omega)]
    congr 2
    simp; omega

/-- What an initiator ahead looks for: the same, whatever the content. -/
theorem isol_rrw {l m a x y b : List Int} {c : Int} (h : Isol l a x b c) (h' : Isol m a y b c) (iso : Bool) : ∀ M k f g d, a.length - k ≤ M → k ≤ a.length → l.length ≤ k + f → m.length ≤ k + g → rrw l iso f k d = rrw m iso g k d := by
  have hl := h.len
  have hm := h'.len
  intro M
  induction M with
  | zero =>
    intro k f g d h1 h2 h3 h4
    obtain rfl : k = a.length := by omega
    obtain ⟨f, rfl⟩ : ∃ f', f = f' + 1 + x.length + 1 := ⟨f - x.length - 2, by omega⟩
    obtain ⟨g, rfl⟩ : ∃ g', g = g' + 1 + y.length + 1 := ⟨g - y.length - 2, by omega⟩
    rw [rrw_init iso _ d (by omega) h.init, rrw_init iso _ d (by omega) h'.init, h.sec.skip iso (by omega), h'.sec.skip iso (by omega), rrw_pdi iso _ d (by omega) h.at1, rrw_pdi iso _ d (by omega) h'.at1]
    have := rrw_cong l m iso (a.length + 1 + x.length + 1) (a.length + 1 + y.length + 1) b.length (fun k hk => by rw [h.behind k hk, h'.behind k hk]) (by omega) (by omega) (Or.inl (by omega)) (Or.inl (by omega)) b.length 0 f g d (by omega) (by omega) (by omega) (by omega)
    exact this
  | succ M ih =>
    intro k f g d h1 h2 h3 h4
    by_cases hk : k = a.length
    · exact ih k f g d (by omega) h2 h3 h4
    · obtain ⟨f, rfl⟩ : ∃ f', f = f' + 1 := ⟨f - 1, by omega⟩
      obtain ⟨g, rfl⟩ : ∃ g', g = g' + 1 := ⟨g - 1, by omega⟩
      have ihn : ∀ d, rrw l iso f (k + 1) d = rrw m iso g (k + 1) d := fun d => ih (k + 1) f g d (by omega) (by omega) (by omega) (by omega)
      rw [rrw, rrw, h.ahead k (by omega), h'.ahead k (by omega)]
      have c1 : ¬ l.length ≤ k := by omega
      have c2 : ¬ m.length ≤ k := by omega
      simp only [c1, c2, false_or, ihn]

theorem pdi_wrote (l : List Int) (mt : Nat → Int) (p : Int) {k : Nat} (h : l.getD k 0 = 23) : LV l mt p k = (lrun l mt p (k + 1)).top.lev ∧ CL l mt p k = ovC (lrun l mt p (k + 1)).top 23 := by
  obtain ⟨q, hq, q1, q2, q3, q4⟩ := next_p l mt p k
  have e1 : q.v = q.t.lev ∧ q.u = ovC q.t 23 := by
    rw [hq, h]
    unfold pstep
    rw [if_neg (by omega), if_neg (by omega), if_neg (by decide), if_pos rfl]
    exact ⟨rfl, rfl⟩
  rw [q3, q4, q1]
  exact e1

/-- What stands in an isolate changes nothing outside of it. -/
theorem isol_law {l m a x y b : List Int} {c : Int} (h : Isol l a x b c) (h' : Isol m a y b c) (p : Int) :
    (∀ j, j ≤ a.length → LV l (mat l) p j = LV m (mat m) p j ∧ CL l (mat l) p j = CL m (mat m) p j) ∧
    ∀ j, j ≤ b.length → LV l (mat l) p (a.length + 1 + x.length + j) = LV m (mat m) p (a.length + 1 + y.length + j) ∧ CL l (mat l) p (a.length + 1 + x.length + j) = CL m (mat m) p (a.length + 1 + y.length + j) := by
  have hl := h.len
  have hm := h'.len
  have hget : ∀ k, k < a.length + 1 → l.getD (0 + k) 0 = m.getD (0 + k) 0 := by
    intro k hk
    rw [Nat.zero_add]
    by_cases e : k = a.length
    · subst e; rw [h.at0, h'.at0]
    · rw [h.ahead k (by omega), h'.ahead k (by omega)]
  have r1 := run_cong l m (mat l) (mat m) p 0 0 (a.length + 1) rfl rfl rfl (fun k hk => ⟨hget k hk, fun hi => by
    have hg := hget k hk
    rw [Nat.zero_add] at hi hg ⊢
    rw [isoR_eq l k hi (by omega), isoR_eq m k (by rw [← hg]; exact hi) (by omega), ← hg]
    by_cases e : k = a.length
    · subst e
      rw [h.at0]
      rcases h.hc with rfl | rfl <;> rfl
    · rw [isol_rrw h h' true a.length (k + 1) l.length m.length 0 (by omega) (by omega) (by omega) (by omega)]⟩)
  have r1e := r1 a.length (by omega)
  rw [Nat.zero_add] at r1e
  obtain ⟨s1, s2⟩ := pair_state (mt := mat l) (p := p) h.pair
  obtain ⟨s3, s4⟩ := pair_state (mt := mat m) (p := p) h'.pair
  obtain ⟨w1, w2⟩ := pdi_wrote l (mat l) p h.at1
  obtain ⟨w3, w4⟩ := pdi_wrote m (mat m) p h'.at1
  rw [s1] at w1 w2
  rw [s3] at w3 w4
  have hlv : LV l (mat l) p (a.length + 1 + x.length) = LV m (mat m) p (a.length + 1 + y.length) := by rw [w1, w3, r1e.1]
  have hcl : CL l (mat l) p (a.length + 1 + x.length) = CL m (mat m) p (a.length + 1 + y.length) := by rw [w2, w4, r1e.1]
  have hgb : ∀ k, k < b.length → l.getD (a.length + 1 + x.length + 1 + k) 0 = m.getD (a.length + 1 + y.length + 1 + k) 0 := fun k hk => by rw [h.behind k hk, h'.behind k hk]
  have r2 := run_cong l m (mat l) (mat m) p (a.length + 1 + x.length + 1) (a.length + 1 + y.length + 1) b.length (by rw [s1, s3, r1e.1]) (by rw [s2, s4, r1e.2.1])
    (by unfold prevOf; rw [if_neg (by omega), if_neg (by omega), Nat.add_sub_cancel, Nat.add_sub_cancel]; exact hlv)
    (fun k hk => ⟨hgb k hk, fun hi => isoR_cong l m _ _ b.length hgb (by omega) (by omega) (Or.inl (by omega)) (Or.inl (by omega)) hk hi⟩) b.length (Nat.le_refl _)
  refine ⟨fun j hj => ?_, fun j hj => ?_⟩
  · have := (r1 (a.length + 1) (Nat.le_refl _)).2.2.2 j (by omega)
    rw [Nat.zero_add] at this
    exact this
  · cases j with
    | zero => exact ⟨hlv, hcl⟩
    | succ j =>
      have := r2.2.2.2 j (by omega)
      rw [show a.length + 1 + x.length + (j + 1) = a.length + 1 + x.length + 1 + j by omega, show a.length + 1 + y.length + (j + 1) = a.length + 1 + y.length + 1 + j by omega]
      exact this
end Go.Proofs.Ytkfjhannbnijkaa
