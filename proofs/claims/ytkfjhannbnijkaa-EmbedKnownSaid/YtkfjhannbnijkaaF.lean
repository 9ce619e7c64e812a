/- Rows of sequences in memory: what they hold, and how that goes on behind an append, a store. No program is in sight. -/
import Derived.Test.YtkfjhannbnijkaaE
import Derived.Deep.AppendLies
namespace Go.Proofs.Ytkfjhannbnijkaa
open Go.RowKit

structure SeqD where
  pl : List Int
  lev : Int
  sos : Int
  eos : Int

def updS (f : Nat → SeqD) (i : Nat) (v : SeqD) : Nat → SeqD := fun j => if j = i then v else f j
def updV (f : Nat → Value) (i : Nat) (v : Value) : Nat → Value := fun j => if j = i then v else f j
def updB (f : Nat → Bool) (i : Nat) (v : Bool) : Nat → Bool := fun j => if j = i then v else f j

structure Seqs (w : World) (B T : Nat) (va : Value) (n : Nat) (pv : Nat → Value) (sd : Nat → SeqD) : Prop where
  own : ∃ xs, w.ownsRow B T 4 va n xs ∧ ∀ j, j < n → xs[j*4]? = some (pv j) ∧ xs[j*4+1]? = some (.int .u8 (sd j).lev) ∧ xs[j*4+2]? = some (.int .u8 (sd j).sos) ∧ xs[j*4+3]? = some (.int .u8 (sd j).eos)
  pls : ∀ j, j < n → w.ownsRow B 3 1 (pv j) (sd j).pl.length ((sd j).pl.map (Value.int .i64))
  dis : ∀ i j, i < n → j < n → i ≠ j → (pv i).ownBlock = none ∨ (pv i).ownBlock ≠ (pv j).ownBlock
  ne : T ≠ 3

theorem grownBy_setCell (w : World) (a : Addr) (v : Value) : w.grownBy (w.setCell a v) (some a.block) :=
  ⟨rfl, rfl, rfl, by simp [World.setCell], fun k _ hk => Below.heap_setCell w a v k (fun e => hk (by rw [e]))⟩

/-- Two owned rows of other types are other rows. -/
theorem own_ne {w : World} {B B' T T' s s' : Nat} {v v' : Value} {n n' : Nat} {xs xs' : List Value} (h : w.ownsRow B T s v n xs) (h' : w.ownsRow B' T' s' v' n' xs') (hT : T ≠ T') :
    v.ownBlock = none ∨ v.ownBlock ≠ v'.ownBlock := by
  rcases h.2 with ⟨rfl, _⟩ | ⟨g, cap, cur, rfl, _, hg, _⟩
  · exact Or.inl rfl
  · right
    rcases h'.2 with ⟨rfl, _⟩ | ⟨g', cap', cur', rfl, _, hg', _⟩
    · simp [Value.ownBlock]
    · simp only [Value.ownBlock]
      intro e
      simp only [Option.some.injEq] at e
      subst e
      rw [hg] at hg'
      simp only [Option.some.injEq, Obj.cells.injEq] at hg'
      exact hT hg'.2.1

theorem own_base {w : World} {B T s : Nat} {v : Value} {n : Nat} {xs : List Value} (h : w.ownsRow B T s v n xs) {r : Nat} (hr : r < B) : v.ownBlock = none ∨ v.ownBlock ≠ some r := by
  cases hv : v.ownBlock with
  | none => exact Or.inl rfl
  | some k => right; have := (h.lt k hv).1; intro e; simp only [Option.some.injEq] at e; omega

namespace Seqs
variable {w w' : World} {B T : Nat} {va : Value} {n : Nat} {pv : Nat → Value} {sd : Nat → SeqD}

theorem nil (w : World) (B T : Nat) (hT : T ≠ 3) (pv : Nat → Value) (sd : Nat → SeqD) : Seqs w B T (.slice none 0 0) 0 pv sd :=
  ⟨⟨[], World.ownsRow_nil _ _ _ _, fun _ hj => absurd hj (Nat.not_lt_zero _)⟩, fun _ hj => absurd hj (Nat.not_lt_zero _), fun _ _ hi => absurd hi (Nat.not_lt_zero _), hT⟩

/-- Only blocks below B have been written; new ones may have come. -/
theorem kept {row : Option Nat} (h : Seqs w B T va n pv sd) (hg : w.grownBy w' row) (hr : ∀ r, row = some r → r < B) : Seqs w' B T va n pv sd := by
  obtain ⟨⟨xs, h1, h2⟩, h3, h4, h5⟩ := h
  have key : ∀ {T s : Nat} {v : Value} {n : Nat} {xs : List Value}, w.ownsRow B T s v n xs → w'.ownsRow B T s v n xs := by
    intro T s v n xs ho
    refine ho.kept hg ?_
    cases row with
    | none => cases hv : v.ownBlock with
      | none => exact Or.inl rfl
      | some k => exact Or.inr (by simp)
    | some r => exact own_base ho (hr r rfl)
  exact ⟨⟨xs, key h1, h2⟩, fun j hj => key (h3 j hj), h4, h5⟩

theorem alloc (h : Seqs w B T va n pv sd) (o : Obj) : Seqs (w.alloc o) B T va n pv sd := h.kept (World.grownBy_alloc w o none) (fun _ e => by cases e)
theorem drew (h : Seqs w B T va n pv sd) : Seqs w.drew B T va n pv sd := ⟨h.own, h.pls, h.dis, h.ne⟩
theorem drewN (h : Seqs w B T va n pv sd) (k : Nat) : Seqs (w.drewN k) B T va n pv sd := ⟨h.own, h.pls, h.dis, h.ne⟩
theorem setLow (h : Seqs w B T va n pv sd) {a : Addr} (ha : a.block < B) (v : Value) : Seqs (w.setCell a v) B T va n pv sd :=
  h.kept (grownBy_setCell w a v) (fun r e => by simp only [Option.some.injEq] at e; omega)
theorem retell (h : Seqs w B T va n pv sd) {sd' : Nat → SeqD} (e : ∀ j, j < n → sd j = sd' j) : Seqs w B T va n pv sd' := by
  obtain ⟨⟨xs, h1, h2⟩, h3, h4, h5⟩ := h
  exact ⟨⟨xs, h1, fun j hj => by rw [← e j hj]; exact h2 j hj⟩, fun j hj => by rw [← e j hj]; exact h3 j hj, h4, h5⟩

/-- What a row of at least one sequence looks like. -/
theorem form (h : Seqs w B T va n pv sd) (hn : 0 < n) : ∃ g cap, va = .slice (some ⟨g, 0, none⟩) n cap ∧ B ≤ g ∧ g < w.heap.size := by
  obtain ⟨⟨xs, h1, _⟩, _⟩ := h
  exact h1.form hn

section
variable {g cap : Nat}
theorem cells (h : Seqs w B T (.slice (some ⟨g, 0, none⟩) n cap) n pv sd) {j : Nat} (hj : j < n) :
    w.cell? ⟨g, j*4, none⟩ = some (pv j) ∧ w.cell? ⟨g, j*4+1, none⟩ = some (.int .u8 (sd j).lev) ∧ w.cell? ⟨g, j*4+2, none⟩ = some (.int .u8 (sd j).sos) ∧ w.cell? ⟨g, j*4+3, none⟩ = some (.int .u8 (sd j).eos) := by
  obtain ⟨⟨xs, h1, h2⟩, _⟩ := h
  obtain ⟨a, b, c, d⟩ := h2 j hj
  rw [h1.cellAt _ (by omega), h1.cellAt _ (by omega), h1.cellAt _ (by omega), h1.cellAt _ (by omega)]
  exact ⟨a, b, c, d⟩
theorem frozen (h : Seqs w B T (.slice (some ⟨g, 0, none⟩) n cap) n pv sd) (i : Nat) : w.frozen? ⟨g, i, none⟩ = false := by
  obtain ⟨⟨xs, h1, h2⟩, _⟩ := h
  exact h1.frozenAt i

/-- A sequence more (its row of places nil). -/
theorem append {va : Value} {lev sos eos : Int} {pn : Value} (h : ∃ xs, w.ownsRow B T 4 va n xs ∧ (∀ j, j < n → xs[j*4]? = some (pv j) ∧ xs[j*4+1]? = some (.int .u8 (sd j).lev) ∧ xs[j*4+2]? = some (.int .u8 (sd j).sos) ∧ xs[j*4+3]? = some (.int .u8 (sd j).eos)) ∧
      w'.ownsRow B T 4 (.slice (some ⟨g, 0, none⟩) (n + 1) cap) (n + 1) (xs ++ [pn, .int .u8 lev, .int .u8 sos, .int .u8 eos]))
    (h2 : Seqs w B T va n pv sd) (hg : w.grownBy w' va.ownBlock) (hp : pn = .slice none 0 0) :
    Seqs w' B T (.slice (some ⟨g, 0, none⟩) (n + 1) cap) (n + 1) (updV pv n pn) (updS sd n ⟨[], lev, sos, eos⟩) := by
  subst hp
  obtain ⟨xs, ho, hx, ho'⟩ := h
  have hl : xs.length = n * 4 := ho.1
  refine ⟨⟨_, ho', fun j hj => ?_⟩, fun j hj => ?_, fun i j hi hj hij => ?_, h2.ne⟩
  · by_cases e : j = n
    · subst e
      simp only [updV, updS, if_true]
      refine ⟨?_, ?_, ?_, ?_⟩
      · rw [List.getElem?_append_right (by omega), show j * 4 - xs.length = 0 by omega]; rfl
      · rw [List.getElem?_append_right (by omega), show j * 4 + 1 - xs.length = 1 by omega]; rfl
      · rw [List.getElem?_append_right (by omega), show j * 4 + 2 - xs.length = 2 by omega]; rfl
      · rw [List.getElem?_append_right (by omega), show j * 4 + 3 - xs.length = 3 by omega]; rfl
    · simp only [updV, updS, if_neg e]
      rw [List.getElem?_append_left (by omega), List.getElem?_append_left (by omega), List.getElem?_append_left (by omega), List.getElem?_append_left (by omega)]
      exact hx j (by omega)
  · by_cases e : j = n
    · subst e
      simp only [updV, updS, if_true]
      exact World.ownsRow_nil _ _ _ _
    · simp only [updV, updS, if_neg e]
      exact (h2.pls j (by omega)).kept hg (own_ne (h2.pls j (by omega)) ho (fun e => h2.ne e.symm))
  · by_cases e : i = n
    · subst e; exact Or.inl (by simp [updV, Value.ownBlock])
    · by_cases e' : j = n
      · subst e'
        simp only [updV, if_neg e, if_true]
        cases hv : (pv i).ownBlock with
        | none => exact Or.inl rfl
        | some k => exact Or.inr (by simp [Value.ownBlock])
      · simp only [updV, if_neg e, if_neg e']
        exact h2.dis i j (by omega) (by omega) hij

/-- A place more in the j-th row: the append, then the store. -/
theorem push {w1 : World} {j g' cap' : Nat} {i : Int} (h : Seqs w B T (.slice (some ⟨g, 0, none⟩) n cap) n pv sd) (hj : j < n)
    (hn : w1.ownsRow B 3 1 (.slice (some ⟨g', 0, none⟩) ((sd j).pl.length + 1) cap') ((sd j).pl.length + 1) ((sd j).pl.map (Value.int .i64) ++ [.int .i64 i])) (hg : w.grownBy w1 (pv j).ownBlock)
    (hat : (pv j).ownBlock = some g' ∨ w.heap.size ≤ g') :
    Seqs (w1.setCell ⟨g, j*4, none⟩ (.slice (some ⟨g', 0, none⟩) ((sd j).pl.length + 1) cap')) B T (.slice (some ⟨g, 0, none⟩) n cap) n (updV pv j (.slice (some ⟨g', 0, none⟩) ((sd j).pl.length + 1) cap')) (updS sd j { sd j with pl := (sd j).pl ++ [i] }) := by
  have h0 := h
  obtain ⟨⟨xs, h1, h2⟩, h3, h4, h5⟩ := h
  have k1 : w1.ownsRow B T 4 (.slice (some ⟨g, 0, none⟩) n cap) n xs := h1.kept hg (own_ne h1 (h3 j hj) h5)
  have hgB := (h1.lt g rfl).1
  have hlt : ∀ i k, i < n → (pv i).ownBlock = some k → k < w.heap.size := fun i k hi hk => ((h3 i hi).lt k hk).2
  have hne : ∀ (i : Nat), i < n → (pv i).ownBlock ≠ some g := by
    intro i hi e
    rcases own_ne (h3 i hi) h1 (fun e => h5 e.symm) with h | h
    · rw [e] at h; cases h
    · exact h e
  have hl : xs.length = n * 4 := h1.1
  have hgg : g' ≠ g := by
    rcases hat with e | e
    · intro e'; subst e'; exact hne j hj e
    · have := (h1.lt g rfl).2; omega
  refine ⟨⟨_, (k1.stored (j*4) _).1, fun i' hi' => ?_⟩, fun i' hi' => ?_, fun i' j' hi' hj' hij => ?_, h5⟩
  · by_cases e : i' = j
    · subst e
      simp only [updV, updS, if_true]
      obtain ⟨_, b, c, d⟩ := h2 i' hi'
      refine ⟨by rw [List.getElem?_set_self (by omega)], ?_, ?_, ?_⟩
      · rw [List.getElem?_set_ne (by omega)]; exact b
      · rw [List.getElem?_set_ne (by omega)]; exact c
      · rw [List.getElem?_set_ne (by omega)]; exact d
    · simp only [updV, updS, if_neg e]
      rw [List.getElem?_set_ne (by omega), List.getElem?_set_ne (by omega), List.getElem?_set_ne (by omega), List.getElem?_set_ne (by omega)]
      exact h2 i' hi'
  · by_cases e : i' = j
    · subst e
      simp only [updV, updS, if_true]
      have hh := World.ownsRow.kept hn (grownBy_setCell w1 ⟨g, i'*4, none⟩ (.slice (some ⟨g', 0, none⟩) ((sd i').pl.length + 1) cap')) (Or.inr (by simp [Value.ownBlock, hgg]))
      simpa using hh
    · simp only [updV, updS, if_neg e]
      refine ((h3 i' hi').kept hg (h4 i' j hi' hj e)).kept (grownBy_setCell w1 ⟨g, j*4, none⟩ _) (Or.inr (hne i' hi'))
  · by_cases e : i' = j
    · subst e
      by_cases e' : j' = i'
      · exact absurd e'.symm hij
      · simp only [updV, if_true, if_neg e', Value.ownBlock]
        right
        intro hh
        rcases hat with e2 | e2
        · rcases h4 i' j' hi' hj' hij with h | h
          · rw [e2] at h; cases h
          · exact h (e2.trans hh)
        · have := hlt j' g' hj' hh.symm; omega
    · by_cases e' : j' = j
      · subst e'
        simp only [updV, if_true, if_neg e]
        cases hv : (pv i').ownBlock with
        | none => exact Or.inl rfl
        | some k =>
          right
          intro hh
          simp only [Value.ownBlock, Option.some.injEq] at hh
          subst hh
          rcases hat with e2 | e2
          · rcases h4 i' j' hi' hj' hij with h | h
            · rw [hv] at h; cases h
            · exact h (hv.trans e2.symm)
          · have := hlt i' k hi' hv; omega
      · simp only [updV, if_neg e, if_neg e']
        exact h4 i' j' hi' hj' hij

/-- Between the append and the store. -/
theorem pushed {w1 : World} {j : Nat} (h : Seqs w B T (.slice (some ⟨g, 0, none⟩) n cap) n pv sd) (hj : j < n) (hg : w.grownBy w1 (pv j).ownBlock) :
    w1.cell? ⟨g, j*4, none⟩ = some (pv j) ∧ w1.frozen? ⟨g, j*4, none⟩ = false := by
  obtain ⟨⟨xs, h1, h2⟩, h3, h4, h5⟩ := h
  have k1 : w1.ownsRow B T 4 (.slice (some ⟨g, 0, none⟩) n cap) n xs := h1.kept hg (own_ne h1 (h3 j hj) h5)
  exact ⟨by rw [k1.cellAt _ (by omega)]; exact (h2 j hj).1, k1.frozenAt _⟩

/-- The j-th one's eos is stored. -/
theorem setEos {j : Nat} (h : Seqs w B T (.slice (some ⟨g, 0, none⟩) n cap) n pv sd) (hj : j < n) (x : Int) :
    Seqs (w.setCell ⟨g, j*4+3, none⟩ (.int .u8 x)) B T (.slice (some ⟨g, 0, none⟩) n cap) n pv (updS sd j { sd j with eos := x }) := by
  obtain ⟨⟨xs, h1, h2⟩, h3, h4, h5⟩ := h
  have hl : xs.length = n * 4 := h1.1
  refine ⟨⟨_, (h1.stored (j*4+3) _).1, fun i' hi' => ?_⟩, fun i' hi' => ?_, h4, h5⟩
  · by_cases e : i' = j
    · subst e
      simp only [updS, if_true]
      obtain ⟨a, b, c, _⟩ := h2 i' hi'
      refine ⟨?_, ?_, ?_, by rw [List.getElem?_set_self (by omega)]⟩
      · rw [List.getElem?_set_ne (by omega)]; exact a
      · rw [List.getElem?_set_ne (by omega)]; exact b
      · rw [List.getElem?_set_ne (by omega)]; exact c
    · simp only [updS, if_neg e]
      rw [List.getElem?_set_ne (by omega), List.getElem?_set_ne (by omega), List.getElem?_set_ne (by omega), List.getElem?_set_ne (by omega)]
      exact h2 i' hi'
  · have hk := (h3 i' hi').kept (grownBy_setCell w ⟨g, j*4+3, none⟩ (.int .u8 x)) (own_ne (h3 i' hi') h1 (fun e => h5 e.symm))
    by_cases e : i' = j
    · subst e; simpa only [updS, if_true] using hk
    · simpa only [updS, if_neg e] using hk
end
end Seqs
end Go.Proofs.Ytkfjhannbnijkaa
