/- For the law EmbedKnown (closed): calls at literals. -/
import Derived.Test.YtkfjhannbnijkaaLzA
namespace Go.Proofs.Ytkfjhannbnijkaa
open Go.RowKit

def BPost (w : World) (p : Int) (e : Ending) (w' : World) : Prop := e = .returned (.int .u8 p) ∧ w.Since w.heap.size w'

theorem base_lit (l : List Int) (n : Nat) (cs : Array Value) (hcs : cs = (l.map (Value.int .u8)).toArray) (hn : l.length = n) (p : Int) (hp : pbase l = p) (h : n ≤ 1000) (w : World) :
    Calls Try.prog 24 #[.slice (some ⟨w.heap.size, 0, none⟩) n n] (w.alloc (.cells cs 34)) (BPost w p) := by
  refine (base_any l n hn n _ _ 0 _ (reads_lit w .u8 34 l cs hcs) (by omega)).mono ?_
  rintro e w' ⟨rfl, hs⟩
  rw [hp]
  exact ⟨rfl, Since.then (since_alloc1 w _) hs (by simp)⟩

/-- Levels' answer: a new row of levels. -/
def LvGot (w : World) (n : Nat) (p : Int) (lv : Nat → Int) (e : Ending) (w' : World) : Prop :=
  ∃ bl bc : Nat, e = .returned (.tuple #[.slice (some ⟨bl, 0, none⟩) n n, .slice (some ⟨bc, 0, none⟩) n n, .int .u8 p, .int .i64 0]) ∧ w'.rowIs bl 5 n (fun i => .int .u8 (lv i)) ∧ w.Since w.heap.size w'

theorem lvl_read (l : List Int) (base p : Int) (n cap : Nat) (hn : l.length = n) (hv : Valid l) (hb : 0 ≤ base ∧ base ≤ 2) (hp : plev l base = p) (h : n ≤ 65536) (ao : Option Addr) (b off : Nat) (w : World) (hR : Reads w .u8 ao b off l) :
    Calls Try.prog 26 #[.slice ao n cap, .int .u8 base] w (LvGot w n p (lrun l (mat l) p n).lv) := by
  refine (levels_ok l base n cap hn ao b off w hR h hv hb).mono ?_
  rintro e w' ⟨bl, bc, rfl, -, -, -, h1, -, hs⟩
  rw [hp] at h1 ⊢
  exact ⟨bl, bc, rfl, h1, hs⟩

theorem lvl_lit (l : List Int) (base p : Int) (n : Nat) (cs : Array Value) (hcs : cs = (l.map (Value.int .u8)).toArray) (hn : l.length = n) (hv : Valid l) (hb : 0 ≤ base ∧ base ≤ 2) (hp : plev l base = p) (h : n ≤ 1000) (w : World) :
    Calls Try.prog 26 #[.slice (some ⟨w.heap.size, 0, none⟩) n n, .int .u8 base] (w.alloc (.cells cs 34)) (LvGot w n p (lrun l (mat l) p n).lv) := by
  refine (lvl_read l base p n n hn hv hb hp (by omega) _ _ 0 _ (reads_lit w .u8 34 l cs hcs)).mono ?_
  rintro e w' ⟨bl, bc, rfl, h1, hs⟩
  exact ⟨bl, bc, rfl, h1, Since.then (since_alloc1 w _) hs (by simp)⟩

theorem lvl_bad (c : Int) (hc : ¬ (1 ≤ c ∧ c ≤ 23)) (w : World) :
    Calls Try.prog 26 #[.slice (some ⟨w.heap.size, 0, none⟩) 1 1, .int .u8 0] (w.alloc (.cells #[.int .u8 c] 34)) (LErr (w.alloc (.cells #[.int .u8 c] 34)) 2) :=
  levels_arg [c] 0 1 1 rfl _ _ 0 _ (reads_lit w .u8 34 [c] #[.int .u8 c] rfl) (by omega) (Or.inl fun h => hc (h 0 (by simp)))

theorem lvl_nil3 (w : World) : Calls Try.prog 26 #[.slice none 0 0, .int .u8 3] w (LErr w 2) :=
  levels_arg [] 3 0 0 rfl none 0 0 w (reads_nil w .u8) (by omega) (Or.inr (by omega))

theorem knil_p : plev [] 2 = 0 := by decide +kernel
theorem lvl_nil2 (w : World) : Calls Try.prog 26 #[.slice none 0 0, .int .u8 2] w (LvGot w 0 0 (lrun [] (mat []) 0 0).lv) :=
  lvl_read [] 2 0 0 0 rfl (fun i hi => by simp at hi) (by omega) knil_p (by omega) none 0 0 w (reads_nil w .u8)

/-- The counts, and the classes, of the examples. -/
def ksL : List Int := [61, 62, 63, 64, 124, 125, 126, 127, 130]
def xsL : List Int := [16, 15, 21, 20, 17, 22]
theorem ks_at {i : Nat} (h : i < 9) : ∃ k : Nat, ksL.getD i 0 = k ∧ k ≤ 130 := by
  have : i = 0 ∨ i = 1 ∨ i = 2 ∨ i = 3 ∨ i = 4 ∨ i = 5 ∨ i = 6 ∨ i = 7 ∨ i = 8 := by omega
  rcases this with rfl | rfl | rfl | rfl | rfl | rfl | rfl | rfl | rfl
  · exact ⟨61, rfl, by omega⟩
  · exact ⟨62, rfl, by omega⟩
  · exact ⟨63, rfl, by omega⟩
  · exact ⟨64, rfl, by omega⟩
  · exact ⟨124, rfl, by omega⟩
  · exact ⟨125, rfl, by omega⟩
  · exact ⟨126, rfl, by omega⟩
  · exact ⟨127, rfl, by omega⟩
  · exact ⟨130, rfl, by omega⟩
theorem xs_at {i : Nat} (h : i < 6) : 1 ≤ xsL.getD i 0 ∧ xsL.getD i 0 ≤ 23 := by
  have : i = 0 ∨ i = 1 ∨ i = 2 ∨ i = 3 ∨ i = 4 ∨ i = 5 := by omega
  rcases this with rfl | rfl | rfl | rfl | rfl | rfl <;> decide

/-- What is put behind. -/
def tailL : List Int := [21, 2, 19, 23, 19, 14, 23, 19, 1, 11, 2, 16, 14]
theorem tail_valid {L : List Int} (h : Valid L) : Valid (L ++ tailL) := valid_of_mem' fun x hx => by
  rcases List.mem_append.1 hx with h1 | h1
  · obtain ⟨i, hi, rfl⟩ := List.mem_iff_getElem.1 h1
    have := h i hi
    rw [List.getD_eq_getElem?_getD, List.getElem?_eq_getElem hi] at this
    exact this
  · exact (by decide : ∀ c ∈ tailL, 1 ≤ c ∧ c ≤ 23) x h1

/-! The deepest levels, the list under a name. -/
theorem packD : ∃ L : List Int, L.length = 71 ∧ Valid L ∧ (∀ w, Calls Try.prog 29 #[.int .i64 70, .int .u8 16] w (DeepPost w L 71)) ∧ plev L 0 = 0 ∧ (lrun L (mat L) 0 71).lv 70 = 125 :=
  ⟨deepL 70 16, deepL_len 70 16, deepL_valid (by omega), fun w => deep_any 70 16 (by omega) w, kd_p, kd_lv⟩
theorem packE : ∃ L : List Int, L.length = 201 ∧ Valid L ∧ (∀ w, Calls Try.prog 29 #[.int .i64 200, .int .u8 21] w (DeepPost w L 201)) ∧ plev L 1 = 1 ∧ (lrun L (mat L) 1 201).lv 200 = 125 :=
  ⟨deepL 200 21, deepL_len 200 21, deepL_valid (by omega), fun w => deep_any 200 21 (by omega) w, ke_p, ke_lv⟩

theorem kb1 (w : World) : Calls Try.prog 24 #[.slice (some ⟨w.heap.size, 0, none⟩) 5 5] (w.alloc (.cells #[.int .u8 21, .int .u8 2, .int .u8 23, .int .u8 1, .int .u8 2] 34)) (BPost w 0) := base_lit [21, 2, 23, 1, 2] 5 _ rfl rfl 0 (by decide +kernel) (by omega) w
theorem kb2 (w : World) : Calls Try.prog 24 #[.slice (some ⟨w.heap.size, 0, none⟩) 3 3] (w.alloc (.cells #[.int .u8 21, .int .u8 2, .int .u8 1] 34)) (BPost w 0) := base_lit [21, 2, 1] 3 _ rfl rfl 0 (by decide +kernel) (by omega) w
theorem kb3 (w : World) : Calls Try.prog 24 #[.slice (some ⟨w.heap.size, 0, none⟩) 2 2] (w.alloc (.cells #[.int .u8 23, .int .u8 3] 34)) (BPost w 1) := base_lit [23, 3] 2 _ rfl rfl 1 (by decide +kernel) (by omega) w
theorem kb4 (w : World) : Calls Try.prog 24 #[.slice (some ⟨w.heap.size, 0, none⟩) 3 3] (w.alloc (.cells #[.int .u8 14, .int .u8 11, .int .u8 2] 34)) (BPost w 0) := base_lit [14, 11, 2] 3 _ rfl rfl 0 (by decide +kernel) (by omega) w
theorem kb5 (w : World) : Calls Try.prog 24 #[.slice (some ⟨w.heap.size, 0, none⟩) 4 4] (w.alloc (.cells #[.int .u8 16, .int .u8 4, .int .u8 9, .int .u8 2] 34)) (BPost w 1) := base_lit [16, 4, 9, 2] 4 _ rfl rfl 1 (by decide +kernel) (by omega) w
theorem kb6 (w : World) : Calls Try.prog 24 #[.slice (some ⟨w.heap.size, 0, none⟩) 3 3] (w.alloc (.cells #[.int .u8 20, .int .u8 11, .int .u8 2] 34)) (BPost w 0) := base_lit [20, 11, 2] 3 _ rfl rfl 0 (by decide +kernel) (by omega) w
end Go.Proofs.Ytkfjhannbnijkaa
