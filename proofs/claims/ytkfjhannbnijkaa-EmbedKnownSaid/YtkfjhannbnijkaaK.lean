/- isolates: the chapter's example, walked. -/
import Derived.Test.YtkfjhannbnijkaaJ
namespace Go.Proofs.Ytkfjhannbnijkaa
open Go.RowKit

theorem reads_lit (w : World) (k : IntKind) (t : TypeId) (l : List Int) (cs : Array Value) (h : cs = (l.map (Value.int k)).toArray) : Reads (w.alloc (.cells cs t)) k (some ⟨w.heap.size, 0, none⟩) w.heap.size 0 l := by
  subst h
  have hr := World.rowIs_alloc w (l.map (Value.int k)).toArray t (fun i => .int k (l.getD i 0)) (fun i hi => by
    have hi : i < l.length := by simpa using hi
    simp [List.getD_eq_getElem?_getD, hi])
  refine ⟨fun _ => rfl, fun i hi => ?_⟩
  rw [Nat.zero_add]
  exact hr.cell (by simpa using hi)

/-- The program's sequences, in the reference's words. -/
theorem eseq_ref (l L : List Int) (base : Int) (n : Nat) (hn : l.length = n) (hnL : L.length = n) (hlen : n ≤ 65536) (cap cl : Nat) (ao al : Option Addr) (b off bl ol : Nat) (w : World)
    (hR : Reads w .u8 ao b off l) (hL : Reads w .u8 al bl ol L) (hb : 0 ≤ base ∧ base ≤ 255) (hLr : ∀ i, 0 ≤ L.getD i 0 ∧ L.getD i 0 ≤ 255) :
    Calls Try.prog 17 #[.slice ao n cap, .slice al n cl, .int .u8 base] w (SeqDone w 36 (RefN l L base) (RefS l L base)) := by
  refine (eseq_any l L base n hn hnL hlen cap cl ao al b off bl ol w hR hL hb hLr).mono ?_
  rintro e w' ⟨va, pv, B, h1, h2, h3, h4⟩
  subst hn
  have hl := seq_law l L base
  rw [hl.1] at h3
  exact ⟨va, pv, B, h1, h2, h3.retell hl.2, h4⟩

theorem since_alloc1 (w : World) (o : Obj) : w.Since w.heap.size (w.alloc o) := (World.Since.refl _ _).alloc (Nat.le_refl _) o

theorem cell_since1 {w : World} {a : Addr} {v : Value} (h : w.cell? a = some v) (o : Obj) : (w.alloc o).cell? a = some v := by
  rw [(since_alloc1 w o).cell (World.block_lt_of_cell? _ _ h)]; exact h

theorem iso_n : RefN [1, 21, 2, 23, 1] [0, 0, 1, 0, 0] 0 = 2 := by decide +kernel
theorem iso_0 : RefS [1, 21, 2, 23, 1] [0, 0, 1, 0, 0] 0 0 = ⟨[0, 1, 3, 4], 0, 1, 1⟩ := by kernel_rfl
theorem iso_1 : RefS [1, 21, 2, 23, 1] [0, 0, 1, 0, 0] 0 1 = ⟨[2], 1, 2, 2⟩ := by kernel_rfl

theorem getD_range {L : List Int} (h : ∀ x ∈ L, 0 ≤ x ∧ x ≤ 255) (i : Nat) : 0 ≤ L.getD i 0 ∧ L.getD i 0 ≤ 255 := by
  rw [List.getD_eq_getElem?_getD]
  by_cases hi : i < L.length
  · rw [List.getElem?_eq_getElem hi]; exact h _ (List.getElem_mem hi)
  · rw [List.getElem?_eq_none (by omega)]; exact ⟨by decide, by decide⟩

set_option maxRecDepth 100000 in
set_option maxHeartbeats 400000 in
theorem isolates_any (w : World) : Calls Try.prog 15 #[] w (Since0 w (.bool true)) := by
  have h1 := reads_lit w .u8 34 [1, 21, 2, 23, 1] #[.int .u8 1, .int .u8 21, .int .u8 2, .int .u8 23, .int .u8 1] rfl
  have h2 := reads_lit (w.alloc (.cells #[.int .u8 1, .int .u8 21, .int .u8 2, .int .u8 23, .int .u8 1] 34)) .u8 5 [0, 0, 1, 0, 0] #[.int .u8 0, .int .u8 0, .int .u8 1, .int .u8 0, .int .u8 0] rfl
  rw [show (w.alloc (.cells #[.int .u8 1, .int .u8 21, .int .u8 2, .int .u8 23, .int .u8 1] 34)).heap.size = w.heap.size + 1 by simp] at h2
  have h1' := h1.since (since_alloc1 _ (.cells #[.int .u8 0, .int .u8 0, .int .u8 1, .int .u8 0, .int .u8 0] 5))
  have hc := eseq_ref [1, 21, 2, 23, 1] [0, 0, 1, 0, 0] 0 5 rfl rfl (by omega) 5 5 _ _ _ _ _ _ _ h1' h2 (by omega) (getD_range (by decide))
  have hs0 : w.Since w.heap.size ((w.alloc (.cells #[.int .u8 1, .int .u8 21, .int .u8 2, .int .u8 23, .int .u8 1] 34)).alloc (.cells #[.int .u8 0, .int .u8 0, .int .u8 1, .int .u8 0, .int .u8 0] 5)) :=
    ((World.Since.refl _ _).alloc (Nat.le_refl _) _).alloc (by simp) _
  have HC := Lib.hid hc
  have HS0 := Lib.hid hs0
  clear h1 h2 h1' hc hs0
  go_enter Try.func15, Try.ntmps15
  go_upto_region 2 with (go_at_call 17; refine HC.out.mono ?_; rintro e w1 ⟨va, pv, B, rfl, hB, hq, hs⟩)
  rw [iso_n] at hq
  obtain ⟨g, cap, rfl, -, -⟩ := hq.form (by omega)
  obtain ⟨a0, a1, a2, a3⟩ := hq.cells (j := 0) (by omega)
  obtain ⟨b0, b1, b2, b3⟩ := hq.cells (j := 1) (by omega)
  obtain ⟨xa, xc, xb, exa, hra⟩ := own_reads (hq.pls 0 (by omega)) rfl
  rw [exa] at a0
  rw [iso_0] at a0 a1 a2 a3 hra
  rw [iso_1] at b1 b2 b3
  have d2 : ∀ o, (w1.alloc o).cell? ⟨g, 2, none⟩ = some (.int .u8 1) := fun o => cell_since1 a2 o
  have d3 : ∀ o, (w1.alloc o).cell? ⟨g, 3, none⟩ = some (.int .u8 1) := fun o => cell_since1 a3 o
  have f1 : ∀ o, (w1.alloc o).cell? ⟨g, 5, none⟩ = some (.int .u8 1) := fun o => cell_since1 b1 o
  have f2 : ∀ o, (w1.alloc o).cell? ⟨g, 6, none⟩ = some (.int .u8 2) := fun o => cell_since1 b2 o
  have d0 : w1.cell? ⟨g, 0, none⟩ = some (.slice xa 4 xc) := a0
  have hP := (places_any [0, 1, 3, 4] 4 rfl (by omega) xc 4 xa (some ⟨w1.heap.size, 0, none⟩) xb 0 w1.heap.size 0 (w1.alloc (.cells #[.int .i64 0, .int .i64 1, .int .i64 3, .int .i64 4] 3)) (hra.since (since_alloc1 _ _)) (reads_lit w1 .i64 3 [0, 1, 3, 4] #[.int .i64 0, .int .i64 1, .int .i64 3, .int .i64 4] rfl))
  have HP := Lib.hid hP
  have HS := Lib.hid hs
  clear hP hs a0 a1 a2 a3 b0 b1 b2 b3 hra exa hq
  go_wp2_with (go_at_call 30; refine HP.out.mono ?_; rintro e w2 ⟨rfl, m, rfl⟩)
  go_ret
  refine ⟨rfl, ?_⟩
  exact sinceN ((HS0.out.trans ⟨HS.out.os, HS.out.tape, HS.out.output, HS.out.size, fun k hk => HS.out.block k (by have := HS0.out.size; omega)⟩).alloc (by have := HS0.out.size; have := HS.out.size; omega) _) _
end Go.Proofs.Ytkfjhannbnijkaa
