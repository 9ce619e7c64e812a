/- The law EmbedRuns (closed), walked. -/
import Derived.Test.YtkfjhannbnijkaaLwG
import Derived.Test.YtkfjhannbnijkaaM
import Derived.Deep.DeepCutAuto
namespace Go.Proofs.Ytkfjhannbnijkaa
open Go.RowKit

/-- Two classes, k times. -/
def rp (a b : Int) : Nat → List Int
  | 0 => []
  | k + 1 => rp a b k ++ [a, b]

theorem rp_len (a b : Int) (k : Nat) : (rp a b k).length = 2 * k := by
  induction k with
  | zero => rfl
  | succ k ih => rw [rp, List.length_append, ih]; simp; omega

theorem rp_mem {a b : Int} {k : Nat} {c : Int} (h : c ∈ rp a b k) : c = a ∨ c = b := by
  induction k with
  | zero => simp [rp] at h
  | succ k ih =>
    rw [rp] at h
    simp only [List.mem_append, List.mem_cons, List.not_mem_nil, or_false] at h
    rcases h with h | h
    · exact ih h
    · exact h

def runsL : List Int := rp 20 2 40 ++ rp 23 1 42 ++ [11, 21, 20, 23, 22, 3]
theorem runsL_len : runsL.length = 170 := by unfold runsL; rw [List.length_append, List.length_append, rp_len, rp_len]; rfl
theorem valid_of_mem {l : List Int} (h : ∀ c ∈ l, 1 ≤ c ∧ c ≤ 23) : Valid l := fun i hi => by
  rw [List.getD_eq_getElem?_getD, List.getElem?_eq_getElem hi]
  exact h _ (List.getElem_mem hi)
theorem runsL_valid : Valid runsL := valid_of_mem fun c hc => by
  unfold runsL at hc
  simp only [List.mem_append, List.mem_cons, List.not_mem_nil, or_false] at hc
  rcases hc with (h | h) | h
  · have := rp_mem h; omega
  · have := rp_mem h; omega
  · omega

theorem e1_n : RefN [1, 16, 2, 19, 1] [0, 0, 1, 1, 0] 0 = 3 := by decide +kernel
theorem e1_0 : RefS [1, 16, 2, 19, 1] [0, 0, 1, 1, 0] 0 0 = ⟨[0], 0, 1, 2⟩ := by kernel_rfl
theorem e1_1 : RefS [1, 16, 2, 19, 1] [0, 0, 1, 1, 0] 0 1 = ⟨[2], 1, 2, 2⟩ := by kernel_rfl
theorem e1_2 : RefS [1, 16, 2, 19, 1] [0, 0, 1, 1, 0] 0 2 = ⟨[4], 0, 2, 1⟩ := by kernel_rfl
theorem e2_n : RefN [21, 2] [0, 1] 0 = 2 := by decide +kernel
theorem e2_0 : RefS [21, 2] [0, 1] 0 0 = ⟨[0], 0, 1, 1⟩ := by kernel_rfl
theorem e2_1 : RefS [21, 2] [0, 1] 0 1 = ⟨[1], 1, 2, 2⟩ := by kernel_rfl

def oc1 : Array Value := #[.int .u8 1, .int .u8 16, .int .u8 2, .int .u8 19, .int .u8 1]
def ol1 : Array Value := #[.int .u8 0, .int .u8 0, .int .u8 1, .int .u8 1, .int .u8 0]
def oc2 : Array Value := #[.int .u8 21, .int .u8 2]
def ol2 : Array Value := #[.int .u8 0, .int .u8 1]

/-- What is known of the first sequences. -/
def Got1 (w : World) (e : Ending) (w' : World) : Prop :=
  ∃ g cap, e = .returned (.tuple #[.slice (some ⟨g, 0, none⟩) 3 cap, .int .i64 0]) ∧ w'.cell? ⟨g, 3, none⟩ = some (.int .u8 2) ∧ w'.cell? ⟨g, 6, none⟩ = some (.int .u8 2) ∧ w'.cell? ⟨g, 10, none⟩ = some (.int .u8 2) ∧ w'.cell? ⟨g, 11, none⟩ = some (.int .u8 1) ∧ w.Since w.heap.size w'
def Got2 (w : World) (e : Ending) (w' : World) : Prop :=
  ∃ g cap, e = .returned (.tuple #[.slice (some ⟨g, 0, none⟩) 2 cap, .int .i64 0]) ∧ w'.cell? ⟨g, 3, none⟩ = some (.int .u8 1) ∧ w'.cell? ⟨g, 7, none⟩ = some (.int .u8 2) ∧ w.Since w.heap.size w'

theorem lit1_any (w : World) : Calls Try.prog 17 #[.slice (some ⟨w.heap.size, 0, none⟩) 5 5, .slice (some ⟨w.heap.size + 1, 0, none⟩) 5 5, .int .u8 0] ((w.alloc (.cells oc1 34)).alloc (.cells ol1 5)) (Got1 w) := by
  have h1 := reads_lit w .u8 34 [1, 16, 2, 19, 1] oc1 rfl
  have h2 := reads_lit (w.alloc (.cells oc1 34)) .u8 5 [0, 0, 1, 1, 0] ol1 rfl
  rw [show (w.alloc (.cells oc1 34)).heap.size = w.heap.size + 1 by simp] at h2
  have hs0 : w.Since w.heap.size ((w.alloc (.cells oc1 34)).alloc (.cells ol1 5)) := ((World.Since.refl _ _).alloc (Nat.le_refl _) _).alloc (by simp) _
  refine (eseq_ref [1, 16, 2, 19, 1] [0, 0, 1, 1, 0] 0 5 rfl rfl (by omega) 5 5 _ _ _ _ _ _ _ (h1.since (since_alloc1 _ _)) h2 (by omega) (getD_range (by decide))).mono ?_
  rintro e w' ⟨va, pv, B, rfl, hB, hq, hs⟩
  rw [e1_n] at hq
  obtain ⟨g, cap, rfl, -, -⟩ := hq.form (by omega)
  obtain ⟨-, -, -, a3⟩ := hq.cells (j := 0) (by omega)
  obtain ⟨-, -, b2, -⟩ := hq.cells (j := 1) (by omega)
  obtain ⟨-, -, c2, c3⟩ := hq.cells (j := 2) (by omega)
  rw [e1_0] at a3
  rw [e1_1] at b2
  rw [e1_2] at c2 c3
  exact ⟨g, cap, rfl, a3, b2, c2, c3, Since.then hs0 hs hs0.size⟩

theorem lit2_any (w : World) : Calls Try.prog 17 #[.slice (some ⟨w.heap.size, 0, none⟩) 2 2, .slice (some ⟨w.heap.size + 1, 0, none⟩) 2 2, .int .u8 0] ((w.alloc (.cells oc2 34)).alloc (.cells ol2 5)) (Got2 w) := by
  have h1 := reads_lit w .u8 34 [21, 2] oc2 rfl
  have h2 := reads_lit (w.alloc (.cells oc2 34)) .u8 5 [0, 1] ol2 rfl
  rw [show (w.alloc (.cells oc2 34)).heap.size = w.heap.size + 1 by simp] at h2
  have hs0 : w.Since w.heap.size ((w.alloc (.cells oc2 34)).alloc (.cells ol2 5)) := ((World.Since.refl _ _).alloc (Nat.le_refl _) _).alloc (by simp) _
  refine (eseq_ref [21, 2] [0, 1] 0 2 rfl rfl (by omega) 2 2 _ _ _ _ _ _ _ (h1.since (since_alloc1 _ _)) h2 (by omega) (getD_range (by decide))).mono ?_
  rintro e w' ⟨va, pv, B, rfl, hB, hq, hs⟩
  rw [e2_n] at hq
  obtain ⟨g, cap, rfl, -, -⟩ := hq.form (by omega)
  obtain ⟨-, -, -, a3⟩ := hq.cells (j := 0) (by omega)
  obtain ⟨-, -, -, b3⟩ := hq.cells (j := 1) (by omega)
  rw [e2_0] at a3
  rw [e2_1] at b3
  exact ⟨g, cap, rfl, a3, b3, Since.then hs0 hs hs0.size⟩

theorem reads_made (w : World) (n : Nat) (t : TypeId) : Reads (w.alloc (.cells (madeCells #[Value.int .u8 0] n) t)) .u8 (some ⟨w.heap.size, 0, none⟩) w.heap.size 0 ((List.range n).map fun _ => 0) :=
  reads_row (f := fun _ => 0) (rowIs_made' rfl)

theorem zeros_range (n : Nat) : ∀ i, 0 ≤ ((List.range n).map (fun _ => (0 : Int))).getD i 0 ∧ ((List.range n).map (fun _ => (0 : Int))).getD i 0 ≤ 255 :=
  getD_range fun x hx => by
    obtain ⟨y, -, rfl⟩ := List.mem_map.1 hx
    omega

/-- Sequences of so many zeros: no error. -/
def Fine (w : World) (e : Ending) (w' : World) : Prop := ∃ va, e = .returned (.tuple #[va, .int .i64 0]) ∧ w.Since w.heap.size w'
theorem zeros_any (n : Nat) (hn : n ≤ 65536) (al bl : Option Addr) (b1 o1 b2 o2 : Nat) (w : World) (r1 : Reads w .u8 al b1 o1 ((List.range n).map fun _ => 0)) (r2 : Reads w .u8 bl b2 o2 ((List.range n).map fun _ => 0)) :
    Calls Try.prog 17 #[.slice al n n, .slice bl n n, .int .u8 0] w (Fine w) := by
  refine (eseq_ref _ _ 0 n (by simp) (by simp) hn n n _ _ _ _ _ _ w r1 r2 (by omega) (zeros_range n)).mono ?_
  rintro e w' ⟨va, pv, B, rfl, hB, hq, hs⟩
  exact ⟨va, rfl, hs⟩
theorem reads_drew0 {w : World} {k : IntKind} {ao : Option Addr} {b off : Nat} {l : List Int} (h : Reads w k ao b off l) : Reads w.drew k ao b off l := ⟨h.spot, h.cell⟩

/-- New rows of so many zeros, their cells under a name. -/
theorem made_pack (n : Nat) (z : Int) (hz : (n : Int) = z) (hn : n ≤ 70000) : ∃ M : Array Value,
    (∀ wx : World, (Instr.makeSlice 22 (.int .i64 z) (.int .i64 z)).run Try.prog wx = .ok (.slice (some ⟨wx.heap.size, 0, none⟩) n n) (wx.alloc (.cells M 34))) ∧
    (∀ wx : World, (Instr.makeSlice 23 (.int .i64 z) (.int .i64 z)).run Try.prog wx = .ok (.slice (some ⟨wx.heap.size, 0, none⟩) n n) (wx.alloc (.cells M 5))) ∧
    ∃ Z : List Int, (∀ (wx : World) (b : Nat), b = wx.heap.size → Reads (wx.alloc (.cells M 34)) .u8 (some ⟨b, 0, none⟩) b 0 Z) ∧ (∀ (wx : World) (b : Nat), b = wx.heap.size → Reads (wx.alloc (.cells M 5)) .u8 (some ⟨b, 0, none⟩) b 0 Z) ∧
      (n ≤ 65536 → ∀ (wx : World) (b1 b2 : Nat), Reads wx .u8 (some ⟨b1, 0, none⟩) b1 0 Z → Reads wx .u8 (some ⟨b2, 0, none⟩) b2 0 Z → Calls Try.prog 17 #[.slice (some ⟨b1, 0, none⟩) n n, .slice (some ⟨b2, 0, none⟩) n n, .int .u8 0] wx (Fine wx)) := by
  subst hz
  refine ⟨madeCells #[Value.int .u8 0] n, fun wx => ?_, fun wx => ?_, (List.range n).map fun _ => 0, ?_, ?_, ?_⟩
  · exact run_make_row' (P := Try.prog) 22 34 (.int .u8 0) 1 Try.underlying22 Try.info34 rfl .i64 .i64 n (by omega) (by omega) wx
  · exact run_make_row' (P := Try.prog) 23 5 (.int .u8 0) 1 Try.underlying23 Try.info5 rfl .i64 .i64 n (by omega) (by omega) wx
  · rintro wx b rfl; exact reads_made wx n 34
  · rintro wx b rfl; exact reads_made wx n 5
  · intro h wx b1 b2 r1 r2; exact zeros_any n h _ _ b1 0 b2 0 wx r1 r2
end Go.Proofs.Ytkfjhannbnijkaa
