/- works, same: walked. -/
import Derived.Test.YtkfjhannbnijkaaLvH
import Derived.Test.YtkfjhannbnijkaaK
namespace Go.Proofs.Ytkfjhannbnijkaa
open Go.RowKit

theorem reads_row {w : World} {b n : Nat} {t : TypeId} {k : IntKind} {f : Nat → Int} (h : w.rowIs b t n (fun i => .int k (f i))) : Reads w k (some ⟨b, 0, none⟩) b 0 ((List.range n).map f) := by
  refine ⟨fun _ => rfl, fun i hi => ?_⟩
  have hi' : i < n := by simpa using hi
  rw [Nat.zero_add, h.cell hi', List.getD_eq_getElem?_getD]
  simp [hi']

theorem reads_since0 {w w' : World} {k : IntKind} {ao : Option Addr} {b off : Nat} {l : List Int} (h : Reads w k ao b off l) (hs : w.Since w.heap.size w') : Reads w' k ao b off l := h.since hs

def wl7 : List Int := [1, 21, 2, 17, 14, 23, 2]
theorem wl7_valid : Valid wl7 := by
  intro i hi
  have : i = 0 ∨ i = 1 ∨ i = 2 ∨ i = 3 ∨ i = 4 ∨ i = 5 ∨ i = 6 := by simp [wl7] at hi; omega
  rcases this with rfl | rfl | rfl | rfl | rfl | rfl | rfl <;> decide
theorem wl7_p : plev wl7 2 = 0 := by decide +kernel
theorem wl7_lv : (List.range 7).map (lrun wl7 (mat wl7) 0 7).lv = [0, 0, 1, 1, 2, 0, 0] := by decide +kernel
theorem wl7_4 : (lrun wl7 (mat wl7) 0 7).cl 4 = 1 := by decide +kernel
theorem wl7_3 : (lrun wl7 (mat wl7) 0 7).cl 3 = 10 := by decide +kernel
theorem wl2_p : pbase [14, 3] = 1 := by decide +kernel

set_option maxRecDepth 100000 in
set_option maxHeartbeats 1000000 in
theorem works_any (w : World) : Calls Try.prog 22 #[] w (Since0 w (.bool true)) := by
  have h1 := reads_lit w .u8 34 wl7 #[.int .u8 1, .int .u8 21, .int .u8 2, .int .u8 17, .int .u8 14, .int .u8 23, .int .u8 2] rfl
  have hc := levels_ok wl7 2 7 7 rfl _ _ _ _ h1 (by omega) wl7_valid (by omega)
  rw [wl7_p] at hc
  have hs0 := since_alloc1 w (.cells #[.int .u8 1, .int .u8 21, .int .u8 2, .int .u8 17, .int .u8 14, .int .u8 23, .int .u8 2] 34)
  have HC := Lib.hid hc
  have HS0 := Lib.hid hs0
  clear h1 hc hs0
  go_enter Try.func22, Try.ntmps22
  go_upto_region 2 with (go_at_call 26; refine HC.out.mono ?_; rintro e w1 ⟨bl, bc, rfl, hbl, hbc, -, hlv, hcl, hs⟩)
  have hr := reads_row hlv
  rw [wl7_lv] at hr
  have hcv := conv_reads (n := 7) (c := 7) hr rfl 9 Try.underlying9
  rw [show strOfNums [0, 0, 1, 1, 2, 0, 0] = ⟨#[0, 0, 1, 1, 2, 0, 0]⟩ by kernel_rfl] at hcv
  have c4 : w1.cell? ⟨bc, 4, none⟩ = some (.int .u8 1) := by rw [hcl.cell (by omega), wl7_4]
  have c3 : w1.cell? ⟨bc, 3, none⟩ = some (.int .u8 10) := by rw [hcl.cell (by omega), wl7_3]
  have h2 := reads_lit w1 .u8 34 [14, 3] #[.int .u8 14, .int .u8 3] rfl
  have hb := base_any [14, 3] 2 rfl 2 _ _ _ _ h2 (by omega)
  rw [wl2_p] at hb
  have HB := Lib.hid hb
  have HS := Lib.hid hs
  clear h2 hb hs hlv hcl hr hbl hbc
  go_wp2_with (go_at_call 24; refine HB.out.mono ?_; rintro e w2 ⟨rfl, hs2⟩)
  go_ret
  have hz0 := HS0.out.size
  have hz1 := HS.out.size
  refine ⟨rfl, Since.then HS0.out (Since.then HS.out (Since.then (since_alloc1 w1 _) hs2 (by simp)) hz1) hz0⟩

set_option maxRecDepth 100000 in
set_option maxHeartbeats 1000000 in
/-- Rows of levels, and of classes, that are the same. -/
theorem same_any (L C : List Int) (n nc ca cb cc cd : Nat) (hL : L.length = n) (hC : C.length = nc) (hnc : nc ≤ 70000) (a1 a2 a3 a4 : Option Addr) (b1 o1 b2 o2 b3 o3 b4 o4 : Nat) (w : World)
    (r1 : Reads w .u8 a1 b1 o1 L) (r2 : Reads w .u8 a2 b2 o2 C) (r3 : Reads w .u8 a3 b3 o3 L) (r4 : Reads w .u8 a4 b4 o4 C) :
    Calls Try.prog 27 #[.slice a1 n ca, .slice a2 nc cb, .slice a3 n cc, .slice a4 nc cd] w (Quiet w (.bool true)) := by
  have v1 := conv_reads (c := ca) r1 hL 9 Try.underlying9
  have v2 := conv_reads (c := cc) r3 hL 9 Try.underlying9
  have R2 := Lib.hid r2
  have R4 := Lib.hid r4
  clear r1 r2 r3 r4
  go_enter Try.func27, Try.ntmps27
  go_wp2_with fail
  go_loopg [9] nc (fun g s9 wr => ∃ k m : Nat, k ≤ nc ∧ g = nc - k ∧ s9 = .int .i64 k ∧ wr = w.drewN m)
  case atStart => exact ⟨0, 0, by omega, by omega, rfl, rfl⟩
  case round =>
    obtain ⟨k, m, hk, rfl, rfl, hwr⟩ := hrel
    have HW := Lib.hid hwr
    clear hwr
    by_cases hlt : k < nc
    · have hkz : (k : Int) < (nc : Int) := by omega
      obtain rfl := R2.out.spot (by omega)
      obtain rfl := R4.out.spot (by omega)
      have p1 : wr.cell? ⟨b2, o2 + k, none⟩ = some (.int .u8 (C.getD k 0)) := by rw [HW.out]; exact R2.out.cell k (by omega)
      have q1 : wr.cell? ⟨b4, o4 + k, none⟩ = some (.int .u8 (C.getD k 0)) := by rw [HW.out]; exact R4.out.cell k (by omega)
      generalize C.getD k 0 = x at *
      have hzz : (x != x) = false := by simp
      go_upto_region 6 with fail
      go_quiet (fail)
      go_wp2_with fail
      go_roundg (nc - (k + 1))
      case measure => go_light; omega
      case rel => go_light; obtain ⟨m', e⟩ := drewN_drewN w m nq; exact ⟨k + 1, m', by omega, rfl, by go_num, by rw [HW.out]; exact e⟩
    · obtain rfl : k = nc := by omega
      have hkz : ¬ ((k : Int) < (k : Int)) := by omega
      go_wp2_with fail
      go_ret
      exact ⟨rfl, m, HW.out⟩
end Go.Proofs.Ytkfjhannbnijkaa
