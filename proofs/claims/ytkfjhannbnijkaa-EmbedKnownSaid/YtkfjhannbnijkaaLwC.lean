/- The law EmbedLevels, walked. -/
import Derived.Test.YtkfjhannbnijkaaPlD
import Derived.Test.YtkfjhannbnijkaaL0
namespace Go.Proofs.Ytkfjhannbnijkaa
open Go.RowKit

set_option maxRecDepth 100000 in
set_option maxHeartbeats 1000000 in
theorem law9_long (n cap : Nat) (ao : Option Addr) (base : Int) (w : World) (h : 2000 < n) (hm : n ≤ maxLen) :
    Calls Try.prog 9 #[.slice ao n cap, .int .u8 base] w (Since0 w (.bool true)) := by
  unfold maxLen at hm
  have d1 : decide ((2000 : Int) < (n : Int)) = true := by simp; omega
  go_enter Try.func9, Try.ntmps9
  go_wp2_with (go_at_call 22; refine (works_any _).mono ?_; rintro e w' ⟨rfl, hs⟩)
  go_ret
  exact ⟨rfl, hs⟩

set_option maxRecDepth 100000 in
set_option maxHeartbeats 4000000 in
theorem law9_any (l : List Int) (n : Nat) (hn : l.length = n) (hlen : n ≤ 2000) (cap : Nat) (ao : Option Addr) (b off : Nat) (w : World) (hR : Reads w .u8 ao b off l) (hca : ao = none → cap = 0) (base : Int) (hb : 0 ≤ base) :
    Calls Try.prog 9 #[.slice ao n cap, .int .u8 base] w (Since0 w (.bool true)) := by
  have d1 : decide ((2000 : Int) < (n : Int)) = false := by simp; omega
  obtain ⟨i34, hi34, hz34, hz34b, hz34c⟩ := info_parts Try.info34
  obtain ⟨x, p, A, C, m, hA, hC, hmn, hE, hF⟩ := lv_all l base n hn (by omega) hb
  have HE := Lib.hid hE
  have HF := Lib.hid hF
  have HA := Lib.hid hA
  have HCC := Lib.hid hC
  clear hE hF hA hC
  have hxx : (x == x) = true := by simp
  have hpp : (p == p) = true := by simp
  go_enter Try.func9, Try.ntmps9
  go_upto_region 5 with (at_builtin; refine wpList_append_read rfl _ _ _ rfl w.heap.size 34 i34 _ 1 Try.underlying22 hi34 hz34 hz34b hz34c rfl _ 0 [] rfl (World.ownsRow_nil _ _ _ _) hR hn hca rfl (by unfold maxLen; omega) (by omega) (Nat.le_refl _) ?_; intro vc w1 hc1 hg1)
  simp only [List.nil_append, Nat.zero_add] at hc1
  have hs1 : w.Since w.heap.size w1 := grown_since hg1 (fun r e => by cases e)
  have hR1 := hR.since hs1
  obtain ⟨ca, cc, cb, rfl, hC, -⟩ := own_readsK hc1 hn
  clear hg1 hc1
  have HC := Lib.hid hC
  have HR1 := Lib.hid hR1
  have HS1 := Lib.hid hs1
  have HN := Lib.hid hn
  clear hC hR1 hs1 hR hn hca
  go_upto_region 6 with (go_at_call 26; refine (HE.out cc ca cb 0 w1 HC.out).mono ?_; rintro e w2 ⟨a1, a2, b1, b2, c1, c2, rfl, r1, r2, hs2⟩)
  have HR2 := Lib.hid (HR1.out.since hs2)
  have HC2 := Lib.hid (HC.out.since hs2)
  have HS2 := Lib.hid (Since.then HS1.out hs2 HS1.out.size)
  have H1 := Lib.hid r1
  have H2 := Lib.hid r2
  clear r1 r2 hs2 HC HR1 HS1
  go_upto_region 7 with (go_at_call 19; refine (HF.out cap ao b off w2 HR2.out).mono ?_; rintro e w3 ⟨a3, a4, b3, b4, c3, c4, rfl, r3, r4, hs3⟩)
  have HR3 := Lib.hid (HR2.out.since hs3)
  have HC3 := Lib.hid (HC2.out.since hs3)
  have HS3 := Lib.hid (Since.then HS2.out hs3 HS2.out.size)
  have K1 := Lib.hid (H1.out.since hs3)
  have K2 := Lib.hid (H2.out.since hs3)
  have K3 := Lib.hid r3
  have K4 := Lib.hid r4
  clear r3 r4 hs3 HC2 HR2 HS2 H1 H2
  go_wp2_with (first
    | (go_at_call 27; ((with_reducible refine (same_any A C m m _ _ _ _ HA.out HCC.out (by omega) _ _ _ _ _ _ _ _ _ _ _ _ _ K1.out K2.out K3.out K4.out).mono ?_); rintro e w4 ⟨rfl, q, hq⟩; have HQ := Lib.hid hq; clear hq))
    | (go_at_call 27; ((with_reducible refine (same_any [] l 0 n _ _ _ _ rfl HN.out (by omega) _ _ _ _ 0 0 _ _ 0 0 _ _ _ (reads_nil _ _) (by rw [HQ.out]; exact HC3.out.drewN q) (reads_nil _ _) (by rw [HQ.out]; exact HR3.out.drewN q)).mono ?_); rintro e w5 ⟨rfl, q2, hq2⟩; have HQ2 := Lib.hid hq2; clear hq2))
    | (go_at_call 22; refine (works_any _).mono ?_; rintro e w' ⟨rfl, hs9⟩))
  go_ret
  refine ⟨rfl, ?_⟩
  have hs5 : w.Since w.heap.size w5 := by rw [HQ2.out, HQ.out]; exact sinceN (sinceN HS3.out q) q2
  exact Since.then hs5 hs9 hs5.size
end Go.Proofs.Ytkfjhannbnijkaa
