/- The law EmbedMatches, walked. -/
import Derived.Test.YtkfjhannbnijkaaLwA
import Derived.Test.YtkfjhannbnijkaaPlA
import Derived.Test.YtkfjhannbnijkaaL0
namespace Go.Proofs.Ytkfjhannbnijkaa
open Go.RowKit

set_option maxRecDepth 100000 in
set_option maxHeartbeats 1000000 in
theorem law8_long (n cap : Nat) (ao : Option Addr) (w : World) (h : 2000 < n) (hm : n ≤ maxLen) :
    Calls Try.prog 8 #[.slice ao n cap] w (Since0 w (.bool true)) := by
  unfold maxLen at hm
  have d1 : decide ((2000 : Int) < (n : Int)) = true := by simp; omega
  go_enter Try.func8, Try.ntmps8
  go_wp2_with (go_at_call 22; refine (works_any _).mono ?_; rintro e w' ⟨rfl, hs⟩)
  go_ret
  exact ⟨rfl, hs⟩

set_option maxRecDepth 100000 in
set_option maxHeartbeats 4000000 in
theorem law8_any (l : List Int) (n : Nat) (hn : l.length = n) (hlen : n ≤ 2000) (cap : Nat) (ao : Option Addr) (b off : Nat) (w : World) (hR : Reads w .u8 ao b off l) (hca : ao = none → cap = 0) :
    Calls Try.prog 8 #[.slice ao n cap] w (Since0 w (.bool true)) := by
  have d1 : decide ((2000 : Int) < (n : Int)) = false := by simp; omega
  obtain ⟨i34, hi34, hz34, hz34b, hz34c⟩ := info_parts Try.info34
  go_enter Try.func8, Try.ntmps8
  go_upto_region 5 with (at_builtin; refine wpList_append_read rfl _ _ _ rfl w.heap.size 34 i34 _ 1 Try.underlying22 hi34 hz34 hz34b hz34c rfl _ 0 [] rfl (World.ownsRow_nil _ _ _ _) hR hn hca rfl (by unfold maxLen; omega) (by omega) (Nat.le_refl _) ?_; intro vc w1 hc1 hg1)
  simp only [List.nil_append, Nat.zero_add] at hc1
  have hs1 : w.Since w.heap.size w1 := grown_since hg1 (fun r e => by cases e)
  have hR1 := hR.since hs1
  clear hg1
  go_upto_region 6 with (go_at_call 20; refine (rmatch_any l n hn cap ao b off w1 hR1 (by omega)).mono ?_; rintro e w2 ⟨bo, rfl, hbo, hro, hs2⟩)
  obtain ⟨ca, cc, cb, rfl, hC, hcc⟩ := own_readsK (own_since hc1 hs2 (fun r e => (hc1.lt r e).2)) hn
  have hR2 := hR1.since hs2
  have hs : w.Since w.heap.size w2 := Since.then hs1 hs2 hs1.size
  have HC := Lib.hid hC
  have HR2 := Lib.hid hR2
  have HS := Lib.hid hs
  have HRO := Lib.hid hro
  have HN := Lib.hid hn
  clear hC hR2 hs hro hR hR1 hs1 hs2 hc1 hbo hca hcc hn
  go_wp2_with fail
  go_loopg [5] 2 (fun g s5 wr => ∃ t : Nat, t ≤ 2 ∧ g = 2 - t ∧ s5 = .int .i64 t ∧ w2.Since w2.heap.size wr)
  case atStart => exact ⟨0, by omega, rfl, rfl, World.Since.refl _ _⟩
  case round =>
    obtain ⟨t, ht, rfl, rfl, hsr⟩ := hrel
    by_cases hlt : t < 2
    · have htz : (t : Int) < 2 := by omega
      go_upto_region 10 with (go_at_call 23; refine (match_any l n HN.out cc ca cb 0 _ (HC.out.since hsr) (by omega)).mono ?_; rintro e w3 ⟨bm, rfl, hbm, hrm, hs3⟩)
      have hs23 : w2.Since w2.heap.size w3 := Since.then hsr hs3 hsr.size
      have HBM : Hid (w2.heap.size ≤ bm) := Nat.le_trans hsr.size hbm
      have hr0 : w3.rowIs bm 3 n (fun j => .int .i64 (if j < 0 then 0 else mat l j)) := hrm.congr (fun j _ => by rw [if_neg (by omega)])
      have HS23 := Lib.hid hs23
      have HR0 := Lib.hid hr0
      have hz : ((n : Int) != (n : Int)) = false := by simp
      clear hsr hs3 hs23 hrm hr0 hbm
      go_wp2_with fail
      go_loopg [7] n (fun g s7 wr => ∃ i : Nat, i ≤ n ∧ g = n - i ∧ s7 = .int .i64 i ∧ w2.Since w2.heap.size wr ∧ wr.rowIs bm 3 n (fun j => .int .i64 (if j < i then 0 else mat l j)))
      case atStart => exact ⟨0, by omega, by omega, rfl, HS23.out, HR0.out⟩
      case round =>
        clear HS23 HR0
        obtain ⟨i, hi, rfl, rfl, hsr, hrm⟩ := hrel
        by_cases hlt2 : i < n
        · have hiz : (i : Int) < (n : Int) := by omega
          have m1 := hrm.cell hlt2
          have m2 := hrm.frozen i
          rw [if_neg (by omega)] at m1
          have e1 : wr.cell? ⟨bo, i, none⟩ = some (.int .i64 (mat l i)) := by
            have := HRO.out.cell hlt2
            rw [← mat_eq l (by rw [HN.out]; exact hlt2)] at this
            rw [hsr.cell (a := ⟨bo, i, none⟩) HRO.out.lt]
            exact this
          have c1 := (HC.out.since hsr).cell i (by rw [HN.out]; exact hlt2)
          have c2 := (HR2.out.since hsr).cell i (by rw [HN.out]; exact hlt2)
          obtain rfl := HC.out.spot (by rw [HN.out]; omega)
          obtain rfl := HR2.out.spot (by rw [HN.out]; omega)
          rw [Nat.zero_add] at c1
          have hnx : ∀ m, w2.Since w2.heap.size ((wr.drewN m).setCell ⟨bm, i, none⟩ (.int .i64 0)) ∧ ((wr.drewN m).setCell ⟨bm, i, none⟩ (.int .i64 0)).rowIs bm 3 n (fun j => .int .i64 (if j < i + 1 then 0 else mat l j)) := fun m =>
            ⟨(sinceN hsr m).setCell HBM.out _, ((hrm.of_block (w' := wr.drewN m) rfl).set i _).congr (fun j _ => by
              by_cases e : j = i
              · subst e; rw [if_pos rfl, if_pos (by omega)]
              · rw [if_neg e]
                by_cases h : j < i
                · rw [if_pos h, if_pos (by omega)]
                · rw [if_neg h, if_neg (by omega)])⟩
          have HNX := Lib.hid hnx
          generalize l.getD i 0 = y at *
          generalize mat l i = x at *
          have hyy : (y != y) = false := by simp
          have hxx : (x != x) = false := by simp
          clear hsr hrm hnx
          go_upto_region 15 with fail
          go_quiet (fail)
          go_wp2_with fail
          go_roundg (n - (i + 1))
          case measure => go_light; omega
          case rel => go_light; exact ⟨i + 1, by omega, rfl, by go_num, (HNX.out nq).1, (HNX.out nq).2⟩
        · obtain rfl : i = n := by omega
          have hiz : ¬ ((i : Int) < (i : Int)) := by omega
          go_wp2_with fail
          go_roundg (2 - (t + 1))
          case measure => go_light; omega
          case rel => go_light; exact ⟨t + 1, by omega, rfl, by go_num, hsr⟩
    · obtain rfl : t = 2 := by omega
      have hbq : pbase l = rpbase l := pbase_eq l
      have hb1 := base_any l n HN.out cc ca cb 0 wr (HC.out.since hsr) (by omega)
      rw [hbq] at hb1
      have HB1 := Lib.hid hb1
      have HSR := Lib.hid hsr
      clear hb1 hbq hsr
      obtain ⟨p, hp⟩ : ∃ p, rpbase l = p := ⟨_, rfl⟩
      rw [hp] at HB1
      have HP := Lib.hid hp
      clear hp
      have hpp : (p == p) = true := by simp
      go_wp2_with (first | (go_at_call 24; refine HB1.out.mono ?_; rintro e w4 ⟨rfl, hs4⟩; have HS4 := Lib.hid hs4; clear hs4) | (go_at_call 25; refine (rbase_any l n HN.out cap ao b off _ ((HR2.out.since HSR.out).since HS4.out) (by omega)).mono ?_; rintro e w5 ⟨rfl, rfl⟩; rw [HP.out]) | (go_at_call 22; refine (works_any _).mono ?_; rintro e w' ⟨rfl, hs9⟩))
      go_ret
      have hz0 := HS.out.size
      have hz1 := HSR.out.size
      have hz2 := HS4.out.size
      exact ⟨rfl, Since.then HS.out (Since.then HSR.out (Since.then HS4.out hs9 hz2) hz1) hz0⟩
end Go.Proofs.Ytkfjhannbnijkaa
