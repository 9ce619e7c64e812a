/- The law EmbedBounds, walked. -/
import Derived.Test.YtkfjhannbnijkaaLwA
import Derived.Test.YtkfjhannbnijkaaPlE
import Derived.Test.YtkfjhannbnijkaaL0
namespace Go.Proofs.Ytkfjhannbnijkaa
open Go.RowKit

theorem plev_bd (l : List Int) {base : Int} (h : 0 ≤ base ∧ base ≤ 2) : 0 ≤ plev l base ∧ plev l base ≤ 1 := by
  unfold plev pbase
  by_cases e : base = 2
  · rw [if_pos e]; split <;> omega
  · rw [if_neg e]; omega

theorem removed_is {c : Int} {r : Bool} (h : remB c = r) (w : World) : Calls Try.prog 21 #[.int .u8 c] w fun e w' => e = .returned (.bool r) ∧ w' = w := by
  subst h
  exact (rRemoved_any c w).mono fun _ _ ⟨h1, h2⟩ => ⟨h1, h2.symm⟩

theorem then_normal {K : Act → World → Prop} {Q : Exit → Act → World → Prop} {a : Act} {w : World} (h : K a w) : Exit.then K Q .normal a w := h

def bef11 (p : Int) (lv : Nat → Int) (i : Nat) : Int := if i = 0 then p else lv (i - 1)

set_option maxRecDepth 100000 in
set_option maxHeartbeats 1000000 in
theorem law11_long (n cap : Nat) (ao : Option Addr) (base : Int) (w : World) (h : 2000 < n) (hm : n ≤ maxLen) :
    Calls Try.prog 11 #[.slice ao n cap, .int .u8 base] w (Since0 w (.bool true)) := by
  unfold maxLen at hm
  have d1 : decide ((2000 : Int) < (n : Int)) = true := by simp; omega
  go_enter Try.func11, Try.ntmps11
  go_wp2_with (go_at_call 22; refine (works_any _).mono ?_; rintro e w' ⟨rfl, hs⟩)
  go_ret
  exact ⟨rfl, hs⟩

set_option maxRecDepth 100000 in
set_option maxHeartbeats 4000000 in
theorem law11_err (l : List Int) (n : Nat) (hn : l.length = n) (hlen : n ≤ 2000) (cap : Nat) (ao : Option Addr) (b off : Nat) (w : World) (hR : Reads w .u8 ao b off l) (base : Int) (hv : ¬ Valid l ∨ 2 < base) :
    Calls Try.prog 11 #[.slice ao n cap, .int .u8 base] w (Since0 w (.bool true)) := by
  have d1 : decide ((2000 : Int) < (n : Int)) = false := by simp; omega
  have HE := Lib.hid (levels_arg l base n cap hn ao b off w hR (by omega) hv)
  clear hv hR hn
  go_enter Try.func11, Try.ntmps11
  go_wp2_with (first | (go_at_call 26; refine HE.out.mono ?_; rintro e w1 ⟨rfl, rfl⟩) | (go_at_call 22; refine (works_any _).mono ?_; rintro e w' ⟨rfl, hs⟩))
  go_ret
  exact ⟨rfl, hs⟩

set_option maxRecDepth 100000 in
set_option maxHeartbeats 8000000 in
theorem law11_any (l : List Int) (n : Nat) (hn : l.length = n) (hlen : n ≤ 2000) (cap : Nat) (ao : Option Addr) (b off : Nat) (w : World) (hR : Reads w .u8 ao b off l) (base : Int) (hv : Valid l) (hb : 0 ≤ base ∧ base ≤ 2) :
    Calls Try.prog 11 #[.slice ao n cap, .int .u8 base] w (Since0 w (.bool true)) := by
  have d1 : decide ((2000 : Int) < (n : Int)) = false := by simp; omega
  have HE := Lib.hid (levels_ok l base n cap hn ao b off w hR (by omega) hv hb)
  obtain ⟨p0, p1⟩ := plev_bd l hb
  generalize plev l base = p at *
  have hpl : ∀ j, j < n → PlaceOK l p (lrun l (mat l) p n).lv (lrun l (mat l) p n).cl j := (lrun_places l (mat l) p p0 n).2
  have hlv : ∀ j, 0 ≤ (lrun l (mat l) p n).lv j ∧ (lrun l (mat l) p n).lv j ≤ 125 := (lrun_ok l (mat l) ⟨p0, by omega⟩ n).lv
  generalize (lrun l (mat l) p n).lv = lv at *
  generalize (lrun l (mat l) p n).cl = cl at *
  have HPL := Lib.hid hpl
  have HLV := Lib.hid hlv
  have HR := Lib.hid hR
  have HN := Lib.hid hn
  have hz : ((n : Int) != (n : Int)) = false := by simp
  have hp1 : decide (1 < p) = false := by simp; omega
  clear hpl hlv hR hn hv hb
  go_enter Try.func11, Try.ntmps11
  go_upto_region 4 with (go_at_call 26; refine HE.out.mono ?_; rintro e w1 ⟨bl, bc, rfl, hbl, hbc, -, hL, hC, hs⟩)
  have HL := Lib.hid hL
  have HC := Lib.hid hC
  have HS := Lib.hid hs
  have HR1 := Lib.hid (HR.out.since hs)
  clear hL hC hs HE HR
  go_wp2_with fail
  go_loopg [9, 10] n (fun g s9 s10 wr => ∃ i : Nat, i ≤ n ∧ g = n - i ∧ s9 = .int .u8 (bef11 p lv i) ∧ s10 = .int .i64 i ∧ w1.Since w1.heap.size wr)
  case atStart => exact ⟨0, by omega, by omega, rfl, rfl, World.Since.refl _ _⟩
  case round =>
    obtain ⟨i, hi, rfl, rfl, rfl, hsr⟩ := hrel
    by_cases hlt : i < n
    · have hiz : (i : Int) < (n : Int) := by omega
      have c0 := (HR1.out.since hsr).cell i (by rw [HN.out]; exact hlt)
      obtain rfl := HR1.out.spot (by rw [HN.out]; omega)
      have c1 : wr.cell? ⟨bl, i, none⟩ = some (.int .u8 (lv i)) := by rw [hsr.cell (a := ⟨bl, i, none⟩) HL.out.lt]; exact HL.out.cell hlt
      have c2 : wr.cell? ⟨bc, i, none⟩ = some (.int .u8 (cl i)) := by rw [hsr.cell (a := ⟨bc, i, none⟩) HC.out.lt]; exact HC.out.cell hlt
      obtain ⟨k1, k2, k3z, k4⟩ := HPL.out i hlt
      obtain ⟨k5, k6⟩ := HLV.out i
      have HSR := Lib.hid hsr
      have hlast : ∀ j : Nat, j = i + 1 → bef11 p lv j = lv i := fun j e => by subst e; unfold bef11; rw [if_neg (by omega), Nat.add_sub_cancel]
      have k3 : remB (l.getD i 0) = true → lv i = bef11 p lv i ∧ cl i = 10 := k3z
      clear k3z
      have HLAST := Lib.hid hlast
      generalize l.getD i 0 = c at *
      generalize hx : lv i = x at *
      generalize cl i = y at *
      have HX := Lib.hid hx
      generalize hbf : bef11 p lv i = bf at *
      clear hsr hx hbf hlast
      have t1 : decide (125 < x) = false := by simp; omega
      have t2 : decide (x < p) = false := by simp; omega
      go_upto_region 12 with fail
      simp only [List.append]
      go_cut [145] from 57 to 149 (fun s145 wx => s145 = .bool false ∧ ∃ k, wx = wr.drewN k)
      case first =>
        by_cases hr : remB c = true
        · have HQ := Lib.hid (fun wx => removed_is hr wx)
          obtain ⟨k7, k8⟩ := k3 hr
          have t3 : (c == 11) = false := by
            simp only [beq_eq_false_iff_ne, ne_eq]
            intro e; rw [e] at hr; cases hr
          have t4 : (x != bf) = false := by simp [k7]
          have t5 : (y != 10) = false := by simp [k8]
          clear k1 k2 k3 k4 k7 k8 hr
          refine wp_region_quiet_lit (by kernel_rfl) (by kernel_rfl) ?_
          iterate 83 (go_big_quiet_step ((go_at_call 21; exact Calls.quiet_of_same (HQ.out _))))
          refine wpQuiet_nil ?_
          intro _ hw'
          obtain ⟨nq, hw''⟩ := hw'
          subst hw''
          simp only [Exit.then]
          go_step
          go_meet
          exact ⟨rfl, nq, rfl⟩
        · have hr' : remB c = false := by simpa using hr
          have HQ := Lib.hid (fun wx => removed_is hr' wx)
          have k7 := k4 hr'
          have t6 : (y != c) = false ∨ (y != 1) = false ∨ (y != 2) = false := by simp; omega
          by_cases hB : c = 11
          · have t3 : (c == 11) = true := by simp [hB]
            have t4 : (x != p) = false := by simp [k2 hB]
            clear k1 k2 k3 k4 k7 hr
            by_cases g1 : y = c
            · have u1 : (y != c) = false := by simp [g1]
              clear t6 g1 hB
              refine wp_region_quiet_lit (by kernel_rfl) (by kernel_rfl) ?_
              iterate 83 (go_big_quiet_step ((go_at_call 21; exact Calls.quiet_of_same (HQ.out _))))
              refine wpQuiet_nil ?_
              intro _ hw'
              obtain ⟨nq, hw''⟩ := hw'
              subst hw''
              simp only [Exit.then]
              go_step
              go_meet
              exact ⟨rfl, nq, rfl⟩
            · have u1 : (y != c) = true := by simp [g1]
              by_cases g2 : y = 1
              · have u2 : (y != 1) = false := by simp [g2]
                clear t6 g1 g2 hB
                refine wp_region_quiet_lit (by kernel_rfl) (by kernel_rfl) ?_
                iterate 83 (go_big_quiet_step ((go_at_call 21; exact Calls.quiet_of_same (HQ.out _))))
                refine wpQuiet_nil ?_
                intro _ hw'
                obtain ⟨nq, hw''⟩ := hw'
                subst hw''
                simp only [Exit.then]
                go_step
                go_meet
                exact ⟨rfl, nq, rfl⟩
              · have u2 : (y != 1) = true := by simp [g2]
                have u3 : (y != 2) = false := by simp [g1, g2] at t6 ⊢; exact t6
                clear t6 g1 g2 hB
                refine wp_region_quiet_lit (by kernel_rfl) (by kernel_rfl) ?_
                iterate 83 (go_big_quiet_step ((go_at_call 21; exact Calls.quiet_of_same (HQ.out _))))
                refine wpQuiet_nil ?_
                intro _ hw'
                obtain ⟨nq, hw''⟩ := hw'
                subst hw''
                simp only [Exit.then]
                go_step
                go_meet
                exact ⟨rfl, nq, rfl⟩
          · have t3 : (c == 11) = false := by simp [hB]
            clear k1 k2 k3 k4 k7 hr
            by_cases g1 : y = c
            · have u1 : (y != c) = false := by simp [g1]
              clear t6 g1 hB
              refine wp_region_quiet_lit (by kernel_rfl) (by kernel_rfl) ?_
              iterate 83 (go_big_quiet_step ((go_at_call 21; exact Calls.quiet_of_same (HQ.out _))))
              refine wpQuiet_nil ?_
              intro _ hw'
              obtain ⟨nq, hw''⟩ := hw'
              subst hw''
              simp only [Exit.then]
              go_step
              go_meet
              exact ⟨rfl, nq, rfl⟩
            · have u1 : (y != c) = true := by simp [g1]
              by_cases g2 : y = 1
              · have u2 : (y != 1) = false := by simp [g2]
                clear t6 g1 g2 hB
                refine wp_region_quiet_lit (by kernel_rfl) (by kernel_rfl) ?_
                iterate 83 (go_big_quiet_step ((go_at_call 21; exact Calls.quiet_of_same (HQ.out _))))
                refine wpQuiet_nil ?_
                intro _ hw'
                obtain ⟨nq, hw''⟩ := hw'
                subst hw''
                simp only [Exit.then]
                go_step
                go_meet
                exact ⟨rfl, nq, rfl⟩
              · have u2 : (y != 1) = true := by simp [g2]
                have u3 : (y != 2) = false := by simp [g1, g2] at t6 ⊢; exact t6
                clear t6 g1 g2 hB
                refine wp_region_quiet_lit (by kernel_rfl) (by kernel_rfl) ?_
                iterate 83 (go_big_quiet_step ((go_at_call 21; exact Calls.quiet_of_same (HQ.out _))))
                refine wpQuiet_nil ?_
                intro _ hw'
                obtain ⟨nq, hw''⟩ := hw'
                subst hw''
                simp only [Exit.then]
                go_step
                go_meet
                exact ⟨rfl, nq, rfl⟩
      case rest =>
        obtain ⟨rfl, nq, rfl⟩ := hcut
        go_wp2_with fail
        go_roundg (n - (i + 1))
        case measure => go_light; omega
        case rel => go_light; exact ⟨i + 1, by omega, rfl, by rw [HLAST.out _ rfl], by go_num, sinceN HSR.out nq⟩
    · obtain rfl : i = n := by omega
      have hiz : ¬ ((i : Int) < (i : Int)) := by omega
      go_wp2_with (go_at_call 22; refine (works_any _).mono ?_; rintro e w' ⟨rfl, hs9⟩)
      go_ret
      exact ⟨rfl, Since.then HS.out (Since.then hsr hs9 hsr.size) HS.out.size⟩
end Go.Proofs.Ytkfjhannbnijkaa
