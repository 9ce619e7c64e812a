/- The law EmbedOnce, walked. -/
import Derived.Test.YtkfjhannbnijkaaPlD
import Derived.Test.YtkfjhannbnijkaaPlI
import Derived.Test.YtkfjhannbnijkaaL0
import Derived.Test.YtkfjhannbnijkaaL
namespace Go.Proofs.Ytkfjhannbnijkaa
open Go.RowKit

set_option maxRecDepth 100000 in
set_option maxHeartbeats 1000000 in
theorem law4_long (n cap : Nat) (ao : Option Addr) (base : Int) (w : World) (h : 2000 < n) (hm : n ≤ maxLen) :
    Calls Try.prog 4 #[.slice ao n cap, .int .u8 base] w (Since0 w (.bool true)) := by
  unfold maxLen at hm
  have d1 : decide ((2000 : Int) < (n : Int)) = true := by simp; omega
  go_enter Try.func4, Try.ntmps4
  go_wp2_with (go_at_call 15; refine (isolates_any _).mono ?_; rintro e w' ⟨rfl, hs⟩)
  go_ret
  exact ⟨rfl, hs⟩

set_option maxRecDepth 100000 in
set_option maxHeartbeats 1000000 in
theorem law4_err (l : List Int) (n : Nat) (hn : l.length = n) (hlen : n ≤ 2000) (cap : Nat) (ao : Option Addr) (b off : Nat) (w : World) (hR : Reads w .u8 ao b off l) (base : Int) (hv : ¬ Valid l ∨ 2 < base) :
    Calls Try.prog 4 #[.slice ao n cap, .int .u8 base] w (Since0 w (.bool true)) := by
  have d1 : decide ((2000 : Int) < (n : Int)) = false := by simp; omega
  have HE := Lib.hid (rlevels_arg l base n cap hn ao b off w hR (by omega) hv)
  clear hv hR hn
  go_enter Try.func4, Try.ntmps4
  go_wp2_with (first | (go_at_call 19; refine HE.out.mono ?_; rintro e w1 ⟨rfl, rfl⟩) | (go_at_call 15; refine (isolates_any _).mono ?_; rintro e w' ⟨rfl, hs⟩))
  go_ret
  exact ⟨rfl, hs⟩

set_option maxRecDepth 100000 in
set_option maxHeartbeats 8000000 in
theorem law4_any (l : List Int) (n : Nat) (hn : l.length = n) (hlen : n ≤ 2000) (cap : Nat) (ao : Option Addr) (b off : Nat) (w : World) (hR : Reads w .u8 ao b off l) (base : Int) (hv : Valid l) (hb : 0 ≤ base ∧ base ≤ 2) :
    Calls Try.prog 4 #[.slice ao n cap, .int .u8 base] w (Since0 w (.bool true)) := by
  have d1 : decide ((2000 : Int) < (n : Int)) = false := by simp; omega
  have HE := Lib.hid (rlevels_ok l base n cap hn ao b off w hR (by omega) hv hb)
  have hp : 0 ≤ rplev l base ∧ rplev l base ≤ 1 := by
    unfold rplev rpbase
    by_cases e : base = 2
    · rw [if_pos e]; split <;> omega
    · rw [if_neg e]; omega
  generalize rplev l base = p at *
  obtain ⟨L, hL⟩ : ∃ L, L = (List.range n).map (rpost l p n).lv := ⟨_, rfl⟩
  have hLn : L.length = n := by rw [hL]; simp
  have hone : OneLevel l L := by
    rw [hL, ← hn]
    refine one_level l p _ (fun j hj => ?_)
    rw [← (levels_same l p hj).1]
    exact (lrun_LV l (mat l) p hj).1
  have hLr : ∀ i, 0 ≤ L.getD i 0 ∧ L.getD i 0 ≤ 255 := by
    refine getD_range (fun x hx => ?_)
    rw [hL] at hx
    obtain ⟨j, hj, rfl⟩ := List.mem_map.1 hx
    have hj' : j < l.length := by rw [hn]; exact List.mem_range.1 hj
    have h1 := (lrun_ok l (mat l) (base := p) ⟨hp.1, by omega⟩ l.length).lv j
    rw [(levels_same l p hj').1, hn] at h1
    omega
  have HN := Lib.hid hn
  have HLN := Lib.hid hLn
  have HONE := Lib.hid hone
  have HLR := Lib.hid hLr
  have HL := Lib.hid hL
  have HR := Lib.hid hR
  obtain ⟨hp0, hp1⟩ := hp
  clear hn hLn hone hLr hR hv hb hL
  have hmk := run_make_row' (P := Try.prog) 41 4 (.bool false) 1 Try.underlying41 Try.info4 rfl .i64 .i64 n (by omega) (by omega)
  go_enter Try.func4, Try.ntmps4
  go_upto_region 6 with (go_at_call 19; refine HE.out.mono ?_; rintro e w1 ⟨bl, bc, rfl, -, -, -, hlv, -, hs1⟩)
  have hrl := reads_row hlv
  rw [← HL.out] at hrl
  have HRL := Lib.hid hrl
  have HR1 := Lib.hid (HR.out.since hs1)
  have HS1 := Lib.hid hs1
  clear hlv hrl hs1 HE HR HL
  go_upto_region 7 with (go_at_call 17; refine (eseq_ref l L p n HN.out HLN.out (by omega) cap n ao _ b off _ _ w1 HR1.out HRL.out ⟨hp0, by omega⟩ HLR.out).mono ?_; rintro e w2 ⟨va, pv, B, rfl, hB, hq, hs2⟩)
  have hqn := RefN_le l L p
  rw [HN.out] at hqn
  obtain ⟨N, hNN⟩ : ∃ N, RefN l L p = N := ⟨_, rfl⟩
  rw [hNN] at hq hqn
  have HNN := Lib.hid hNN
  obtain ⟨aa, ca, rfl⟩ := hq.shape
  have HQ2 := Lib.hid hq
  have HRL2 := Lib.hid (HRL.out.since hs2)
  have HR2 := Lib.hid (HR1.out.since hs2)
  have HS2 := Lib.hid (Since.then HS1.out hs2 HS1.out.size)
  clear hq hs2 HR1 HRL HS1 hNN hB
  go_upto_region 10 with (go_at_call 20; refine (rmatch_any l n HN.out cap ao b off w2 HR2.out (by omega)).mono ?_; rintro e w3 ⟨bm, rfl, -, hrm, hs3⟩)
  have HQ3 := Lib.hid (HQ2.out.since hs3)
  have HRL3 := Lib.hid (HRL2.out.since hs3)
  have HR3 := Lib.hid (HR2.out.since hs3)
  have HS3 := Lib.hid (Since.then HS2.out hs3 HS2.out.size)
  have HM3 := Lib.hid hrm
  clear hrm hs3 HQ2 HRL2 HR2 HS2
  go_upto_region 11 with fail
  obtain ⟨w4, hw4⟩ : ∃ w4, w4 = w3.alloc (.cells (madeCells #[.bool false] n) 4) := ⟨_, rfl⟩
  obtain ⟨bs, hbs⟩ : ∃ bs, bs = w3.heap.size := ⟨_, rfl⟩
  have hs4 : w3.Since w3.heap.size w4 := by rw [hw4]; exact since_alloc1 _ _
  have hrow : w4.rowIs bs 4 n (fun x => .bool (seenF l L p 0 (-1) x)) := by
    rw [hw4, hbs]
    exact (World.rowIs_made w3 (.bool false) n 4).congr (fun x _ => by rw [seen_start])
  rw [← hw4, ← hbs]
  have HROW := Lib.hid hrow
  have HS4 := Lib.hid hs4
  have HBS := Lib.hid hbs
  clear hrow hs4 hw4 hbs hmk
  go_wp2_with fail
  go_loopg [13] N (fun g s13 wr => ∃ i : Nat, i ≤ N ∧ g = N - i ∧ s13 = .int .i64 i ∧ w3.Since w3.heap.size wr ∧ wr.rowIs bs 4 n (fun x => .bool (seenF l L p i (-1) x)))
  case atStart => exact ⟨0, by omega, by omega, rfl, HS4.out, HROW.out⟩
  case round =>
    clear HROW HS4
    obtain ⟨i, hi, rfl, rfl, hsr, hrow⟩ := hrel
    by_cases hlt : i < N
    · have hiz : (i : Int) < (N : Int) := by omega
      obtain ⟨o1, o2, o3, o4⟩ := once_law l L p HONE.out i (by rw [HNN.out]; exact hlt)
      obtain ⟨gg, cg, hea, -, -⟩ := HQ3.out.form (by omega)
      injection hea with e1 e2 e3
      clear e2 e3
      subst e1
      obtain ⟨m, hm⟩ : ∃ m, (RefS l L p i).pl.length = m := ⟨_, rfl⟩
      rw [hm] at o1 o2 o3
      have hml : m ≤ 2000 := by rw [← hm]; have := RefS_le l L p i; rw [HN.out] at this; omega
      have HMM := Lib.hid hm
      have HO2 := Lib.hid o2
      have HO3 := Lib.hid o3
      have HO4 := Lib.hid o4
      obtain ⟨w5, hw5⟩ : ∃ w5, w5 = wr := ⟨_, rfl⟩
      subst hw5
      have hcell : ∀ wx : World, w3.Since w3.heap.size wx → ∃ xa xc xb, wx.cell? ⟨gg, i * 4, none⟩ = some (.slice xa m xc) ∧ wx.cell? ⟨gg, i * 4 + 1, none⟩ = some (.int .u8 (RefS l L p i).lev) ∧ Reads wx .i64 xa xb 0 (RefS l L p i).pl := by
        intro wx hs
        have hq := HQ3.out.since hs
        obtain ⟨a0, a1, -, -⟩ := hq.cells hlt
        obtain ⟨xa, xc, xb, e, hr⟩ := own_reads (hq.pls i hlt) rfl
        rw [e, HMM.out] at a0
        exact ⟨xa, xc, xb, a0, a1, hr⟩
      have HCELL := Lib.hid hcell
      clear o2 o3 o4 hm hcell
      go_wp2_with fail
      go_loopg [14, 15] m (fun g s14 s15 wr => ∃ k : Nat, k ≤ m ∧ g = m - k ∧ s15 = .int .i64 k ∧ s14 = .int .i64 (lastOf (RefS l L p i).pl k) ∧ w3.Since w3.heap.size wr ∧ wr.rowIs bs 4 n (fun x => .bool (seenF l L p i (lastOf (RefS l L p i).pl k) x)))
      case atStart => exact ⟨0, by omega, by omega, rfl, rfl, hsr, hrow⟩
      case round =>
        clear hsr hrow
        obtain ⟨k, hk, rfl, rfl, rfl, hsr, hrow⟩ := hrel
        obtain ⟨xa, xc, xb, c0, c1, hrd⟩ := HCELL.out _ hsr
        by_cases hlt2 : k < m
        · have hkz : (k : Int) < (m : Int) := by omega
          obtain ⟨p', q1, q2, q3, q4, q5, q6, q7, q8⟩ := HO2.out k hlt2
          have cp := hrd.cell k (by rw [HMM.out]; exact hlt2)
          rw [Nat.zero_add, q1] at cp
          obtain rfl := hrd.spot (by rw [HMM.out]; omega)
          have hpl : p' < n := by rw [← HN.out]; exact q2
          have s1 := hrow.cell hpl
          rw [seen_before q3 q6] at s1
          have s2 := hrow.frozen p'
          have l1 := (HR3.out.since hsr).cell p' q2
          obtain rfl := HR3.out.spot (by omega)
          have v1 := (HRL3.out.since hsr).cell p' (by rw [HLN.out]; exact hpl)
          rw [Nat.zero_add, q5] at v1
          have hnext : ∀ q, w3.Since w3.heap.size ((wr.drewN q).setCell ⟨bs, p', none⟩ (.bool true)) ∧ ((wr.drewN q).setCell ⟨bs, p', none⟩ (.bool true)).rowIs bs 4 n (fun x => .bool (seenF l L p i (lastOf (RefS l L p i).pl (k + 1)) x)) := by
            intro q
            refine ⟨(sinceN hsr q).setCell (by rw [HBS.out]; exact Nat.le_refl _) _, ((hrow.of_block (w' := wr.drewN q) rfl).set p' _).congr (fun x _ => ?_)⟩
            have e : lastOf (RefS l L p i).pl (k + 1) = p' := by unfold lastOf; rw [if_neg (by omega), Nat.add_sub_cancel, q1]
            rw [e, ← seen_step q3 q4 q6 q7 x]
            split <;> rfl
          have HNX := Lib.hid hnext
          have HLAST : Hid (lastOf (RefS l L p i).pl (k + 1) = p') := by show _ = _; unfold lastOf; rw [if_neg (by omega), Nat.add_sub_cancel, q1]
          have hyn : 0 < k → ∃ yn : Nat, lastOf (RefS l L p i).pl k = yn ∧ yn < n := by
            intro h0
            obtain ⟨p2, r1, r2, -⟩ := HO2.out (k - 1) (by omega)
            exact ⟨p2, by unfold lastOf; rw [if_neg (by omega)]; exact r1, by rw [← HN.out]; exact r2⟩
          have hy0 : k = 0 → lastOf (RefS l L p i).pl k = -1 := by intro h0; unfold lastOf; rw [if_pos h0]
          have HYN := Lib.hid hyn
          have HY0 := Lib.hid hy0
          have HQ8 := Lib.hid q8
          have hyb : -1 ≤ lastOf (RefS l L p i).pl k := by
            by_cases h0 : k = 0
            · rw [hy0 h0]; exact Int.le_refl _
            · obtain ⟨yn, h1, -⟩ := hyn (by omega); omega
          generalize hc : l.getD p' 0 = c at *
          generalize hlev : (RefS l L p i).lev = lev at *
          obtain ⟨y, hy⟩ : ∃ y, lastOf (RefS l L p i).pl k = y := ⟨_, rfl⟩
          rw [hy] at HYN HY0 HQ8 q3 hyb ⊢
          have hll : (lev != lev) = false := by simp
          have t1 : decide ((p' : Int) ≤ y) = false := by simp; omega
          have t2 : decide ((n : Int) ≤ (p' : Int)) = false := by simp; omega
          have t3 : decide (n ≤ p') = false := by simp; omega
          clear hnext hyn hy0 q1 q2 q5 q6 q7 q8 hrow hrd hc hlev hy
          go_upto_region 19 with fail
          go_quiet ((go_at_call 21; exact Calls.quiet_of_same (v := .bool false) ((rRemoved_any _ _).mono fun _ _ ⟨h1, h2⟩ => ⟨by rw [h1, q4], h2.symm⟩)))
          obtain ⟨hs6, hr6⟩ := HNX.out nq
          have HS6 := Lib.hid hs6
          have HR6 := Lib.hid hr6
          clear hs6 hr6 hsr HNX
          go_wp2_with fail
          go_loopg [17] (p' + 1 - (y + 1).toNat) (fun g s17 wx => ∃ j : Nat, j ≤ p' ∧ y < j ∧ g = p' + 1 - j ∧ s17 = .int .i64 j ∧ w3.Since w3.heap.size wx ∧ wx.rowIs bs 4 n (fun x => .bool (seenF l L p i (lastOf (RefS l L p i).pl (k + 1)) x)))
          case atStart => exact ⟨(y + 1).toNat, by omega, by omega, by omega, by (congr 1; omega), HS6.out, HR6.out⟩
          case round =>
            clear HS6 HR6
            obtain ⟨j, hj, hyj, rfl, rfl, hsr, hrow⟩ := hrel
            have HSR := Lib.hid hsr
            have HRW := Lib.hid hrow
            by_cases hk0 : k = 0
            · have u1 : decide ((0 : Int) < (k : Int)) = false := by simp; omega
              have u1' : decide (0 < k) = false := by simp; omega
              clear hk0 hsr hrow
              go_wp2_with fail
              go_roundg (m - (k + 1))
              case measure => go_light; omega
              case rel => go_light; exact ⟨k + 1, by omega, rfl, by go_num, by rw [HLAST.out], HSR.out, HRW.out⟩
            · have u1 : decide ((0 : Int) < (k : Int)) = true := by simp; omega
              have u1' : decide (0 < k) = true := by simp; omega
              have hk1 : 0 < k := by omega
              obtain ⟨yn, hyn1, hyn2⟩ := HYN.out hk1
              have hya : 0 ≤ y := by omega
              have hyb2 : y < (n : Int) := by omega
              have hyt : y.toNat = yn := by omega
              have hq8 := HQ8.out hk1 j
              clear hyn1
              clear hk0
              by_cases hjp : j < p'
              · have hjz : (j : Int) < (p' : Int) := by omega
                have hq9 := hq8 hyj hjp
                have lj := (HR3.out.since hsr).cell j (by rw [HN.out]; omega)
                have mj : wr.cell? ⟨bm, y.toNat, none⟩ = some (.int .i64 (rmat l y.toNat)) := by
                  rw [hsr.cell (a := ⟨bm, y.toNat, none⟩) HM3.out.lt]; exact HM3.out.cell (by rw [hyt]; exact hyn2)
                clear hyt
                generalize l.getD j 0 = cj at *
                clear hsr hrow hq8
                by_cases hrj : remB cj = true
                · clear hq9
                  go_wp2_with (go_at_call 21; refine (rRemoved_any _ _).mono ?_; rintro e w' ⟨rfl, rfl⟩)
                  go_roundg (p' + 1 - (j + 1))
                  case measure => go_light; omega
                  case rel => go_light; exact ⟨j + 1, by omega, by omega, rfl, by go_num, HSR.out, HRW.out⟩
                · have hrj' : remB cj = false := by simpa using hrj
                  have hmm : rmat l y.toNat = p' := by
                    rcases hq9 with h | h
                    · exact absurd h hrj
                    · exact h
                  rw [hmm] at mj
                  have hpp : ((p' : Int) != (p' : Int)) = false := by simp
                  clear hq9 hrj hmm
                  go_wp2_with (go_at_call 21; refine (rRemoved_any _ _).mono ?_; rintro e w' ⟨rfl, rfl⟩)
                  go_roundg (p' + 1 - (j + 1))
                  case measure => go_light; omega
                  case rel => go_light; exact ⟨j + 1, by omega, by omega, rfl, by go_num, HSR.out, HRW.out⟩
              · obtain rfl : j = p' := by omega
                have hjz : ¬ ((j : Int) < (j : Int)) := by omega
                clear hsr hrow hq8 hyt
                go_wp2_with fail
                go_roundg (m - (k + 1))
                case measure => go_light; omega
                case rel => go_light; exact ⟨k + 1, by omega, rfl, by go_num, by rw [HLAST.out], HSR.out, HRW.out⟩
        · obtain rfl : k = m := by omega
          have hkz : ¬ ((k : Int) < (k : Int)) := by omega
          have hrow2 : wr.rowIs bs 4 n (fun x => .bool (seenF l L p (i + 1) (-1) x)) := hrow.congr (fun x hx => by rw [seen_end HO3.out (by rw [HN.out]; exact hx)])
          have m0 : ((k : Int) == 0) = false := by simp; omega
          have HSR := Lib.hid hsr
          have HROW2 := Lib.hid hrow2
          by_cases hi0 : i = 0
          · have u1 : decide ((0 : Int) < (i : Int)) = false := by simp; omega
            have u1' : decide (0 < i) = false := by simp; omega
            clear hrow hrow2 hrd hsr hi0
            go_upto_region 28 with fail
            go_quiet (fail)
            go_wp2_with fail
            go_roundg (N - (i + 1))
            case measure => go_light; omega
            case rel => go_light; exact ⟨i + 1, by omega, rfl, by go_num, sinceN HSR.out nq, HROW2.out.of_block rfl⟩
          · have u1 : decide ((0 : Int) < (i : Int)) = true := by simp; omega
            have u1' : decide (0 < i) = true := by simp; omega
            have f0 := hrd.cell 0 (by rw [HMM.out]; omega)
            obtain rfl := hrd.spot (by rw [HMM.out]; omega)
            obtain ⟨o1', -⟩ := once_law l L p HONE.out (i - 1) (by rw [HNN.out]; omega)
            have hord := HO4.out (i - 1) (by omega)
            have hq := HQ3.out.since hsr
            obtain ⟨a0, -, -, -⟩ := hq.cells (j := i - 1) (by omega)
            obtain ⟨ya, yc, yb, ey, hry⟩ := own_reads (hq.pls (i - 1) (by omega)) rfl
            have g0 := hry.cell 0 o1'
            obtain rfl := hry.spot o1'
            rw [ey] at a0
            generalize (RefS l L p (i - 1)).pl.getD 0 0 = P1 at *
            generalize (RefS l L p i).pl.getD 0 0 = P0 at *
            generalize (RefS l L p (i - 1)).pl.length = m2 at *
            have u2 : decide (P0 ≤ P1) = false := by simp; omega
            have hi1 : ((i : Int) - 1).toNat = i - 1 := by omega
            have hi3 : 0 < i := by omega
            clear hrow hrow2 hrd hsr hq hry ey hord hi0
            go_upto_region 28 with fail
            go_quiet (fail)
            go_wp2_with fail
            go_roundg (N - (i + 1))
            case measure => go_light; omega
            case rel => go_light; exact ⟨i + 1, by omega, rfl, by go_num, sinceN HSR.out nq, HROW2.out.of_block rfl⟩
    · obtain rfl : i = N := by omega
      have hiz : ¬ ((i : Int) < (i : Int)) := by omega
      obtain ⟨w5, hw5⟩ : ∃ w5, w5 = wr := ⟨_, rfl⟩
      subst hw5
      have HSR := Lib.hid hsr
      have HROW := Lib.hid hrow
      clear hsr hrow
      go_wp2_with fail
      go_loopg [18] n (fun g s18 wr => ∃ j : Nat, j ≤ n ∧ g = n - j ∧ s18 = .int .i64 j ∧ w5.Since w5.heap.size wr)
      case atStart => exact ⟨0, by omega, by omega, rfl, World.Since.refl _ _⟩
      case round =>
        obtain ⟨j, hj, rfl, rfl, hsr⟩ := hrel
        by_cases hlt2 : j < n
        · have hjz : (j : Int) < (n : Int) := by omega
          have s1 : wr.cell? ⟨bs, j, none⟩ = some (.bool (!remB (l.getD j 0))) := by
            have := HROW.out.cell hlt2
            rw [← HNN.out, seen_fin l L p (by rw [HN.out]; exact hlt2)] at this
            rw [hsr.cell (a := ⟨bs, j, none⟩) HROW.out.lt]
            exact this
          have l1 := ((HR3.out.since HSR.out).since hsr).cell j (by rw [HN.out]; exact hlt2)
          obtain rfl := HR3.out.spot (by rw [HN.out]; omega)
          have HSR2 := Lib.hid hsr
          generalize l.getD j 0 = c at *
          clear hsr
          cases hrm : remB c with
          | true =>
            rw [hrm] at s1
            simp only [Bool.not_true] at s1
            go_upto_region 33 with fail
            go_quiet ((go_at_call 21; exact Calls.quiet_of_same ((rRemoved_any _ _).mono fun _ _ ⟨h1, h2⟩ => ⟨by rw [h1, hrm], h2.symm⟩)))
            go_wp2_with fail
            go_roundg (n - (j + 1))
            case measure => go_light; omega
            case rel => go_light; exact ⟨j + 1, by omega, rfl, by go_num, sinceN HSR2.out nq⟩
          | false =>
            rw [hrm] at s1
            simp only [Bool.not_false] at s1
            go_upto_region 33 with fail
            go_quiet ((go_at_call 21; exact Calls.quiet_of_same ((rRemoved_any _ _).mono fun _ _ ⟨h1, h2⟩ => ⟨by rw [h1, hrm], h2.symm⟩)))
            go_wp2_with fail
            go_roundg (n - (j + 1))
            case measure => go_light; omega
            case rel => go_light; exact ⟨j + 1, by omega, rfl, by go_num, sinceN HSR2.out nq⟩
        · obtain rfl : j = n := by omega
          have hjz : ¬ ((j : Int) < (j : Int)) := by omega
          go_wp2_with (go_at_call 15; refine (isolates_any _).mono ?_; rintro e w' ⟨rfl, hs9⟩)
          go_ret
          exact ⟨rfl, Since.then HS3.out (Since.then HSR.out (Since.then hsr hs9 hsr.size) HSR.out.size) HS3.out.size⟩
end Go.Proofs.Ytkfjhannbnijkaa
