/- The law EmbedSequences, walked. -/
import Derived.Test.YtkfjhannbnijkaaL
namespace Go.Proofs.Ytkfjhannbnijkaa
open Go.RowKit

set_option maxRecDepth 100000 in
set_option maxHeartbeats 4000000 in
theorem law3_long (n nl cap cl : Nat) (ao al : Option Addr) (base : Int) (w : World) (h : 2000 < n ∨ 2000 < nl) (hm : n ≤ maxLen ∧ nl ≤ maxLen) :
    Calls Try.prog 3 #[.slice ao n cap, .slice al nl cl, .int .u8 base] w (Since0 w (.bool true)) := by
  unfold maxLen at hm
  by_cases h1 : 2000 < n
  · have d1 : decide ((2000 : Int) < (n : Int)) = true := by simp; omega
    go_enter Try.func3, Try.ntmps3
    go_wp2_with (go_at_call 15; refine (isolates_any _).mono ?_; rintro e w' ⟨rfl, hs⟩)
    go_ret
    exact ⟨rfl, hs⟩
  · have d1 : decide ((2000 : Int) < (n : Int)) = false := by simp; omega
    have d2 : decide ((2000 : Int) < (nl : Int)) = true := by simp; omega
    go_enter Try.func3, Try.ntmps3
    go_wp2_with (go_at_call 15; refine (isolates_any _).mono ?_; rintro e w' ⟨rfl, hs⟩)
    go_ret
    exact ⟨rfl, hs⟩

set_option maxRecDepth 100000 in
set_option maxHeartbeats 4000000 in
theorem law3_any (l L : List Int) (base : Int) (n nl : Nat) (hn : l.length = n) (hnl : L.length = nl) (hlen : n ≤ 2000 ∧ nl ≤ 2000) (cap cl : Nat) (ao al : Option Addr) (b off bl ol : Nat) (w : World)
    (hR : Reads w .u8 ao b off l) (hL : Reads w .u8 al bl ol L) (hb : 0 ≤ base ∧ base ≤ 255) (hLr : ∀ i, 0 ≤ L.getD i 0 ∧ L.getD i 0 ≤ 255) (hca : ao = none → cap = 0) (hcl : al = none → cl = 0) :
    Calls Try.prog 3 #[.slice ao n cap, .slice al nl cl, .int .u8 base] w (Since0 w (.bool true)) := by
  obtain ⟨hn1, hn2⟩ := hlen
  have d1 : decide ((2000 : Int) < (n : Int)) = false := by simp; omega
  have d2 : decide ((2000 : Int) < (nl : Int)) = false := by simp; omega
  obtain ⟨x, N, S, hN, hS, hE, hF⟩ := seq_all l L base n nl hn hnl (by omega) hb hLr
  have HE := Lib.hid hE
  have HF := Lib.hid hF
  have HSL := Lib.hid hS
  clear hE hF hS hLr hb
  have hxx : (x != x) = false := by simp
  obtain ⟨i34, hi34, hz34, hz34b, hz34c⟩ := info_parts Try.info34
  obtain ⟨i5, hi5, hz5, hz5b, hz5c⟩ := info_parts Try.info5
  go_enter Try.func3, Try.ntmps3
  go_upto_region 6 with (at_builtin; refine wpList_append_read rfl _ _ _ rfl w.heap.size 34 i34 _ 1 Try.underlying22 hi34 hz34 hz34b hz34c rfl _ 0 [] rfl (World.ownsRow_nil _ _ _ _) hR hn hca rfl (by unfold maxLen; omega) (by omega) (Nat.le_refl _) ?_; intro vc w1 hc1 hg1)
  simp only [List.nil_append, Nat.zero_add] at hc1
  have hs1 : w.Since w.heap.size w1 := grown_since hg1 (fun r e => by cases e)
  have hR1 := hR.since hs1
  have hL1 := hL.since hs1
  clear hg1
  go_upto_region 7 with (at_builtin; refine wpList_append_read rfl _ _ _ rfl w1.heap.size 5 i5 _ 1 Try.underlying23 hi5 hz5 hz5b hz5c rfl _ 0 [] rfl (World.ownsRow_nil _ _ _ _) hL1 hnl hcl rfl (by unfold maxLen; omega) (by omega) (Nat.le_refl _) ?_; intro vn w2 hc2 hg2)
  simp only [List.nil_append, Nat.zero_add] at hc2
  have hs2 : w1.Since w1.heap.size w2 := grown_since hg2 (fun r e => by cases e)
  have hR2 := hR1.since hs2
  have hL2 := hL1.since hs2
  have hc1' := own_since hc1 hs2 (fun r e => (hc1.lt r e).2)
  clear hg2 hR1 hL1 hc1
  go_upto_region 8 with (go_at_call 16; refine (HF.out _ _ _ _ _ _ _ _ _ hR2 hL2).mono ?_; rintro e w3 ⟨vb, pb, BB, rfl, hBB, hQB, hs3⟩)
  have hR3 := hR2.since hs3
  have hL3 := hL2.since hs3
  obtain ⟨ca, cc, cb, rfl, hC, -⟩ := own_readsK (own_since hc1' hs3 (fun r e => (hc1'.lt r e).2)) hn
  obtain ⟨na, nc, nb, rfl, hNN, -⟩ := own_readsK (own_since hc2 hs3 (fun r e => (hc2.lt r e).2)) hnl
  have hs : w.Since w.heap.size w3 := Since.then (Since.then hs1 hs2 hs1.size) hs3 (by have := hs1.size; have := hs2.size; omega)
  clear hR2 hL2 hc1' hc2 hs1 hs2 hs3 hBB
  obtain ⟨ab, cbb, rfl⟩ := hQB.shape
  have HQB := Lib.hid hQB
  have HC := Lib.hid hC
  have HNN := Lib.hid hNN
  have HR3 := Lib.hid hR3
  have HL3 := Lib.hid hL3
  have HS := Lib.hid hs
  clear hQB hC hNN hR3 hL3 hs hR hL
  go_wp2_with fail
  go_loopg [11] 2 (fun g s11 wr => ∃ t : Nat, t ≤ 2 ∧ g = 2 - t ∧ s11 = .int .i64 t ∧ w3.Since w3.heap.size wr)
  case atStart => exact ⟨0, by omega, rfl, rfl, World.Since.refl _ _⟩
  case round =>
    obtain ⟨t, ht, rfl, rfl, hsr⟩ := hrel
    by_cases hlt : t < 2
    · have htz : (t : Int) < 2 := by omega
      go_upto_region 12 with (go_at_call 17; refine (HE.out _ _ _ _ _ _ _ _ _ (HC.out.since hsr) (HNN.out.since hsr)).mono ?_; rintro e w4 ⟨va, pv, B, rfl, hB, hQ, hs4⟩)
      have hs34 : w3.Since w3.heap.size w4 := Since.then hsr hs4 hsr.size
      have hQB4 := HQB.out.since hs34
      obtain ⟨aa, ca2, rfl⟩ := hQ.shape
      have HQ := Lib.hid hQ
      have HQB4 := Lib.hid hQB4
      have HB : Hid (w3.heap.size ≤ B) := by have := hsr.size; exact Nat.le_trans this hB
      clear hQ hQB4 hs4 hB hsr
      go_upto_region 14 with (go_at_call 18; refine (alike_any HQ.out HQB4.out (fun _ _ => rfl) (fun j _ => by have := HSL.out j; omega) (by omega)).mono ?_; rintro e w5 ⟨rfl, m, hw5⟩; have HW5 := Lib.hid hw5; clear hw5; have hcv1 := conv_reads (w := w5) (b := nb) (off := 0) (ao := na) (c := nc) (l := L) (by rw [HW5.out]; exact (HNN.out.since hs34).drewN m) hnl 9 Try.underlying9; have hcv2 := conv_reads (w := w5) (b := bl) (off := ol) (ao := al) (c := cl) (l := L) (by rw [HW5.out]; exact (HL3.out.since hs34).drewN m) hnl 9 Try.underlying9)
      have hs5 : w3.Since w3.heap.size w5 := by rw [HW5.out]; exact sinceN hs34 m
      have hq5 : Seqs w5 B 36 (.slice aa N ca2) N pv S := by rw [HW5.out]; exact HQ.out.drewN m
      clear hcv1 hcv2 HW5 HQ HQB4 hs34
      obtain ⟨w6, hw6⟩ : ∃ w6, w6 = w5 := ⟨_, rfl⟩
      subst hw6
      go_wp2_with fail
      go_loopg [14] N (fun g s14 wr => ∃ (i : Nat) (sd : Nat → SeqD), i ≤ N ∧ g = N - i ∧ s14 = .int .i64 i ∧ w3.Since w3.heap.size wr ∧ Seqs wr B 36 (.slice aa N ca2) N pv sd ∧ ∀ j, (sd j).pl.length ≤ 65536)
      case atStart => exact ⟨0, S, by omega, by omega, rfl, hs5, hq5, HSL.out⟩
      case round =>
        clear hs5 hq5
        obtain ⟨i, sd, hi, rfl, rfl, hs5, hq5, hl5⟩ := hrel
        by_cases hlt2 : i < N
        · have hiz : (i : Int) < (N : Int) := by omega
          obtain ⟨gg, cg, hea, -, -⟩ := hq5.form (by omega)
          injection hea with e1 e2 e3
          clear e2 e3
          subst e1
          have hl6 := hl5 i
          obtain ⟨lp, hlp⟩ : ∃ lp, lp = (sd i).pl.length := ⟨_, rfl⟩
          rw [← hlp] at hl6
          have HLP := Lib.hid hlp
          clear hlp
          obtain ⟨xa, xc, xb, exa, hxa⟩ : ∃ a c b, pv i = .slice a lp c ∧ (0 < lp → a = some ⟨b, 0, none⟩) := by
            obtain ⟨a, c, b, h1, h2⟩ := own_reads (hq5.pls i hlt2) rfl
            exact ⟨a, c, b, by rw [HLP.out]; exact h1, fun h => h2.spot (by rw [← HLP.out]; exact h)⟩
          have HXA := Lib.hid exa
          have HXB := Lib.hid hxa
          clear exa hxa
          obtain ⟨w7, hw7⟩ : ∃ w7, w7 = wr := ⟨_, rfl⟩
          subst hw7
          go_wp2_with fail
          go_loopg [15] lp (fun g s15 wr => ∃ (k : Nat) (sd : Nat → SeqD), k ≤ lp ∧ g = lp - k ∧ s15 = .int .i64 k ∧ w3.Since w3.heap.size wr ∧ Seqs wr B 36 (.slice (some ⟨gg, 0, none⟩) N ca2) N pv sd ∧ (∀ j, (sd j).pl.length ≤ 65536) ∧ Hid ((sd i).pl.length = lp))
          case atStart => exact ⟨0, sd, by omega, by omega, rfl, hs5, hq5, hl5, HLP.out.symm⟩
          case round =>
            clear hs5 hq5 hl5
            obtain ⟨k, sd, hk, rfl, rfl, hs5, hq5, hl5, HLP2⟩ := hrel
            have c0 := (hq5.cells hlt2).1
            rw [HXA.out] at c0
            by_cases hlt3 : k < lp
            · have hkz : (k : Int) < (lp : Int) := by omega
              obtain rfl := HXB.out (by omega)
              have hown := hq5.pls i hlt2
              rw [HXA.out, HLP2.out] at hown
              have c1 : wr.cell? ⟨xb, k, none⟩ = some (.int .i64 ((sd i).pl.getD k 0)) := by
                rw [hown.cellAt k (by omega), List.getElem?_map, List.getElem?_eq_getElem (by rw [HLP2.out]; exact hlt3), List.getD_eq_getElem?_getD, List.getElem?_eq_getElem (by rw [HLP2.out]; exact hlt3)]
                rfl
              have c2 : wr.frozen? ⟨xb, k, none⟩ = false := hown.frozenAt k
              have hlow : w3.heap.size ≤ xb := by have := (hown.lt xb rfl).1; have := HB.out; omega
              have hp := hq5.poke hlt2 (g := xb) (c := xc) (by rw [HXA.out, HLP2.out]) k 0
              have hs6 := hs5.setCell (a := ⟨xb, k, none⟩) hlow (.int .i64 0)
              have HP := Lib.hid hp
              have HS6 := Lib.hid hs6
              have HL5 := Lib.hid hl5
              generalize (sd i).pl.getD k 0 = y0 at *
              clear hown hp hs6 hq5 hs5 hl5
              go_wp2_with fail
              go_roundg (lp - (k + 1))
              case measure => go_light; omega
              case rel =>
                go_light
                refine ⟨k + 1, _, by omega, rfl, by go_num, HS6.out, HP.out, fun j => ?_, ?_⟩
                · simp only [updS]
                  split
                  · simp only [List.length_set]; exact HL5.out i
                  · exact HL5.out j
                · show _ = _
                  simp only [updS, if_true, List.length_set]; exact HLP2.out
            · obtain rfl : k = lp := by omega
              have hkz : ¬ ((k : Int) < (k : Int)) := by omega
              go_wp2_with fail
              go_roundg (N - (i + 1))
              case measure => go_light; omega
              case rel => go_light; exact ⟨i + 1, sd, by omega, rfl, by go_num, hs5, hq5, hl5⟩
        · obtain rfl : i = N := by omega
          have hiz : ¬ ((i : Int) < (i : Int)) := by omega
          go_wp2_with fail
          go_roundg (2 - (t + 1))
          case measure => go_light; omega
          case rel => go_light; exact ⟨t + 1, by omega, rfl, by go_num, hs5⟩
    · obtain rfl : t = 2 := by omega
      obtain ⟨w6, hw6⟩ : ∃ w6, w6 = wr := ⟨_, rfl⟩
      subst hw6
      go_wp2_with fail
      go_loopg [16] n (fun g s16 wr => ∃ i : Nat, i ≤ n ∧ g = n - i ∧ s16 = .int .i64 i ∧ w3.Since w3.heap.size wr)
      case atStart => exact ⟨0, by omega, by omega, rfl, hsr⟩
      case round =>
        clear hsr
        obtain ⟨i, hi, rfl, rfl, hsr⟩ := hrel
        by_cases hlt2 : i < n
        · have hiz : (i : Int) < (n : Int) := by omega
          have c1 := (HC.out.since hsr).cell i (by omega)
          have c2 := (HR3.out.since hsr).cell i (by omega)
          obtain rfl := HC.out.spot (by omega)
          obtain rfl := HR3.out.spot (by omega)
          rw [Nat.zero_add] at c1
          generalize l.getD i 0 = y at *
          have hyy : (y != y) = false := by simp
          go_upto_region 24 with fail
          go_quiet (fail)
          go_wp2_with fail
          go_roundg (n - (i + 1))
          case measure => go_light; omega
          case rel => go_light; exact ⟨i + 1, by omega, rfl, by go_num, sinceN hsr nq⟩
        · obtain rfl : i = n := by omega
          have hiz : ¬ ((i : Int) < (i : Int)) := by omega
          go_wp2_with (go_at_call 15; refine (isolates_any _).mono ?_; rintro e w' ⟨rfl, hs9⟩)
          go_ret
          exact ⟨rfl, Since.then HS.out (Since.then hsr hs9 hsr.size) HS.out.size⟩
end Go.Proofs.Ytkfjhannbnijkaa
