/- The law EmbedRuns (closed), walked. -/
import Derived.Test.YtkfjhannbnijkaaLyA
namespace Go.Proofs.Ytkfjhannbnijkaa
open Go.RowKit

set_option maxRecDepth 100000 in
set_option maxHeartbeats 8000000 in
theorem law7_any (w : World) : Calls Try.prog 7 #[] w (Since0 w (.bool true)) := by
  obtain ⟨i34, hi34, hz34, hz34b, hz34c⟩ := info_parts Try.info34
  go_enter Try.func7, Try.ntmps7
  go_upto_region 2 with (go_at_call 17; refine (lit1_any w).mono ?_; rintro e w1 ⟨g1, cap1, rfl, a1, a2, a3, a4, hs1⟩)
  have hz1 := hs1.size
  have HS1 := Lib.hid hs1
  clear hs1
  go_upto_region 3 with (go_at_call 17; refine (lit2_any w1).mono ?_; rintro e w2 ⟨g2, cap2, rfl, b1, b2, hs2⟩)
  have hz2 := hs2.size
  have hg1 : g1 < w1.heap.size := World.block_lt_of_cell? _ _ a1
  rw [← hs2.cell (a := ⟨g1, 3, none⟩) hg1] at a1
  rw [← hs2.cell (a := ⟨g1, 6, none⟩) hg1] at a2
  rw [← hs2.cell (a := ⟨g1, 10, none⟩) hg1] at a3
  rw [← hs2.cell (a := ⟨g1, 11, none⟩) hg1] at a4
  have HS2 := Lib.hid (Since.then HS1.out hs2 hz1)
  clear hs2 HS1
  go_upto_region 5 with fail
  clear a1 a2 a3 a4 b1 b2
  go_wp2_with fail
  go_loopg [6, 7] 40 (fun g s6 s7 wr => ∃ k n : Nat, k ≤ 40 ∧ g = 40 - k ∧ n = 2 * k ∧ s7 = .int .i64 k ∧ w2.Since w2.heap.size wr ∧ wr.ownsRow w2.heap.size 34 1 s6 n ((rp 20 2 k).map (Value.int .u8)))
  case atStart => exact ⟨0, 0, by omega, by omega, by omega, rfl, World.Since.refl _ _, World.ownsRow_nil _ _ _ _⟩
  case round =>
    obtain ⟨k, n, hk, rfl, hn, rfl, hs, hown⟩ := hrel
    have HS := Lib.hid hs
    have hsz := hs.size
    have hn' : n ≤ 80 := by omega
    have HN := Lib.hid hn
    clear hs hn
    obtain ⟨va, vc, rfl⟩ := own_form hown
    by_cases hlt : k < 40
    · have hkz : decide ((k : Int) < 40) = true := by simp; omega
      go_wp2_with (at_builtin; refine wpList_append_lies _ rfl _ _ _ rfl w2.heap.size 34 i34 _ 1 1 Try.underlying22 hi34 hz34 hz34b hz34c rfl (by omega) (.slice va n vc) _ _ rfl (hown.alloc _) ⟨wr.heap.size, 0, none⟩ 2 2 [.int .u8 20, .int .u8 2] rfl rfl (World.news_of_block (cs := #[.int .u8 20, .int .u8 2]) (t := 34) (fr := (0, 0)) (heap_alloc_new wr _)) (by simp [Value.oneCell']) (by omega) (by unfold maxLen; omega) (by omega) (by simp; omega) (wr.heap.size + 1) (by simp) ?_; intro gg capg w4 hown4 hgrow4 hat4 hlt4)
      go_roundg (40 - (k + 1))
      case measure => go_light; omega
      case rel =>
        go_light
        have hnn := HN.out
        refine ⟨k + 1, n + 2, by omega, rfl, by omega, by go_num, (HS.out.alloc hsz _).grown hgrow4 (by simp; omega) (fun r e => (hown.lt r e).1), ?_⟩
        rw [rp, List.map_append]
        exact hown4
    · obtain rfl : k = 40 := by omega
      have hkz : decide (((40 : Nat) : Int) < 40) = false := by simp
      obtain rfl : n = 80 := HN.out
      obtain ⟨P, hP⟩ : ∃ P, rp 20 2 40 = P := ⟨_, rfl⟩
      rw [hP] at hown
      have HP := Lib.hid hP
      clear hP
      go_wp2_with fail
      go_loopg [6, 8] 42 (fun g s6 s8 wr => ∃ k n : Nat, k ≤ 42 ∧ g = 42 - k ∧ n = 80 + 2 * k ∧ s8 = .int .i64 k ∧ w2.Since w2.heap.size wr ∧ wr.ownsRow w2.heap.size 34 1 s6 n ((P ++ rp 23 1 k).map (Value.int .u8)))
      case atStart => exact ⟨0, 80, by omega, by omega, by omega, rfl, HS.out, by rw [rp, List.append_nil]; exact hown⟩
      case round =>
        clear hown hsz HS hn' HN hkz
        obtain ⟨k, n, hk, rfl, hn, rfl, hs, hown⟩ := hrel
        have HS := Lib.hid hs
        have hsz := hs.size
        have hn' : n ≤ 164 := by omega
        have HN := Lib.hid hn
        clear hs hn
        obtain ⟨va, vc, rfl⟩ := own_form hown
        by_cases hlt : k < 42
        · have hkz : decide ((k : Int) < 42) = true := by simp; omega
          go_wp2_with (at_builtin; refine wpList_append_lies _ rfl _ _ _ rfl w2.heap.size 34 i34 _ 1 1 Try.underlying22 hi34 hz34 hz34b hz34c rfl (by omega) (.slice va n vc) _ _ rfl (hown.alloc _) ⟨wr.heap.size, 0, none⟩ 2 2 [.int .u8 23, .int .u8 1] rfl rfl (World.news_of_block (cs := #[.int .u8 23, .int .u8 1]) (t := 34) (fr := (0, 0)) (heap_alloc_new wr _)) (by simp [Value.oneCell']) (by omega) (by unfold maxLen; omega) (by omega) (by simp; omega) (wr.heap.size + 1) (by simp) ?_; intro gg capg w4 hown4 hgrow4 hat4 hlt4)
          go_roundg (42 - (k + 1))
          case measure => go_light; omega
          case rel =>
            go_light
            have hnn := HN.out
            refine ⟨k + 1, n + 2, by omega, rfl, by omega, by go_num, (HS.out.alloc hsz _).grown hgrow4 (by simp; omega) (fun r e => (hown.lt r e).1), ?_⟩
            rw [rp, ← List.append_assoc, List.map_append]
            exact hown4
        · obtain rfl : k = 42 := by omega
          have hkz : decide (((42 : Nat) : Int) < 42) = false := by simp
          obtain rfl : n = 164 := HN.out
          obtain ⟨Q, hQ⟩ : ∃ Q, P ++ rp 23 1 42 = Q := ⟨_, rfl⟩
          rw [hQ] at hown
          have HQ := Lib.hid (show Q ++ [11, 21, 20, 23, 22, 3] = runsL by rw [← hQ, ← HP.out]; rfl)
          clear hQ HP
          go_upto_region 14 with (at_builtin; refine wpList_append_lies _ rfl _ _ _ rfl w2.heap.size 34 i34 _ 1 1 Try.underlying22 hi34 hz34 hz34b hz34c rfl (by omega) (.slice va 164 vc) _ _ rfl (hown.alloc _) ⟨wr.heap.size, 0, none⟩ 6 6 [.int .u8 11, .int .u8 21, .int .u8 20, .int .u8 23, .int .u8 22, .int .u8 3] rfl rfl (World.news_of_block (cs := #[.int .u8 11, .int .u8 21, .int .u8 20, .int .u8 23, .int .u8 22, .int .u8 3]) (t := 34) (fr := (0, 0)) (heap_alloc_new wr _)) (by simp [Value.oneCell']) (by omega) (by unfold maxLen; omega) (by omega) (by simp; omega) (wr.heap.size + 1) (by simp) ?_; intro gl capl w5 hl5 hgrow5 hat5 hlt5)
          have e5 : Q.map (Value.int .u8) ++ [Value.int .u8 11, Value.int .u8 21, Value.int .u8 20, Value.int .u8 23, Value.int .u8 22, Value.int .u8 3] = runsL.map (Value.int .u8) := by rw [← HQ.out, List.map_append]; rfl
          rw [e5] at hl5
          have hs5 := (HS.out.alloc hsz (.cells #[.int .u8 11, .int .u8 21, .int .u8 20, .int .u8 23, .int .u8 22, .int .u8 3] 34)).grown hgrow5 (by simp; omega) (fun r e => (hown.lt r e).1)
          obtain ⟨al, cl, bl, hal, hR, hcl⟩ := own_readsK hl5 runsL_len
          injection hal with e6 e7 e8
          subst e6
          have RL := Lib.hid hR
          have HS5 := Lib.hid (Since.then HS2.out hs5 HS2.out.size)
          clear hown e5 hl5 hs5 hgrow5 hat5 hR HS hsz hn' HN HQ e7 e8 hcl hkz HS2
          have H4 := Lib.hid (show ∀ wx, w5.Since w5.heap.size wx → ∀ base : Int, 0 ≤ base ∧ base ≤ 2 → Calls Try.prog 4 #[.slice (some ⟨gl, 0, none⟩) 170 capl, .int .u8 base] wx (Since0 wx (.bool true)) from fun wx hs base hb => law4_any runsL 170 runsL_len (by omega) capl _ bl 0 wx (RL.out.since hs) base runsL_valid hb)
          have H3 := Lib.hid (show ∀ wx n, w5.Since w5.heap.size wx → n ≤ 200 → Calls Try.prog 3 #[.slice (some ⟨gl, 0, none⟩) 170 capl, .slice (some ⟨wx.heap.size, 0, none⟩) n n, .int .u8 0] (wx.alloc (.cells (madeCells #[Value.int .u8 0] n) 5)) (Since0 (wx.alloc (.cells (madeCells #[Value.int .u8 0] n) 5)) (.bool true)) from fun wx n hs hn => law3_any runsL ((List.range n).map fun _ => 0) 0 170 n runsL_len (by simp) ⟨by omega, by omega⟩ capl n _ _ bl 0 _ 0 _ ((RL.out.since hs).since (since_alloc1 wx _)) (reads_made wx n 5) (by omega) (zeros_range n) (fun e => by cases e) (fun e => by cases e))
          have H3a := Lib.hid (fun wx hs => H3.out wx 170 hs (by omega))
          have H3b := Lib.hid (fun wx hs => H3.out wx 3 hs (by omega))
          have H0 := Lib.hid (show ∀ wx, Calls Try.prog 3 #[.slice none 0 0, .slice none 0 0, .int .u8 9] wx (Since0 wx (.bool true)) from fun wx => law3_any [] [] 9 0 0 rfl rfl ⟨by omega, by omega⟩ 0 0 none none 0 0 0 0 wx (reads_nil _ _) (reads_nil _ _) (by omega) (fun i => by simp) (fun _ => rfl) (fun _ => rfl))
          have hm1 : ∀ wx, (Instr.makeSlice 23 (.int .i64 170) (.int .i64 170)).run Try.prog wx = .ok (.slice (some ⟨wx.heap.size, 0, none⟩) 170 170) (wx.alloc (.cells (madeCells #[Value.int .u8 0] 170) 5)) := fun wx => run_make_row' (P := Try.prog) 23 5 (.int .u8 0) 1 Try.underlying23 Try.info5 rfl .i64 .i64 170 (by omega) (by omega) wx
          have hm2 : ∀ wx, (Instr.makeSlice 23 (.int .i64 3) (.int .i64 3)).run Try.prog wx = .ok (.slice (some ⟨wx.heap.size, 0, none⟩) 3 3) (wx.alloc (.cells (madeCells #[Value.int .u8 0] 3) 5)) := fun wx => run_make_row' (P := Try.prog) 23 5 (.int .u8 0) 1 Try.underlying23 Try.info5 rfl .i64 .i64 3 (by omega) (by omega) wx
          have HZ := Lib.hid (World.Since.refl w5.heap.size w5)
          clear RL
          go_upto_region 15 with (first
            | (go_at_call 4; refine (H4.out _ HZ.out _ (by omega)).mono ?_; rintro e wn ⟨rfl, hsn⟩; replace HZ := Lib.hid (Since.then HZ.out hsn HZ.out.size); clear hsn)
            | (go_at_call 3; ((with_reducible refine (H3a.out _ HZ.out).mono ?_); rintro e wn ⟨rfl, hsn⟩; replace HZ := Lib.hid (Since.then (HZ.out.alloc HZ.out.size _) hsn (by have := HZ.out.size; simp; omega)); clear hsn))
            | (go_at_call 3; ((with_reducible refine (H3b.out _ HZ.out).mono ?_); rintro e wn ⟨rfl, hsn⟩; replace HZ := Lib.hid (Since.then (HZ.out.alloc HZ.out.size _) hsn (by have := HZ.out.size; simp; omega)); clear hsn))
            | (go_at_call 3; ((with_reducible refine (H0.out _).mono ?_); rintro e wn ⟨rfl, hsn⟩; replace HZ := Lib.hid (Since.then HZ.out hsn HZ.out.size); clear hsn)))
          have HS6 := Lib.hid (Since.then HS5.out HZ.out HS5.out.size)
          clear H4 H3 H3a H3b H0 hm1 hm2 HZ HS5
          generalize wn = w6 at *
          obtain ⟨M, hm1, hm2, -⟩ := made_pack 65537 65537 rfl (by omega)
          go_cut [11] (fun s11 wx => s11 = .int .i64 3 ∧ w6.Since w6.heap.size wx)
          case first =>
            go_region_with (first | (go_at_call 17; ((with_reducible refine (eseq_limit 65537 65537 65537 65537 _ _ 0 _ (by omega) (by omega)).mono ?_); rintro e w' ⟨rfl, rfl⟩)))
            all_goals
              go_wp2_with fail
              go_meet
              exact ⟨rfl, by repeat (first | with_reducible exact World.Since.refl _ _ | with_reducible refine World.Since.drew ?_ | with_reducible refine World.Since.alloc ?_ (by first | omega | (simp; done) | (simp; omega)) _)⟩
          case rest =>
            obtain ⟨rfl, hs7⟩ := hcut
            have HS7 := Lib.hid (Since.then HS6.out hs7 HS6.out.size)
            clear hs7 HS6 hm1 hm2
            generalize wc = w7 at *
            have hm1 : ∀ wx, (Instr.makeSlice 22 (.int .i64 1) (.int .i64 1)).run Try.prog wx = .ok (.slice (some ⟨wx.heap.size, 0, none⟩) 1 1) (wx.alloc (.cells (madeCells #[Value.int .u8 0] 1) 34)) := fun wx => run_make_row' (P := Try.prog) 22 34 (.int .u8 0) 1 Try.underlying22 Try.info34 rfl .i64 .i64 1 (by omega) (by omega) wx
            go_upto_region 17 with (go_at_call 17; ((with_reducible refine (eseq_arg 1 0 1 0 _ _ 0 _ (by omega) (by omega)).mono ?_); rintro e w' ⟨rfl, rfl⟩))
            have HS8 := Lib.hid (HS7.out.alloc HS7.out.size (.cells (madeCells #[Value.int .u8 0] 1) 34))
            clear hm1 HS7
            generalize w7.alloc (.cells (madeCells #[Value.int .u8 0] 1) 34) = w8 at *
            obtain ⟨M2, hm1, hm2, Z, hr1, hr2, hcz⟩ := made_pack 65536 65536 rfl (by omega)
            have HR1 := Lib.hid hr1
            have HR2 := Lib.hid hr2
            have HCZ := Lib.hid (hcz (Nat.le_refl _))
            clear hr1 hr2 hcz
            go_cut [15] (fun s15 wx => s15 = .int .i64 0 ∧ w8.Since w8.heap.size wx)
            case first =>
              go_region_with (first | (go_at_call 17; ((with_reducible refine (HCZ.out _ _ _ (by repeat (first | ((with_reducible refine HR1.out _ _ ?_); first | rfl | (simp; done)) | with_reducible refine Reads.since ?_ (since_alloc1 _ _) | with_reducible refine reads_drew0 ?_)) (by repeat (first | ((with_reducible refine HR2.out _ _ ?_); first | rfl | (simp; done)) | with_reducible refine Reads.since ?_ (since_alloc1 _ _) | with_reducible refine reads_drew0 ?_))).mono ?_); rintro e w' ⟨va, rfl, hs⟩)))
              all_goals
                go_wp2_with fail
                go_meet
                have hsz := hs.size
                simp only [World.size_drew, World.size_alloc] at hsz
                exact ⟨rfl, by repeat (first | with_reducible exact World.Since.refl _ _ | with_reducible refine World.Since.drew ?_ | with_reducible refine Since.then ?_ hs (by first | omega | (simp; done) | (simp; omega)) | with_reducible refine World.Since.alloc ?_ (by first | omega | (simp; done) | (simp; omega)) _)⟩
            case rest =>
              obtain ⟨rfl, hs9⟩ := hcut
              have HS9 := Lib.hid (Since.then HS8.out hs9 HS8.out.size)
              clear hs9 HS8 hm1 hm2
              go_wp2_with (go_at_call 15; refine (isolates_any _).mono ?_; rintro e w' ⟨rfl, hs⟩)
              go_ret
              exact ⟨rfl, Since.then HS9.out hs HS9.out.size⟩
end Go.Proofs.Ytkfjhannbnijkaa
