/- The law EmbedKnown (closed), walked. -/
import Derived.Test.YtkfjhannbnijkaaLzB
namespace Go.Proofs.Ytkfjhannbnijkaa
open Go.RowKit

theorem own_at {w : World} {B T g n c : Nat} {P : List Int} {k : IntKind} (h : w.ownsRow B T 1 (.slice (some ⟨g, 0, none⟩) n c) n (P.map (Value.int k))) (hn : P.length = n) : Reads w k (some ⟨g, 0, none⟩) g 0 P := by
  refine ⟨fun _ => rfl, fun i hi => ?_⟩
  rw [Nat.zero_add, h.cellAt i (by omega), List.getElem?_map, List.getElem?_eq_getElem hi, List.getD_eq_getElem?_getD, List.getElem?_eq_getElem hi]
  rfl

set_option maxRecDepth 100000 in
set_option maxHeartbeats 8000000 in
theorem law14_any (w : World) : Calls Try.prog 14 #[] w (Since0 w (.bool true)) := by
  obtain ⟨i34, hi34, hz34, hz34b, hz34c⟩ := info_parts Try.info34
  go_enter Try.func14, Try.ntmps14
  go_upto_region 2 with (go_at_call 26; refine (lvl_lit ka 0 0 5 #[.int .u8 1, .int .u8 16, .int .u8 1, .int .u8 19, .int .u8 1] rfl rfl ka_valid (by omega) ka_p (by omega) w).mono ?_; rintro e w1 ⟨bl1, bc1, rfl, r1, hs1⟩)
  have HS1 := Lib.hid hs1
  have R1 := Lib.hid r1
  clear hs1 r1
  go_upto_region 3 with (go_at_call 26; refine (lvl_lit kb 2 1 5 #[.int .u8 2, .int .u8 22, .int .u8 3, .int .u8 23, .int .u8 1] rfl rfl kb_valid (by omega) kb_p (by omega) w1).mono ?_; rintro e w2 ⟨bl2, bc2, rfl, r2, hs2⟩)
  have HS2 := Lib.hid (Since.then HS1.out hs2 HS1.out.size)
  have R1b := Lib.hid (rowIs_since hs2 R1.out R1.out.lt)
  have R2 := Lib.hid r2
  clear hs2 r2 R1 HS1
  go_upto_region 4 with (go_at_call 26; refine (lvl_lit kc 2 0 5 #[.int .u8 23, .int .u8 21, .int .u8 11, .int .u8 16, .int .u8 1] rfl rfl kc_valid (by omega) kc_p (by omega) w2).mono ?_; rintro e w3 ⟨bl3, bc3, rfl, r3, hs3⟩)
  have HS3 := Lib.hid (Since.then HS2.out hs3 HS2.out.size)
  have q1 := reads_row (rowIs_since hs3 R1b.out R1b.out.lt)
  have q2 := reads_row (rowIs_since hs3 R2.out R2.out.lt)
  have q3 := reads_row r3
  rw [ka_lv] at q1
  rw [kb_lv] at q2
  rw [kc_lv] at q3
  have v1 := conv_reads (n := 5) (c := 5) q1 rfl 9 Try.underlying9
  have v2 := conv_reads (n := 5) (c := 5) q2 rfl 9 Try.underlying9
  have v3 := conv_reads (n := 5) (c := 5) q3 rfl 9 Try.underlying9
  rw [show strOfNums [0, 0, 1, 1, 0] = ⟨#[0, 0, 1, 1, 0]⟩ by kernel_rfl] at v1
  rw [show strOfNums [1, 1, 3, 1, 1] = ⟨#[1, 1, 3, 1, 1]⟩ by kernel_rfl] at v2
  rw [show strOfNums [0, 0, 0, 0, 1] = ⟨#[0, 0, 0, 0, 1]⟩ by kernel_rfl] at v3
  clear q1 q2 q3 r3 hs3 R1b R2 HS2
  go_upto_region 5 with fail
  clear v1 v2 v3
  go_upto_region 6 with fail
  have hk := reads_lit w3 .i64 3 ksL #[.int .i64 61, .int .i64 62, .int .i64 63, .int .i64 64, .int .i64 124, .int .i64 125, .int .i64 126, .int .i64 127, .int .i64 130] rfl
  have HS4 := Lib.hid (HS3.out.alloc HS3.out.size (.cells #[.int .i64 61, .int .i64 62, .int .i64 63, .int .i64 64, .int .i64 124, .int .i64 125, .int .i64 126, .int .i64 127, .int .i64 130] 3))
  obtain ⟨b9, hb9⟩ : ∃ b9, b9 = w3.heap.size := ⟨_, rfl⟩
  rw [← hb9] at hk ⊢
  have HK := Lib.hid hk
  clear hk hb9 HS3
  generalize w3.alloc (.cells #[.int .i64 61, .int .i64 62, .int .i64 63, .int .i64 64, .int .i64 124, .int .i64 125, .int .i64 126, .int .i64 127, .int .i64 130] 3) = w4 at *
  have HKC := Lib.hid (show ∀ wx : World, w4.Since w4.heap.size wx → ∀ i, i < 9 → wx.cell? ⟨b9, i, none⟩ = some (.int .i64 (ksL.getD i 0)) from fun wx hs i hi => by
    have := (HK.out.since hs).cell i (by simpa [ksL] using hi)
    rw [Nat.zero_add] at this
    exact this)
  clear HK
  go_wp2_with fail
  go_loopg [97] 9 (fun g s97 wr => ∃ i : Nat, i ≤ 9 ∧ g = 9 - i ∧ s97 = .int .i64 i ∧ w4.Since w4.heap.size wr)
  case atStart => exact ⟨0, by omega, by omega, rfl, World.Since.refl _ _⟩
  case round =>
    obtain ⟨i, hi, rfl, rfl, hsr⟩ := hrel
    by_cases hlt : i < 9
    · have hiz : decide ((i : Int) < 9) = true := by simp; omega
      have c0 := HKC.out wr hsr i hlt
      obtain ⟨k, hk1, hk2⟩ := ks_at hlt
      rw [hk1] at c0
      have HSR := Lib.hid hsr
      clear hsr hk1
      go_upto_region 9 with fail
      have hx := reads_lit wr .u8 34 xsL #[.int .u8 16, .int .u8 15, .int .u8 21, .int .u8 20, .int .u8 17, .int .u8 22] rfl
      have HS5 := Lib.hid (HSR.out.alloc HSR.out.size (.cells #[.int .u8 16, .int .u8 15, .int .u8 21, .int .u8 20, .int .u8 17, .int .u8 22] 34))
      obtain ⟨b6, hb6⟩ : ∃ b6, b6 = wr.heap.size := ⟨_, rfl⟩
      rw [← hb6] at hx ⊢
      have HX := Lib.hid hx
      clear hx hb6 c0 HSR
      generalize wr.alloc (.cells #[.int .u8 16, .int .u8 15, .int .u8 21, .int .u8 20, .int .u8 17, .int .u8 22] 34) = w5 at *
      have HXC := Lib.hid (show ∀ wx : World, w5.Since w5.heap.size wx → ∀ i, i < 6 → wx.cell? ⟨b6, i, none⟩ = some (.int .u8 (xsL.getD i 0)) from fun wx hs i hi => by
        have := (HX.out.since hs).cell i (by simpa [xsL] using hi)
        rw [Nat.zero_add] at this
        exact this)
      clear HX
      go_wp2_with fail
      go_loopg [103] 6 (fun g s103 wr => ∃ j : Nat, j ≤ 6 ∧ g = 6 - j ∧ s103 = .int .i64 j ∧ w5.Since w5.heap.size wr)
      case atStart => exact ⟨0, by omega, by omega, rfl, World.Since.refl _ _⟩
      case round =>
        obtain ⟨j, hj, rfl, rfl, hsr⟩ := hrel
        by_cases hlt6 : j < 6
        · have hjz : decide ((j : Int) < 6) = true := by simp; omega
          have c0 := HXC.out wr hsr j hlt6
          obtain ⟨hx1, hx2⟩ := xs_at hlt6
          have HSR := Lib.hid hsr
          clear hsr
          generalize xsL.getD j 0 = x at *
          go_upto_region 12 with (go_at_call 29; refine (deep_any k x (by omega) wr).mono ?_; rintro e w6 ⟨g, cap, rfl, hown, hs6⟩)
          have hv := deepL_valid (n := k) (c := x) ⟨hx1, hx2⟩
          have hl := deepL_len k x
          generalize deepL k x = L at *
          have RL := own_at hown hl
          have hz6 := hs6.size
          have HOWN := Lib.hid hown
          have HS6 := Lib.hid hs6
          have H90 := Lib.hid (show ∀ wx : World, w6.Since w6.heap.size wx → Calls Try.prog 9 #[.slice (some ⟨g, 0, none⟩) (k + 1) cap, .int .u8 0] wx (Since0 wx (.bool true)) from fun wx hs => law9_any L (k + 1) hl (by omega) cap _ g 0 wx (RL.since hs) (fun e => by cases e) 0 (by omega))
          have H91 := Lib.hid (show ∀ wx : World, w6.Since w6.heap.size wx → Calls Try.prog 9 #[.slice (some ⟨g, 0, none⟩) (k + 1) cap, .int .u8 1] wx (Since0 wx (.bool true)) from fun wx hs => law9_any L (k + 1) hl (by omega) cap _ g 0 wx (RL.since hs) (fun e => by cases e) 1 (by omega))
          have H11 := Lib.hid (show ∀ wx : World, w6.Since w6.heap.size wx → Calls Try.prog 11 #[.slice (some ⟨g, 0, none⟩) (k + 1) cap, .int .u8 0] wx (Since0 wx (.bool true)) from fun wx hs => law11_any L (k + 1) hl (by omega) cap _ g 0 wx (RL.since hs) 0 hv (by omega))
          have HZ := Lib.hid (World.Since.refl w6.heap.size w6)
          have HL := Lib.hid hl
          clear hown hs6 RL hl hv c0
          go_upto_region 14 with (first
            | (go_at_call 9; ((with_reducible refine (H90.out _ HZ.out).mono ?_); rintro e wn ⟨rfl, hsn⟩; replace HZ := Lib.hid (Since.then HZ.out hsn HZ.out.size); clear hsn))
            | (go_at_call 9; ((with_reducible refine (H91.out _ HZ.out).mono ?_); rintro e wn ⟨rfl, hsn⟩; replace HZ := Lib.hid (Since.then HZ.out hsn HZ.out.size); clear hsn))
            | (go_at_call 11; ((with_reducible refine (H11.out _ HZ.out).mono ?_); rintro e wn ⟨rfl, hsn⟩; replace HZ := Lib.hid (Since.then HZ.out hsn HZ.out.size); clear hsn)))
          have hown := own_since HOWN.out HZ.out (fun r e => (HOWN.out.lt r e).2)
          have hsn := Since.then HS6.out HZ.out hz6
          have hsz := hsn.size
          have HSN := Lib.hid hsn
          clear H90 H91 H11 HOWN HS6 HZ hsn
          generalize wn = w7 at *
          go_upto_region 15 with (at_builtin; refine wpList_append_lies _ rfl _ _ _ rfl wr.heap.size 34 i34 _ 1 1 Try.underlying22 hi34 hz34 hz34b hz34c rfl (by omega) (.slice (some ⟨g, 0, none⟩) (k + 1) cap) _ _ rfl (hown.alloc _) ⟨w7.heap.size, 0, none⟩ 13 13 [.int .u8 21, .int .u8 2, .int .u8 19, .int .u8 23, .int .u8 19, .int .u8 14, .int .u8 23, .int .u8 19, .int .u8 1, .int .u8 11, .int .u8 2, .int .u8 16, .int .u8 14] rfl rfl (World.news_of_block (cs := #[.int .u8 21, .int .u8 2, .int .u8 19, .int .u8 23, .int .u8 19, .int .u8 14, .int .u8 23, .int .u8 19, .int .u8 1, .int .u8 11, .int .u8 2, .int .u8 16, .int .u8 14]) (t := 34) (fr := (0, 0)) (heap_alloc_new w7 _)) (by simp [Value.oneCell']) (by omega) (by unfold maxLen; omega) (by omega) (by simp; omega) (w7.heap.size + 1) (by simp) ?_; intro g8 cap8 w8 hown8 hgrow8 hat8 hlt8)
          have e8 : L.map (Value.int .u8) ++ [Value.int .u8 21, Value.int .u8 2, Value.int .u8 19, Value.int .u8 23, Value.int .u8 19, Value.int .u8 14, Value.int .u8 23, Value.int .u8 19, Value.int .u8 1, Value.int .u8 11, Value.int .u8 2, Value.int .u8 16, Value.int .u8 14] = (L ++ tailL).map (Value.int .u8) := by rw [List.map_append]; rfl
          rw [e8] at hown8
          have l8 : (L ++ tailL).length = k + 1 + 13 := by rw [List.length_append, HL.out]; rfl
          have RL := own_at hown8 l8
          have hs8 := (HSN.out.alloc hsz (.cells #[.int .u8 21, .int .u8 2, .int .u8 19, .int .u8 23, .int .u8 19, .int .u8 14, .int .u8 23, .int .u8 19, .int .u8 1, .int .u8 11, .int .u8 2, .int .u8 16, .int .u8 14] 34)).grown hgrow8 (by simp; omega) (fun r e => (hown.lt r e).1)
          have HS8 := Lib.hid (Since.then HSR.out hs8 HSR.out.size)
          have H90 := Lib.hid (show ∀ wx : World, w8.Since w8.heap.size wx → Calls Try.prog 9 #[.slice (some ⟨g8, 0, none⟩) (k + 1 + 13) cap8, .int .u8 0] wx (Since0 wx (.bool true)) from fun wx hs => law9_any (L ++ tailL) (k + 1 + 13) l8 (by omega) cap8 _ g8 0 wx (RL.since hs) (fun e => by cases e) 0 (by omega))
          have H92 := Lib.hid (show ∀ wx : World, w8.Since w8.heap.size wx → Calls Try.prog 9 #[.slice (some ⟨g8, 0, none⟩) (k + 1 + 13) cap8, .int .u8 2] wx (Since0 wx (.bool true)) from fun wx hs => law9_any (L ++ tailL) (k + 1 + 13) l8 (by omega) cap8 _ g8 0 wx (RL.since hs) (fun e => by cases e) 2 (by omega))
          have HZ := Lib.hid (World.Since.refl w8.heap.size w8)
          clear RL hown hown8 hgrow8 hat8 hlt8 hs8 e8 l8 HSN HSR hsz HL
          go_wp2_with (first
            | (go_at_call 9; ((with_reducible refine (H90.out _ HZ.out).mono ?_); rintro e wn ⟨rfl, hsn⟩; replace HZ := Lib.hid (Since.then HZ.out hsn HZ.out.size); clear hsn))
            | (go_at_call 9; ((with_reducible refine (H92.out _ HZ.out).mono ?_); rintro e wn ⟨rfl, hsn⟩; replace HZ := Lib.hid (Since.then HZ.out hsn HZ.out.size); clear hsn)))
          go_roundg (6 - (j + 1))
          case measure => go_light; omega
          case rel => go_light; exact ⟨j + 1, by omega, rfl, by go_num, Since.then HS8.out HZ.out HS8.out.size⟩
        · obtain rfl : j = 6 := by omega
          have hjz : decide (((6 : Nat) : Int) < 6) = false := by simp
          have HSR := Lib.hid (Since.then HS5.out hsr HS5.out.size)
          clear hsr
          go_wp2_with fail
          go_roundg (9 - (i + 1))
          case measure => go_light; omega
          case rel => go_light; exact ⟨i + 1, by omega, rfl, by go_num, HSR.out⟩
    · obtain rfl : i = 9 := by omega
      have hiz : decide (((9 : Nat) : Int) < 9) = false := by simp
      have HS5 := Lib.hid (Since.then HS4.out hsr HS4.out.size)
      clear hsr HKC HS4
      go_upto_region 19 with fail
      obtain ⟨LD, ld, vd, cd, pd, fd⟩ := packD
      have HD := Lib.hid fd
      have PD := Lib.hid pd
      have LDN := Lib.hid ld
      have CD := Lib.hid cd
      clear fd pd ld cd
      go_upto_region 20 with (first
        | (go_at_call 29; ((with_reducible refine (CD.out _).mono ?_); rintro e w6 ⟨gd, capd, rfl, hod, hsd⟩; have RD := Lib.hid (own_at hod LDN.out); have HS6 := Lib.hid (Since.then HS5.out hsd HS5.out.size); clear hod hsd))
        | (go_at_call 26; ((with_reducible refine (lvl_read LD 0 0 71 capd LDN.out vd (by omega) PD.out (by omega) _ gd 0 w6 RD.out).mono ?_); rintro e w7 ⟨bd, bcd, rfl, rd, hse⟩)))
      have k1 : w7.cell? ⟨bd, 70, none⟩ = some (.int .u8 125) := by rw [rd.cell (by omega), HD.out]
      have HS7 := Lib.hid (Since.then HS6.out hse HS6.out.size)
      clear rd hse HS6 RD HS5 HD PD LDN CD vd
      obtain ⟨LE, le, ve, ce, pe, fe⟩ := packE
      have HE := Lib.hid fe
      have PE := Lib.hid pe
      have LEN := Lib.hid le
      have CE := Lib.hid ce
      have K1 := Lib.hid k1
      clear fe pe le ce k1
      go_upto_region 21 with (first
        | (go_at_call 29; ((with_reducible refine (CE.out _).mono ?_); rintro e w8 ⟨ge, cape, rfl, hoe, hsd⟩; have RE := Lib.hid (own_at hoe LEN.out); have HS8 := Lib.hid (Since.then (World.Since.refl w7.heap.size w7) hsd (Nat.le_refl _)); clear hoe hsd))
        | (go_at_call 26; ((with_reducible refine (lvl_read LE 1 1 201 cape LEN.out ve (by omega) PE.out (by omega) _ ge 0 w8 RE.out).mono ?_); rintro e w9 ⟨be, bce, rfl, re, hse⟩)))
      have k2 : w9.cell? ⟨be, 200, none⟩ = some (.int .u8 125) := by rw [re.cell (by omega), HE.out]
      have hs79 := Since.then HS8.out hse HS8.out.size
      have k1 : w9.cell? ⟨bd, 70, none⟩ = some (.int .u8 125) := by rw [hs79.cell (World.block_lt_of_cell? _ _ K1.out)]; exact K1.out
      have HS9 := Lib.hid (Since.then HS7.out hs79 HS7.out.size)
      have HCE := Lib.hid (show ∀ wx : World, w9.Since w9.heap.size wx → wx.cell? ⟨bd, 70, none⟩ = some (.int .u8 125) ∧ wx.cell? ⟨be, 200, none⟩ = some (.int .u8 125) from fun wx hs => ⟨by rw [hs.cell (World.block_lt_of_cell? _ _ k1)]; exact k1, by rw [hs.cell (World.block_lt_of_cell? _ _ k2)]; exact k2⟩)
      have HZ := Lib.hid (World.Since.refl w9.heap.size w9)
      clear re hse hs79 k1 k2 K1 HS7 HS8 RE HE PE LEN CE ve
      go_upto_region 22 with (go_at_call 26; ((with_reducible refine (lvl_bad 0 (by omega) _).mono ?_); rintro e wn ⟨rfl, rfl⟩))
      replace HZ := Lib.hid (HZ.out.alloc HZ.out.size (.cells #[.int .u8 0] 34))
      generalize w9.alloc (.cells #[.int .u8 0] 34) = w10 at *
      go_upto_region 23 with (go_at_call 26; ((with_reducible refine (lvl_bad 24 (by omega) _).mono ?_); rintro e wn ⟨rfl, rfl⟩))
      replace HZ := Lib.hid (HZ.out.alloc HZ.out.size (.cells #[.int .u8 24] 34))
      generalize w10.alloc (.cells #[.int .u8 24] 34) = w11 at *
      go_upto_region 24 with (go_at_call 26; ((with_reducible refine (lvl_nil3 _).mono ?_); rintro e wn ⟨rfl, rfl⟩))
      go_upto_region 25 with (go_at_call 26; ((with_reducible refine (lvl_nil2 _).mono ?_); rintro e wn ⟨bn, bcn, rfl, -, hsn⟩; replace HZ := Lib.hid (Since.then HZ.out hsn HZ.out.size); clear hsn))
      obtain ⟨LF, lf, vf, cf⟩ := deepPack 65536 65537 65536 1 rfl rfl (by omega) (by omega)
      have CF := Lib.hid cf
      clear cf lf vf
      go_upto_region 26 with (first
        | (go_at_call 29; ((with_reducible refine (CF.out _).mono ?_); rintro e wn ⟨gf, capf, rfl, -, hsn⟩; replace HZ := Lib.hid (Since.then HZ.out hsn HZ.out.size); clear hsn))
        | (go_at_call 26; ((with_reducible refine (levels_limit 65537 capf _ 0 _ (by omega) (by omega)).mono ?_); rintro e wx ⟨rfl, rfl⟩)))
      clear CF
      obtain ⟨LG, lg, vg, cg⟩ := deepPack 65535 65536 65535 1 rfl rfl (by omega) (by omega)
      have CG := Lib.hid cg
      have LGN := Lib.hid lg
      clear cg lg
      go_upto_region 27 with (first
        | (go_at_call 29; ((with_reducible refine (CG.out _).mono ?_); rintro e wn ⟨gg, capg, rfl, hog, hsn⟩; have RG := Lib.hid (own_at hog LGN.out); clear hog; replace HZ := Lib.hid (Since.then HZ.out hsn HZ.out.size); clear hsn))
        | (go_at_call 26; ((with_reducible refine (lvl_read LG 0 (plev LG 0) 65536 capg LGN.out vg (by omega) rfl (by omega) _ gg 0 _ RG.out).mono ?_); rintro e wn ⟨bg, bcg, rfl, -, hsn⟩; replace HZ := Lib.hid (Since.then HZ.out hsn HZ.out.size); clear hsn)))
      clear CG LGN vg RG
      generalize plev LG 0 = pg at *
      obtain ⟨k1, k2⟩ := HCE.out _ HZ.out
      go_upto_region 28 with fail
      clear k1 k2
      go_upto_region 29 with (first
        | (go_at_call 24; ((with_reducible refine (kb1 _).mono ?_); rintro e wn ⟨rfl, hsn⟩; replace HZ := Lib.hid (Since.then HZ.out hsn HZ.out.size); clear hsn))
        | (go_at_call 24; ((with_reducible refine (kb2 _).mono ?_); rintro e wn ⟨rfl, hsn⟩; replace HZ := Lib.hid (Since.then HZ.out hsn HZ.out.size); clear hsn))
        | (go_at_call 24; ((with_reducible refine (kb3 _).mono ?_); rintro e wn ⟨rfl, hsn⟩; replace HZ := Lib.hid (Since.then HZ.out hsn HZ.out.size); clear hsn))
        | (go_at_call 24; ((with_reducible refine (kb4 _).mono ?_); rintro e wn ⟨rfl, hsn⟩; replace HZ := Lib.hid (Since.then HZ.out hsn HZ.out.size); clear hsn))
        | (go_at_call 24; ((with_reducible refine (kb5 _).mono ?_); rintro e wn ⟨rfl, hsn⟩; replace HZ := Lib.hid (Since.then HZ.out hsn HZ.out.size); clear hsn))
        | (go_at_call 24; ((with_reducible refine (kb6 _).mono ?_); rintro e wn ⟨rfl, hsn⟩; replace HZ := Lib.hid (Since.then HZ.out hsn HZ.out.size); clear hsn)))
      have HSZ := Lib.hid (Since.then HS9.out HZ.out HS9.out.size)
      clear HCE HZ HS9
      go_wp2_with (go_at_call 22; refine (works_any _).mono ?_; rintro e w' ⟨rfl, hs⟩)
      go_ret
      exact ⟨rfl, Since.then HSZ.out hs HSZ.out.size⟩
end Go.Proofs.Ytkfjhannbnijkaa
