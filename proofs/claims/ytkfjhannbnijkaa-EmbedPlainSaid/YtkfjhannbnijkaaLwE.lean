/- The law EmbedPlain, walked. -/
import Derived.Test.YtkfjhannbnijkaaLwA
import Derived.Test.YtkfjhannbnijkaaPlE
import Derived.Test.YtkfjhannbnijkaaL0
namespace Go.Proofs.Ytkfjhannbnijkaa
open Go.RowKit

def calmB (c : Int) : Bool := decide ((1 ≤ c ∧ c ≤ 14) ∨ c = 23 ∨ c = 19)

def calmed (l : List Int) : Nat → List Int
  | 0 => []
  | k + 1 => if calmB (l.getD k 0) = true then calmed l k ++ [l.getD k 0] else calmed l k

theorem calmed_len (l : List Int) (k : Nat) : (calmed l k).length ≤ k := by
  induction k with
  | zero => simp [calmed]
  | succ k ih =>
    rw [calmed]
    split
    · simp; omega
    · omega

theorem calmed_calm (l : List Int) (k : Nat) : ∀ c ∈ calmed l k, Calm c := by
  induction k with
  | zero => intro c hc; simp [calmed] at hc
  | succ k ih =>
    intro c hc
    rw [calmed] at hc
    split at hc
    · rename_i h
      rcases List.mem_append.1 hc with hc | hc
      · exact ih c hc
      · simp only [List.mem_singleton] at hc
        subst hc
        unfold calmB at h
        simp only [decide_eq_true_eq] at h
        unfold Calm
        omega
    · exact ih c hc

theorem calmed_at (l : List Int) (k : Nat) {i : Nat} (hi : i < (calmed l k).length) : Calm ((calmed l k).getD i 0) := by
  rw [List.getD_eq_getElem?_getD, List.getElem?_eq_getElem hi]
  exact calmed_calm l k _ (List.getElem_mem hi)

set_option maxRecDepth 100000 in
set_option maxHeartbeats 1000000 in
theorem law13_skip (n cap : Nat) (ao : Option Addr) (base : Int) (w : World) (h : 2000 < n ∨ 2 < base) (hm : n ≤ maxLen) :
    Calls Try.prog 13 #[.slice ao n cap, .int .u8 base] w (Since0 w (.bool true)) := by
  unfold maxLen at hm
  by_cases h1 : 2000 < n
  · have d1 : decide ((2000 : Int) < (n : Int)) = true := by simp; omega
    go_enter Try.func13, Try.ntmps13
    go_wp2_with (go_at_call 22; refine (works_any _).mono ?_; rintro e w' ⟨rfl, hs⟩)
    go_ret
    exact ⟨rfl, hs⟩
  · have d1 : decide ((2000 : Int) < (n : Int)) = false := by simp; omega
    have d2 : decide ((2 : Int) < base) = true := by simp; omega
    go_enter Try.func13, Try.ntmps13
    go_wp2_with (go_at_call 22; refine (works_any _).mono ?_; rintro e w' ⟨rfl, hs⟩)
    go_ret
    exact ⟨rfl, hs⟩

set_option maxRecDepth 100000 in
set_option maxHeartbeats 4000000 in
theorem law13_any (l : List Int) (base : Int) (n : Nat) (hn : l.length = n) (hlen : n ≤ 2000) (cap : Nat) (ao : Option Addr) (b off : Nat) (w : World)
    (hR : Reads w .u8 ao b off l) (hb : 0 ≤ base ∧ base ≤ 2) :
    Calls Try.prog 13 #[.slice ao n cap, .int .u8 base] w (Since0 w (.bool true)) := by
  have d1 : decide ((2000 : Int) < (n : Int)) = false := by simp; omega
  have d2 : decide ((2 : Int) < base) = false := by simp; omega
  have HB := Lib.hid hb
  obtain ⟨i34, hi34, hz34, hz34b, hz34c⟩ := info_parts Try.info34
  clear hb
  go_enter Try.func13, Try.ntmps13
  go_wp2_with fail
  go_loopg [5, 6] n (fun g s5 s6 wr => ∃ (k : Nat), k ≤ n ∧ g = n - k ∧ s6 = .int .i64 k ∧ w.Since w.heap.size wr ∧ wr.ownsRow w.heap.size 34 1 s5 (calmed l k).length ((calmed l k).map (Value.int .u8)))
  case atStart => exact ⟨0, by omega, by omega, rfl, World.Since.refl _ _, World.ownsRow_nil _ _ _ _⟩
  case round =>
    obtain ⟨k, hk, rfl, rfl, hs, hown⟩ := hrel
    have hkl := calmed_len l k
    obtain ⟨va, vc, rfl⟩ := own_form hown
    by_cases hlt : k < n
    · have hkz : (k : Int) < (n : Int) := by omega
      obtain rfl := hR.spot (by omega)
      have c1 := (hR.since hs).cell k (by omega)
      obtain ⟨c, hc⟩ : ∃ c, c = l.getD k 0 := ⟨_, rfl⟩
      have hst : calmed l (k + 1) = if calmB c = true then calmed l k ++ [c] else calmed l k := by rw [hc]; rfl
      rw [← hc] at c1
      have HST := Lib.hid hst
      have HS := Lib.hid hs
      clear hc hst hs
      generalize calmed l k = C at *
      have hsz := HS.out.size
      by_cases g1 : 1 ≤ c ∧ c ≤ 14
      · have t1 : decide (1 ≤ c) = true := by simp; omega
        have t2 : decide (c ≤ 14) = true := by simp; omega
        have HCB : Hid (calmB c = true) := by show _ = _; unfold calmB; simp; omega
        clear g1
        go_wp2_with (at_builtin; refine wpList_append_lies _ rfl _ _ _ rfl w.heap.size 34 i34 _ 1 1 Try.underlying22 hi34 hz34 hz34b hz34c rfl (by omega) (.slice va C.length vc) _ _ rfl (hown.alloc _) ⟨wr.heap.size, 0, none⟩ 1 1 [.int .u8 c] rfl rfl (World.news_of_block (cs := #[.int .u8 c]) (t := 34) (fr := (0, 0)) (heap_alloc_new wr _)) (by simp [Value.oneCell']) (by omega) (by unfold maxLen; omega) (by omega) (by simp; omega) (wr.heap.size + 1) (by simp) ?_; intro gg capg w4 hown4 hgrow4 hat4 hlt4)
        go_roundg (n - (k + 1))
        case measure => go_light; omega
        case rel =>
          go_light
          refine ⟨k + 1, by omega, rfl, by go_num, (HS.out.alloc hsz _).grown hgrow4 (by simp; omega) (fun r e => (hown.lt r e).1), ?_⟩
          rw [HST.out, if_pos HCB.out]
          simpa using hown4
      · by_cases g2 : c = 23 ∨ c = 19
        · have HCB : Hid (calmB c = true) := by show _ = _; unfold calmB; simp; omega
          have t1 : decide (1 ≤ c) = true := by simp; omega
          have t2 : decide (c ≤ 14) = false := by simp; omega
          rcases g2 with rfl | rfl
          all_goals
            clear g1
            go_wp2_with (at_builtin; refine wpList_append_lies _ rfl _ _ _ rfl w.heap.size 34 i34 _ 1 1 Try.underlying22 hi34 hz34 hz34b hz34c rfl (by omega) (.slice va C.length vc) _ _ rfl (hown.alloc _) ⟨wr.heap.size, 0, none⟩ 1 1 [.int .u8 _] rfl rfl (World.news_of_block (t := 34) (fr := (0, 0)) (heap_alloc_new wr _)) (by simp [Value.oneCell']) (by omega) (by unfold maxLen; omega) (by omega) (by simp; omega) (wr.heap.size + 1) (by simp) ?_; intro gg capg w4 hown4 hgrow4 hat4 hlt4)
            go_roundg (n - (k + 1))
            case measure => go_light; omega
            case rel =>
              go_light
              refine ⟨k + 1, by omega, rfl, by go_num, (HS.out.alloc hsz _).grown hgrow4 (by simp; omega) (fun r e => (hown.lt r e).1), ?_⟩
              rw [HST.out, if_pos HCB.out]
              simpa using hown4
        · have HCB : Hid (¬ calmB c = true) := by show ¬ _; unfold calmB; simp; omega
          have t3 : (c == 23) = false := by simp; omega
          have t4 : (c == 19) = false := by simp; omega
          by_cases g3 : 1 ≤ c
          · have t1 : decide (1 ≤ c) = true := by simp; omega
            have t2 : decide (c ≤ 14) = false := by simp; omega
            clear g1 g2 g3
            go_wp2_with fail
            go_roundg (n - (k + 1))
            case measure => go_light; omega
            case rel =>
              go_light
              refine ⟨k + 1, by omega, rfl, by go_num, HS.out, ?_⟩
              rw [HST.out, if_neg HCB.out]
              exact hown
          · have t1 : decide (1 ≤ c) = false := by simp; omega
            clear g1 g2 g3
            go_wp2_with fail
            go_roundg (n - (k + 1))
            case measure => go_light; omega
            case rel =>
              go_light
              refine ⟨k + 1, by omega, rfl, by go_num, HS.out, ?_⟩
              rw [HST.out, if_neg HCB.out]
              exact hown
    · obtain rfl : k = n := by omega
      have hkz : ¬ ((k : Int) < (k : Int)) := by omega
      have hcalm := fun i (hi : i < (calmed l k).length) => calmed_at l k hi
      generalize calmed l k = C at *
      obtain ⟨m, hm⟩ : ∃ m, C.length = m := ⟨_, rfl⟩
      have hvalid : Valid C := fun i hi => by have := hcalm i hi; unfold Calm at this; omega
      have hcl := (lrun_calm C (mat C) (plev C base) hcalm C.length (Nat.le_refl _)).2.2
      rw [hm] at hown hkl hcl ⊢
      obtain ⟨w1, hw1⟩ : ∃ w1, w1 = wr := ⟨_, rfl⟩
      subst hw1
      obtain ⟨a', c', bc, h1, hRc, -⟩ := own_readsK hown hm
      injection h1 with h1 h2 h3
      subst h1
      clear h2 h3
      have HE := Lib.hid (levels_ok C base m vc hm va bc 0 w1 hRc (by omega) hvalid HB.out)
      have HRC := Lib.hid hRc
      have HCL := Lib.hid hcl
      have HM := Lib.hid hm
      have HS := Lib.hid hs
      have hpb : Hid (plev C base = if base = 2 then pbase C else base) := rfl
      generalize plev C base = p at *
      generalize (lrun C (mat C) p m).lv = lv at *
      generalize (lrun C (mat C) p m).cl = cl at *
      clear hcalm hvalid hcl hRc hm hs hown
      go_upto_region 10 with (go_at_call 26; refine HE.out.mono ?_; rintro e w2 ⟨bl, bk, rfl, -, -, -, hL, hK, hs2⟩)
      have HL := Lib.hid hL
      have HK := Lib.hid hK
      have HS2 := Lib.hid (Since.then HS.out hs2 HS.out.size)
      have HRC2 := Lib.hid (HRC.out.since hs2)
      have hmm : ((m : Int) != (m : Int)) = false := by simp
      have hpp : (p != p) = false := by simp
      have hHB := HB.out
      clear hL hK hs2 HE HS HRC
      have hbig : ∀ (w3 : World), w2.Since w2.heap.size w3 → ∀ i, i < m → w3.cell? ⟨bl, i, none⟩ = some (.int .u8 p) ∧ w3.cell? ⟨bk, i, none⟩ = some (.int .u8 (if C.getD i 0 = 19 then 10 else C.getD i 0)) ∧ w3.cell? ⟨bc, i, none⟩ = some (.int .u8 (C.getD i 0)) ∧ va = some ⟨bc, 0, none⟩ := by
        intro w3 hs i hi
        refine ⟨?_, ?_, ?_, HRC2.out.spot (by rw [HM.out]; omega)⟩
        · rw [hs.cell (a := ⟨bl, i, none⟩) HL.out.lt, HL.out.cell hi, (HCL.out i hi).1]
        · rw [hs.cell (a := ⟨bk, i, none⟩) HK.out.lt, HK.out.cell hi, (HCL.out i hi).2]
        · have := (HRC2.out.since hs).cell i (by rw [HM.out]; exact hi)
          rw [Nat.zero_add] at this
          exact this
      have HBIG := Lib.hid hbig
      clear hbig
      have hend : Hid (∀ w3 : World, w2.Since w2.heap.size w3 → w.Since w.heap.size w3) := fun w3 h => Since.then HS2.out h HS2.out.size
      by_cases hb2 : base = 2
      · have t1 : decide (base < 2) = false := by simp; omega
        have t2 : (base == 2) = true := by simp [hb2]
        have hb := base_any C m HM.out vc va bc 0 w2 HRC2.out (by omega)
        rw [show pbase C = p by rw [hpb.out, if_pos hb2]] at hb
        have HB2 := Lib.hid hb
        clear hb hb2 hpb
        go_upto_region 12 with (go_at_call 24; refine HB2.out.mono ?_; rintro e w3 ⟨rfl, hs3⟩)
        have HS3 := Lib.hid hs3
        clear hs3
        go_wp2_with fail
        go_loopg [11] m (fun g s11 wr => ∃ i : Nat, i ≤ m ∧ g = m - i ∧ s11 = .int .i64 i ∧ w2.Since w2.heap.size wr)
        case atStart => exact ⟨0, by omega, by omega, rfl, HS3.out⟩
        case round =>
          obtain ⟨i, hi, rfl, rfl, hsr⟩ := hrel
          by_cases hlt2 : i < m
          · have hiz : (i : Int) < (m : Int) := by omega
            obtain ⟨c1, c2, c3, rfl⟩ := HBIG.out wr hsr i hlt2
            have HSR := Lib.hid hsr
            generalize C.getD i 0 = c at *
            clear hsr
            by_cases h19 : c = 19
            · have u1 : (c == 19) = true := by simp [h19]
              have u2 : (c != 19) = false := by simp [h19]
              rw [if_pos h19] at c2
              clear h19
              go_upto_region 15 with fail
              go_quiet (fail)
              go_wp2_with fail
              go_roundg (m - (i + 1))
              case measure => go_light; omega
              case rel => go_light; exact ⟨i + 1, by omega, rfl, by go_num, sinceN HSR.out nq⟩
            · have u1 : (c == 19) = false := by simp [h19]
              have u2 : (c != 19) = true := by simp [h19]
              have u3 : (c != c) = false := by simp
              rw [if_neg h19] at c2
              clear h19
              go_upto_region 15 with fail
              go_quiet (fail)
              go_wp2_with fail
              go_roundg (m - (i + 1))
              case measure => go_light; omega
              case rel => go_light; exact ⟨i + 1, by omega, rfl, by go_num, sinceN HSR.out nq⟩
          · obtain rfl : i = m := by omega
            have hiz : ¬ ((i : Int) < (i : Int)) := by omega
            go_wp2_with (go_at_call 22; refine (works_any _).mono ?_; rintro e w' ⟨rfl, hs9⟩)
            go_ret
            exact ⟨rfl, hend.out _ (Since.then hsr hs9 hsr.size)⟩
      · have t2 : (base == 2) = false := by simp [hb2]
        have t1 : decide (base < 2) = true := by simp; omega
        have t3 : p = base := by rw [hpb.out, if_neg hb2]
        subst t3
        clear hb2 hpb
        go_upto_region 12 with fail
        go_wp2_with fail
        go_loopg [11] m (fun g s11 wr => ∃ i : Nat, i ≤ m ∧ g = m - i ∧ s11 = .int .i64 i ∧ w2.Since w2.heap.size wr)
        case atStart => exact ⟨0, by omega, by omega, rfl, World.Since.refl _ _⟩
        case round =>
          obtain ⟨i, hi, rfl, rfl, hsr⟩ := hrel
          by_cases hlt2 : i < m
          · have hiz : (i : Int) < (m : Int) := by omega
            obtain ⟨c1, c2, c3, rfl⟩ := HBIG.out wr hsr i hlt2
            have HSR := Lib.hid hsr
            generalize C.getD i 0 = c at *
            clear hsr
            by_cases h19 : c = 19
            · have u1 : (c == 19) = true := by simp [h19]
              have u2 : (c != 19) = false := by simp [h19]
              rw [if_pos h19] at c2
              clear h19
              go_upto_region 15 with fail
              go_quiet (fail)
              go_wp2_with fail
              go_roundg (m - (i + 1))
              case measure => go_light; omega
              case rel => go_light; exact ⟨i + 1, by omega, rfl, by go_num, sinceN HSR.out nq⟩
            · have u1 : (c == 19) = false := by simp [h19]
              have u2 : (c != 19) = true := by simp [h19]
              have u3 : (c != c) = false := by simp
              rw [if_neg h19] at c2
              clear h19
              go_upto_region 15 with fail
              go_quiet (fail)
              go_wp2_with fail
              go_roundg (m - (i + 1))
              case measure => go_light; omega
              case rel => go_light; exact ⟨i + 1, by omega, rfl, by go_num, sinceN HSR.out nq⟩
          · obtain rfl : i = m := by omega
            have hiz : ¬ ((i : Int) < (i : Int)) := by omega
            go_wp2_with (go_at_call 22; refine (works_any _).mono ?_; rintro e w' ⟨rfl, hs9⟩)
            go_ret
            exact ⟨rfl, hend.out _ (Since.then hsr hs9 hsr.size)⟩
end Go.Proofs.Ytkfjhannbnijkaa
