/- The walker's embeds, isolates, closes, leaves, ends: walked. -/
import Derived.Test.YtkfjhannbnijkaaLvC
namespace Go.Proofs.Ytkfjhannbnijkaa
open Go.RowKit

theorem within_grew {w wr : World} {K : WK} {lv cl : Nat → Int} {B : Nat} {t g : Fr} {bs : List (Nat × Fr)} {r : Bool} (hg : frIn t r = some g) (h : WRel w wr K lv cl B t bs) (k : Nat) (hf : FrOK k t) (hk : k ≤ 70000) :
    Calls Try.prog 52 #[.pointer (some ⟨B, 0, none⟩), .bool r] wr (Grew w K lv cl B t bs g) :=
  (within_any h r k hf hk).mono fun e w' h => by unfold Within at h; rw [hg] at h; exact h
theorem within_not {w wr : World} {K : WK} {lv cl : Nat → Int} {B : Nat} {t : Fr} {bs : List (Nat × Fr)} {r : Bool} (hg : frIn t r = none) (h : WRel w wr K lv cl B t bs) (k : Nat) (hf : FrOK k t) (hk : k ≤ 70000) :
    Calls Try.prog 52 #[.pointer (some ⟨B, 0, none⟩), .bool r] wr (NotGrew w K lv cl B t bs) :=
  (within_any h r k hf hk).mono fun e w' h => by unfold Within at h; rw [hg] at h; exact h

theorem embeds_some {w w' : World} {K : WK} {s : LS} {i : Nat} {c : Int} {g : Fr} {N B : Nat} {bs : List (Nat × Fr)} (hg : frIn s.top (embR c) = some g) (hb : bs.map (·.2) = s.up)
    (h : WRel w w' K (s.goes i K.base).lv (s.goes i K.base).cl N ⟨g.lev, embO c, g.iso, g.is, g.em⟩ ((B, s.top) :: bs)) : WDone w K (s.embeds i K.base c) (.returned (.tuple #[])) w' := by
  refine ⟨rfl, N, (B, s.top) :: bs, ?_, ?_⟩
  · unfold LS.embeds; rw [hg]; exact h
  · unfold LS.embeds; rw [hg]; simp [hb]

theorem embeds_none1 {w w' : World} {K : WK} {s : LS} {i : Nat} {c : Int} {B : Nat} {bs : List (Nat × Fr)} (hg : frIn s.top (embR c) = none) (hb : bs.map (·.2) = s.up) (hi : s.top.is = 0)
    (h : WRel w w' K (s.goes i K.base).lv (s.goes i K.base).cl B ⟨s.top.lev, s.top.ov, s.top.iso, s.top.is, s.top.em + 1⟩ bs) : WDone w K (s.embeds i K.base c) (.returned (.tuple #[])) w' := by
  refine ⟨rfl, B, bs, ?_, ?_⟩
  · unfold LS.embeds; rw [hg]; simp only; rw [if_pos hi]; exact h
  · unfold LS.embeds; rw [hg]; simp only; rw [if_pos hi]; exact hb

theorem embeds_none2 {w w' : World} {K : WK} {s : LS} {i : Nat} {c : Int} {B : Nat} {bs : List (Nat × Fr)} (hg : frIn s.top (embR c) = none) (hb : bs.map (·.2) = s.up) (hi : ¬ s.top.is = 0)
    (h : WRel w w' K (s.goes i K.base).lv (s.goes i K.base).cl B s.top bs) : WDone w K (s.embeds i K.base c) (.returned (.tuple #[])) w' := by
  refine ⟨rfl, B, bs, ?_, ?_⟩
  · unfold LS.embeds; rw [hg]; simp only; rw [if_neg hi]; exact h
  · unfold LS.embeds; rw [hg]; simp only; rw [if_neg hi]; exact hb

theorem frv_ov (p : Value) (g : Fr) (o : Int) (j : Nat) : (if j = 2 then Value.int .u8 o else frv p g j) = frv p ⟨g.lev, o, g.iso, g.is, g.em⟩ j := by
  unfold frv
  by_cases e : j = 2
  · subst e; simp
  · simp [e]
theorem frv_iso (p : Value) (g : Fr) (o : Bool) (j : Nat) : (if j = 3 then Value.bool o else frv p g j) = frv p ⟨g.lev, g.ov, o, g.is, g.em⟩ j := by
  unfold frv
  by_cases e : j = 3
  · subst e; simp
  · simp [e]
theorem frv_is (p : Value) (g : Fr) (o : Int) (j : Nat) : (if j = 4 then Value.int .i64 o else frv p g j) = frv p ⟨g.lev, g.ov, g.iso, o, g.em⟩ j := by
  unfold frv
  by_cases e : j = 4
  · subst e; simp
  · simp [e]
theorem frv_em (p : Value) (g : Fr) (o : Int) (j : Nat) (hj : j < 6) : (if j = 5 then Value.int .i64 o else frv p g j) = frv p ⟨g.lev, g.ov, g.iso, g.is, o⟩ j := by
  unfold frv
  by_cases e : j = 5
  · subst e; simp
  · have : j = 0 ∨ j = 1 ∨ j = 2 ∨ j = 3 ∨ j = 4 := by omega
    rcases this with rfl | rfl | rfl | rfl | rfl <;> simp

set_option maxRecDepth 100000 in
set_option maxHeartbeats 2000000 in
theorem embeds_any {w wr : World} {K : WK} {s : LS} (h : WAt w wr K s) (k : Nat) (hok : LSOK k s) (hk : k ≤ 70000) (i : Nat) (hi : i < K.l.length) (hlen : K.l.length ≤ 70000) (c : Int) (hc : K.l.getD i 0 = c) (hc1 : 15 ≤ c ∧ c ≤ 18) :
    Calls Try.prog 42 #[.pointer (some ⟨K.bw, 0, none⟩), .int .i64 i] wr (WDone w K (s.embeds i K.base c)) := by
  obtain ⟨B, bs, hW, hbs⟩ := h
  have HW := Lib.hid hW
  have HB := Lib.hid hbs
  have HC := Lib.hid hc
  have HT := Lib.hid hok.top
  clear hW hbs hc hok
  have hcc : c = 15 ∨ c = 16 ∨ c = 17 ∨ c = 18 := by omega
  clear hc1
  cases hg : frIn s.top (embR c) with
  | some g =>
    obtain ⟨-, -, hgo, -, -, -⟩ := frIn_ok HT.out hg
    have HG := Lib.hid hg
    have HGO := Lib.hid hgo
    clear hg hgo
    go_enter Try.func42, Try.ntmps42
    go_upto_region 1 with (go_at_call 47; refine (goes_raw HW.out i hi hlen).mono ?_; rintro e w1 ⟨rfl, h1⟩)
    have x0 := h1.sees.w0
    obtain ⟨hrd, hao⟩ := h1.sees.rd i hi
    rw [HC.out] at hrd
    rw [hao] at x0
    have x5 := h1.sees.w5
    have H1 := Lib.hid h1
    clear h1 hao
    rcases hcc with rfl | rfl | rfl | rfl
    · go_upto_region 3 with (go_at_call 52; refine (within_grew (r := false) HG.out H1.out k HT.out hk).mono ?_; rintro e w2 ⟨N, rfl, h2, h3⟩)
      clear x0 hrd x5
      have x5 := h2.sees.w5
      have x5f := h2.sees.w5f
      have H3 := Lib.hid (h2.setF h3)
      clear h2 h3
      go_wp2_with fail
      go_end0
      refine embeds_some HG.out HB.out (B := B) (N := N) ?_
      have h4 := H3.out
      rw [show (⟨g.lev, embO 15, g.iso, g.is, g.em⟩ : Fr) = g by have := HGO.out; cases g; simp only at this; subst this; rfl]
      exact h4
    · go_upto_region 3 with (go_at_call 52; refine (within_grew (r := true) HG.out H1.out k HT.out hk).mono ?_; rintro e w2 ⟨N, rfl, h2, h3⟩)
      clear x0 hrd x5
      have x5 := h2.sees.w5
      have x5f := h2.sees.w5f
      have H3 := Lib.hid (h2.setF h3)
      clear h2 h3
      go_wp2_with fail
      go_end0
      refine embeds_some HG.out HB.out (B := B) (N := N) ?_
      have h4 := H3.out
      rw [show (⟨g.lev, embO 16, g.iso, g.is, g.em⟩ : Fr) = g by have := HGO.out; cases g; simp only at this; subst this; rfl]
      exact h4
    · go_upto_region 3 with (go_at_call 52; refine (within_grew (r := false) HG.out H1.out k HT.out hk).mono ?_; rintro e w2 ⟨N, rfl, h2, h3⟩)
      clear x0 hrd x5
      have x5 := h2.sees.w5
      have x5f := h2.sees.w5f
      have h4 := h2.setF h3
      have x6 := h4.sees.f2
      have x6f := h4.sees.ff 2
      have H4 := Lib.hid h4
      clear h2 h3 h4
      go_wp2_with fail
      go_end0
      refine embeds_some HG.out HB.out (B := B) (N := N) ?_
      exact H4.out.setTop 2 (.int .u8 1) (fun j hj => frv_ov _ _ _ j)
    · go_upto_region 3 with (go_at_call 52; refine (within_grew (r := true) HG.out H1.out k HT.out hk).mono ?_; rintro e w2 ⟨N, rfl, h2, h3⟩)
      clear x0 hrd x5
      have x5 := h2.sees.w5
      have x5f := h2.sees.w5f
      have h4 := h2.setF h3
      have x6 := h4.sees.f2
      have x6f := h4.sees.ff 2
      have H4 := Lib.hid h4
      clear h2 h3 h4
      go_wp2_with fail
      go_end0
      refine embeds_some HG.out HB.out (B := B) (N := N) ?_
      exact H4.out.setTop 2 (.int .u8 2) (fun j hj => frv_ov _ _ _ j)
  | none =>
    have HG := Lib.hid hg
    clear hg
    go_enter Try.func42, Try.ntmps42
    go_upto_region 1 with (go_at_call 47; refine (goes_raw HW.out i hi hlen).mono ?_; rintro e w1 ⟨rfl, h1⟩)
    have x0 := h1.sees.w0
    obtain ⟨hrd, hao⟩ := h1.sees.rd i hi
    rw [HC.out] at hrd
    rw [hao] at x0
    have x5 := h1.sees.w5
    have H1 := Lib.hid h1
    clear h1 hao
    by_cases his : s.top.is = 0
    · have hz : (s.top.is == 0) = true := by simp [his]
      have HI := Lib.hid his
      clear his
      have e1 := HT.out.e1
      have e0 := HT.out.e0
      rcases hcc with rfl | rfl | rfl | rfl
      all_goals
        go_upto_region 3 with (go_at_call 52; refine (within_not HG.out H1.out k HT.out hk).mono ?_; rintro e w2 ⟨rfl, h2⟩)
        clear x0 hrd x5
        have x5 := h2.sees.w5
        have y4 := h2.sees.f4
        have y5 := h2.sees.f5
        have y5f := h2.sees.ff 5
        have H2 := Lib.hid h2
        clear h2
        go_wp2_with fail
        go_end0
        refine embeds_none1 HG.out HB.out HI.out (B := B) ?_
        exact H2.out.setTop 5 (.int .i64 (s.top.em + 1)) (fun j hj => frv_em _ _ _ j hj)
    · have hz : (s.top.is == 0) = false := by simp [his]
      have HI := Lib.hid his
      clear his
      rcases hcc with rfl | rfl | rfl | rfl
      all_goals
        go_upto_region 3 with (go_at_call 52; refine (within_not HG.out H1.out k HT.out hk).mono ?_; rintro e w2 ⟨rfl, h2⟩)
        clear x0 hrd x5
        have x5 := h2.sees.w5
        have y4 := h2.sees.f4
        have H2 := Lib.hid h2
        clear h2
        go_wp2_with fail
        go_end0
        exact embeds_none2 HG.out HB.out HI.out (B := B) H2.out
end Go.Proofs.Ytkfjhannbnijkaa
