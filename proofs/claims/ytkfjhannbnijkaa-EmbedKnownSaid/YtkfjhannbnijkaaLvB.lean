/- The walker's stands and goes, walked. -/
import Derived.Test.YtkfjhannbnijkaaLvA
import Derived.BigRegion
import Derived.Outline
import Derived.ChangeAlike
namespace Go.Proofs.Ytkfjhannbnijkaa
open Go.RowKit

/-- What is read of a walker that stands. -/
structure WSees (wr : World) (K : WK) (lv cl : Nat → Int) (B : Nat) (t : Fr) (up : Value) : Prop where
  w0 : wr.cell? ⟨K.bw, 0, none⟩ = some (.slice K.ao K.l.length K.cap)
  w1 : wr.cell? ⟨K.bw, 1, none⟩ = some (.slice (some ⟨K.bm, 0, none⟩) K.l.length K.l.length)
  w2 : wr.cell? ⟨K.bw, 2, none⟩ = some (.int .u8 K.base)
  w3 : wr.cell? ⟨K.bw, 3, none⟩ = some (.slice (some ⟨K.bl, 0, none⟩) K.l.length K.l.length)
  w4 : wr.cell? ⟨K.bw, 4, none⟩ = some (.slice (some ⟨K.bc, 0, none⟩) K.l.length K.l.length)
  w5 : wr.cell? ⟨K.bw, 5, none⟩ = some (.pointer (some ⟨B, 0, none⟩))
  w5f : wr.frozen? ⟨K.bw, 5, none⟩ = false
  f0 : wr.cell? ⟨B, 0, none⟩ = some up
  f1 : wr.cell? ⟨B, 1, none⟩ = some (.int .u8 t.lev)
  f2 : wr.cell? ⟨B, 2, none⟩ = some (.int .u8 t.ov)
  f3 : wr.cell? ⟨B, 3, none⟩ = some (.bool t.iso)
  f4 : wr.cell? ⟨B, 4, none⟩ = some (.int .i64 t.is)
  f5 : wr.cell? ⟨B, 5, none⟩ = some (.int .i64 t.em)
  ff : ∀ i, wr.frozen? ⟨B, i, none⟩ = false
  m : ∀ i, i < K.l.length → wr.cell? ⟨K.bm, i, none⟩ = some (.int .i64 (K.mt i))
  lv : ∀ i, i < K.l.length → wr.cell? ⟨K.bl, i, none⟩ = some (.int .u8 (lv i))
  lvf : ∀ i, wr.frozen? ⟨K.bl, i, none⟩ = false
  cl : ∀ i, i < K.l.length → wr.cell? ⟨K.bc, i, none⟩ = some (.int .u8 (cl i))
  clf : ∀ i, wr.frozen? ⟨K.bc, i, none⟩ = false
  rd : ∀ i, i < K.l.length → wr.cell? ⟨K.b, K.off + i, none⟩ = some (.int .u8 (K.l.getD i 0)) ∧ K.ao = some ⟨K.b, K.off, none⟩

theorem WRel.sees {w wr : World} {K : WK} {lv cl : Nat → Int} {B : Nat} {t : Fr} {bs : List (Nat × Fr)} (h : WRel w wr K lv cl B t bs) : WSees wr K lv cl B t (ptrOf bs) :=
  { w0 := h.wk.cell (i := 0) (by omega), w1 := h.wk.cell (i := 1) (by omega), w2 := h.wk.cell (i := 2) (by omega), w3 := h.wk.cell (i := 3) (by omega), w4 := h.wk.cell (i := 4) (by omega), w5 := h.wk.cell (i := 5) (by omega), w5f := h.wk.frozen 5
    f0 := h.chn.2.2.2.1.cell (i := 0) (by omega), f1 := h.chn.2.2.2.1.cell (i := 1) (by omega), f2 := h.chn.2.2.2.1.cell (i := 2) (by omega), f3 := h.chn.2.2.2.1.cell (i := 3) (by omega), f4 := h.chn.2.2.2.1.cell (i := 4) (by omega), f5 := h.chn.2.2.2.1.cell (i := 5) (by omega), ff := h.chn.2.2.2.1.frozen
    m := fun i hi => h.m.cell hi, lv := fun i hi => h.lv.cell hi, lvf := h.lv.frozen, cl := fun i hi => h.cl.cell hi, clf := h.cl.frozen
    rd := fun i hi => ⟨by
      have h1 := h.reads.cell i hi
      rw [h.since.cell (a := ⟨K.b, K.off + i, none⟩) (World.block_lt_of_cell? _ _ h1)]; exact h1, h.reads.spot (by omega)⟩ }

set_option maxRecDepth 100000 in
set_option maxHeartbeats 1000000 in
theorem stands_raw {w wr : World} {K : WK} {lv cl : Nat → Int} {B : Nat} {t : Fr} {bs : List (Nat × Fr)} (h : WRel w wr K lv cl B t bs) (i : Nat) (hi : i < K.l.length) :
    Calls Try.prog 48 #[.pointer (some ⟨K.bw, 0, none⟩), .int .i64 i] wr (fun e w' => e = .returned (.tuple #[]) ∧ WRel w w' K (upd lv i t.lev) (upd cl i (if t.ov = 0 then K.l.getD i 0 else t.ov)) B t bs) := by
  have hs := h.sees
  obtain ⟨hrd, hao⟩ := hs.rd i hi
  have x0 := hs.w0
  have x3 := hs.w3
  have x4 := hs.w4
  have x5 := hs.w5
  have y1 := hs.f1
  have y2 := hs.f2
  have z1 := hs.lv i hi
  have z2 := hs.lvf i
  have z3 := fun v => (h.setLv i v).sees.cl i hi
  have z4 := fun v => (h.setLv i v).sees.clf i
  rw [hao] at x0
  clear hs hao
  generalize K.l.getD i 0 = c at *
  have H := Lib.hid h
  clear h
  go_enter Try.func48, Try.ntmps48
  go_upto_region 1 with fail
  go_cut [] (fun wx => WRel w wx K (upd lv i t.lev) (upd cl i c) B t bs)
  case first =>
    go_region
    all_goals
      go_wp2_with fail
      go_meet
      exact ((H.out.setLv i t.lev).setCl i c).drew
  case rest =>
    clear x0 x3 x4 x5 y1 y2 z1 z2 z3 z4 hrd
    have hs := hcut.sees
    have x4 := hs.w4
    have x5 := hs.w5
    have y2 := hs.f2
    have z3 := hs.cl i hi
    have z4 := hs.clf i
    clear hs
    have H2 := Lib.hid hcut
    clear hcut H
    by_cases ho : t.ov = 0
    · have hoz : (t.ov != 0) = false := by simp [ho]
      have HO := Lib.hid ho
      clear ho
      go_wp2_with fail
      go_end0
      exact ⟨rfl, H2.out⟩
    · have hoz : (t.ov != 0) = true := by simp [ho]
      have HO := Lib.hid ho
      clear ho
      go_wp2_with fail
      go_region
      all_goals
        go_wp2_with fail
        go_end0
        exact ⟨rfl, by have h3 := (H2.out.setCl i t.ov).drew; rw [upd_upd] at h3; exact h3⟩

set_option maxRecDepth 100000 in
set_option maxHeartbeats 1000000 in
theorem goes_raw {w wr : World} {K : WK} {lv cl : Nat → Int} {B : Nat} {t : Fr} {bs : List (Nat × Fr)} (h : WRel w wr K lv cl B t bs) (i : Nat) (hi : i < K.l.length) (hlen : K.l.length ≤ 70000) :
    Calls Try.prog 47 #[.pointer (some ⟨K.bw, 0, none⟩), .int .i64 i] wr (fun e w' => e = .returned (.tuple #[]) ∧ WRel w w' K (upd lv i (if i = 0 then K.base else lv (i - 1))) (upd cl i 10) B t bs) := by
  have hs := h.sees
  have x2 := hs.w2
  have x3 := hs.w3
  have x4 := hs.w4
  have z1 := hs.lv i hi
  have z2 := hs.lvf i
  have z3 := fun v => (h.setLv i v).sees.cl i hi
  have z4 := fun v => (h.setLv i v).sees.clf i
  clear hs
  have H := Lib.hid h
  clear h
  go_enter Try.func47, Try.ntmps47
  go_upto_region 1 with fail
  go_cut [] (fun wx => WRel w wx K (upd lv i K.base) (upd cl i 10) B t bs)
  case first =>
    go_region
    all_goals
      go_wp2_with fail
      go_meet
      exact ((H.out.setLv i K.base).setCl i 10).drew
  case rest =>
    clear x2 x3 x4 z1 z2 z3 z4
    have hs := hcut.sees
    by_cases h0 : i = 0
    · subst h0
      clear hs
      have H2 := Lib.hid hcut
      clear hcut H
      go_wp2_with fail
      go_end0
      exact ⟨rfl, H2.out⟩
    · have x3 := hs.w3
      have z1 := hs.lv (i - 1) (by omega)
      have z2 := hs.lvf i
      have z3 := hs.lv i hi
      rw [upd_ne _ (by omega)] at z1
      clear hs
      have H2 := Lib.hid hcut
      clear hcut H
      have hiz : (0 : Int) < (i : Int) := by omega
      have hi1 : ((i : Int) - 1).toNat = i - 1 := by omega
      obtain ⟨y, hy⟩ : ∃ y, lv (i - 1) = y := ⟨_, rfl⟩
      rw [hy] at z1
      have HY := Lib.hid hy
      clear hy
      go_wp2_with fail
      go_region
      all_goals
        go_wp2_with fail
        go_end0
        exact ⟨rfl, by rw [HY.out]; have h3 := (H2.out.setLv i y).drew; rw [upd_upd] at h3; exact h3⟩
end Go.Proofs.Ytkfjhannbnijkaa
