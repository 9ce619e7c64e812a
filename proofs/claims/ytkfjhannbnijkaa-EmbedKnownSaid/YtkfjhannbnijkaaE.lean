/- The reference's row: level, begins, ends. -/
import Derived.Test.YtkfjhannbnijkaaD
import Derived.Deep.RegionWith
namespace Go.Proofs.Ytkfjhannbnijkaa
open Go.RowKit

/-- The level of the k-th place; the paragraph's where there is none. -/
def levI (P L : List Int) (base k : Int) : Int := if k < 0 ∨ P.length ≤ k then base else L.getD (P.getD k.toNat 0).toNat 0

theorem Reads.since {w w' : World} {k : IntKind} {ao : Option Addr} {b off : Nat} {l : List Int} (h : Reads w k ao b off l) (hs : w.Since w.heap.size w') : Reads w' k ao b off l :=
  ⟨h.spot, fun i hi => by
    have hb := World.block_lt_of_cell? _ _ (h.cell i hi)
    rw [hs.cell (a := ⟨b, off + i, none⟩) hb]; exact h.cell i hi⟩

theorem sinceN {B : Nat} {w w' : World} (h : w.Since B w') (n : Nat) : w.Since B (w'.drewN n) := ⟨h.os, h.tape, h.output, h.size, h.block⟩

def Since0 (w : World) (v : Value) (e : Ending) (w' : World) : Prop := e = .returned v ∧ w.Since w.heap.size w'

set_option maxHeartbeats 1000000 in
theorem level_any (P L : List Int) (base k : Int) (hk : -70000 ≤ k ∧ k ≤ 70000) (np nl cp cl : Nat) (hnp : P.length = np) (hnl : L.length = nl) (hlim : np ≤ 70000 ∧ nl ≤ 70000) (ap al : Option Addr) (bp op bl ol : Nat) (w : World)
    (hp : Reads w .i64 ap bp op P) (hl : Reads w .u8 al bl ol L) (hP : ∀ i, i < np → 0 ≤ P.getD i 0 ∧ P.getD i 0 < nl) :
    Calls Try.prog 34 #[.agg #[.slice ap np cp, .slice al nl cl, .int .u8 base], .int .i64 k] w (Since0 w (.int .u8 (levI P L base k))) := by
  obtain ⟨hk1, hk2⟩ := hk
  obtain ⟨hm1, hm2⟩ := hlim
  by_cases h0 : k < 0
  · have E : Hid (levI P L base k = base) := by unfold levI; exact if_pos (Or.inl h0)
    go_enter Try.func34, Try.ntmps34
    go_wp2
    go_ret
    exact ⟨ret_int E.out.symm, (World.Since.refl _ _).alloc (Nat.le_refl _) _⟩
  · by_cases h1 : (np : Int) ≤ k
    · have E : Hid (levI P L base k = base) := by unfold levI; exact if_pos (Or.inr (by omega))
      go_enter Try.func34, Try.ntmps34
      go_wp2
      go_ret
      exact ⟨ret_int E.out.symm, (World.Since.refl _ _).alloc (Nat.le_refl _) _⟩
    · obtain ⟨n, rfl⟩ := Int.eq_ofNat_of_zero_le (show 0 ≤ k by omega)
      have E : Hid (levI P L base n = L.getD (P.getD n 0).toNat 0) := by unfold levI; rw [if_neg (by omega)]; rfl
      obtain ⟨hq1, hq2⟩ := hP n (by omega)
      have c1 := hp.cell n (by omega)
      obtain rfl := hp.spot (by omega)
      obtain ⟨q, hq⟩ := Int.eq_ofNat_of_zero_le hq1
      have c2 := hl.cell q (by omega)
      obtain rfl := hl.spot (by omega)
      have hbp := World.block_lt_of_cell? _ _ c1
      have hbl := World.block_lt_of_cell? _ _ c2
      rw [hq] at c1 E hq2
      simp only [Int.toNat_natCast] at E
      generalize L.getD q 0 = v at *
      clear hq hq1 hP
      have d1 : ∀ o, (w.alloc o).cell? ⟨bp, op + n, none⟩ = some (.int .i64 q) := fun o => by rw [World.cell?_alloc_lt _ _ _ hbp]; exact c1
      have d2 : ∀ o, (w.alloc o).cell? ⟨bl, ol + q, none⟩ = some (.int .u8 v) := fun o => by rw [World.cell?_alloc_lt _ _ _ hbl]; exact c2
      go_enter Try.func34, Try.ntmps34
      go_wp2
      go_quiet (fail)
      go_wp2
      go_ret
      exact ⟨ret_int E.out.symm, sinceN ((World.Since.refl _ _).alloc (Nat.le_refl _) _) _⟩

/-- What the two calls of begins, and of ends, keep. -/
structure RS (w w' : World) (ap al : Option Addr) (bp op bl ol : Nat) (P L : List Int) : Prop where
  since : w.Since w.heap.size w'
  lt : w.heap.size < w'.heap.size
  p : Reads w' .i64 ap bp op P
  l : Reads w' .u8 al bl ol L

theorem RS.start {w : World} {ap al : Option Addr} {bp op bl ol : Nat} {P L : List Int} (hp : Reads w .i64 ap bp op P) (hl : Reads w .u8 al bl ol L) (o : Obj) : RS w (w.alloc o).drew ap al bp op bl ol P L := by
  have h := ((World.Since.refl w.heap.size w).alloc (Nat.le_refl _) o).drew
  exact ⟨h, by simp, hp.since h, hl.since h⟩

theorem rs_next {w w1 w2 : World} {v0 v1 v2 : Value} {ap al : Option Addr} {bp op bl ol : Nat} {P L : List Int}
    (h : w1.cell? ⟨w.heap.size, 0, none⟩ = some v0 ∧ w1.cell? ⟨w.heap.size, 1, none⟩ = some v1 ∧ w1.cell? ⟨w.heap.size, 2, none⟩ = some v2 ∧ RS w w1 ap al bp op bl ol P L) (h2 : w1.Since w1.heap.size w2) :
    w2.cell? ⟨w.heap.size, 0, none⟩ = some v0 ∧ w2.cell? ⟨w.heap.size, 1, none⟩ = some v1 ∧ w2.cell? ⟨w.heap.size, 2, none⟩ = some v2 ∧ RS w w2 ap al bp op bl ol P L := by
  obtain ⟨c0, c1, c2, hs, hlt, hp, hl⟩ := h
  refine ⟨?_, ?_, ?_, ⟨hs.trans ⟨h2.os, h2.tape, h2.output, h2.size, fun k hk => h2.block k (by omega)⟩, by have := h2.size; omega, hp.since h2, hl.since h2⟩⟩
  · rw [h2.cell (a := ⟨w.heap.size, 0, none⟩) hlt]; exact c0
  · rw [h2.cell (a := ⟨w.heap.size, 1, none⟩) hlt]; exact c1
  · rw [h2.cell (a := ⟨w.heap.size, 2, none⟩) hlt]; exact c2

theorem level_S {w w1 : World} {v0 v1 v2 : Value} (P L : List Int) (base k : Int) (hk : -70000 ≤ k ∧ k ≤ 70000) (np nl cp cl : Nat) (hnp : P.length = np) (hnl : L.length = nl) (hlim : np ≤ 70000 ∧ nl ≤ 70000) (ap al : Option Addr) (bp op bl ol : Nat)
    (hP : ∀ i, i < np → 0 ≤ P.getD i 0 ∧ P.getD i 0 < nl)
    (h : w1.cell? ⟨w.heap.size, 0, none⟩ = some v0 ∧ w1.cell? ⟨w.heap.size, 1, none⟩ = some v1 ∧ w1.cell? ⟨w.heap.size, 2, none⟩ = some v2 ∧ RS w w1 ap al bp op bl ol P L) :
    Calls Try.prog 34 #[.agg #[.slice ap np cp, .slice al nl cl, .int .u8 base], .int .i64 k] w1 (Since0 w1 (.int .u8 (levI P L base k))) :=
  level_any P L base k hk np nl cp cl hnp hnl hlim ap al bp op bl ol w1 h.2.2.2.p h.2.2.2.l hP

theorem since_S {w w1 : World} {v0 v1 v2 : Value} {ap al : Option Addr} {bp op bl ol : Nat} {P L : List Int}
    (h : w1.cell? ⟨w.heap.size, 0, none⟩ = some v0 ∧ w1.cell? ⟨w.heap.size, 1, none⟩ = some v1 ∧ w1.cell? ⟨w.heap.size, 2, none⟩ = some v2 ∧ RS w w1 ap al bp op bl ol P L) : w.Since w.heap.size w1 := h.2.2.2.since

set_option maxHeartbeats 1000000 in
theorem begins_any (P L : List Int) (base : Int) (k : Nat) (hk : k ≤ 69000) (np nl cp cl : Nat) (hnp : P.length = np) (hnl : L.length = nl) (hlim : np ≤ 70000 ∧ nl ≤ 70000) (ap al : Option Addr) (bp op bl ol : Nat) (w : World)
    (hp : Reads w .i64 ap bp op P) (hl : Reads w .u8 al bl ol L) (hP : ∀ i, i < np → 0 ≤ P.getD i 0 ∧ P.getD i 0 < nl) :
    Calls Try.prog 33 #[.agg #[.slice ap np cp, .slice al nl cl, .int .u8 base], .int .i64 k] w (Since0 w (.bool (k == 0 || levI P L base k != levI P L base (k - 1)))) := by
  by_cases h0 : k = 0
  · have hz : ((k : Int) == 0) = true := by simp [h0]
    have E : Hid ((k == 0 || levI P L base k != levI P L base (k - 1)) = true) := by show _ = _; simp [h0]
    clear h0
    go_enter Try.func33, Try.ntmps33
    go_wp2
    go_quiet (fail)
    go_wp2
    go_ret
    exact ⟨ret_bool E.out.symm, sinceN ((World.Since.refl _ _).alloc (Nat.le_refl _) _) _⟩
  · have hz : ((k : Int) == 0) = false := by simp [h0]
    have hk1 : 0 < k := by omega
    have E : Hid ((k == 0 || levI P L base k != levI P L base (k - 1)) = (levI P L base k != levI P L base (k - 1))) := by show _ = _; simp [h0]
    have HP := Lib.hid hP
    have HNP := Lib.hid hnp
    have HNL := Lib.hid hnl
    have HLIM := Lib.hid hlim
    clear h0 hP hnp hnl hlim
    have hS0 := RS.start hp hl (.cells #[.slice ap np cp, .slice al nl cl, .int .u8 base] 57)
    have hk2 : -70000 ≤ (k : Int) - 1 ∧ (k : Int) - 1 ≤ 70000 := by omega
    have hk3 : -70000 ≤ (k : Int) ∧ (k : Int) ≤ 70000 := by omega
    have hw : IntKind.i64.wrap ((k : Int) - 1) = (k : Int) - 1 := IntWalk.i64_in _ (by omega)
    go_enter Try.func33, Try.ntmps33
    go_wp2_with fail
    go_region_held3 (fun w' => w'.cell? ⟨w.heap.size, 0, none⟩ = some (.slice ap np cp) ∧ w'.cell? ⟨w.heap.size, 1, none⟩ = some (.slice al nl cl) ∧ w'.cell? ⟨w.heap.size, 2, none⟩ = some (.int .u8 base) ∧ RS w w' ap al bp op bl ol P L)
      (first | exact ⟨by simp, by simp, by simp, hS0⟩ | exact rs_next (by assumption) (by assumption))
      (first | (go_at_call 34; refine (level_S P L base _ (by first | exact hk3 | (rw [hw]; exact hk2) | exact hk2) np nl cp cl HNP.out HNL.out HLIM.out ap al bp op bl ol HP.out (by assumption)).mono ?_; rintro e w2 ⟨rfl, h2⟩))
    go_wp2
    go_ret
    exact ⟨ret_bool E.out.symm, since_S (by assumption)⟩
set_option maxHeartbeats 1000000 in
theorem ends_any (P L : List Int) (base : Int) (k : Nat) (hk : k ≤ 69000) (np nl cp cl : Nat) (hnp : P.length = np) (hnl : L.length = nl) (hlim : np ≤ 70000 ∧ nl ≤ 70000) (ap al : Option Addr) (bp op bl ol : Nat) (w : World)
    (hp : Reads w .i64 ap bp op P) (hl : Reads w .u8 al bl ol L) (hP : ∀ i, i < np → 0 ≤ P.getD i 0 ∧ P.getD i 0 < nl) :
    Calls Try.prog 31 #[.agg #[.slice ap np cp, .slice al nl cl, .int .u8 base], .int .i64 k] w (Since0 w (.bool ((k : Int) == (np : Int) - 1 || levI P L base k != levI P L base (k + 1)))) := by
  have hw0 : IntKind.i64.wrap ((np : Int) - 1) = (np : Int) - 1 := IntWalk.i64_in _ (by omega)
  by_cases h0 : (k : Int) = (np : Int) - 1
  · have hz : ((k : Int) == (np : Int) - 1) = true := by simp [h0]
    have E : Hid (((k : Int) == (np : Int) - 1 || levI P L base k != levI P L base (k + 1)) = true) := by show _ = _; simp [h0]
    clear h0
    go_enter Try.func31, Try.ntmps31
    go_wp2
    go_quiet (fail)
    go_wp2
    go_ret
    exact ⟨ret_bool E.out.symm, sinceN ((World.Since.refl _ _).alloc (Nat.le_refl _) _) _⟩
  · have hz : ((k : Int) == (np : Int) - 1) = false := by simp [h0]
    have E : Hid (((k : Int) == (np : Int) - 1 || levI P L base k != levI P L base (k + 1)) = (levI P L base k != levI P L base (k + 1))) := by show _ = _; rw [hz]; rfl
    have HP := Lib.hid hP
    have HNP := Lib.hid hnp
    have HNL := Lib.hid hnl
    have HLIM := Lib.hid hlim
    clear h0 hP hnp hnl hlim
    have hS0 := RS.start hp hl (.cells #[.slice ap np cp, .slice al nl cl, .int .u8 base] 57)
    have hk2 : -70000 ≤ (k : Int) + 1 ∧ (k : Int) + 1 ≤ 70000 := by omega
    have hk3 : -70000 ≤ (k : Int) ∧ (k : Int) ≤ 70000 := by omega
    have hw : IntKind.i64.wrap ((k : Int) + 1) = (k : Int) + 1 := IntWalk.i64_in _ (by omega)
    go_enter Try.func31, Try.ntmps31
    go_wp2_with fail
    go_region_held3 (fun w' => w'.cell? ⟨w.heap.size, 0, none⟩ = some (.slice ap np cp) ∧ w'.cell? ⟨w.heap.size, 1, none⟩ = some (.slice al nl cl) ∧ w'.cell? ⟨w.heap.size, 2, none⟩ = some (.int .u8 base) ∧ RS w w' ap al bp op bl ol P L)
      (first | exact ⟨by simp, by simp, by simp, hS0⟩ | exact rs_next (by assumption) (by assumption))
      (first | (go_at_call 34; refine (level_S P L base _ (by first | exact hk3 | (rw [hw]; exact hk2) | exact hk2) np nl cp cl HNP.out HNL.out HLIM.out ap al bp op bl ol HP.out (by assumption)).mono ?_; rintro e w2 ⟨rfl, h2⟩))
    go_wp2
    go_ret
    exact ⟨ret_bool E.out.symm, since_S (by assumption)⟩
end Go.Proofs.Ytkfjhannbnijkaa
