/- The reference's Levels: walked. -/
import Derived.Test.YtkfjhannbnijkaaRvC
import Derived.Test.YtkfjhannbnijkaaPlB
import Derived.Test.YtkfjhannbnijkaaL0
namespace Go.Proofs.Ytkfjhannbnijkaa
open Go.RowKit

set_option maxRecDepth 100000 in
set_option maxHeartbeats 1000000 in
theorem rlevels_limit (n cap : Nat) (ao : Option Addr) (base : Int) (w : World) (h : 65536 < n) (hm : n ≤ 9223372036854775807) :
    Calls Try.prog 19 #[.slice ao n cap, .int .u8 base] w (LErr w 3) := by
  have hd : decide ((65536 : Int) < (n : Int)) = true := by simp; omega
  go_enter Try.func19, Try.ntmps19
  go_wp2_with fail
  exact bodyPost_ret (v := .tuple #[.slice none 0 0, .slice none 0 0, .int .u8 0, .int .i64 3]) (by simp [results, Try.results19, go_sem]) rfl ⟨rfl, rfl⟩

set_option maxRecDepth 100000 in
set_option maxHeartbeats 1000000 in
theorem rlevels_arg (l : List Int) (base : Int) (n cap : Nat) (hn : l.length = n) (ao : Option Addr) (b off : Nat) (w : World) (hR : Reads w .u8 ao b off l) (h : n ≤ 65536) (hv : ¬ Valid l ∨ 2 < base) :
    Calls Try.prog 19 #[.slice ao n cap, .int .u8 base] w (LErr w 2) := by
  have hd : decide ((65536 : Int) < (n : Int)) = false := by simp; omega
  have HR := Lib.hid hR
  have HV := Lib.hid hv
  clear hR hv
  go_enter Try.func19, Try.ntmps19
  go_wp2_with fail
  go_loopg [8] n (fun g s8 wx => ∃ k : Nat, k ≤ n ∧ g = n - k ∧ s8 = .int .i64 k ∧ (∀ i, i < k → 1 ≤ l.getD i 0 ∧ l.getD i 0 ≤ 23) ∧ w = wx)
  case atStart => exact ⟨0, by omega, by omega, rfl, fun i hi => by omega, rfl⟩
  case round =>
    obtain ⟨k, hk, rfl, rfl, hall, rfl⟩ := hrel
    have HALL := Lib.hid hall
    clear hall
    by_cases hlt : k < n
    · have hkz : (k : Int) < (n : Int) := by omega
      obtain rfl := HR.out.spot (by omega)
      have c0 := HR.out.cell k (by omega)
      obtain ⟨c, hc⟩ : ∃ c, l.getD k 0 = c := ⟨_, rfl⟩
      rw [hc] at c0
      have HC := Lib.hid hc
      clear hc
      by_cases c1 : c < 1
      · have t1 : decide (c < 1) = true := by simp; omega
        go_wp2_with fail
        exact bodyPost_ret (v := .tuple #[.slice none 0 0, .slice none 0 0, .int .u8 0, .int .i64 2]) (by simp [results, Try.results19, go_sem]) rfl ⟨rfl, rfl⟩
      · have t1 : decide (c < 1) = false := by simp; omega
        by_cases c2 : 23 < c
        · have t2 : decide (23 < c) = true := by simp; omega
          go_wp2_with fail
          exact bodyPost_ret (v := .tuple #[.slice none 0 0, .slice none 0 0, .int .u8 0, .int .i64 2]) (by simp [results, Try.results19, go_sem]) rfl ⟨rfl, rfl⟩
        · have t2 : decide (23 < c) = false := by simp; omega
          go_wp2_with fail
          go_roundg (n - (k + 1))
          case measure => go_light; omega
          case rel => go_light; exact ⟨k + 1, by omega, rfl, by go_num, fun i hi => by (by_cases e : i = k; (subst e; rw [HC.out]; omega); (exact HALL.out i (by omega))), rfl⟩
    · obtain rfl : k = n := by omega
      have hkz : ¬ ((k : Int) < (k : Int)) := by omega
      have hb : 2 < base := by
        rcases HV.out with h | h
        · exact absurd (fun i hi => HALL.out i (by omega)) h
        · exact h
      have t3 : decide (2 < base) = true := by simp; omega
      go_wp2_with fail
      exact bodyPost_ret (v := .tuple #[.slice none 0 0, .slice none 0 0, .int .u8 0, .int .i64 2]) (by simp [results, Try.results19, go_sem]) rfl ⟨rfl, rfl⟩

def rplev (l : List Int) (base : Int) : Int := if base = 2 then rpbase l else base

/-- The walker behind within. -/
def rwR (l : List Int) (p : Int) : Nat × LC := rwi l p l.length 0 p 0 0 false 0 0 ⟨fun _ => 0, fun _ => 0⟩

/-- The last round, up to place i. -/
def rpost (l : List Int) (p : Int) (i : Nat) : LC :=
  ⟨fun j => if j < i then plv l p (rwR l p).2.lv j else (rwR l p).2.lv j, fun j => if j < i ∧ remB (l.getD j 0) = true then 10 else (rwR l p).2.cl j⟩
def rbef (l : List Int) (p : Int) (i : Nat) : Int := if i = 0 then p else plv l p (rwR l p).2.lv (i - 1)

theorem RRel.told {w wr : World} {K : RWK} {s s' : LC} (h : RRel w wr K s) (e : ∀ i, i < K.l.length → s.lv i = s'.lv i ∧ s.cl i = s'.cl i) : RRel w wr K s' :=
  { h with lv := h.lv.congr (fun i hi => by rw [(e i hi).1]), cl := h.cl.congr (fun i hi => by rw [(e i hi).2]) }

theorem rpost_rem {l : List Int} {p : Int} {i : Nat} (h : remB (l.getD i 0) = true) (j : Nat) : upd (rpost l p i).lv i (rbef l p i) j = (rpost l p (i + 1)).lv j ∧ upd (rpost l p i).cl i 10 j = (rpost l p (i + 1)).cl j := by
  simp only [rpost, upd]
  by_cases e : j = i
  · subst e
    rw [if_pos rfl, if_pos rfl, if_pos (by omega), if_pos ⟨by omega, h⟩, plv_rem h]
    exact ⟨rfl, rfl⟩
  · rw [if_neg e, if_neg e]
    by_cases h1 : j < i
    · rw [if_pos h1, if_pos (show j < i + 1 by omega)]
      refine ⟨rfl, ?_⟩
      by_cases h2 : remB (l.getD j 0) = true
      · rw [if_pos ⟨h1, h2⟩, if_pos ⟨by omega, h2⟩]
      · rw [if_neg (fun h => h2 h.2), if_neg (fun h => h2 h.2)]
    · rw [if_neg h1, if_neg (show ¬ j < i + 1 by omega), if_neg (fun h => h1 h.1), if_neg (fun h => by omega)]
      exact ⟨rfl, rfl⟩

theorem rpost_not {l : List Int} {p : Int} {i : Nat} (h : remB (l.getD i 0) = false) (j : Nat) : (rpost l p i).lv j = (rpost l p (i + 1)).lv j ∧ (rpost l p i).cl j = (rpost l p (i + 1)).cl j := by
  simp only [rpost]
  by_cases e : j = i
  · subst e
    rw [if_neg (by omega), if_pos (by omega), if_neg (fun h => by omega), if_neg (fun h2 => by rw [h] at h2; cases h2.2), plv_not h]
    exact ⟨rfl, rfl⟩
  · by_cases h1 : j < i
    · rw [if_pos h1, if_pos (show j < i + 1 by omega)]
      refine ⟨rfl, ?_⟩
      by_cases h2 : remB (l.getD j 0) = true
      · rw [if_pos ⟨h1, h2⟩, if_pos ⟨by omega, h2⟩]
      · rw [if_neg (fun h => h2 h.2), if_neg (fun h => h2 h.2)]
    · rw [if_neg h1, if_neg (show ¬ j < i + 1 by omega), if_neg (fun h => h1 h.1), if_neg (fun h => by omega)]
      exact ⟨rfl, rfl⟩

/-- Behind the making of the walker. -/
def RvStart (w : World) (l : List Int) (ao : Option Addr) (cap b off : Nat) (p : Int) (s : Value) (wx : World) : Prop :=
  ∃ bw bl bc : Nat, s = .pointer (some ⟨bw, 0, none⟩) ∧ RRel w wx ⟨l, p, ao, cap, b, off, bw, bl, bc⟩ ⟨fun _ => 0, fun _ => 0⟩

theorem RvStart.drew {w : World} {l : List Int} {ao : Option Addr} {cap b off : Nat} {p : Int} {s : Value} {wx : World} (h : RvStart w l ao cap b off p s wx) : RvStart w l ao cap b off p s wx.drew := by
  obtain ⟨bw, bl, bc, h1, h2⟩ := h
  exact ⟨bw, bl, bc, h1, h2.drew⟩

theorem rowIs_made'' {w : World} {b n : Nat} {z : Value} {t : TypeId} (h : b = w.heap.size) : (w.alloc (.cells (madeCells #[z] n) t)).rowIs b t n (fun _ => z) := by subst h; exact World.rowIs_made w z n t

theorem rvStart_of {w X : World} {l : List Int} {n : Nat} (hn : l.length = n) {ao : Option Addr} {cap b off : Nat} {p : Int} (hr : Reads w .u8 ao b off l) {bl bc bw : Nat} (hbw : bw = X.heap.size) (hs : w.Since w.heap.size X)
    (hl : X.rowIs bl 5 n (fun _ => .int .u8 0)) (hc : X.rowIs bc 34 n (fun _ => .int .u8 0)) (hd : w.heap.size ≤ bl ∧ w.heap.size ≤ bc ∧ bl ≠ bc) :
    RvStart w l ao cap b off p (.pointer (some ⟨bw, 0, none⟩)) (X.alloc (.cells #[.slice ao n cap, .int .u8 p, .slice (some ⟨bl, 0, none⟩) n n, .slice (some ⟨bc, 0, none⟩) n n] 66)) := by
  subst hn
  subst hbw
  have h2 := hl.lt
  have h3 := hc.lt
  exact ⟨X.heap.size, bl, bc, rfl,
    { since := hs.alloc hs.size _, reads := hr, lw := hs.size, ll := hd.1, lc := hd.2.1, wl := by simp only; omega, wc := by simp only; omega, lcn := hd.2.2
      wk := World.rowIs_alloc X _ 66 _ (fun i hi => by
        have : i = 0 ∨ i = 1 ∨ i = 2 ∨ i = 3 := by simp at hi; omega
        rcases this with rfl | rfl | rfl | rfl <;> rfl)
      lv := hl.alloc _, cl := hc.alloc _ }⟩

set_option maxRecDepth 100000 in
set_option maxHeartbeats 4000000 in
theorem rlevels_ok (l : List Int) (base : Int) (n cap : Nat) (hn : l.length = n) (ao : Option Addr) (b off : Nat) (w : World) (hR : Reads w .u8 ao b off l) (h : n ≤ 65536) (hv : Valid l) (hb : 0 ≤ base ∧ base ≤ 2) :
    Calls Try.prog 19 #[.slice ao n cap, .int .u8 base] w (LvDone w n (rplev l base) (rpost l (rplev l base) n).lv (rpost l (rplev l base) n).cl) := by
  have hd : decide ((65536 : Int) < (n : Int)) = false := by simp; omega
  have HR := Lib.hid hR
  have HV := Lib.hid hv
  have HN := Lib.hid hn
  obtain ⟨hb0, hb2⟩ := hb
  clear hR hv hn
  go_enter Try.func19, Try.ntmps19
  go_wp2_with fail
  go_loopg [8] n (fun g s8 wx => ∃ k : Nat, k ≤ n ∧ g = n - k ∧ s8 = .int .i64 k ∧ w = wx)
  case atStart => exact ⟨0, by omega, by omega, rfl, rfl⟩
  case round =>
    obtain ⟨k, hk, rfl, rfl, rfl⟩ := hrel
    by_cases hlt : k < n
    · have hkz : (k : Int) < (n : Int) := by omega
      obtain rfl := HR.out.spot (by have := HN.out; omega)
      have c0 := HR.out.cell k (by have := HN.out; omega)
      obtain ⟨hc1, hc2⟩ := HV.out k (by have := HN.out; omega)
      generalize l.getD k 0 = c at *
      have t1 : decide (c < 1) = false := by simp; omega
      have t2 : decide (23 < c) = false := by simp; omega
      go_wp2_with fail
      go_roundg (n - (k + 1))
      case measure => go_light; omega
      case rel => go_light; exact ⟨k + 1, by omega, rfl, by go_num, rfl⟩
    · obtain rfl : k = n := by omega
      have hkz : ¬ ((k : Int) < (k : Int)) := by omega
      have t3 : decide (2 < base) = false := by simp; omega
      go_upto_if 36 with fail
      go_cut [1] (fun s1 wx => s1 = .int .u8 (rplev l base) ∧ w = wx)
      case first =>
        by_cases h2 : base = 2
        · have t4 : (base == 2) = true := by simp [h2]
          have HP : Hid (rplev l base = rpbase l) := by show _ = _; unfold rplev; rw [if_pos h2]
          clear h2
          go_wp2_with (go_at_call 25; refine (rbase_any l k HN.out cap ao b off _ HR.out h).mono ?_; rintro e w' ⟨rfl, rfl⟩)
          go_meet
          exact ⟨by rw [HP.out], rfl⟩
        · have t4 : (base == 2) = false := by simp [h2]
          have HP : Hid (rplev l base = base) := by show _ = _; unfold rplev; rw [if_neg h2]
          clear h2
          go_wp2_with fail
          go_meet
          exact ⟨by rw [HP.out], rfl⟩
      case rest =>
        obtain ⟨rfl, rfl⟩ := hcut
        have hp : 0 ≤ rplev l base ∧ rplev l base ≤ 1 := by
          unfold rplev rpbase
          by_cases e : base = 2
          · rw [if_pos e]; split <;> omega
          · rw [if_neg e]; omega
        clear hb0 hb2
        generalize rplev l base = p at *
        have hmk1 := run_make_row' (P := Try.prog) 23 5 (.int .u8 0) 1 Try.underlying23 Try.info5 rfl .i64 .i64 k (by omega) (by omega)
        have hmk2 := run_make_row' (P := Try.prog) 22 34 (.int .u8 0) 1 Try.underlying22 Try.info34 rfl .i64 .i64 k (by omega) (by omega)
        go_upto_region 12 with fail
        go_cut [9] (fun s9 wx => RvStart w l ao cap b off p s9 wx)
        case first =>
          go_region
          all_goals
            go_wp2_with fail
            go_meet
            refine RvStart.drew ?_
            with_reducible refine rvStart_of HN.out HR.out ?_ ?_ ?_ ?_ ?_
            · simp
            · exact (((World.Since.refl _ w).alloc (Nat.le_refl _) _).alloc (by simp) _)
            · repeat (first | ((with_reducible refine rowIs_made'' ?_); first | rfl | (simp; done)) | with_reducible refine World.rowIs.alloc ?_ _)
            · repeat (first | ((with_reducible refine rowIs_made'' ?_); first | rfl | (simp; done)) | with_reducible refine World.rowIs.alloc ?_ _)
            · omega
        case rest =>
          obtain ⟨bw, bl, bc, rfl, hW⟩ := hcut
          obtain ⟨K, hK⟩ : ∃ K : RWK, K = ⟨l, p, ao, cap, b, off, bw, bl, bc⟩ := ⟨_, rfl⟩
          rw [← hK] at hW
          have hC := rwithin_any K k (by rw [hK]; exact HN.out) (by omega) k w wc ⟨fun _ => 0, fun _ => 0⟩ 0 p 0 0 false hW (by omega) (by omega) hp.1 (by omega)
          have hRK : rwi K.l K.base k 0 p 0 0 false 0 0 ⟨fun _ => 0, fun _ => 0⟩ = rwR l p := by rw [hK]; unfold rwR; rw [HN.out]
          rw [hRK] at hC
          have HC := Lib.hid hC
          have HBW : bw = K.bw := by rw [hK]
          subst HBW
          have HNK : Hid (K.l.length = k) := by show _ = _; rw [hK]; exact HN.out
          have HKL : Hid (K.l = l) := by show _ = _; rw [hK]
          clear hC hRK hW hmk1 hmk2 hK
          go_upto_region 14 with (go_at_call 39; refine HC.out.mono ?_; rintro e w1 ⟨rfl, h1, -⟩)
          have h0 : RRel w w1 K (rpost l p 0) := h1.told (fun i hi => by simp [rpost])
          have H0 := Lib.hid h0
          clear h1 h0
          go_wp2_with fail
          go_loopg [10, 11] k (fun g s10 s11 wx => ∃ i : Nat, i ≤ k ∧ g = k - i ∧ s10 = .int .u8 (rbef l p i) ∧ s11 = .int .i64 i ∧ RRel w wx K (rpost l p i))
          case atStart => exact ⟨0, by omega, by omega, rfl, rfl, H0.out⟩
          case round =>
            clear H0
            obtain ⟨i, hi, rfl, rfl, rfl, hR⟩ := hrel
            by_cases hlt2 : i < k
            · have hiz : (i : Int) < (k : Int) := by omega
              have hil : i < K.l.length := by rw [HNK.out]; exact hlt2
              have hS := hR.sees
              have x2 := hS.w2
              have x3 := hS.w3
              have z1 := hS.lv i hil
              have z2 := hS.lvf i
              have hsp := HR.out.spot (by have := HN.out; omega)
              have c0 : wr.cell? ⟨b, off + i, none⟩ = some (.int .u8 (l.getD i 0)) := (HR.out.since hR.since).cell i (by have := HN.out; omega)
              obtain ⟨c, hc⟩ : ∃ c, l.getD i 0 = c := ⟨_, rfl⟩
              rw [hc] at c0
              by_cases hrem : remB c = true
              · have hrm : remB (l.getD i 0) = true := by rw [hc]; exact hrem
                have hb1 : Hid (rbef l p (i + 1) = rbef l p i) := by
                  show _ = _
                  rw [rbef, if_neg (by omega), Nat.add_sub_cancel, plv_rem hrm]
                  rfl
                have H2 : Hid (RRel w ((wr.setCell ⟨K.bl, i, none⟩ (.int .u8 (rbef l p i))).setCell ⟨K.bc, i, none⟩ (.int .u8 10)) K (rpost l p (i + 1))) :=
                  ((hR.setLv i (rbef l p i)).setCl i 10).told (fun j _ => rpost_rem hrm j)
                have hS1 := (hR.setLv i (rbef l p i)).sees
                have x4 := hS1.w3
                have z3 := hS1.cl i hil
                have z4 := hS1.clf i
                have hS2 := ((hR.setLv i (rbef l p i)).setCl i 10).sees
                have x5 := hS2.w2
                have z5 := hS2.lv i hil
                simp only [upd_eq] at z5
                have HRR := Lib.hid hR
                subst hsp
                clear hS hS1 hS2 hR hc hrm
                obtain ⟨v, hv⟩ : ∃ v, rbef l p i = v := ⟨_, rfl⟩
                rw [hv] at x4 z3 z4 x5 z5 H2 hb1 ⊢
                clear hv
                go_wp2_with (go_at_call 21; refine (rRemoved_any _ _).mono ?_; rintro e w' ⟨rfl, rfl⟩)
                go_roundg (k - (i + 1))
                case measure => go_light; omega
                case rel => go_light; exact ⟨i + 1, by omega, rfl, by rw [hb1.out], by go_num, H2.out⟩
              · have hrem' : remB c = false := by simpa using hrem
                have hrm : remB (l.getD i 0) = false := by rw [hc]; exact hrem'
                have hb1 : Hid (rbef l p (i + 1) = (rpost l p i).lv i) := by
                  show _ = _
                  rw [rbef, if_neg (by omega), Nat.add_sub_cancel, plv_not hrm]
                  simp [rpost]
                have H2 : Hid (RRel w wr K (rpost l p (i + 1))) := hR.told (fun j _ => rpost_not hrm j)
                subst hsp
                clear hS hR hc hrm hrem
                obtain ⟨v, hv⟩ : ∃ v, (rpost l p i).lv i = v := ⟨_, rfl⟩
                rw [hv] at z1 hb1
                clear hv
                go_wp2_with (go_at_call 21; refine (rRemoved_any _ _).mono ?_; rintro e w' ⟨rfl, rfl⟩)
                go_roundg (k - (i + 1))
                case measure => go_light; omega
                case rel => go_light; exact ⟨i + 1, by omega, rfl, by rw [hb1.out], by go_num, H2.out⟩
            · have hiz : ¬ ((i : Int) < (k : Int)) := by omega
              obtain rfl : i = k := by omega
              have hS := hR.sees
              have x2 := hS.w2
              have x3 := hS.w3
              have HRR := Lib.hid hR
              rw [HNK.out] at x2 x3
              clear hS hR
              go_wp2_with fail
              go_quiet (fail)
              go_wp2_with fail
              refine bodyPost_ret (v := .tuple #[.slice (some ⟨K.bl, 0, none⟩) i i, .slice (some ⟨K.bc, 0, none⟩) i i, .int .u8 p, .int .i64 0]) (by simp [results, Try.results19, go_sem]) rfl ?_
              have hl := HRR.out.lv
              have hc := HRR.out.cl
              rw [HNK.out] at hl hc
              exact ⟨K.bl, K.bc, rfl, HRR.out.ll, HRR.out.lc, HRR.out.lcn, hl, hc, sinceN HRR.out.since nq⟩
end Go.Proofs.Ytkfjhannbnijkaa
