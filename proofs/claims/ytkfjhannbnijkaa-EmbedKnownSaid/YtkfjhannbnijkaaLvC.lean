/- A frame within another one; the isolate's frame in which one stands: walked. -/
import Derived.Test.YtkfjhannbnijkaaLvB
namespace Go.Proofs.Ytkfjhannbnijkaa
open Go.RowKit

theorem an_u8 : ∀ m : Nat, m < 126 → bits BinOp.andNot IntKind.u8 ((m : Int) + 2) 1 = nextL m false := by decide +kernel
theorem or_u8 : ∀ m : Nat, m < 126 → bits BinOp.or IntKind.u8 ((m : Int) + 1) 1 = nextL m true := by decide +kernel

/-- A new frame, within this one. -/
def Grew (w : World) (K : WK) (lv cl : Nat → Int) (B : Nat) (t : Fr) (bs : List (Nat × Fr)) (g : Fr) (e : Ending) (w' : World) : Prop :=
  ∃ N : Nat, e = .returned (.pointer (some ⟨N, 0, none⟩)) ∧ WRel w w' K lv cl B t bs ∧ Chn w' w.heap.size [K.bw, K.bm, K.bl, K.bc] ((N, g) :: (B, t) :: bs)

def NotGrew (w : World) (K : WK) (lv cl : Nat → Int) (B : Nat) (t : Fr) (bs : List (Nat × Fr)) (e : Ending) (w' : World) : Prop :=
  e = .returned (.pointer none) ∧ WRel w w' K lv cl B t bs

def Within (w : World) (K : WK) (lv cl : Nat → Int) (B : Nat) (t : Fr) (bs : List (Nat × Fr)) (r : Bool) (e : Ending) (w' : World) : Prop :=
  match frIn t r with
  | some g => Grew w K lv cl B t bs g e w'
  | none => NotGrew w K lv cl B t bs e w'

theorem WRel.drewN {w wr : World} {K : WK} {lv cl : Nat → Int} {B : Nat} {t : Fr} {bs : List (Nat × Fr)} (h : WRel w wr K lv cl B t bs) (n : Nat) : WRel w (wr.drewN n) K lv cl B t bs :=
  { h with since := sinceN h.since n, wk := h.wk, m := h.m, lv := h.lv, cl := h.cl, chn := h.chn.of_blocks fun _ _ => rfl }

theorem within_none {w : World} {K : WK} {lv cl : Nat → Int} {B : Nat} {t : Fr} {bs : List (Nat × Fr)} {r : Bool} {e : Ending} {w' : World} (hn : ¬ (nextL t.lev r ≤ 125 ∧ t.is + t.em ≤ 0)) (h : NotGrew w K lv cl B t bs e w') : Within w K lv cl B t bs r e w' := by
  unfold Within frIn
  rw [if_neg hn]
  exact h
theorem within_some {w : World} {K : WK} {lv cl : Nat → Int} {B : Nat} {t : Fr} {bs : List (Nat × Fr)} {r : Bool} {e : Ending} {w' : World} (hn : nextL t.lev r ≤ 125 ∧ t.is + t.em ≤ 0) (h : Grew w K lv cl B t bs ⟨nextL t.lev r, 0, false, 0, 0⟩ e w') : Within w K lv cl B t bs r e w' := by
  unfold Within frIn
  rw [if_pos hn]
  exact h

set_option maxRecDepth 100000 in
set_option maxHeartbeats 1000000 in
theorem within_any {w wr : World} {K : WK} {lv cl : Nat → Int} {B : Nat} {t : Fr} {bs : List (Nat × Fr)} (h : WRel w wr K lv cl B t bs) (r : Bool) (k : Nat) (hf : FrOK k t) (hk : k ≤ 70000) :
    Calls Try.prog 52 #[.pointer (some ⟨B, 0, none⟩), .bool r] wr (Within w K lv cl B t bs r) := by
  have hs := h.sees
  have y1 := hs.f1
  have y4 := hs.f4
  have y5 := hs.f5
  clear hs
  have H := Lib.hid h
  clear h
  obtain ⟨lev, ov, iso, is, em⟩ := t
  obtain ⟨l0, l1, o0, o1, i0, i1, e0, e1⟩ := hf
  simp only at y1 y4 y5 l0 l1 i0 i1 e0 e1
  obtain ⟨n, rfl⟩ := Int.eq_ofNat_of_zero_le l0
  have hb := nextL_bd (lev := (n : Int)) (r := r)
  have h1 := an_u8 n (by omega)
  have h2 := or_u8 n (by omega)
  have hx : ∃ x, nextL (n : Int) r = x := ⟨_, rfl⟩
  obtain ⟨x, hx⟩ := hx
  rw [hx] at hb
  obtain ⟨hb1, hb2, -⟩ := hb
  by_cases hd : x ≤ 125 ∧ is + em ≤ 0
  · have hg : ∀ m : Nat, Hid (∀ (p : Value), p = .pointer (some ⟨B, 0, none⟩) → Grew w K lv cl B ⟨n, ov, iso, is, em⟩ bs ⟨x, 0, false, 0, 0⟩ (.returned (.pointer (some ⟨wr.heap.size, 0, none⟩))) ((wr.drewN m).alloc (.cells #[p, .int .u8 x, .int .u8 0, .bool false, .int .i64 0, .int .i64 0] 80))) := by
      rintro m p rfl
      exact ⟨_, rfl, (H.out.drewN m).alloc _, (H.out.drewN m).grown (f := ⟨x, 0, false, 0, 0⟩) (up := (B, ⟨n, ov, iso, is, em⟩) :: bs) rfl (H.out.drewN m).chn⟩
    obtain ⟨d1, d2⟩ := hd
    have q1 : decide ((125 : Int) < x) = false := by simp; omega
    have q2 : decide ((0 : Int) < is + em) = false := by simp; omega
    have HX := Lib.hid hx
    cases r
    all_goals
      first
      | rw [hx] at h1; clear hx h2
      | rw [hx] at h2; clear hx h1
      go_enter Try.func52, Try.ntmps52
      go_wp2_with fail
      go_quiet (fail)
      go_wp2_with fail
      go_ret
      refine within_some ?_ ?_
      · simp only; rw [HX.out]; exact ⟨d1, d2⟩
      · simp only; rw [HX.out]; exact (hg nq).out _ rfl
  · have hn : ∀ m : Nat, Hid (NotGrew w K lv cl B ⟨n, ov, iso, is, em⟩ bs (.returned (.pointer none)) (wr.drewN m)) := by
      intro m
      exact ⟨rfl, H.out.drewN m⟩
    by_cases d1 : x ≤ 125
    · have q1 : decide ((125 : Int) < x) = false := by simp; omega
      have q2 : decide ((0 : Int) < is + em) = true := by simp; omega
      have HX := Lib.hid hx
      have HD := Lib.hid hd
      clear hd
      cases r
      all_goals
        first
        | rw [hx] at h1; clear hx h2
        | rw [hx] at h2; clear hx h1
        go_enter Try.func52, Try.ntmps52
        go_wp2_with fail
        go_quiet (fail)
        go_wp2_with fail
        go_ret
        refine within_none ?_ ?_
        · simp only; rw [HX.out]; exact HD.out
        · exact (hn nq).out
    · have q1 : decide ((125 : Int) < x) = true := by simp; omega
      have HX := Lib.hid hx
      have HD := Lib.hid hd
      clear hd
      cases r
      all_goals
        first
        | rw [hx] at h1; clear hx h2
        | rw [hx] at h2; clear hx h1
        go_enter Try.func52, Try.ntmps52
        go_wp2_with fail
        go_quiet (fail)
        go_wp2_with fail
        go_ret
        refine within_none ?_ ?_
        · simp only; rw [HX.out]; exact HD.out
        · exact (hn nq).out

/-- From the first isolate's frame on. -/
def heldC : List (Nat × Fr) → List (Nat × Fr)
  | [] => []
  | x :: r => if x.2.iso = true then x :: r else heldC r

theorem held_any {wr : World} {lo : Nat} {av : List Nat} (c : List (Nat × Fr)) (h : Chn wr lo av c) :
    Calls Try.prog 53 #[ptrOf c] wr (fun e w' => e = .returned (ptrOf (heldC c)) ∧ wr = w') := by
  obtain ⟨n, hn⟩ : ∃ n, n = c.length := ⟨_, rfl⟩
  have HN := Lib.hid hn
  have HC := Lib.hid h
  clear hn h
  go_enter Try.func53, Try.ntmps53
  go_wp2_with fail
  go_loopg [0] n (fun g s0 wx => ∃ r : List (Nat × Fr), g = r.length ∧ s0 = ptrOf r ∧ Hid (heldC r = heldC c) ∧ Chn wr lo av r ∧ wr = wx)
  case atStart => exact ⟨c, HN.out, rfl, rfl, HC.out, rfl⟩
  case round =>
    obtain ⟨r, rfl, rfl, HE, hr, rfl⟩ := hrel
    match r, HE, hr with
    | [], HE, hr =>
      simp only [ptrOf]
      go_wp2_with fail
      go_ret
      exact ⟨by rw [← HE.out]; rfl, rfl⟩
    | x :: r, HE, hr =>
      have y0 : wr.cell? ⟨x.1, 0, none⟩ = some (ptrOf r) := hr.2.2.2.1.cell (i := 0) (by omega)
      have y3 : wr.cell? ⟨x.1, 3, none⟩ = some (.bool x.2.iso) := hr.2.2.2.1.cell (i := 3) (by omega)
      have HR := Lib.hid hr
      clear hr
      simp only [ptrOf]
      obtain ⟨iso, hi⟩ : ∃ i, x.2.iso = i := ⟨_, rfl⟩
      rw [hi] at y3
      have HI := Lib.hid hi
      clear hi
      obtain ⟨p, hp⟩ : ∃ p, ptrOf r = p := ⟨_, rfl⟩
      rw [hp] at y0
      have HP := Lib.hid hp
      clear hp
      cases iso with
      | true =>
        go_wp2_with fail
        go_ret
        exact ⟨by rw [← HE.out, heldC, if_pos HI.out]; rfl, rfl⟩
      | false =>
        go_wp2_with fail
        go_roundg r.length
        case measure => go_light; simp
        case rel => go_light; exact ⟨r, rfl, HP.out.symm, Lib.hid (by rw [← HE.out, heldC, if_neg (by rw [HI.out]; simp)]), HR.out.2.2.2.2, rfl⟩

/-- Each initiator's match lies behind it. -/
def Ahead (l : List Int) (mt : Nat → Int) : Prop := ∀ i, initB (l.getD i 0) = true → 0 ≤ mt i → (i : Int) < mt i ∧ mt i < l.length

theorem erw_zero {l : List Int} {mt : Nat → Int} {f i z : Nat} (h : z ≤ i) : erw l mt f i z = false := by
  cases f with
  | zero => rfl
  | succ f => rw [erw, if_pos h]

set_option maxRecDepth 100000 in
set_option maxHeartbeats 1000000 in
theorem rightward_any (l : List Int) (mt : Nat → Int) (n : Nat) (hn : l.length = n) (hlen : n ≤ 70000) (bw bm cap b off : Nat) (ao : Option Addr) (w : World)
    (w0 : w.cell? ⟨bw, 0, none⟩ = some (.slice ao n cap)) (w1 : w.cell? ⟨bw, 1, none⟩ = some (.slice (some ⟨bm, 0, none⟩) n n)) (hm : ∀ i, i < n → w.cell? ⟨bm, i, none⟩ = some (.int .i64 (mt i))) (hR : Reads w .u8 ao b off l) (hA : Ahead l mt)
    (i0 z f : Nat) (hi0 : i0 ≤ n) (hz : z ≤ n) (hf : z ≤ i0 + f) :
    Calls Try.prog 40 #[.pointer (some ⟨bw, 0, none⟩), .int .i64 i0, .int .i64 z] w (fun e w' => e = .returned (.bool (erw l mt f i0 z)) ∧ w = w') := by
  have HM := Lib.hid hm
  have HR := Lib.hid hR
  have HA := Lib.hid hA
  clear hm hR hA
  go_enter Try.func40, Try.ntmps40
  go_wp2_with fail
  go_loopg [7] f (fun g s7 wx => ∃ k q : Nat, q = g ∧ k ≤ n ∧ s7 = .int .i64 k ∧ z ≤ k + q ∧ Hid (erw l mt q k z = erw l mt f i0 z) ∧ w = wx)
  case atStart => exact ⟨i0, f, rfl, hi0, rfl, hf, Lib.hid rfl, rfl⟩
  case round =>
    obtain ⟨k, g, rfl, hk, rfl, hg, HE, rfl⟩ := hrel
    by_cases hlt : k < z
    · have hkz : (k : Int) < (z : Int) := by omega
      have hkn : k < n := by omega
      obtain rfl := HR.out.spot (by omega)
      have c0 := HR.out.cell k (by omega)
      have m0 := HM.out k hkn
      obtain ⟨g', rfl⟩ : ∃ g', g = g' + 1 := ⟨g - 1, by omega⟩
      have hA := HA.out k
      have hE := HE.out
      rw [erw, if_neg (by omega)] at hE
      obtain ⟨c, hc⟩ : ∃ c, l.getD k 0 = c := ⟨_, rfl⟩
      obtain ⟨x, hx⟩ : ∃ x, mt k = x := ⟨_, rfl⟩
      rw [hc] at c0 hA
      rw [hx] at m0 hA
      rw [hc, hx] at hE
      have HX := Lib.hid hx
      have HC := Lib.hid hc
      clear hx hc HE
      by_cases c1 : c = 2 ∨ c = 3
      · rw [if_pos c1] at hE
        have HE := Lib.hid hE
        clear hE
        rcases c1 with rfl | rfl
        all_goals
          go_wp2_with fail
          go_ret
          exact ⟨ret_bool HE.out, rfl⟩
      · rw [if_neg c1] at hE
        have t2 : (c == 2) = false := by simp; omega
        have t3 : (c == 3) = false := by simp; omega
        by_cases c2 : c = 1 ∨ c = 11
        · rw [if_pos c2] at hE
          have HE := Lib.hid hE
          clear hE
          rcases c2 with rfl | rfl
          all_goals
            go_wp2_with fail
            go_ret
            exact ⟨ret_bool HE.out, rfl⟩
        · rw [if_neg c2] at hE
          have t1 : (c == 1) = false := by simp; omega
          have t11 : (c == 11) = false := by simp; omega
          by_cases hi : initB c = true
          · rw [if_pos hi] at hE
            have hA := hA hi
            have HI := Lib.hid hi
            clear hi c1 c2
            by_cases hx0 : x < 0
            · rw [if_pos hx0] at hE
              have HE := Lib.hid hE
              clear hE hA
              go_wp2_with (go_at_call 38; refine (initiator_any _ _).mono ?_; rintro e w' ⟨rfl, rfl⟩)
              go_ret
              exact ⟨ret_bool HE.out, rfl⟩
            · rw [if_neg hx0] at hE
              obtain ⟨hA1, hA2⟩ := hA (by omega)
              have HE := Lib.hid hE
              clear hE hA
              have hx0' : 0 ≤ x := by omega
              go_wp2_with (go_at_call 38; refine (initiator_any _ _).mono ?_; rintro e w' ⟨rfl, rfl⟩)
              go_roundg g'
              case measure => go_light; omega
              case rel => go_light; exact ⟨x.toNat + 1, g', rfl, by omega, by (congr 1; omega), by omega, HE, rfl⟩
          · rw [if_neg hi] at hE
            have hi' : initB c = false := by simpa using hi
            have HE := Lib.hid hE
            clear hE hA hi c1 c2
            go_wp2_with (go_at_call 38; refine (initiator_any _ _).mono ?_; rintro e w' ⟨rfl, rfl⟩)
            go_roundg g'
            case measure => go_light; omega
            case rel => go_light; exact ⟨k + 1, g', rfl, by omega, by go_num, by omega, HE, rfl⟩
    · have hkz : ¬ ((k : Int) < (z : Int)) := by omega
      go_wp2_with fail
      go_ret
      exact ⟨ret_bool (by rw [← HE.out, erw_zero (by omega)]), rfl⟩
end Go.Proofs.Ytkfjhannbnijkaa
