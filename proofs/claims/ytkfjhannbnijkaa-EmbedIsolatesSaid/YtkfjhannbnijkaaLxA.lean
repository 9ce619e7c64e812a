/- plain: walked. It reads; what it calls plain is so. -/
import Derived.Test.YtkfjhannbnijkaaPlJ
import Derived.Test.YtkfjhannbnijkaaJ
namespace Go.Proofs.Ytkfjhannbnijkaa
open Go.RowKit

def PlPost (l : List Int) (w : World) (e : Ending) (w' : World) : Prop := ∃ r : Bool, e = .returned (.bool r) ∧ (r = true ↔ PlainL l) ∧ w = w'

theorem PlPost.no {l : List Int} {w : World} (h : ¬ PlainL l) : PlPost l w (.returned (.bool false)) w := ⟨false, rfl, ⟨fun h => by simp at h, fun h2 => absurd h2 h⟩, rfl⟩

theorem opn_le (l : List Int) (k : Nat) : -(k : Int) ≤ opn l k ∧ opn l k ≤ k := by
  induction k with
  | zero => simp [opn]
  | succ k ih =>
    rw [opn]
    split
    · omega
    · split <;> omega

def PAt (l : List Int) (n : Nat) (g : Nat) (s3 s4 : Value) : Prop := ∃ k : Nat, k ≤ n ∧ g = n - k ∧ s3 = .int .i64 (opn l k) ∧ s4 = .int .i64 k ∧ ∀ j, j < k → Pln l j

set_option maxRecDepth 100000 in
set_option maxHeartbeats 2000000 in
theorem plain_any (l : List Int) (n : Nat) (hn : l.length = n) (hlen : n ≤ 70000) (cap b off : Nat) (ao : Option Addr) (w : World) (hR : Reads w .u8 ao b off l) :
    Calls Try.prog 28 #[.slice ao n cap] w (PlPost l w) := by
  have HR := Lib.hid hR
  have HN := Lib.hid hn
  clear hR hn
  go_enter Try.func28, Try.ntmps28
  go_wp2_with fail
  go_loopg [3, 4] n (fun g s3 s4 wx => PAt l n g s3 s4 ∧ w = wx)
  case atStart => exact ⟨⟨0, by omega, by omega, rfl, rfl, fun j hj => by omega⟩, rfl⟩
  case round =>
    obtain ⟨⟨k, hk, rfl, rfl, rfl, hP⟩, rfl⟩ := hrel
    have HP := Lib.hid hP
    have ho := opn_le l k
    clear hP
    by_cases hlt : k < n
    · have hkz : decide ((k : Int) < (n : Int)) = true := by simp; omega
      obtain rfl := HR.out.spot (by rw [HN.out]; omega)
      have c0 := HR.out.cell k (by rw [HN.out]; omega)
      obtain ⟨c, hc⟩ : ∃ c, l.getD k 0 = c := ⟨_, rfl⟩
      have hs : opn l (k + 1) = if initB c = true then opn l k + 1 else if c = 23 then opn l k - 1 else opn l k := by rw [opn, hc]
      have hpl : 1 ≤ c → c ≤ 23 → c ≠ 11 → 0 ≤ opn l (k + 1) → Pln l k := fun h1 h2 h3 h4 => by unfold Pln; rw [hc]; exact ⟨h1, h2, h3, h4⟩
      have HS := Lib.hid hs
      have HPL := Lib.hid hpl
      have HPN := Lib.hid (show PlainL l → 1 ≤ c ∧ c ≤ 23 ∧ c ≠ 11 ∧ 0 ≤ opn l (k + 1) from fun h => by have := h.each k (by rw [HN.out]; exact hlt); unfold Pln at this; rw [hc] at this; exact this)
      rw [hc] at c0
      have H0 := Lib.hid (show 0 ≤ opn l k by
        cases k with
        | zero => exact Int.le_refl _
        | succ k => exact (HP.out k (by omega)).2.2.2)
      clear hc hs hpl
      generalize ho' : opn l k = d at *
      have HO := Lib.hid ho'
      clear ho'
      by_cases g1 : c < 1
      · have t1 : decide (c < 1) = true := by simp; omega
        have HNO := Lib.hid (show ¬ PlainL l from fun h => by have := HPN.out h; omega)
        clear g1
        go_wp2_with fail
        go_ret
        exact PlPost.no HNO.out
      · have t1 : decide (c < 1) = false := by simp; omega
        by_cases g2 : 23 < c
        · have t2 : decide (23 < c) = true := by simp; omega
          have HNO := Lib.hid (show ¬ PlainL l from fun h => by have := HPN.out h; omega)
          clear g1 g2
          go_wp2_with fail
          go_ret
          exact PlPost.no HNO.out
        · have t2 : decide (23 < c) = false := by simp; omega
          by_cases g3 : c = 11
          · have t3 : (c == 11) = true := by simp [g3]
            have HNO := Lib.hid (show ¬ PlainL l from fun h => by have := HPN.out h; omega)
            clear g1 g2 g3
            go_wp2_with fail
            go_ret
            exact PlPost.no HNO.out
          · have t3 : (c == 11) = false := by simp [g3]
            have HC := Lib.hid (show 1 ≤ c ∧ c ≤ 23 ∧ c ≠ 11 by omega)
            by_cases g4 : initB c = true
            · have HV : Hid (opn l (k + 1) = d + 1) := by show _ = _; rw [HS.out, if_pos g4]
              clear g1 g2 g3
              go_wp2_with (go_at_call 32; refine (rInitiator_any _ _).mono ?_; rintro e w' ⟨rfl, rfl⟩)
              go_roundg (n - (k + 1))
              case measure => go_light; omega
              case rel =>
                go_light
                have h0 := H0.out
                refine ⟨⟨k + 1, by omega, rfl, by rw [HV.out], by go_num, fun j hj => ?_⟩, rfl⟩
                by_cases e : j = k
                · subst e; exact HPL.out HC.out.1 HC.out.2.1 HC.out.2.2 (by rw [HV.out]; omega)
                · exact HP.out j (by omega)
            · have g4' : initB c = false := by simpa using g4
              by_cases g5 : c = 23
              · have HV : Hid (opn l (k + 1) = d - 1) := by show _ = _; rw [HS.out, if_neg g4, if_pos g5]
                have t5 : (c == 23) = true := by simp [g5]
                by_cases g6 : d - 1 < 0
                · have t6 : decide (d - 1 < 0) = true := by simp; omega
                  have t6' : decide (d < 1) = true := by simp; omega
                  have HNO := Lib.hid (show ¬ PlainL l from fun h => by have := HPN.out h; rw [HV.out] at this; omega)
                  clear g1 g2 g3 g4 g5 g6
                  go_wp2_with (go_at_call 32; refine (rInitiator_any _ _).mono ?_; rintro e w' ⟨rfl, rfl⟩)
                  go_ret
                  exact PlPost.no HNO.out
                · have t6 : decide (d - 1 < 0) = false := by simp; omega
                  have t6' : decide (d < 1) = false := by simp; omega
                  have H6 := Lib.hid (show 0 ≤ d - 1 by omega)
                  clear g1 g2 g3 g4 g5 g6
                  go_wp2_with (go_at_call 32; refine (rInitiator_any _ _).mono ?_; rintro e w' ⟨rfl, rfl⟩)
                  go_roundg (n - (k + 1))
                  case measure => go_light; omega
                  case rel =>
                    go_light
                    refine ⟨⟨k + 1, by omega, rfl, by rw [HV.out], by go_num, fun j hj => ?_⟩, rfl⟩
                    by_cases e : j = k
                    · subst e; exact HPL.out HC.out.1 HC.out.2.1 HC.out.2.2 (by rw [HV.out]; exact H6.out)
                    · exact HP.out j (by omega)
              · have HV : Hid (opn l (k + 1) = d) := by show _ = _; rw [HS.out, if_neg g4, if_neg g5]
                have t5 : (c == 23) = false := by simp [g5]
                clear g1 g2 g3 g4 g5
                go_wp2_with (go_at_call 32; refine (rInitiator_any _ _).mono ?_; rintro e w' ⟨rfl, rfl⟩)
                go_roundg (n - (k + 1))
                case measure => go_light; omega
                case rel =>
                  go_light
                  refine ⟨⟨k + 1, by omega, rfl, by rw [HV.out], by go_num, fun j hj => ?_⟩, rfl⟩
                  by_cases e : j = k
                  · subst e; exact HPL.out HC.out.1 HC.out.2.1 HC.out.2.2 (by rw [HV.out]; exact H0.out)
                  · exact HP.out j (by omega)
    · obtain rfl : k = n := by omega
      have hkz : decide ((k : Int) < (k : Int)) = false := by simp
      by_cases g : opn l k = 0
      · have t : (opn l k == 0) = true := by simp [g]
        have HL : Hid (PlainL l) := ⟨fun j hj => HP.out j (by rw [HN.out] at hj; exact hj), by rw [HN.out]; exact g⟩
        clear g
        go_wp2_with fail
        go_ret
        exact ⟨true, rfl, ⟨fun _ => HL.out, fun _ => rfl⟩, rfl⟩
      · have t : (opn l k == 0) = false := by simp [g]
        have HNO := Lib.hid (show ¬ PlainL l from fun h => g (by have := h.shut; rw [HN.out] at this; exact this))
        clear g
        go_wp2_with fail
        go_ret
        exact PlPost.no HNO.out
theorem plain_yes (l : List Int) (n : Nat) (hn : l.length = n) (hlen : n ≤ 70000) (cap b off : Nat) (ao : Option Addr) (w : World) (hR : Reads w .u8 ao b off l) (h : PlainL l) :
    Calls Try.prog 28 #[.slice ao n cap] w (fun e w' => e = .returned (.bool true) ∧ w = w') :=
  (plain_any l n hn hlen cap b off ao w hR).mono fun e w' ⟨r, h1, h2, h3⟩ => ⟨by rw [h1, h2.2 h], h3⟩

theorem plain_no (l : List Int) (n : Nat) (hn : l.length = n) (hlen : n ≤ 70000) (cap b off : Nat) (ao : Option Addr) (w : World) (hR : Reads w .u8 ao b off l) (h : ¬ PlainL l) :
    Calls Try.prog 28 #[.slice ao n cap] w (fun e w' => e = .returned (.bool false) ∧ w = w') :=
  (plain_any l n hn hlen cap b off ao w hR).mono fun e w' ⟨r, h1, h2, h3⟩ => ⟨by rw [h1, show r = false by cases r with
    | false => rfl
    | true => exact absurd (h2.1 rfl) h], h3⟩
end Go.Proofs.Ytkfjhannbnijkaa
