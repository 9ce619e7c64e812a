/- The reference's rightward, Base, next, override: walked. -/
import Derived.Test.YtkfjhannbnijkaaLvA
namespace Go.Proofs.Ytkfjhannbnijkaa
open Go.RowKit

/-- The reference's look for the first strong class. -/
def rrw (l : List Int) (iso : Bool) : Nat → Nat → Nat → Bool
  | 0, _, _ => false
  | f + 1, i, d =>
    if l.length ≤ i ∨ l.getD i 0 = 11 then false
    else if initB (l.getD i 0) = true then rrw l iso f (i + 1) (d + 1)
    else if l.getD i 0 = 23 then (if 0 < d then rrw l iso f (i + 1) (d - 1) else if iso = true then false else rrw l iso f (i + 1) d)
    else if d = 0 then (if l.getD i 0 = 1 then false else if l.getD i 0 = 2 ∨ l.getD i 0 = 3 then true else rrw l iso f (i + 1) d)
    else rrw l iso f (i + 1) d

set_option maxRecDepth 100000 in
set_option maxHeartbeats 2000000 in
theorem rright_any (l : List Int) (n : Nat) (hn : l.length = n) (hlen : n ≤ 70000) (cap b off : Nat) (ao : Option Addr) (w : World) (hR : Reads w .u8 ao b off l) (iso : Bool) (i0 f : Nat) (hi0 : i0 ≤ n) (hf : n ≤ i0 + f) :
    Calls Try.prog 41 #[.slice ao n cap, .int .i64 i0, .bool iso] w (fun e w' => e = .returned (.bool (rrw l iso f i0 0)) ∧ w = w') := by
  have HR := Lib.hid hR
  clear hR
  go_enter Try.func41, Try.ntmps41
  go_wp2_with fail
  go_loopg [7, 8] f (fun g s7 s8 wx => ∃ d k q : Nat, q = g ∧ k ≤ n ∧ d ≤ k ∧ s7 = .int .i64 d ∧ s8 = .int .i64 k ∧ n ≤ k + q ∧ Hid (rrw l iso q k d = rrw l iso f i0 0) ∧ w = wx)
  case atStart => exact ⟨0, i0, f, rfl, hi0, by omega, rfl, rfl, hf, Lib.hid rfl, rfl⟩
  case round =>
    obtain ⟨d, k, g, rfl, hk, hdk, rfl, rfl, hg, HE, rfl⟩ := hrel
    by_cases hlt : k < n
    · have hkz : decide ((k : Int) < (n : Int)) = true := by simp; omega
      obtain rfl := HR.out.spot (by omega)
      have c0 := HR.out.cell k (by omega)
      obtain ⟨g', rfl⟩ : ∃ g', g = g' + 1 := ⟨g - 1, by omega⟩
      have hE := HE.out
      rw [rrw] at hE
      obtain ⟨c, hc⟩ : ∃ c, l.getD k 0 = c := ⟨_, rfl⟩
      rw [hc] at c0 hE
      clear hc HE
      by_cases cB : c = 11
      · rw [if_pos (Or.inr cB)] at hE
        have t : (c != 11) = false := by simp [cB]
        have HE := Lib.hid hE
        clear hE
        go_wp2_with fail
        go_ret
        exact ⟨ret_bool HE.out, rfl⟩
      · rw [if_neg (by omega)] at hE
        have t : (c != 11) = true := by simp [cB]
        by_cases hi : initB c = true
        · rw [if_pos hi] at hE
          have HE := Lib.hid hE
          clear hE
          go_wp2_with (go_at_call 32; refine (rInitiator_any _ _).mono ?_; rintro e w' ⟨rfl, rfl⟩)
          go_roundg g'
          case measure => go_light; omega
          case rel => go_light; exact ⟨d + 1, k + 1, g', rfl, by omega, by omega, by go_num, by go_num, by omega, HE, rfl⟩
        · rw [if_neg hi] at hE
          have hi' : initB c = false := by simpa using hi
          clear hi
          by_cases cP : c = 23
          · rw [if_pos cP] at hE
            have t2 : (c == 23) = true := by simp [cP]
            clear cP
            by_cases hd : 0 < d
            · rw [if_pos hd] at hE
              have HE := Lib.hid hE
              have hdz : decide ((0 : Int) < (d : Int)) = true := by simp; omega
              clear hE
              go_wp2_with (go_at_call 32; refine (rInitiator_any _ _).mono ?_; rintro e w' ⟨rfl, rfl⟩)
              go_roundg g'
              case measure => go_light; omega
              case rel => go_light; exact ⟨d - 1, k + 1, g', rfl, by omega, by omega, by (congr 1; omega), by go_num, by omega, HE, rfl⟩
            · rw [if_neg hd] at hE
              obtain rfl : d = 0 := by omega
              have hdz : decide ((0 : Int) < ((0 : Nat) : Int)) = false := by simp
              cases iso with
              | true =>
                rw [if_pos rfl] at hE
                have HE := Lib.hid hE
                clear hE
                go_wp2_with (go_at_call 32; refine (rInitiator_any _ _).mono ?_; rintro e w' ⟨rfl, rfl⟩)
                go_ret
                exact ⟨ret_bool HE.out, rfl⟩
              | false =>
                rw [if_neg (by simp)] at hE
                have HE := Lib.hid hE
                clear hE
                have t3 : (c == 1) = false := by simp at t2 ⊢; omega
                have t4 : (c == 2) = false := by simp at t2 ⊢; omega
                have t5 : (c == 3) = false := by simp at t2 ⊢; omega
                go_wp2_with (go_at_call 32; refine (rInitiator_any _ _).mono ?_; rintro e w' ⟨rfl, rfl⟩)
                go_roundg g'
                case measure => go_light; omega
                case rel => go_light; exact ⟨0, k + 1, g', rfl, by omega, by omega, rfl, by go_num, by omega, HE, rfl⟩
          · rw [if_neg cP] at hE
            have t2 : (c == 23) = false := by simp [cP]
            by_cases hd : d = 0
            · rw [if_pos hd] at hE
              subst hd
              by_cases c1 : c = 1
              · rw [if_pos c1] at hE
                have t3 : (c == 1) = true := by simp [c1]
                have HE := Lib.hid hE
                clear hE c1
                go_wp2_with (go_at_call 32; refine (rInitiator_any _ _).mono ?_; rintro e w' ⟨rfl, rfl⟩)
                go_ret
                exact ⟨ret_bool HE.out, rfl⟩
              · rw [if_neg c1] at hE
                have t3 : (c == 1) = false := by simp [c1]
                by_cases c2 : c = 2
                · rw [if_pos (Or.inl c2)] at hE
                  have t4 : (c == 2) = true := by simp [c2]
                  have HE := Lib.hid hE
                  clear hE c1 c2
                  go_wp2_with (go_at_call 32; refine (rInitiator_any _ _).mono ?_; rintro e w' ⟨rfl, rfl⟩)
                  go_ret
                  exact ⟨ret_bool HE.out, rfl⟩
                · have t4 : (c == 2) = false := by simp [c2]
                  by_cases c3 : c = 3
                  · rw [if_pos (Or.inr c3)] at hE
                    have t5 : (c == 3) = true := by simp [c3]
                    have HE := Lib.hid hE
                    clear hE c1 c2 c3
                    go_wp2_with (go_at_call 32; refine (rInitiator_any _ _).mono ?_; rintro e w' ⟨rfl, rfl⟩)
                    go_ret
                    exact ⟨ret_bool HE.out, rfl⟩
                  · rw [if_neg (by omega)] at hE
                    have t5 : (c == 3) = false := by simp [c3]
                    have HE := Lib.hid hE
                    clear hE c1 c2 c3
                    go_wp2_with (go_at_call 32; refine (rInitiator_any _ _).mono ?_; rintro e w' ⟨rfl, rfl⟩)
                    go_roundg g'
                    case measure => go_light; omega
                    case rel => go_light; exact ⟨0, k + 1, g', rfl, by omega, by omega, rfl, by go_num, by omega, HE, rfl⟩
            · rw [if_neg hd] at hE
              have hdz : ((d : Int) == 0) = false := by simp; omega
              have HE := Lib.hid hE
              clear hE hd
              go_wp2_with (go_at_call 32; refine (rInitiator_any _ _).mono ?_; rintro e w' ⟨rfl, rfl⟩)
              go_roundg g'
              case measure => go_light; omega
              case rel => go_light; exact ⟨d, k + 1, g', rfl, by omega, by omega, rfl, by go_num, by omega, HE, rfl⟩
    · have hkz : decide ((k : Int) < (n : Int)) = false := by simp; omega
      have hE := HE.out
      have HE2 : Hid (false = rrw l iso f i0 0) := by
        show _ = _
        rw [← hE]
        cases g with
        | zero => rfl
        | succ g => rw [rrw, if_pos (Or.inl (by omega))]
      clear hE HE
      go_wp2_with fail
      go_ret
      exact ⟨ret_bool HE2.out, rfl⟩

def rpbase (l : List Int) : Int := if rrw l false l.length 0 0 = true then 1 else 0

set_option maxRecDepth 100000 in
set_option maxHeartbeats 1000000 in
theorem rbase_any (l : List Int) (n : Nat) (hn : l.length = n) (cap : Nat) (ao : Option Addr) (b off : Nat) (w : World) (hR : Reads w .u8 ao b off l) (hlen : n ≤ 65536) :
    Calls Try.prog 25 #[.slice ao n cap] w (fun e w' => e = .returned (.int .u8 (rpbase l)) ∧ w = w') := by
  have hC := rright_any l n hn (by omega) cap b off ao w hR false 0 n (by omega) (by omega)
  by_cases hr : rrw l false n 0 0 = true
  · have HP : Hid (rpbase l = 1) := by show _ = _; unfold rpbase; rw [hn, if_pos hr]
    rw [hr] at hC
    have HC := Lib.hid hC
    clear hr hC
    go_enter Try.func25, Try.ntmps25
    go_wp2_with (go_at_call 41; refine HC.out.mono ?_; rintro e w' ⟨rfl, rfl⟩)
    go_ret
    exact ⟨ret_int HP.out.symm, rfl⟩
  · have HP : Hid (rpbase l = 0) := by show _ = _; unfold rpbase; rw [hn, if_neg hr]
    have hr' : rrw l false n 0 0 = false := by simpa using hr
    rw [hr'] at hC
    have HC := Lib.hid hC
    clear hr hr' hC
    go_enter Try.func25, Try.ntmps25
    go_wp2_with (go_at_call 41; refine HC.out.mono ?_; rintro e w' ⟨rfl, rfl⟩)
    go_ret
    exact ⟨ret_int HP.out.symm, rfl⟩

set_option maxHeartbeats 1000000 in
theorem next_any (lev ov : Int) (r : Bool) (w : World) (h0 : 0 ≤ lev) (h1 : lev ≤ 125) :
    Calls Try.prog 50 #[.agg #[.int .u8 lev, .int .u8 ov], .bool r] w (fun e w' => e = .returned (.int .u8 (nextL lev r)) ∧ w.Since w.heap.size w') := by
  have hs : w.Since w.heap.size (w.alloc (.cells #[.int .u8 lev, .int .u8 ov] 69)) := (World.Since.refl _ _).alloc (Nat.le_refl _) _
  have HS := Lib.hid hs
  clear hs
  by_cases hp : lev % 2 = 0
  · have hz : ((lev + 1) % 2 == 1) = true := by simp; omega
    cases r
    · have HN : Hid (nextL lev false = lev + 1 + 1) := by show _ = _; unfold nextL; simp [hp]; omega
      clear hp
      go_enter Try.func50, Try.ntmps50
      go_wp2_with fail
      go_ret
      exact ⟨ret_int HN.out.symm, HS.out⟩
    · have HN : Hid (nextL lev true = lev + 1) := by show _ = _; unfold nextL; simp [hp]
      clear hp
      go_enter Try.func50, Try.ntmps50
      go_wp2_with fail
      go_ret
      exact ⟨ret_int HN.out.symm, HS.out⟩
  · have hz : ((lev + 1) % 2 == 1) = false := by simp; omega
    cases r
    · have HN : Hid (nextL lev false = lev + 1) := by show _ = _; unfold nextL; simp [hp]
      clear hp
      go_enter Try.func50, Try.ntmps50
      go_wp2_with fail
      go_ret
      exact ⟨ret_int HN.out.symm, HS.out⟩
    · have HN : Hid (nextL lev true = lev + 1 + 1) := by show _ = _; unfold nextL; simp [hp]; omega
      clear hp
      go_enter Try.func50, Try.ntmps50
      go_wp2_with fail
      go_ret
      exact ⟨ret_int HN.out.symm, HS.out⟩

set_option maxHeartbeats 1000000 in
theorem override_any (c : Int) (w : World) : Calls Try.prog 51 #[.int .u8 c] w (fun e w' => e = .returned (.int .u8 (embO c)) ∧ w = w') := by
  by_cases h1 : c = 17
  · have HE : Hid (embO c = 1) := by show _ = _; unfold embO; rw [if_pos h1]
    have t : (c == 17) = true := by simp [h1]
    clear h1
    go_enter Try.func51, Try.ntmps51
    go_wp2_with fail
    go_ret
    exact ⟨ret_int HE.out.symm, rfl⟩
  · have t : (c == 17) = false := by simp [h1]
    by_cases h2 : c = 18
    · have HE : Hid (embO c = 2) := by show _ = _; unfold embO; rw [if_neg h1, if_pos h2]
      have t2 : (c == 18) = true := by simp [h2]
      clear h1 h2
      go_enter Try.func51, Try.ntmps51
      go_wp2_with fail
      go_ret
      exact ⟨ret_int HE.out.symm, rfl⟩
    · have HE : Hid (embO c = 0) := by show _ = _; unfold embO; rw [if_neg h1, if_neg h2]
      have t2 : (c == 18) = false := by simp [h2]
      clear h1 h2
      go_enter Try.func51, Try.ntmps51
      go_wp2_with fail
      go_ret
      exact ⟨ret_int HE.out.symm, rfl⟩
end Go.Proofs.Ytkfjhannbnijkaa
