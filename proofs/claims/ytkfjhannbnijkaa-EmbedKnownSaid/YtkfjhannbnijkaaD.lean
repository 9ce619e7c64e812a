/- The sides of levels, embed's and the reference's; the reference's row: level, begins, ends. -/
import Derived.Test.YtkfjhannbnijkaaB
import Derived.Deep.RegionHeld3
import Derived.WalkLawsBesides
namespace Go.Proofs.Ytkfjhannbnijkaa
open Go.RowKit

def sideI (x y : Int) : Int := if max x y % 2 = 1 then 2 else 1

theorem ret_int {k : IntKind} {a b : Int} (h : a = b) : Ending.returned (Value.int k a) = .returned (.int k b) := by rw [h]

set_option maxHeartbeats 400000 in
theorem rside_any (x y : Int) (hx : 0 ≤ x ∧ x ≤ 255) (hy : 0 ≤ y ∧ y ≤ 255) (w : World) :
    Calls Try.prog 35 #[.int .u8 x, .int .u8 y] w fun e w' => e = .returned (.int .u8 (sideI x y)) ∧ w = w' := by
  obtain ⟨hx0, hx1⟩ := hx
  obtain ⟨hy0, hy1⟩ := hy
  have e : sideI x y = if (if x < y then y else x) % 2 = 1 then 2 else 1 := by
    unfold sideI
    rw [show max x y = if x < y then y else x by split <;> omega]
  by_cases hc : (if x < y then y else x) % 2 = 1
  · have hz : ((if x < y then y else x) % 2 == 1) = true := by simpa using hc
    have E : Hid (sideI x y = 2) := by rw [e, if_pos hc]; rfl
    clear hc e
    go_enter Try.func35, Try.ntmps35
    go_wp2
    all_goals
      go_ret
      exact ⟨ret_int E.out.symm, rfl⟩
  · have hz : ((if x < y then y else x) % 2 == 1) = false := by simpa using hc
    have E : Hid (sideI x y = 1) := by rw [e, if_neg hc]; rfl
    clear hc e
    go_enter Try.func35, Try.ntmps35
    go_wp2
    all_goals
      go_ret
      exact ⟨ret_int E.out.symm, rfl⟩

theorem and1_u8 : ∀ m : Nat, m < 256 → bits BinOp.and IntKind.u8 (m : Int) 1 = ((m % 2 : Nat) : Int) := by decide +kernel
theorem idx81_0 (w : World) : (Instr.index 81 (.agg #[.int .u8 1, .int .u8 2]) (.int .u8 0)).run Try.prog w = .ok (.int .u8 1) w := by kernel_rfl
theorem idx81_1 (w : World) : (Instr.index 81 (.agg #[.int .u8 1, .int .u8 2]) (.int .u8 1)).run Try.prog w = .ok (.int .u8 2) w := by kernel_rfl

def mm (x y : Int) : Nat → Int
  | 0 => 0
  | 1 => x
  | _ => max x y

set_option maxHeartbeats 400000 in
theorem side_any (x y : Int) (hx : 0 ≤ x ∧ x ≤ 255) (hy : 0 ≤ y ∧ y ≤ 255) (b : Nat) (w : World) (h0 : w.cell? ⟨b, 0, none⟩ = some (.int .u8 x)) (h1 : w.cell? ⟨b, 1, none⟩ = some (.int .u8 y)) :
    Calls Try.prog 37 #[.slice (some ⟨b, 0, none⟩) 2 2] w fun e w' => e = .returned (.int .u8 (sideI x y)) ∧ w = w' := by
  obtain ⟨hx0, hx1⟩ := hx
  obtain ⟨hy0, hy1⟩ := hy
  go_enter Try.func37, Try.ntmps37
  go_wp2
  go_loopg [3, 8] 2 (fun g s3 s8 wr => ∃ k : Nat, k ≤ 2 ∧ g = 2 - k ∧ s8 = .int .i64 k ∧ s3 = .int .u8 (mm x y k) ∧ w = wr)
  case atStart => exact ⟨0, by omega, rfl, rfl, rfl, rfl⟩
  case round =>
    obtain ⟨k, hk, rfl, rfl, rfl, rfl⟩ := hrel
    match k, hk with
    | 0, _ =>
      go_wp2
      all_goals
        go_roundg 1
        case measure => go_light; omega
        case rel => go_light; exact ⟨1, by omega, rfl, rfl, congrArg (Value.int IntKind.u8) (by have e0 : mm x y 0 = 0 := rfl; have e1 : mm x y 1 = x := rfl; have e2 : mm x y 2 = max x y := rfl; omega), rfl⟩
    | 1, _ =>
      go_wp2
      all_goals
        go_roundg 0
        case measure => go_light; omega
        case rel => go_light; exact ⟨2, by omega, rfl, rfl, congrArg (Value.int IntKind.u8) (by have e0 : mm x y 0 = 0 := rfl; have e1 : mm x y 1 = x := rfl; have e2 : mm x y 2 = max x y := rfl; omega), rfl⟩
    | 2, _ =>
      have hm : 0 ≤ mm x y 2 ∧ mm x y 2 ≤ 255 ∧ mm x y 2 = max x y := by have e2 : mm x y 2 = max x y := rfl; omega
      have hs : sideI x y = if max x y % 2 = 1 then 2 else 1 := rfl
      rw [← hm.2.2] at hs
      generalize mm x y 2 = z at *
      obtain ⟨n, rfl⟩ := Int.eq_ofNat_of_zero_le hm.1
      have ha := and1_u8 n (by omega)
      have HS := Lib.hid hs
      clear hm hs
      by_cases hp : n % 2 = 1
      · rw [hp] at ha
        have i1 := idx81_1
        have HP := Lib.hid hp
        clear hp
        go_wp2
        go_ret
        exact ⟨ret_int (by rw [HS.out, if_pos (by have := HP.out; omega)]), rfl⟩
      · have hp2 : n % 2 = 0 := by omega
        rw [hp2] at ha
        have i1 := idx81_0
        have HP := Lib.hid hp2
        clear hp hp2
        go_wp2
        go_ret
        exact ⟨ret_int (by rw [HS.out, if_neg (by have := HP.out; omega)]), rfl⟩

end Go.Proofs.Ytkfjhannbnijkaa
