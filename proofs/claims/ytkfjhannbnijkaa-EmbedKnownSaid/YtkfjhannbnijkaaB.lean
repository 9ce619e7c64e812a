/- embed.Match, walked. -/
import Derived.Test.YtkfjhannbnijkaaA
import Derived.Deep.LoopGhost
import Derived.Deep.OwnRows
import Derived.Deep.Cut
import Derived.Deep.Light
import Derived.Deep.CutRange
import Derived.Deep.DeepCutAuto
import Derived.KernelRfl
import Derived.Lib.Hide
namespace Go.Proofs.Ytkfjhannbnijkaa
open Go.RowKit

theorem Try.info3 : (Try.prog.info? 3).map (fun i => (i.zero, i.size, i.bytes)) = some (some (.int .i64 0), 1, 8) := by kernel_rfl

/-- A slice that is read: where it lies, what it holds (numbers of a kind). -/
structure Reads (w : World) (k : IntKind) (ao : Option Addr) (b off : Nat) (l : List Int) : Prop where
  spot : 0 < l.length → ao = some ⟨b, off, none⟩
  cell : ∀ i, i < l.length → w.cell? ⟨b, off + i, none⟩ = some (.int k (l.getD i 0))

structure MS where
  out : Nat → Int
  ar : Nat → Int
  last : Int

def upd (f : Nat → Int) (i : Nat) (v : Int) : Nat → Int := fun j => if j = i then v else f j

theorem upd_upd (f : Nat → Int) (i : Nat) (u v : Int) : upd (upd f i u) i v = upd f i v := by funext j; simp only [upd]; split <;> rfl

def mstep (c : Int) (k : Nat) (s : MS) : MS :=
  if initB c then ⟨upd s.out k (-1), upd s.ar k s.last, k⟩
  else if c = 11 then ⟨upd s.out k (-1), s.ar, -1⟩
  else if c = 23 ∧ 0 ≤ s.last then ⟨upd (upd s.out k s.last) s.last.toNat k, s.ar, s.ar s.last.toNat⟩
  else ⟨upd s.out k (-1), s.ar, s.last⟩

def mrun (l : List Int) : Nat → MS
  | 0 => ⟨fun _ => 0, fun _ => 0, -1⟩
  | k + 1 => mstep (l.getD k 0) k (mrun l k)

theorem mstep_init {c : Int} {k : Nat} {s : MS} (h : initB c = true) : mstep c k s = ⟨upd s.out k (-1), upd s.ar k s.last, k⟩ := by simp [mstep, h]
theorem initB_not {c : Int} (h : c < 20 ∨ 22 < c) : initB c = false := by simp only [initB, decide_eq_false_iff_not]; omega
theorem mstep_B {c : Int} {k : Nat} {s : MS} (h : c = 11) : mstep c k s = ⟨upd s.out k (-1), s.ar, -1⟩ := by
  unfold mstep; rw [if_neg (by rw [initB_not (by omega)]; simp), if_pos h]
theorem mstep_P {c : Int} {k : Nat} {s : MS} (h : c = 23) (hl : 0 ≤ s.last) : mstep c k s = ⟨upd (upd s.out k s.last) s.last.toNat k, s.ar, s.ar s.last.toNat⟩ := by
  unfold mstep; rw [if_neg (by rw [initB_not (by omega)]; simp), if_neg (by omega), if_pos ⟨h, hl⟩]
theorem mstep_o {c : Int} {k : Nat} {s : MS} (hi : initB c = false) (h : c ≠ 11) (hl : c = 23 → s.last < 0) : mstep c k s = ⟨upd s.out k (-1), s.ar, s.last⟩ := by
  unfold mstep; rw [if_neg (by rw [hi]; simp), if_neg h, if_neg (by intro h; have := hl h.1; omega)]

theorem mrun_bd (l : List Int) (k : Nat) : -1 ≤ (mrun l k).last ∧ (mrun l k).last < k ∧ ∀ j, -1 ≤ (mrun l k).ar j ∧ (mrun l k).ar j < k + 1 := by
  induction k with
  | zero => simp [mrun]
  | succ k ih =>
    obtain ⟨h1, h2, h3⟩ := ih
    simp only [mrun, mstep]
    split
    · refine ⟨by show -1 ≤ (k : Int); omega, by show (k : Int) < ((k + 1 : Nat) : Int); omega, fun j => ?_⟩
      have := h3 j
      simp only [upd]; split <;> omega
    · split
      · refine ⟨by simp, by simp; omega, fun j => ?_⟩
        have := h3 j; simp; omega
      · split
        · have := h3 (mrun l k).last.toNat
          refine ⟨by simp; omega, by simp; omega, fun j => ?_⟩
          have := h3 j; simp; omega
        · refine ⟨by simp; omega, by simp; omega, fun j => ?_⟩
          have := h3 j; simp; omega

/-- At the loop's head. -/
structure MRel (w wr : World) (n bo ba : Nat) (s : MS) : Prop where
  since : w.Since w.heap.size wr
  ne : bo ≠ ba
  lo : w.heap.size ≤ bo
  la : w.heap.size ≤ ba
  out : wr.rowIs bo 3 n (fun i => .int .i64 (s.out i))
  ar : wr.rowIs ba 3 n (fun i => .int .i64 (s.ar i))

def MTwo (w : World) (n : Nat) (s3 s4 : Value) (wx : World) : Prop :=
  ∃ bo ba, s3 = .slice (some ⟨bo, 0, none⟩) n n ∧ s4 = .slice (some ⟨ba, 0, none⟩) n n ∧ MRel w wx n bo ba (mrun [] 0)


theorem MRel.start (w : World) (n bo ba : Nat) (h : (bo = w.heap.size ∧ ba = w.heap.size + 1) ∨ (bo = w.heap.size + 1 ∧ ba = w.heap.size)) :
    MRel w ((w.alloc (.cells (madeCells #[.int .i64 0] n) 3)).alloc (.cells (madeCells #[.int .i64 0] n) 3)) n bo ba (mrun [] 0) := by
  have h1 := (World.rowIs_made w (.int .i64 0) n 3).alloc (.cells (madeCells #[.int .i64 0] n) 3)
  have h2 := World.rowIs_made (w.alloc (.cells (madeCells #[.int .i64 0] n) 3)) (.int .i64 0) n 3
  have e : (w.alloc (.cells (madeCells #[.int .i64 0] n) 3)).heap.size = w.heap.size + 1 := by simp
  rw [e] at h2
  have hs := ((World.Since.refl w.heap.size w).alloc (Nat.le_refl _) (.cells (madeCells #[.int .i64 0] n) 3)).alloc (by simp) (.cells (madeCells #[.int .i64 0] n) 3)
  rcases h with ⟨rfl, rfl⟩ | ⟨rfl, rfl⟩
  · exact ⟨hs, by omega, by omega, by omega, h1, h2⟩
  · exact ⟨hs, by omega, by omega, by omega, h2, h1⟩

theorem MRel.drew {w wr : World} {n bo ba : Nat} {s : MS} (h : MRel w wr n bo ba s) : MRel w wr.drew n bo ba s := ⟨h.since.drew, h.ne, h.lo, h.la, h.out.drew, h.ar.drew⟩

theorem MRel.setOut {w wr : World} {n bo ba : Nat} {s : MS} (h : MRel w wr n bo ba s) (i : Nat) (v : Int) : MRel w (wr.setCell ⟨bo, i, none⟩ (.int .i64 v)) n bo ba ⟨upd s.out i v, s.ar, s.last⟩ :=
  ⟨h.since.setCell h.lo _, h.ne, h.lo, h.la, (h.out.set i _).congr (fun j _ => by simp only [upd]; split <;> rfl), h.ar.setOther (fun e => h.ne e.symm) _⟩

theorem MRel.setAr {w wr : World} {n bo ba : Nat} {s : MS} (h : MRel w wr n bo ba s) (i : Nat) (v : Int) : MRel w (wr.setCell ⟨ba, i, none⟩ (.int .i64 v)) n bo ba ⟨s.out, upd s.ar i v, s.last⟩ :=
  ⟨h.since.setCell h.la _, h.ne, h.lo, h.la, h.out.setOther h.ne _, (h.ar.set i _).congr (fun j _ => by simp only [upd]; split <;> rfl)⟩

theorem MRel.to {w wr : World} {n bo ba : Nat} {s s' : MS} (h : MRel w wr n bo ba s) (e : s = s') : MRel w wr n bo ba s' := e ▸ h
theorem MRel.last {w wr : World} {n bo ba : Nat} {s : MS} (h : MRel w wr n bo ba s) (v : Int) : MRel w wr n bo ba ⟨s.out, s.ar, v⟩ := ⟨h.since, h.ne, h.lo, h.la, h.out, h.ar⟩

/-- A new row of ints is handed back; nothing that was there has turned. -/
def NewInts (w : World) (n : Nat) (f : Nat → Int) (e : Ending) (w' : World) : Prop :=
  ∃ bo, e = .returned (.slice (some ⟨bo, 0, none⟩) n n) ∧ w.heap.size ≤ bo ∧ w'.rowIs bo 3 n (fun i => .int .i64 (f i)) ∧ w.Since w.heap.size w'

/-- What Match tells. -/
def mat (l : List Int) (i : Nat) : Int := (mrun l l.length).out i

set_option maxHeartbeats 1000000 in
theorem match_any (l : List Int) (n : Nat) (hn : l.length = n) (cap : Nat) (ao : Option Addr) (b off : Nat) (w : World) (hR : Reads w .u8 ao b off l) (hlen : n ≤ 70000) :
    Calls Try.prog 23 #[.slice ao n cap] w (NewInts w n (mat l)) := by
  have hmk := run_make_row' (P := Try.prog) 33 3 (.int .i64 0) 8 Try.underlying33 Try.info3 rfl .i64 .i64 n (by omega) (by omega)
  go_enter Try.func23, Try.ntmps23
  go_upto_region 1 with fail
  go_cut [3, 4] (fun s3 s4 wx => MTwo w n s3 s4 wx)
  case first =>
    go_region
    all_goals
      go_wp2_with fail
      go_meet
      exact ⟨_, _, rfl, rfl, (MRel.start w n _ _ (by omega)).drew⟩
  case rest =>
    obtain ⟨bo, ba, rfl, rfl, hM⟩ := hcut
    clear hmk
    go_wp2_with fail
    go_loopg [5, 16] n (fun g s5 i wr => ∃ k : Nat, k ≤ n ∧ g = n - k ∧ i = .int .i64 k ∧ s5 = .int .i64 (mrun l k).last ∧ MRel w wr n bo ba (mrun l k))
    case atStart => exact ⟨0, Nat.zero_le _, rfl, rfl, rfl, hM⟩
    case round =>
      clear hM
      obtain ⟨k, hk, rfl, rfl, rfl, hM⟩ := hrel
      by_cases hlt : k < n
      · obtain rfl := hR.spot (by omega)
        have g0 := hR.cell k (by omega)
        have hbB := World.block_lt_of_cell? _ _ g0
        have g1 : wr.cell? ⟨b, off + k, none⟩ = some (.int .u8 (l.getD k 0)) := by rw [hM.since.cell (a := ⟨b, off + k, none⟩) hbB]; exact g0
        clear g0
        have hkz : (k : Int) < (n : Int) := by omega
        obtain ⟨hb1, hb2, hb3⟩ := mrun_bd l k
        have hstep : mrun l (k + 1) = mstep (l.getD k 0) k (mrun l k) := rfl
        generalize l.getD k 0 = c at *
        generalize mrun l k = s at *
        have HS := Lib.hid hstep
        clear hstep
        have o1 : wr.cell? ⟨bo, k, none⟩ = some (.int .i64 (s.out k)) := hM.out.cell hlt
        have o2 : wr.frozen? ⟨bo, k, none⟩ = false := hM.out.frozen k
        by_cases hi : initB c = true
        · have a1 : ∀ v, (wr.setCell ⟨bo, k, none⟩ v).cell? ⟨ba, k, none⟩ = some (.int .i64 (s.ar k)) := fun v => (hM.ar.setOther (fun e => hM.ne e.symm) v).cell hlt
          have a2 : ∀ v, (wr.setCell ⟨bo, k, none⟩ v).frozen? ⟨ba, k, none⟩ = false := fun v => (hM.ar.setOther (fun e => hM.ne e.symm) v).frozen k
          go_wp2_with (go_at_call 38; refine (initiator_any _ _).mono ?_; rintro e w' ⟨rfl, rfl⟩)
          go_roundg (n - (k + 1))
          case measure => go_light; omega
          case rel => go_light; exact ⟨k + 1, by omega, rfl, by go_num, by rw [HS.out, mstep_init hi], ((hM.setOut k (-1)).setAr k s.last).last k |>.to (by rw [HS.out, mstep_init hi])⟩
        · have hi' : initB c = false := by simpa using hi
          have hi2 : ¬ (20 ≤ c ∧ c ≤ 22) := by intro h; apply hi; simp [initB, h]
          by_cases hB : c = 11
          · have hBz : (c == 11) = true := by simp [hB]
            have HB := Lib.hid hB
            clear hB hi hi2
            go_wp2_with (go_at_call 38; refine (initiator_any _ _).mono ?_; rintro e w' ⟨rfl, rfl⟩)
            go_roundg (n - (k + 1))
            case measure => go_light; omega
            case rel => go_light; exact ⟨k + 1, by omega, rfl, by go_num, by rw [HS.out, mstep_B HB.out], (hM.setOut k (-1)).last (-1) |>.to (by rw [HS.out, mstep_B HB.out])⟩
          · have hBz : (c == 11) = false := by simp [hB]
            by_cases hP : c = 23
            · have hPz : (c == 23) = true := by simp [hP]
              have HP := Lib.hid hP
              clear hP hi hi2 hB
              by_cases hl : 0 ≤ s.last
              · have hjk : s.last.toNat < k := by omega
                have hjn : s.last.toNat < n := by omega
                have a1 : ∀ v v' v'', (((wr.setCell ⟨bo, k, none⟩ v).setCell ⟨bo, k, none⟩ v').setCell ⟨bo, s.last.toNat, none⟩ v'').cell? ⟨ba, s.last.toNat, none⟩ = some (.int .i64 (s.ar s.last.toNat)) := fun v v' v'' => (((hM.ar.setOther (fun e => hM.ne e.symm) v).setOther (fun e => hM.ne e.symm) v').setOther (fun e => hM.ne e.symm) v'').cell hjn
                have o3 : ∀ v, (wr.setCell ⟨bo, k, none⟩ v).cell? ⟨bo, k, none⟩ = some v := fun v => by have := (hM.out.set k v).cell hlt; simpa using this
                have o4 : ∀ v, (wr.setCell ⟨bo, k, none⟩ v).frozen? ⟨bo, k, none⟩ = false := fun v => (hM.out.set k v).frozen k
                have o5 : ∀ v v', ((wr.setCell ⟨bo, k, none⟩ v).setCell ⟨bo, k, none⟩ v').frozen? ⟨bo, s.last.toNat, none⟩ = false := fun v v' => ((hM.out.set k v).set k v').frozen s.last.toNat
                have o6 : ∀ v v', ((wr.setCell ⟨bo, k, none⟩ v).setCell ⟨bo, k, none⟩ v').cell? ⟨bo, s.last.toNat, none⟩ = some (.int .i64 (s.out s.last.toNat)) := fun v v' => by have := ((hM.out.set k v).set k v').cell hjn; simpa [show s.last.toNat ≠ k by omega] using this
                go_wp2_with (go_at_call 38; refine (initiator_any _ _).mono ?_; rintro e w' ⟨rfl, rfl⟩)
                go_roundg (n - (k + 1))
                case measure => go_light; omega
                case rel =>
                  go_light
                  exact ⟨k + 1, by omega, rfl, by go_num, by rw [HS.out, mstep_P HP.out hl],
                    (((hM.setOut k (-1)).setOut k s.last).setOut s.last.toNat k).last (s.ar s.last.toNat) |>.to (by rw [HS.out, mstep_P HP.out hl]; simp only [upd_upd])⟩
              · have HO : Hid (mstep c k s = ⟨upd s.out k (-1), s.ar, s.last⟩) := mstep_o hi' (by have := HP.out; omega) (by omega)
                go_wp2_with (go_at_call 38; refine (initiator_any _ _).mono ?_; rintro e w' ⟨rfl, rfl⟩)
                go_roundg (n - (k + 1))
                case measure => go_light; omega
                case rel => go_light; exact ⟨k + 1, by omega, rfl, by go_num, by rw [HS.out, HO.out], (hM.setOut k (-1)).to (by rw [HS.out, HO.out])⟩
            · have hPz : (c == 23) = false := by simp [hP]
              have HO : Hid (mstep c k s = ⟨upd s.out k (-1), s.ar, s.last⟩) := mstep_o hi' hB (fun h => absurd h hP)
              go_wp2_with (go_at_call 38; refine (initiator_any _ _).mono ?_; rintro e w' ⟨rfl, rfl⟩)
              go_roundg (n - (k + 1))
              case measure => go_light; omega
              case rel => go_light; exact ⟨k + 1, by omega, rfl, by go_num, by rw [HS.out, HO.out], (hM.setOut k (-1)).to (by rw [HS.out, HO.out])⟩
      · obtain rfl : k = n := by omega
        have hkz : ¬ ((k : Int) < (k : Int)) := by omega
        go_wp2_with fail
        go_ret
        subst hn
        exact ⟨bo, rfl, hM.lo, hM.out, hM.since⟩
#print axioms match_any
end Go.Proofs.Ytkfjhannbnijkaa
