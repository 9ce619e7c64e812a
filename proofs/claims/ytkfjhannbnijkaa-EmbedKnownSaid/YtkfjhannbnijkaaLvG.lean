/- embed.Base and embed.Levels: walked. -/
import Derived.Test.YtkfjhannbnijkaaLvF
import Derived.Laws.EntriesVeiled
namespace Go.Proofs.Ytkfjhannbnijkaa
open Go.RowKit

theorem ahead_mat (l : List Int) : Ahead l (mat l) := by
  intro i hi h0
  have hil : i < l.length := by
    rcases Nat.lt_or_ge i l.length with h | h
    · exact h
    · rw [List.getD_eq_getElem?_getD, List.getElem?_eq_none h] at hi; cases hi
  rw [mat_eq l hil] at h0 ⊢
  obtain ⟨h1, -, h2⟩ := rmat_law l i h0
  exact ⟨h2 hi, h1⟩

theorem rowIs_arr (w : World) (cs : Array Value) (t : TypeId) : (w.alloc (.cells cs t)).rowIs w.heap.size t cs.size (fun i => cs.getD i undef) :=
  World.rowIs_alloc w cs t _ (fun i hi => by simp [Array.getD, hi])

def pbase (l : List Int) : Int := if erw l (mat l) l.length 0 l.length = true then 1 else 0

set_option maxRecDepth 100000 in
set_option maxHeartbeats 1000000 in
theorem base_any (l : List Int) (n : Nat) (hn : l.length = n) (cap : Nat) (ao : Option Addr) (b off : Nat) (w : World) (hR : Reads w .u8 ao b off l) (hlen : n ≤ 65536) :
    Calls Try.prog 24 #[.slice ao n cap] w (fun e w' => e = .returned (.int .u8 (pbase l)) ∧ w.Since w.heap.size w') := by
  have hM := match_any l n hn cap ao b off w hR (by omega)
  have HM := Lib.hid hM
  clear hM
  have HR := Lib.hid hR
  clear hR
  go_enter Try.func24, Try.ntmps24
  go_upto_region 2 with (go_at_call 23; refine HM.out.mono ?_; rintro e w1 ⟨bm, rfl, hbm, hrow, hs⟩)
  have hs2 := hs.alloc hs.size (.cells #[.slice ao n cap, .slice (some ⟨bm, 0, none⟩) n n, .int .u8 0, .slice none 0 0, .slice none 0 0, .pointer none] 73)
  have hrow2 := hrow.alloc (.cells #[.slice ao n cap, .slice (some ⟨bm, 0, none⟩) n n, .int .u8 0, .slice none 0 0, .slice none 0 0, .pointer none] 73)
  have hw := rowIs_arr w1 #[.slice ao n cap, .slice (some ⟨bm, 0, none⟩) n n, .int .u8 0, .slice none 0 0, .slice none 0 0, .pointer none] 73
  have hA := ahead_mat l
  subst hn
  have hC := rightward_any l (mat l) l.length rfl (by omega) w1.heap.size bm cap b off ao _ (hw.cell (i := 0) (by simp)) (hw.cell (i := 1) (by simp)) (fun i hi => hrow2.cell hi) (HR.out.since hs2) hA 0 l.length l.length (by omega) (by omega) (by omega)
  have HC := Lib.hid hC
  have HS := Lib.hid hs2
  clear hC hs2 hrow2 hw hA hs hrow
  by_cases hr : erw l (mat l) l.length 0 l.length = true
  · have HP : Hid (pbase l = 1) := by show _ = _; unfold pbase; rw [if_pos hr]
    rw [hr] at HC
    clear hr
    go_wp2_with (go_at_call 40; refine HC.out.mono ?_; rintro e w' ⟨rfl, rfl⟩)
    go_ret
    exact ⟨ret_int HP.out.symm, HS.out⟩
  · have HP : Hid (pbase l = 0) := by show _ = _; unfold pbase; rw [if_neg hr]
    have hr' : erw l (mat l) l.length 0 l.length = false := by simpa using hr
    rw [hr'] at HC
    clear hr hr'
    go_wp2_with (go_at_call 40; refine HC.out.mono ?_; rintro e w' ⟨rfl, rfl⟩)
    go_ret
    exact ⟨ret_int HP.out.symm, HS.out⟩

def LErr (w : World) (x : Int) (e : Ending) (w' : World) : Prop := e = .returned (.tuple #[.slice none 0 0, .slice none 0 0, .int .u8 0, .int .i64 x]) ∧ w = w'

/-- Each is a class. -/
def Valid (l : List Int) : Prop := ∀ i, i < l.length → 1 ≤ l.getD i 0 ∧ l.getD i 0 ≤ 23

/-- What Levels hands back: two new rows. -/
def LvDone (w : World) (n : Nat) (p : Int) (lv cl : Nat → Int) (e : Ending) (w' : World) : Prop :=
  ∃ bl bc : Nat, e = .returned (.tuple #[.slice (some ⟨bl, 0, none⟩) n n, .slice (some ⟨bc, 0, none⟩) n n, .int .u8 p, .int .i64 0]) ∧ w.heap.size ≤ bl ∧ w.heap.size ≤ bc ∧ bl ≠ bc ∧ w'.rowIs bl 5 n (fun i => .int .u8 (lv i)) ∧ w'.rowIs bc 34 n (fun i => .int .u8 (cl i)) ∧ w.Since w.heap.size w'

end Go.Proofs.Ytkfjhannbnijkaa
