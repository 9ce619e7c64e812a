/- For the law EmbedKnown (closed): deep walked; the chapter's examples; the deepest levels. -/
import Derived.Test.YtkfjhannbnijkaaLwC
import Derived.Test.YtkfjhannbnijkaaLwD
import Derived.Deep.DeepCutAuto
namespace Go.Proofs.Ytkfjhannbnijkaa
open Go.RowKit

def deepL (n : Nat) (c : Int) : List Int := List.replicate n c ++ [14]

theorem deepL_len (n : Nat) (c : Int) : (deepL n c).length = n + 1 := by simp [deepL]
theorem valid_of_mem' {l : List Int} (h : ∀ c ∈ l, 1 ≤ c ∧ c ≤ 23) : Valid l := fun i hi => by
  rw [List.getD_eq_getElem?_getD, List.getElem?_eq_getElem hi]
  exact h _ (List.getElem_mem hi)
theorem deepL_valid {n : Nat} {c : Int} (hc : 1 ≤ c ∧ c ≤ 23) : Valid (deepL n c) := valid_of_mem' fun x hx => by
  unfold deepL at hx
  rcases List.mem_append.1 hx with h | h
  · rw [(List.mem_replicate.1 h).2]; exact hc
  · rw [List.mem_singleton.1 h]; omega

/-- A new row of these classes. -/
def DeepPost (w : World) (L : List Int) (m : Nat) (e : Ending) (w' : World) : Prop :=
  ∃ g cap, e = .returned (.slice (some ⟨g, 0, none⟩) m cap) ∧ w'.ownsRow w.heap.size 34 1 (.slice (some ⟨g, 0, none⟩) m cap) m (L.map (Value.int .u8)) ∧ w.Since w.heap.size w'

set_option maxRecDepth 100000 in
set_option maxHeartbeats 2000000 in
theorem deep_any (n : Nat) (c : Int) (hn : n ≤ 70000) (w : World) : Calls Try.prog 29 #[.int .i64 n, .int .u8 c] w (DeepPost w (deepL n c) (n + 1)) := by
  obtain ⟨i34, hi34, hz34, hz34b, hz34c⟩ := info_parts Try.info34
  go_enter Try.func29, Try.ntmps29
  go_wp2_with fail
  go_loopg [5, 6] n (fun g s5 s6 wr => ∃ k : Nat, k ≤ n ∧ g = n - k ∧ s6 = .int .i64 k ∧ w.Since w.heap.size wr ∧ wr.ownsRow w.heap.size 34 1 s5 k ((List.replicate k c).map (Value.int .u8)))
  case atStart => exact ⟨0, by omega, by omega, rfl, World.Since.refl _ _, World.ownsRow_nil _ _ _ _⟩
  case round =>
    obtain ⟨k, hk, rfl, rfl, hs, hown⟩ := hrel
    have HS := Lib.hid hs
    have hsz := hs.size
    clear hs
    obtain ⟨va, vc, rfl⟩ := own_form hown
    by_cases hlt : k < n
    · have hkz : (k : Int) < (n : Int) := by omega
      go_wp2_with (at_builtin; refine wpList_append_lies _ rfl _ _ _ rfl w.heap.size 34 i34 _ 1 1 Try.underlying22 hi34 hz34 hz34b hz34c rfl (by omega) (.slice va k vc) _ _ rfl (hown.alloc _) ⟨wr.heap.size, 0, none⟩ 1 1 [.int .u8 c] rfl rfl (World.news_of_block (cs := #[.int .u8 c]) (t := 34) (fr := (0, 0)) (heap_alloc_new wr _)) (by simp [Value.oneCell']) (by omega) (by unfold maxLen; omega) (by omega) (by simp; omega) (wr.heap.size + 1) (by simp) ?_; intro gg capg w4 hown4 hgrow4 hat4 hlt4)
      go_roundg (n - (k + 1))
      case measure => go_light; omega
      case rel =>
        go_light
        refine ⟨k + 1, by omega, rfl, by go_num, (HS.out.alloc hsz _).grown hgrow4 (by simp; omega) (fun r e => (hown.lt r e).1), ?_⟩
        rw [List.replicate_succ', List.map_append]
        exact hown4
    · obtain rfl : k = n := by omega
      have hkz : ¬ ((k : Int) < (k : Int)) := by omega
      go_wp2_with (at_builtin; refine wpList_append_lies _ rfl _ _ _ rfl w.heap.size 34 i34 _ 1 1 Try.underlying22 hi34 hz34 hz34b hz34c rfl (by omega) (.slice va k vc) _ _ rfl (hown.alloc _) ⟨wr.heap.size, 0, none⟩ 1 1 [.int .u8 14] rfl rfl (World.news_of_block (cs := #[.int .u8 14]) (t := 34) (fr := (0, 0)) (heap_alloc_new wr _)) (by simp [Value.oneCell']) (by omega) (by unfold maxLen; omega) (by omega) (by simp; omega) (wr.heap.size + 1) (by simp) ?_; intro gg capg w4 hown4 hgrow4 hat4 hlt4)
      go_ret
      refine ⟨gg, capg, rfl, ?_, (HS.out.alloc hsz _).grown hgrow4 (by simp; omega) (fun r e => (hown.lt r e).1)⟩
      unfold deepL
      rw [List.map_append]
      exact hown4

theorem deepPack (n m : Nat) (z c : Int) (hz : (n : Int) = z) (hm : n + 1 = m) (hn : n ≤ 70000) (hc : 1 ≤ c ∧ c ≤ 23) : ∃ L : List Int, L.length = m ∧ Valid L ∧ ∀ w, Calls Try.prog 29 #[.int .i64 z, .int .u8 c] w (DeepPost w L m) := by
  subst hz hm
  exact ⟨deepL n c, deepL_len n c, deepL_valid hc, deep_any n c hn⟩

/-! The chapter's examples. -/
def ka : List Int := [1, 16, 1, 19, 1]
def kb : List Int := [2, 22, 3, 23, 1]
def kc : List Int := [23, 21, 11, 16, 1]
theorem ka_p : plev ka 0 = 0 := by decide +kernel
theorem kb_p : plev kb 2 = 1 := by decide +kernel
theorem kc_p : plev kc 2 = 0 := by decide +kernel
theorem ka_lv : (List.range 5).map (lrun ka (mat ka) 0 5).lv = [0, 0, 1, 1, 0] := by decide +kernel
theorem kb_lv : (List.range 5).map (lrun kb (mat kb) 1 5).lv = [1, 1, 3, 1, 1] := by decide +kernel
theorem kc_lv : (List.range 5).map (lrun kc (mat kc) 0 5).lv = [0, 0, 0, 0, 1] := by decide +kernel
theorem ka_valid : Valid ka := valid_of_mem' (by decide)
theorem kb_valid : Valid kb := valid_of_mem' (by decide)
theorem kc_valid : Valid kc := valid_of_mem' (by decide)
theorem kd_p : plev (deepL 70 16) 0 = 0 := by decide +kernel
theorem ke_p : plev (deepL 200 21) 1 = 1 := by decide +kernel
theorem kd_lv : (lrun (deepL 70 16) (mat (deepL 70 16)) 0 71).lv 70 = 125 := by decide +kernel
theorem ke_lv : (lrun (deepL 200 21) (mat (deepL 200 21)) 1 201).lv 200 = 125 := by decide +kernel
end Go.Proofs.Ytkfjhannbnijkaa
