/- The law EmbedIsolates, walked. -/
import Derived.Test.YtkfjhannbnijkaaLwF
import Derived.Test.YtkfjhannbnijkaaLxA
import Derived.IntWalk
namespace Go.Proofs.Ytkfjhannbnijkaa
open Go.RowKit

/-- An owned row that is not empty lies in a block. -/
theorem own_pos {w : World} {B T n : Nat} {v : Value} {xs : List Value} (h : w.ownsRow B T 1 v n xs) (hn : 0 < n) : ∃ g c, v = .slice (some ⟨g, 0, none⟩) n c ∧ B ≤ g ∧ g < w.heap.size := by
  have hl := h.lt
  rcases h.2 with ⟨rfl, e⟩ | ⟨g, cap, cur, rfl, _⟩
  · omega
  · exact ⟨g, cap, rfl, hl g rfl⟩

theorem own_reads_at {w : World} {B T g n c : Nat} {P : List Int} {k : IntKind} (h : w.ownsRow B T 1 (.slice (some ⟨g, 0, none⟩) n c) n (P.map (Value.int k))) (hn : P.length = n) : Reads w k (some ⟨g, 0, none⟩) g 0 P := by
  refine ⟨fun _ => rfl, fun i hi => ?_⟩
  rw [Nat.zero_add, h.cellAt i (by omega), List.getElem?_map, List.getElem?_eq_getElem hi, List.getD_eq_getElem?_getD, List.getElem?_eq_getElem hi]
  rfl

theorem ob_at {g g' n c n' c' s : Nat} (h : (Value.slice (some ⟨g', 0, none⟩) n' c').ownBlock = (Value.slice (some ⟨g, 0, none⟩) n c).ownBlock ∨ (Value.slice (some ⟨g', 0, none⟩) n' c').ownBlock = some s) : g' = g ∨ g' = s := by
  simpa only [Value.ownBlock, Option.some.injEq] using h
theorem ob_at2 {g g' n c s : Nat} (h : (Value.slice (some ⟨g, 0, none⟩) n c).ownBlock = some g' ∨ g' = s) : g' = g ∨ g' = s := by
  rcases h with h | h
  · left; simp only [Value.ownBlock, Option.some.injEq] at h; exact h.symm
  · exact Or.inr h
theorem ob_new {g s n c : Nat} (h : (Value.slice (some ⟨g, 0, none⟩) n c).ownBlock = (Value.slice none 0 0).ownBlock ∨ (Value.slice (some ⟨g, 0, none⟩) n c).ownBlock = some s) : g = s := by
  rcases h with h | h
  · simp [Value.ownBlock] at h
  · simpa only [Value.ownBlock, Option.some.injEq] using h
theorem ob_ne {g g' n c n' c' : Nat} (h : g ≠ g') : (Value.slice (some ⟨g, 0, none⟩) n c).ownBlock = none ∨ (Value.slice (some ⟨g, 0, none⟩) n c).ownBlock ≠ (Value.slice (some ⟨g', 0, none⟩) n' c').ownBlock := by
  right; simp only [Value.ownBlock, ne_eq, Option.some.injEq]; exact h
theorem ob_nn {g n c : Nat} : (Value.slice (some ⟨g, 0, none⟩) n c).ownBlock = none ∨ (Value.slice (some ⟨g, 0, none⟩) n c).ownBlock ≠ (Value.slice none 0 0).ownBlock := by
  right; simp [Value.ownBlock]

theorem valid_iff (l : List Int) : Valid l ↔ ∀ c ∈ l, 1 ≤ c ∧ c ≤ 23 := by
  constructor
  · intro h c hc
    obtain ⟨i, hi, rfl⟩ := List.mem_iff_getElem.1 hc
    have := h i hi
    rw [List.getD_eq_getElem?_getD, List.getElem?_eq_getElem hi] at this
    exact this
  · intro h i hi
    rw [List.getD_eq_getElem?_getD, List.getElem?_eq_getElem hi]
    exact h _ (List.getElem_mem hi)

theorem valid_plain {x : List Int} (h : PlainL x) : Valid x := fun i hi => by have := h.each i hi; exact ⟨this.1, this.2.1⟩

theorem valid_isol {a x b : List Int} {c : Int} (hc : c = 20 ∨ c = 21) (hx : PlainL x) : Valid (a ++ [c] ++ x ++ [23] ++ b) ↔ Valid a ∧ Valid b := by
  have h := (valid_iff x).1 (valid_plain hx)
  simp only [valid_iff]
  constructor
  · intro h2
    exact ⟨fun y hy => h2 y (by simp [hy]), fun y hy => h2 y (by simp [hy])⟩
  · rintro ⟨h1, h2⟩ y hy
    simp only [List.mem_append, List.mem_singleton] at hy
    rcases hy with (((hy | rfl) | hy) | rfl) | hy
    · exact h1 y hy
    · omega
    · exact h y hy
    · omega
    · exact h2 y hy

theorem valid_probe {a : List Int} {c : Int} (hc : c = 20 ∨ c = 21) (ha : Valid a) : Valid (a ++ [c, 14]) := by
  rw [valid_iff] at ha ⊢
  intro y hy
  simp only [List.mem_append, List.mem_cons, List.not_mem_nil, or_false] at hy
  rcases hy with hy | rfl | rfl
  · exact ha y hy
  · omega
  · omega

def LenBad (n0 n1 n2 n3 : Nat) : Prop := 600 < n0 ∨ 600 < n1 ∨ 600 < n2 ∨ 600 < n3

set_option maxRecDepth 100000 in
set_option maxHeartbeats 1000000 in
theorem law10_long (n0 n1 n2 n3 k0 k1 k2 k3 : Nat) (a0 a1 a2 a3 : Option Addr) (right : Bool) (base : Int) (w : World) (h : LenBad n0 n1 n2 n3) (m0 : n0 ≤ maxLen) (m1 : n1 ≤ maxLen) (m2 : n2 ≤ maxLen) (m3 : n3 ≤ maxLen) :
    Calls Try.prog 10 #[.slice a0 n0 k0, .slice a1 n1 k1, .slice a2 n2 k2, .slice a3 n3 k3, .bool right, .int .u8 base] w (Since0 w (.bool true)) := by
  unfold maxLen at m0 m1 m2 m3
  unfold LenBad at h
  by_cases h0 : 600 < n0
  · have d0 : decide ((600 : Int) < (n0 : Int)) = true := by simp; omega
    clear h
    go_enter Try.func10, Try.ntmps10
    go_wp2_with (go_at_call 22; refine (works_any _).mono ?_; rintro e w' ⟨rfl, hs⟩)
    go_ret
    exact ⟨rfl, hs⟩
  · have d0 : decide ((600 : Int) < (n0 : Int)) = false := by simp; omega
    by_cases h1 : 600 < n1
    · have d1 : decide ((600 : Int) < (n1 : Int)) = true := by simp; omega
      clear h
      go_enter Try.func10, Try.ntmps10
      go_wp2_with (go_at_call 22; refine (works_any _).mono ?_; rintro e w' ⟨rfl, hs⟩)
      go_ret
      exact ⟨rfl, hs⟩
    · have d1 : decide ((600 : Int) < (n1 : Int)) = false := by simp; omega
      by_cases h2 : 600 < n2
      · have d2 : decide ((600 : Int) < (n2 : Int)) = true := by simp; omega
        clear h
        go_enter Try.func10, Try.ntmps10
        go_wp2_with (go_at_call 22; refine (works_any _).mono ?_; rintro e w' ⟨rfl, hs⟩)
        go_ret
        exact ⟨rfl, hs⟩
      · have d2 : decide ((600 : Int) < (n2 : Int)) = false := by simp; omega
        have d3 : decide ((600 : Int) < (n3 : Int)) = true := by simp; omega
        clear h
        go_enter Try.func10, Try.ntmps10
        go_wp2_with (go_at_call 22; refine (works_any _).mono ?_; rintro e w' ⟨rfl, hs⟩)
        go_ret
        exact ⟨rfl, hs⟩

set_option maxRecDepth 100000 in
set_option maxHeartbeats 1000000 in
theorem law10_not (X Y : List Int) (n0 n1 n2 n3 k0 k1 k2 k3 : Nat) (a0 a1 a2 a3 : Option Addr) (right : Bool) (base : Int) (w : World) (h : ¬ LenBad n0 n1 n2 n3) (hx : X.length = n1) (hy : Y.length = n2)
    (b1 o1 b2 o2 : Nat) (r1 : Reads w .u8 a1 b1 o1 X) (r2 : Reads w .u8 a2 b2 o2 Y) (hp : ¬ PlainL X ∨ ¬ PlainL Y) :
    Calls Try.prog 10 #[.slice a0 n0 k0, .slice a1 n1 k1, .slice a2 n2 k2, .slice a3 n3 k3, .bool right, .int .u8 base] w (Since0 w (.bool true)) := by
  unfold LenBad at h
  have d0 : decide ((600 : Int) < (n0 : Int)) = false := by simp; omega
  have d1 : decide ((600 : Int) < (n1 : Int)) = false := by simp; omega
  have d2 : decide ((600 : Int) < (n2 : Int)) = false := by simp; omega
  have d3 : decide ((600 : Int) < (n3 : Int)) = false := by simp; omega
  by_cases h1 : PlainL X
  · have C1 := Lib.hid (plain_yes X n1 hx (by omega) k1 b1 o1 a1 w r1 h1)
    have C2 := Lib.hid (plain_no Y n2 hy (by omega) k2 b2 o2 a2 w r2 (by rcases hp with h | h; exact absurd h1 h; exact h))
    clear h hp h1 r1 r2 hx hy
    go_enter Try.func10, Try.ntmps10
    go_wp2_with (first
      | (go_at_call 28; ((with_reducible refine C1.out.mono ?_); rintro e w' ⟨rfl, rfl⟩))
      | (go_at_call 28; ((with_reducible refine C2.out.mono ?_); rintro e w' ⟨rfl, rfl⟩))
      | (go_at_call 22; refine (works_any _).mono ?_; rintro e w' ⟨rfl, hs⟩))
    go_ret
    exact ⟨rfl, hs⟩
  · have C1 := Lib.hid (plain_no X n1 hx (by omega) k1 b1 o1 a1 w r1 h1)
    clear h hp h1 r1 r2 hx hy
    go_enter Try.func10, Try.ntmps10
    go_wp2_with (first
      | (go_at_call 28; ((with_reducible refine C1.out.mono ?_); rintro e w' ⟨rfl, rfl⟩))
      | (go_at_call 22; refine (works_any _).mono ?_; rintro e w' ⟨rfl, hs⟩))
    go_ret
    exact ⟨rfl, hs⟩

set_option maxRecDepth 100000 in
set_option maxHeartbeats 8000000 in
theorem law10_any (A X Y C : List Int) (na nx ny nc ca cx cy cc : Nat) (ha : A.length = na) (hx : X.length = nx) (hy : Y.length = ny) (hc : C.length = nc) (h : ¬ LenBad na nx ny nc) (aa ax ay ac : Option Addr) (ba oa bx ox bY oY bc oc : Nat) (w : World)
    (ra : Reads w .u8 aa ba oa A) (rx : Reads w .u8 ax bx ox X) (ry : Reads w .u8 ay bY oY Y) (rc : Reads w .u8 ac bc oc C) (za : aa = none → ca = 0) (zx : ax = none → cx = 0) (zy : ay = none → cy = 0) (zc : ac = none → cc = 0)
    (px : PlainL X) (py : PlainL Y) (right : Bool) (base : Int) (hb : 0 ≤ base) :
    Calls Try.prog 10 #[.slice aa na ca, .slice ax nx cx, .slice ay ny cy, .slice ac nc cc, .bool right, .int .u8 base] w (Since0 w (.bool true)) := by
  unfold LenBad at h
  have d0 : decide ((600 : Int) < (na : Int)) = false := by simp; omega
  have d1 : decide ((600 : Int) < (nx : Int)) = false := by simp; omega
  have d2 : decide ((600 : Int) < (ny : Int)) = false := by simp; omega
  have d3 : decide ((600 : Int) < (nc : Int)) = false := by simp; omega
  have hla : na ≤ 600 := by omega
  have hlx : nx ≤ 600 := by omega
  have hly : ny ≤ 600 := by omega
  have hlc : nc ≤ 600 := by omega
  obtain ⟨i34, hi34, hz34, hz34b, hz34c⟩ := info_parts Try.info34
  have HA := Lib.hid ha
  have HX := Lib.hid hx
  have HY := Lib.hid hy
  have HC := Lib.hid hc
  have ZA := Lib.hid za
  have ZX := Lib.hid zx
  have ZY := Lib.hid zy
  have ZC := Lib.hid zc
  have PX := Lib.hid px
  have PY := Lib.hid py
  have K1 := Lib.hid (plain_yes X nx hx (by omega) cx bx ox ax w rx px)
  have K2 := Lib.hid (plain_yes Y ny hy (by omega) cy bY oY ay w ry py)
  clear h ha hx hy hc za zx zy zc px py
  go_enter Try.func10, Try.ntmps10
  go_upto_if 63 with (first
    | (go_at_call 28; ((with_reducible refine K1.out.mono ?_); rintro e w' ⟨rfl, rfl⟩))
    | (go_at_call 28; ((with_reducible refine K2.out.mono ?_); rintro e w' ⟨rfl, rfl⟩)))
  go_cut [13] from 63 to 63 (fun s13 wx => (∃ c : Int, (c = 20 ∨ c = 21) ∧ s13 = .int .u8 c) ∧ w = wx)
  case first =>
    cases right
    all_goals
      go_wp2_with fail
      go_meet
      first
      | exact ⟨⟨20, Or.inl rfl, rfl⟩, rfl⟩
      | exact ⟨⟨21, Or.inr rfl, rfl⟩, rfl⟩
  case rest =>
    obtain ⟨⟨c, hc', rfl⟩, rfl⟩ := hcut
    have HCC := Lib.hid hc'
    clear hc' K1 K2
    -- the two texts, step by step
    go_upto_region 8 with (at_builtin; refine wpList_append_read2 rfl _ _ _ rfl w.heap.size 34 i34 _ 1 Try.underlying22 hi34 hz34 hz34b hz34c rfl _ 0 [] rfl (World.ownsRow_nil _ _ _ _) ra HA.out ZA.out rfl (by unfold maxLen; omega) (by omega) (Nat.le_refl _) ?_; intro vl w1 hl1 hg1 _)
    simp only [List.nil_append, Nat.zero_add] at hl1
    have hs1 : w.Since w.heap.size w1 := grown_since hg1 (fun r e => by cases e)
    have hsz1 := hs1.size
    clear hg1
    obtain ⟨va, vcp, rfl⟩ := own_form hl1
    go_upto_region 9 with (at_builtin; refine wpList_append_lies _ rfl _ _ _ rfl w.heap.size 34 i34 _ 1 1 Try.underlying22 hi34 hz34 hz34b hz34c rfl (by omega) (.slice va na vcp) _ _ rfl (hl1.alloc _) ⟨w1.heap.size, 0, none⟩ 1 1 [.int .u8 c] rfl rfl (World.news_of_block (cs := #[.int .u8 c]) (t := 34) (fr := (0, 0)) (heap_alloc_new w1 _)) (by simp [Value.oneCell']) (by omega) (by unfold maxLen; omega) (by omega) (by simp; omega) (w1.heap.size + 1) (by simp) ?_; intro g2 cap2 w2 hl2 hg2 _ hlt2)
    have hs2 := (hs1.alloc hsz1 (.cells #[.int .u8 c] 34)).grown hg2 (by simp; omega) (fun r e => (hl1.lt r e).1)
    have hsz2 := hs2.size
    have e2 : A.map (Value.int .u8) ++ [Value.int .u8 c] = (A ++ [c]).map (Value.int .u8) := by simp
    rw [e2] at hl2
    have n2 : (A ++ [c]).length = na + 1 := by rw [List.length_append, HA.out]; rfl
    clear hl1 hs1 hg2 e2
    go_upto_region 10 with (at_builtin; refine wpList_append_read2 rfl _ _ _ rfl w.heap.size 34 i34 _ 1 Try.underlying22 hi34 hz34 hz34b hz34c rfl _ 0 [] rfl (World.ownsRow_nil _ _ _ _) (own_reads_at hl2 n2) n2 (fun e => by cases e) rfl (by unfold maxLen; omega) (by omega) hsz2 ?_; intro vm w3 hm3 hg3 hat3)
    simp only [List.nil_append, Nat.zero_add] at hm3
    obtain ⟨g3, cap3, rfl, -, hlt3⟩ := own_pos hm3 (by omega)
    have hg3' : w2.heap.size ≤ g3 := by have := ob_new hat3; omega
    have hl3 := hl2.kept hg3 ob_nn
    have hs3 : w.Since w.heap.size w3 := hs2.grown hg3 hsz2 (fun r e => by cases e)
    have hsz3 := hs3.size
    have rx3 := rx.since hs3
    have hz3 := hg3.size
    clear hl2 hs2 hg3 hat3 n2
    go_upto_region 11 with (at_builtin; refine wpList_append_read2 rfl _ _ _ rfl w.heap.size 34 i34 _ 1 Try.underlying22 hi34 hz34 hz34b hz34c rfl (.slice (some ⟨g2, 0, none⟩) (na + 1) cap2) (na + 1) _ rfl hl3 rx3 HX.out ZX.out rfl (by unfold maxLen; omega) (by omega) hsz3 ?_; intro vl w4 hl4 hg4 hat4)
    rw [← List.map_append] at hl4
    obtain ⟨g4, cap4, rfl, -, hlt4⟩ := own_pos hl4 (by omega)
    have hg4' := ob_at hat4
    have hm4 := hm3.kept hg4 (ob_ne (by omega))
    have hs4 : w.Since w.heap.size w4 := hs3.grown hg4 hsz3 (fun r e => (hl3.lt r e).1)
    have hsz4 := hs4.size
    have ry4 := ry.since hs4
    have hz4 := hg4.size
    clear hl3 hs3 hg4 hat4 hm3 rx3
    go_upto_region 12 with (at_builtin; refine wpList_append_read2 rfl _ _ _ rfl w.heap.size 34 i34 _ 1 Try.underlying22 hi34 hz34 hz34b hz34c rfl (.slice (some ⟨g3, 0, none⟩) (na + 1) cap3) (na + 1) _ rfl hm4 ry4 HY.out ZY.out rfl (by unfold maxLen; omega) (by omega) hsz4 ?_; intro vm w5 hm5 hg5 hat5)
    rw [← List.map_append] at hm5
    obtain ⟨g5, cap5, rfl, -, hlt5⟩ := own_pos hm5 (by omega)
    have hg5' := ob_at hat5
    have hl5 := hl4.kept hg5 (ob_ne (by omega))
    have hs5 : w.Since w.heap.size w5 := hs4.grown hg5 hsz4 (fun r e => (hm4.lt r e).1)
    have hsz5 := hs5.size
    have hz5 := hg5.size
    clear hl4 hs4 hg5 hat5 hm4 ry4
    go_upto_region 13 with (at_builtin; refine wpList_append_lies _ rfl _ _ _ rfl w.heap.size 34 i34 _ 1 1 Try.underlying22 hi34 hz34 hz34b hz34c rfl (by omega) (.slice (some ⟨g4, 0, none⟩) (na + 1 + nx) cap4) (na + 1 + nx) _ rfl (hl5.alloc _) ⟨w5.heap.size, 0, none⟩ 1 1 [.int .u8 23] rfl rfl (World.news_of_block (cs := #[.int .u8 23]) (t := 34) (fr := (0, 0)) (heap_alloc_new w5 _)) (by simp [Value.oneCell']) (by omega) (by unfold maxLen; omega) (by omega) (by simp; omega) (w5.heap.size + 1) (by simp) ?_; intro g6 cap6 w6 hl6 hg6 hat6 hlt6)
    have e6 : (A ++ [c] ++ X).map (Value.int .u8) ++ [Value.int .u8 23] = (A ++ [c] ++ X ++ [23]).map (Value.int .u8) := by simp
    rw [e6] at hl6
    have hg6' := ob_at2 hat6
    have hm6 := (hm5.alloc (.cells #[.int .u8 23] 34)).kept hg6 (ob_ne (by omega))
    have hs6 := (hs5.alloc hsz5 (.cells #[.int .u8 23] 34)).grown hg6 (by simp; omega) (fun r e => (hl5.lt r e).1)
    have hsz6 := hs6.size
    have hz6 := hg6.size
    simp only [World.size_alloc] at hz6
    clear hl5 hs5 hg6 hat6 hm5 e6
    go_upto_region 14 with (at_builtin; refine wpList_append_lies _ rfl _ _ _ rfl w.heap.size 34 i34 _ 1 1 Try.underlying22 hi34 hz34 hz34b hz34c rfl (by omega) (.slice (some ⟨g5, 0, none⟩) (na + 1 + ny) cap5) (na + 1 + ny) _ rfl (hm6.alloc _) ⟨w6.heap.size, 0, none⟩ 1 1 [.int .u8 23] rfl rfl (World.news_of_block (cs := #[.int .u8 23]) (t := 34) (fr := (0, 0)) (heap_alloc_new w6 _)) (by simp [Value.oneCell']) (by omega) (by unfold maxLen; omega) (by omega) (by simp; omega) (w6.heap.size + 1) (by simp) ?_; intro g7 cap7 w7 hm7 hg7 hat7 hlt7)
    have e7 : (A ++ [c] ++ Y).map (Value.int .u8) ++ [Value.int .u8 23] = (A ++ [c] ++ Y ++ [23]).map (Value.int .u8) := by simp
    rw [e7] at hm7
    have hg7' := ob_at2 hat7
    have hl7 := (hl6.alloc (.cells #[.int .u8 23] 34)).kept hg7 (ob_ne (by omega))
    have hs7 := (hs6.alloc hsz6 (.cells #[.int .u8 23] 34)).grown hg7 (by simp; omega) (fun r e => (hm6.lt r e).1)
    have hsz7 := hs7.size
    have hz7 := hg7.size
    simp only [World.size_alloc] at hz7
    have rc7 := rc.since hs7
    clear hl6 hs6 hg7 hat7 hm6 e7
    go_upto_region 15 with (at_builtin; refine wpList_append_read2 rfl _ _ _ rfl w.heap.size 34 i34 _ 1 Try.underlying22 hi34 hz34 hz34b hz34c rfl (.slice (some ⟨g6, 0, none⟩) (na + 1 + nx + 1) cap6) (na + 1 + nx + 1) _ rfl hl7 rc7 HC.out ZC.out rfl (by unfold maxLen; omega) (by omega) hsz7 ?_; intro vl w8 hl8 hg8 hat8)
    rw [← List.map_append] at hl8
    obtain ⟨g8, cap8, rfl, -, hlt8⟩ := own_pos hl8 (by omega)
    have hg8' := ob_at hat8
    have hm8 := hm7.kept hg8 (ob_ne (by omega))
    have hs8 : w.Since w.heap.size w8 := hs7.grown hg8 hsz7 (fun r e => (hl7.lt r e).1)
    have hsz8 := hs8.size
    have rc8 := rc.since hs8
    have hz8 := hg8.size
    clear hl7 hs7 hg8 hat8 hm7 rc7
    go_upto_region 16 with (at_builtin; refine wpList_append_read2 rfl _ _ _ rfl w.heap.size 34 i34 _ 1 Try.underlying22 hi34 hz34 hz34b hz34c rfl (.slice (some ⟨g7, 0, none⟩) (na + 1 + ny + 1) cap7) (na + 1 + ny + 1) _ rfl hm8 rc8 HC.out ZC.out rfl (by unfold maxLen; omega) (by omega) hsz8 ?_; intro vm w9 hm9 hg9 hat9)
    rw [← List.map_append] at hm9
    obtain ⟨g9, cap9, rfl, -, hlt9⟩ := own_pos hm9 (by omega)
    have hl9 := hl8.kept hg9 (ob_ne (by omega))
    have hs9 : w.Since w.heap.size w9 := hs8.grown hg9 hsz8 (fun r e => (hm8.lt r e).1)
    have hsz9 := hs9.size
    have ra9 := ra.since hs9
    have hI := isol_mk A X C HCC.out PX.out
    have hJ := isol_mk A Y C HCC.out PY.out
    have vI := valid_isol (a := A) (b := C) HCC.out PX.out
    have vJ := valid_isol (a := A) (b := C) HCC.out PY.out
    obtain ⟨L, hL⟩ : ∃ L, A ++ [c] ++ X ++ [23] ++ C = L := ⟨_, rfl⟩
    obtain ⟨M, hM⟩ : ∃ M, A ++ [c] ++ Y ++ [23] ++ C = M := ⟨_, rfl⟩
    rw [hL] at hI vI hl9
    rw [hM] at hJ vJ hm9
    have lL := hI.len
    have lM := hJ.len
    rw [HA.out, HX.out, HC.out] at lL
    rw [HA.out, HY.out, HC.out] at lM
    have RL := Lib.hid (own_reads_at hl9 lL)
    have RM := Lib.hid (own_reads_at hm9 lM)
    have RA := Lib.hid ra9
    have HI := Lib.hid hI
    have HJ := Lib.hid hJ
    have VI := Lib.hid vI
    have VJ := Lib.hid vJ
    have LL := Lib.hid lL
    have LM := Lib.hid lM
    have HS9 := Lib.hid hs9
    clear hl8 hl9 hm8 hm9 hs8 hs9 hg9 hat9 rc8 ra9 hI hJ vI vJ hL hM lL lM
    clear hg3' hg4' hg5' hg6' hg7' hg8' hlt2 hlt3 hlt4 hlt5 hlt6 hlt7 hlt8 hlt9 hz3 hz4 hz5 hz6 hz7 hz8 hsz1 hsz2 hsz3 hsz4 hsz5 hsz6 hsz7 hsz8
    clear ra rx ry rc
    generalize hnl : na + 1 + nx + 1 + nc = nl at *
    generalize hnm : na + 1 + ny + 1 + nc = nm at *
    have l1 : nl ≤ 2000 := by omega
    have l2 : nm ≤ 2000 := by omega
    have HNL := Lib.hid hnl
    have HNM := Lib.hid hnm
    clear hnl hnm
    by_cases hv : (Valid A ∧ Valid C) ∧ base ≤ 2
    · obtain ⟨⟨hvA, hvC⟩, hb2⟩ := hv
      have hvL := VI.out.2 ⟨hvA, hvC⟩
      have hvM := VJ.out.2 ⟨hvA, hvC⟩
      have hvP := valid_probe HCC.out hvA
      obtain ⟨p0, p1⟩ := plev_bd12 L ⟨hb, hb2⟩
      have hE := levels_ok L base nl cap8 LL.out (some ⟨g8, 0, none⟩) g8 0 w9 RL.out (by omega) hvL ⟨hb, hb2⟩
      have hF := fun (wx : World) (h : Reads wx .u8 (some ⟨g9, 0, none⟩) g9 0 M) => levels_ok M base nm cap9 LM.out (some ⟨g9, 0, none⟩) g9 0 wx h (by omega) hvM ⟨hb, hb2⟩
      by_cases hpp : plev L base = plev M base
      · rw [← hpp] at hF
        obtain ⟨q1, q2⟩ := isol_law HI.out HJ.out (plev L base)
        rw [HA.out, HX.out, HY.out] at q2
        rw [HC.out] at q2
        rw [HA.out] at q1
        have hn1 := HNL.out
        have hn2 := HNM.out
        have Q1 := Lib.hid (show ∀ j, j ≤ na → (lrun L (mat L) (plev L base) nl).lv j = (lrun M (mat M) (plev L base) nm).lv j ∧ (lrun L (mat L) (plev L base) nl).cl j = (lrun M (mat M) (plev L base) nm).cl j from fun j hj => by
          rw [(lrun_LV L _ _ (show j < nl by omega)).1, (lrun_LV M _ _ (show j < nm by omega)).1, (lrun_LV L _ _ (show j < nl by omega)).2, (lrun_LV M _ _ (show j < nm by omega)).2]
          exact q1 j hj)
        have Q2 := Lib.hid (show ∀ j, j ≤ nc → (lrun L (mat L) (plev L base) nl).lv (na + 1 + nx + j) = (lrun M (mat M) (plev L base) nm).lv (na + 1 + ny + j) ∧ (lrun L (mat L) (plev L base) nl).cl (na + 1 + nx + j) = (lrun M (mat M) (plev L base) nm).cl (na + 1 + ny + j) from fun j hj => by
          rw [(lrun_LV L _ _ (show na + 1 + nx + j < nl by omega)).1, (lrun_LV M _ _ (show na + 1 + ny + j < nm by omega)).1, (lrun_LV L _ _ (show na + 1 + nx + j < nl by omega)).2, (lrun_LV M _ _ (show na + 1 + ny + j < nm by omega)).2]
          exact q2 j hj)
        have HP := Lib.hid (fun (wx : World) (cp g : Nat) (h : Reads wx .u8 (some ⟨g, 0, none⟩) g 0 (A ++ [c, 14])) => levels_ok (A ++ [c, 14]) (plev L base) (na + 2) cp (by rw [List.length_append, HA.out]; rfl) (some ⟨g, 0, none⟩) g 0 wx h (by omega) hvP ⟨p0, by omega⟩)
        have hpr : plev (A ++ [c, 14]) (plev L base) = plev L base := by rw [plev, if_neg (by omega)]
        rw [hpr] at HP
        clear hn1 hn2 q1 q2 hpp hpr hvA hvC hvL hvM hvP HI HJ VI VJ
        generalize plev L base = p at *
        generalize (lrun L (mat L) p nl).lv = lv1 at *
        generalize (lrun L (mat L) p nl).cl = cl1 at *
        generalize (lrun M (mat M) p nm).lv = lv2 at *
        generalize (lrun M (mat M) p nm).cl = cl2 at *
        generalize (lrun (A ++ [c, 14]) (mat (A ++ [c, 14])) p (na + 2)).lv = lv3 at *
        generalize (lrun (A ++ [c, 14]) (mat (A ++ [c, 14])) p (na + 2)).cl = cl3 at *
        have HE := Lib.hid hE
        have HF := Lib.hid hF
        have hpz : (p != p) = false := by simp
        clear hE hF
        go_upto_region 17 with (go_at_call 26; refine HE.out.mono ?_; rintro e w10 ⟨x1, y1, rfl, -, -, -, hx1, hy1, hs10⟩)
        have hz10 := hs10.size
        have RM10 := Lib.hid (RM.out.since hs10)
        have RA10 := Lib.hid (RA.out.since hs10)
        have HS10 := Lib.hid (Since.then HS9.out hs10 hsz9)
        have lx1 := hx1.lt
        have ly1 := hy1.lt
        have X1 := Lib.hid hx1
        have Y1 := Lib.hid hy1
        clear hs10 hx1 hy1 HE RM RA HS9
        go_upto_region 18 with (go_at_call 26; refine (HF.out w10 RM10.out).mono ?_; rintro e w11 ⟨x2, y2, rfl, -, -, -, hx2, hy2, hs11⟩)
        have hz11 := hs11.size
        have RA11 := Lib.hid (RA10.out.since hs11)
        have HS11 := Lib.hid (Since.then HS10.out hs11 (by omega))
        have X1' := Lib.hid (X1.out.of_block (hs11.block _ lx1))
        have Y1' := Lib.hid (Y1.out.of_block (hs11.block _ ly1))
        have lx2 := hx2.lt
        have ly2 := hy2.lt
        have X2 := Lib.hid hx2
        have Y2 := Lib.hid hy2
        clear hs11 hx2 hy2 HF RM10 RA10 HS10 X1 Y1
        have hsz11 : w.heap.size ≤ w11.heap.size := by omega
        go_upto_region 22 with (at_builtin; refine wpList_append_read2 rfl _ _ _ rfl w11.heap.size 34 i34 _ 1 Try.underlying22 hi34 hz34 hz34b hz34c rfl _ 0 [] rfl (World.ownsRow_nil _ _ _ _) RA11.out HA.out ZA.out rfl (by unfold maxLen; omega) (by omega) (Nat.le_refl _) ?_; intro vf w12 hf12 hg12 _)
        simp only [List.nil_append, Nat.zero_add] at hf12
        have hs12 : w11.Since w11.heap.size w12 := grown_since hg12 (fun r e => by cases e)
        have hz12 := hs12.size
        clear hg12
        obtain ⟨fa, fc, rfl⟩ := own_form hf12
        go_upto_region 23 with (at_builtin; refine wpList_append_lies _ rfl _ _ _ rfl w11.heap.size 34 i34 _ 1 1 Try.underlying22 hi34 hz34 hz34b hz34c rfl (by omega) (.slice fa na fc) _ _ rfl (hf12.alloc _) ⟨w12.heap.size, 0, none⟩ 2 2 [.int .u8 c, .int .u8 14] rfl rfl (World.news_of_block (cs := #[.int .u8 c, .int .u8 14]) (t := 34) (fr := (0, 0)) (heap_alloc_new w12 _)) (by simp [Value.oneCell']) (by omega) (by unfold maxLen; omega) (by omega) (by simp; omega) (w12.heap.size + 1) (by simp) ?_; intro g13 cap13 w13 hf13 hg13 hat13 hlt13)
        have e13 : A.map (Value.int .u8) ++ [Value.int .u8 c, Value.int .u8 14] = (A ++ [c, 14]).map (Value.int .u8) := by simp
        rw [e13] at hf13
        have hs13 := (hs12.alloc hz12 (.cells #[.int .u8 c, .int .u8 14] 34)).grown hg13 (by simp; omega) (fun r e => (hf12.lt r e).1)
        have hz13 := hs13.size
        have R13 := Lib.hid (own_reads_at hf13 (by rw [List.length_append, HA.out]; rfl))
        have HS13 := Lib.hid hs13
        clear hf12 hs12 hf13 hs13 hg13 hat13 hlt13 e13
        go_upto_region 24 with (go_at_call 26; refine (HP.out w13 cap13 g13 R13.out).mono ?_; rintro e w14 ⟨x3, y3, rfl, -, -, -, hx3, -, hs14⟩)
        have hz14 := hs14.size
        have lx3 := hx3.lt
        have hsA := Since.then HS13.out hs14 hz13
        have X1z := Lib.hid (X1'.out.of_block (hsA.block _ (by omega)))
        have Y1z := Lib.hid (Y1'.out.of_block (hsA.block _ (by omega)))
        have X2z := Lib.hid (X2.out.of_block (hsA.block _ lx2))
        have Y2z := Lib.hid (Y2.out.of_block (hsA.block _ ly2))
        have HS14 := Lib.hid (Since.then HS11.out hsA hsz11)
        have lx1' : x1 < w14.heap.size := by omega
        have ly1' : y1 < w14.heap.size := by omega
        have lx2' : x2 < w14.heap.size := by omega
        have ly2' : y2 < w14.heap.size := by omega
        have hzw : w.heap.size ≤ w14.heap.size := by omega
        have c1 : w14.cell? ⟨x3, na + 1, none⟩ = some (.int .u8 (lv3 (na + 1))) := hx3.cell (by omega)
        have c2 : w14.cell? ⟨x3, na, none⟩ = some (.int .u8 (lv3 na)) := hx3.cell (by omega)
        clear hs14 hx3 hsA X1' Y1' X2 Y2 HS11 HP R13 HS13
        generalize lv3 (na + 1) = b1 at *
        generalize lv3 na = b0 at *
        have s1 : IntKind.i64.wrap ((na : Int) + 2) = (na : Int) + 2 := IntWalk.i64_in _ (by omega)
        have s2 : IntKind.i64.wrap ((na : Int) + 1) = (na : Int) + 1 := IntWalk.i64_in _ (by omega)
        have s3 : (((na : Int) + 2) != ((na : Int) + 2)) = false := by simp
        have s4 : (((na + 2 : Nat) : Int) != ((na : Int) + 2)) = false := by simp
        have s5 : 0 ≤ (na : Int) + 1 := by omega
        have s6 : ((na : Int) + 1).toNat = na + 1 := by omega
        have s7 : (na : Int) + 1 < (na : Int) + 2 := by omega
        have s8 : (na : Int) < (na : Int) + 2 := by omega
        by_cases hpe : b1 = b0
        · have t1 : (b1 == b0) = true := by simp [hpe]
          clear hpe
          go_upto_region 25 with fail
          go_quiet (fail)
          clear s1 s2 s3 s4 s5 s6 s7 s8
          go_wp2_with (go_at_call 22; refine (works_any _).mono ?_; rintro e w' ⟨rfl, hs⟩)
          go_ret
          exact ⟨rfl, Since.then (sinceN HS14.out nq) hs (by simp; omega)⟩
        · have t1 : (b1 == b0) = false := by simp [hpe]
          clear hpe
          go_upto_region 25 with fail
          go_quiet (fail)
          clear s1 s2 s3 s4 s5 s6 s7 s8
          have HB1 := Lib.hid (show ∀ (wx : World), w14.Since w14.heap.size wx → ∀ j, j < nl → wx.cell? ⟨x1, j, none⟩ = some (.int .u8 (lv1 j)) ∧ wx.cell? ⟨y1, j, none⟩ = some (.int .u8 (cl1 j)) from fun wx hs j hj => ⟨by rw [hs.cell (a := ⟨x1, j, none⟩) lx1']; exact X1z.out.cell hj, by rw [hs.cell (a := ⟨y1, j, none⟩) ly1']; exact Y1z.out.cell hj⟩)
          have HB2 := Lib.hid (show ∀ (wx : World), w14.Since w14.heap.size wx → ∀ j, j < nm → wx.cell? ⟨x2, j, none⟩ = some (.int .u8 (lv2 j)) ∧ wx.cell? ⟨y2, j, none⟩ = some (.int .u8 (cl2 j)) from fun wx hs j hj => ⟨by rw [hs.cell (a := ⟨x2, j, none⟩) lx2']; exact X2z.out.cell hj, by rw [hs.cell (a := ⟨y2, j, none⟩) ly2']; exact Y2z.out.cell hj⟩)
          have hs0 := sinceN (World.Since.refl w14.heap.size w14) nq
          have h1 := HNL.out
          have h2 := HNM.out
          have m1 : na + 1 + nx + 1 + nc ≤ nl := by omega
          have m2 : nl ≤ na + 1 + nx + 1 + nc := by omega
          have m3 : na + 1 + ny + 1 + nc ≤ nm := by omega
          have m4 : nm ≤ na + 1 + ny + 1 + nc := by omega
          have HS0 := Lib.hid hs0
          clear h1 h2 hs0 c1 c2 t1 X1z Y1z X2z Y2z
          generalize w14.drewN nq = w15 at *
          go_wp2_with fail
          go_loopg [30] (na + 1) (fun g s30 wr => ∃ i : Nat, i ≤ na + 1 ∧ g = na + 1 - i ∧ s30 = .int .i64 i ∧ w14.Since w14.heap.size wr)
          case atStart => exact ⟨0, by omega, by omega, rfl, HS0.out⟩
          case round =>
            obtain ⟨i, hi, rfl, rfl, hsr⟩ := hrel
            by_cases hlt : i ≤ na
            · have hiz : decide ((i : Int) ≤ (na : Int)) = true := by simp; omega
              obtain ⟨z1, z2⟩ := HB1.out wr hsr i (by omega)
              obtain ⟨z3, z4⟩ := HB2.out wr hsr i (by omega)
              obtain ⟨e1, e2⟩ := Q1.out i hlt
              rw [← e1] at z3
              rw [← e2] at z4
              generalize lv1 i = v at *
              generalize cl1 i = u at *
              have HSR := Lib.hid hsr
              have t1 : (v != v) = false := by simp
              have t2 : (u != u) = false := by simp
              have i1 : (i : Int) < (nl : Int) := by omega
              have i2 : (i : Int) < (nm : Int) := by omega
              clear e1 e2 hsr
              go_upto_region 30 with fail
              go_quiet (fail)
              go_wp2_with fail
              go_roundg (na + 1 - (i + 1))
              case measure => go_light; omega
              case rel => go_light; exact ⟨i + 1, by omega, rfl, by go_num, sinceN HSR.out nq⟩
            · obtain rfl : i = na + 1 := by omega
              have hiz : decide (((na + 1 : Nat) : Int) ≤ (na : Int)) = false := by simp; omega
              have HSR := Lib.hid hsr
              clear hsr hi HS0
              go_wp2_with fail
              go_loopg [31] (nc + 1) (fun g s31 wr => ∃ i : Nat, i ≤ nc + 1 ∧ g = nc + 1 - i ∧ s31 = .int .i64 i ∧ w14.Since w14.heap.size wr)
              case atStart => exact ⟨0, by omega, by omega, rfl, HSR.out⟩
              case round =>
                obtain ⟨i, hi, rfl, rfl, hsr⟩ := hrel
                by_cases hlt : i ≤ nc
                · have hjz : decide ((i : Int) ≤ (nc : Int)) = true := by simp; omega
                  obtain ⟨P, hP⟩ : ∃ P, P = na + 1 + nx + (nc - i) := ⟨_, rfl⟩
                  obtain ⟨Q, hQ⟩ : ∃ Q, Q = na + 1 + ny + (nc - i) := ⟨_, rfl⟩
                  obtain ⟨z1, z2⟩ := HB1.out wr hsr P (by omega)
                  obtain ⟨z3, z4⟩ := HB2.out wr hsr Q (by omega)
                  obtain ⟨e1, e2⟩ := Q2.out (nc - i) (by omega)
                  rw [← hP, ← hQ] at e1 e2
                  rw [← e1] at z3
                  rw [← e2] at z4
                  generalize lv1 P = v at *
                  generalize cl1 P = u at *
                  have HSR2 := Lib.hid hsr
                  have t1 : (v != v) = false := by simp
                  have t2 : (u != u) = false := by simp
                  have i1 : (P : Int) < (nl : Int) := by omega
                  have i2 : (Q : Int) < (nm : Int) := by omega
                  have p1 : (nl : Int) - 1 - (i : Int) = (P : Int) := by omega
                  have p2 : (nm : Int) - 1 - (i : Int) = (Q : Int) := by omega
                  clear e1 e2 hsr hP hQ
                  go_upto_region 36 with fail
                  clear p1 p2
                  go_quiet (fail)
                  go_wp2_with fail
                  go_roundg (nc + 1 - (i + 1))
                  case measure => go_light; omega
                  case rel => go_light; exact ⟨i + 1, by omega, rfl, by go_num, sinceN HSR2.out nq⟩
                · obtain rfl : i = nc + 1 := by omega
                  have hjz : decide (((nc + 1 : Nat) : Int) ≤ (nc : Int)) = false := by simp; omega
                  go_wp2_with (go_at_call 22; refine (works_any _).mono ?_; rintro e w' ⟨rfl, hs⟩)
                  go_ret
                  exact ⟨rfl, Since.then HS14.out (Since.then hsr hs hsr.size) hzw⟩
      · have HE := Lib.hid hE
        have HF := Lib.hid hF
        have hne : (plev L base != plev M base) = true := by simp [hpp]
        clear hE hF hpp hvA hvC hvL hvM hvP p0 p1
        generalize plev L base = p at *
        generalize plev M base = q at *
        generalize (lrun L (mat L) p nl).lv = lv1 at *
        generalize (lrun L (mat L) p nl).cl = cl1 at *
        generalize (lrun M (mat M) q nm).lv = lv2 at *
        generalize (lrun M (mat M) q nm).cl = cl2 at *
        go_upto_region 17 with (go_at_call 26; refine HE.out.mono ?_; rintro e w10 ⟨x1, y1, rfl, -, -, -, -, -, hs10⟩)
        have hz10 := hs10.size
        have RM10 := Lib.hid (RM.out.since hs10)
        have HS10 := Lib.hid (Since.then HS9.out hs10 hsz9)
        clear hs10 HE RM RA HS9 RL
        go_upto_region 18 with (go_at_call 26; refine (HF.out w10 RM10.out).mono ?_; rintro e w11 ⟨x2, y2, rfl, -, -, -, -, -, hs11⟩)
        have hz11 := hs11.size
        have HS11 := Lib.hid (Since.then HS10.out hs11 (by omega))
        clear hs11 HF RM10 HS10
        go_wp2_with (go_at_call 22; refine (works_any _).mono ?_; rintro e w' ⟨rfl, hs⟩)
        go_ret
        exact ⟨rfl, Since.then HS11.out hs (by omega)⟩
    · have hv1 : ¬ Valid L ∨ 2 < base := by
        by_cases h1 : Valid L
        · exact Or.inr (by have h2 : ¬ base ≤ 2 := fun h2 => hv ⟨VI.out.1 h1, h2⟩; omega)
        · exact Or.inl h1
      have hv2 : ¬ Valid M ∨ 2 < base := by
        by_cases h1 : Valid M
        · exact Or.inr (by have h2 : ¬ base ≤ 2 := fun h2 => hv ⟨VJ.out.1 h1, h2⟩; omega)
        · exact Or.inl h1
      have HE := Lib.hid (levels_arg L base _ cap8 LL.out (some ⟨g8, 0, none⟩) g8 0 w9 RL.out (by omega) hv1)
      have HF := Lib.hid (levels_arg M base _ cap9 LM.out (some ⟨g9, 0, none⟩) g9 0 w9 RM.out (by omega) hv2)
      clear hv hv1 hv2
      go_wp2_with (first
        | (go_at_call 26; ((with_reducible refine HE.out.mono ?_); rintro e w4 ⟨rfl, rfl⟩))
        | (go_at_call 26; ((with_reducible refine HF.out.mono ?_); rintro e w4 ⟨rfl, rfl⟩))
        | (go_at_call 22; refine (works_any _).mono ?_; rintro e w' ⟨rfl, hs⟩))
      go_ret
      exact ⟨rfl, Since.then HS9.out hs hsz9⟩
end Go.Proofs.Ytkfjhannbnijkaa
