/- The law EmbedWithout, walked. -/
import Derived.Test.YtkfjhannbnijkaaL0
import Derived.Test.YtkfjhannbnijkaaV
namespace Go.Proofs.Ytkfjhannbnijkaa
open Go.RowKit

set_option maxRecDepth 100000 in
set_option maxHeartbeats 4000000 in
theorem law5_skip (n nl na cap cl ca : Nat) (ao al aa : Option Addr) (base : Int) (w : World) (h : 1000 < n ∨ 100 < na ∨ n ≠ nl) (hm : n ≤ maxLen ∧ na ≤ maxLen ∧ nl ≤ maxLen) :
    Calls Try.prog 5 #[.slice ao n cap, .slice al nl cl, .int .u8 base, .slice aa na ca] w (Since0 w (.bool true)) := by
  unfold maxLen at hm
  by_cases h1 : 1000 < n
  · have d1 : decide ((1000 : Int) < (n : Int)) = true := by simp; omega
    go_enter Try.func5, Try.ntmps5
    go_wp2_with (go_at_call 15; refine (isolates_any _).mono ?_; rintro e w' ⟨rfl, hs⟩)
    go_ret
    exact ⟨rfl, hs⟩
  · have d1 : decide ((1000 : Int) < (n : Int)) = false := by simp; omega
    by_cases h2 : 100 < na
    · have d2 : decide ((100 : Int) < (na : Int)) = true := by simp; omega
      go_enter Try.func5, Try.ntmps5
      go_wp2_with (go_at_call 15; refine (isolates_any _).mono ?_; rintro e w' ⟨rfl, hs⟩)
      go_ret
      exact ⟨rfl, hs⟩
    · have d2 : decide ((100 : Int) < (na : Int)) = false := by simp; omega
      have d3 : ((n : Int) != (nl : Int)) = true := by rw [bne_iff_ne]; omega
      go_enter Try.func5, Try.ntmps5
      go_wp2_with (go_at_call 15; refine (isolates_any _).mono ?_; rintro e w' ⟨rfl, hs⟩)
      go_ret
      exact ⟨rfl, hs⟩

theorem blk2' (w : World) (a b : Obj) : ((w.alloc a).alloc b).heap[w.heap.size + 1]? = some b := by
  have := heap_alloc_new (w.alloc a) b
  simpa using this

theorem rch_len0 (P : List Int) (ld : Nat → Int) : ∀ f x last acc, (rch P ld f x last acc).1.length ≤ acc.length + f := by
  intro f
  induction f with
  | zero => intro x last acc; simp [rch]
  | succ f ih =>
    intro x last acc
    rw [rch]
    split
    · simp
    · have := ih (ld x.toNat) x (acc ++ [P.getD x.toNat 0])
      simp only [List.length_append, List.length_singleton] at this
      omega

theorem rout_len0 (l P L : List Int) (base : Int) (mt ld : Nat → Int) (dd : Nat → Bool) (K j : Nat) : ((rout l P L base mt ld dd K).2 j).pl.length ≤ P.length := by
  induction K with
  | zero => simp [rout]
  | succ K ih =>
    rw [rout]
    split
    · exact ih
    · simp only [updS]
      split
      · have := rch_len0 P ld P.length K K []
        simpa [rseq] using this
      · exact ih

theorem RefN_le0 (l L : List Int) (base : Int) : RefN l L base ≤ l.length := by
  have h1 := rout_le l (filt l l.length) L base (rmat l) (rlead l (filt l l.length) L base (rmat l) (atf l)) (rled (rlead l (filt l l.length) L base (rmat l) (atf l)) (filt l l.length).length) (filt l l.length).length
  have h2 := filt_len l l.length
  unfold RefN
  omega
theorem RefS_le0 (l L : List Int) (base : Int) (j : Nat) : (RefS l L base j).pl.length ≤ l.length := by
  have h1 := rout_len0 l (filt l l.length) L base (rmat l) (rlead l (filt l l.length) L base (rmat l) (atf l)) (rled (rlead l (filt l l.length) L base (rmat l) (atf l)) (filt l l.length).length) (filt l l.length).length j
  have h2 := filt_len l l.length
  unfold RefS
  omega

/-- The three rows that are made. -/
structure R3 (w wr : World) (s9 s10 s11 : Value) (c nv old : List Int) : Prop where
  since : w.Since w.heap.size wr
  c : wr.ownsRow w.heap.size 34 1 s9 c.length (c.map (Value.int .u8))
  nv : wr.ownsRow w.heap.size 5 1 s10 nv.length (nv.map (Value.int .u8))
  old : wr.ownsRow w.heap.size 3 1 s11 old.length (old.map (Value.int .i64))

theorem own_other {w : World} {B B' T T' s s' : Nat} {v v' : Value} {n n' : Nat} {xs xs' : List Value} (h : w.ownsRow B T s v n xs) (h' : w.ownsRow B' T' s' v' n' xs') (hT : T ≠ T') {o : Obj} {w4 : World} (hg : (w.alloc o).grownBy w4 v'.ownBlock) :
    w4.ownsRow B T s v n xs := (h.alloc o).kept hg (own_ne h h' hT)

theorem pushOwn {w wr w4 : World} {o : Obj} {B T : Nat} {v : Value} {n : Nat} {xs : List Value} (hs : w.Since B wr) (hB : B ≤ wr.heap.size) (ho : wr.ownsRow B T 1 v n xs) (hg : (wr.alloc o).grownBy w4 v.ownBlock) : w.Since B w4 :=
  (hs.alloc hB o).grown hg (by simp; omega) (fun r e => (ho.lt r e).1)

theorem R3.pushC {w wr w4 : World} {s9 s10 s11 : Value} {c nv old : List Int} (h : R3 w wr s9 s10 s11 c nv old) {o o2 : Obj} {gg capg : Nat} {r : Int} (hg : ((wr.alloc o).alloc o2).grownBy w4 s9.ownBlock)
    (hn : w4.ownsRow w.heap.size 34 1 (.slice (some ⟨gg, 0, none⟩) (c.length + 1) capg) (c.length + 1) (c.map (Value.int .u8) ++ [.int .u8 r])) : R3 w w4 (.slice (some ⟨gg, 0, none⟩) (c.length + 1) capg) s10 s11 (c ++ [r]) nv old := by
  have hsz := h.since.size
  have hc1 := h.c.alloc o
  have hs := h.since.alloc hsz o
  refine ⟨pushOwn hs (by simp; omega) hc1 hg, by simpa using hn, own_other (h.nv.alloc o) hc1 (by decide) hg, own_other (h.old.alloc o) hc1 (by decide) hg⟩
theorem R3.pushC1 {w wr w4 : World} {s9 s10 s11 : Value} {c nv old : List Int} (h : R3 w wr s9 s10 s11 c nv old) {o : Obj} {gg capg : Nat} {r : Int} (hg : (wr.alloc o).grownBy w4 s9.ownBlock)
    (hn : w4.ownsRow w.heap.size 34 1 (.slice (some ⟨gg, 0, none⟩) (c.length + 1) capg) (c.length + 1) (c.map (Value.int .u8) ++ [.int .u8 r])) : R3 w w4 (.slice (some ⟨gg, 0, none⟩) (c.length + 1) capg) s10 s11 (c ++ [r]) nv old :=
  ⟨pushOwn h.since h.since.size h.c hg, by simpa using hn, own_other h.nv h.c (by decide) hg, own_other h.old h.c (by decide) hg⟩
theorem R3.pushN {w wr w4 : World} {s9 s10 s11 : Value} {c nv old : List Int} (h : R3 w wr s9 s10 s11 c nv old) {o : Obj} {gg capg : Nat} {r : Int} (hg : (wr.alloc o).grownBy w4 s10.ownBlock)
    (hn : w4.ownsRow w.heap.size 5 1 (.slice (some ⟨gg, 0, none⟩) (nv.length + 1) capg) (nv.length + 1) (nv.map (Value.int .u8) ++ [.int .u8 r])) : R3 w w4 s9 (.slice (some ⟨gg, 0, none⟩) (nv.length + 1) capg) s11 c (nv ++ [r]) old :=
  ⟨pushOwn h.since h.since.size h.nv hg, own_other h.c h.nv (by decide) hg, by simpa using hn, own_other h.old h.nv (by decide) hg⟩
theorem R3.pushO {w wr w4 : World} {s9 s10 s11 : Value} {c nv old : List Int} (h : R3 w wr s9 s10 s11 c nv old) {o : Obj} {gg capg : Nat} {r : Int} (hg : (wr.alloc o).grownBy w4 s11.ownBlock)
    (hn : w4.ownsRow w.heap.size 3 1 (.slice (some ⟨gg, 0, none⟩) (old.length + 1) capg) (old.length + 1) (old.map (Value.int .i64) ++ [.int .i64 r])) : R3 w w4 s9 s10 (.slice (some ⟨gg, 0, none⟩) (old.length + 1) capg) c nv (old ++ [r]) :=
  ⟨pushOwn h.since h.since.size h.old hg, own_other h.c h.old (by decide) hg, own_other h.nv h.old (by decide) hg, by simpa using hn⟩

def cntLt (f : Nat → Int) (i : Nat) : Nat → Nat
  | 0 => 0
  | k + 1 => cntLt f i k + if f k < i then 1 else 0
def cntEq (f : Nat → Int) (i : Nat) : Nat → Nat
  | 0 => 0
  | k + 1 => cntEq f i k + if f k = i then 1 else 0
theorem cnt_step (f : Nat → Int) (i k : Nat) : cntLt f (i + 1) k = cntLt f i k + cntEq f i k := by
  induction k with
  | zero => rfl
  | succ k ih =>
    rw [cntLt, cntLt, cntEq, ih]
    by_cases h1 : f k < i
    · rw [if_pos (by omega), if_pos h1, if_neg (by omega)]; omega
    · by_cases h2 : f k = i
      · rw [if_pos (by omega), if_neg h1, if_pos h2]; omega
      · rw [if_neg (by omega), if_neg h1, if_neg h2]; omega
theorem cntLt_le (f : Nat → Int) (i k : Nat) : cntLt f i k ≤ k := by
  induction k with
  | zero => exact Nat.le_refl _
  | succ k ih => rw [cntLt]; split <;> omega
theorem cntEq_le (f : Nat → Int) (i k : Nat) : cntEq f i k ≤ k := by
  induction k with
  | zero => exact Nat.le_refl _
  | succ k ih => rw [cntEq]; split <;> omega

def Row5 (l L : List Int) (w : World) (i bd : Nat) (s9 s10 s11 : Value) (wr : World) : Prop :=
  ∃ c nv old, Ins l L i c nv old ∧ R3 w wr s9 s10 s11 c nv old ∧ c.length ≤ bd

set_option maxRecDepth 100000 in
set_option maxHeartbeats 4000000 in
theorem law5_any (l L at5 : List Int) (base : Int) (n na : Nat) (hn : l.length = n) (hnL : L.length = n) (hna : at5.length = na) (hlen : n ≤ 1000 ∧ na ≤ 100) (cap cl ca : Nat) (ao al aa : Option Addr) (b off bl ol ba oa : Nat) (w : World)
    (hR : Reads w .u8 ao b off l) (hL : Reads w .u8 al bl ol L) (hA : Reads w .u16 aa ba oa at5) (hb : 0 ≤ base ∧ base ≤ 255) (hLr : ∀ i, 0 ≤ L.getD i 0 ∧ L.getD i 0 ≤ 255) (hAr : ∀ i, 0 ≤ at5.getD i 0 ∧ at5.getD i 0 ≤ 65535) :
    Calls Try.prog 5 #[.slice ao n cap, .slice al n cl, .int .u8 base, .slice aa na ca] w (Since0 w (.bool true)) := by
  obtain ⟨hl1, hl2⟩ := hlen
  have d1 : decide ((1000 : Int) < (n : Int)) = false := by simp; omega
  have d2 : decide ((100 : Int) < (na : Int)) = false := by simp; omega
  have d3 : ((n : Int) != (n : Int)) = false := by simp
  have HB := Lib.hid hb
  have HLR := Lib.hid hLr
  have HAR := Lib.hid hAr
  obtain ⟨i34, hi34, hz34, hz34b, hz34c⟩ := info_parts Try.info34
  obtain ⟨i5, hi5, hz5, hz5b, hz5c⟩ := info_parts Try.info5
  obtain ⟨i3, hi3, hz3, hz3b, hz3c⟩ := info_parts Try.info3
  clear hb hLr hAr
  obtain ⟨f, hf⟩ : ∃ f : Nat → Int, f = fun k => at5.getD k 0 % ((n : Int) + 1) := ⟨_, rfl⟩
  have HF := Lib.hid hf
  clear hf
  go_enter Try.func5, Try.ntmps5
  go_wp2_with fail
  go_loopg [9, 10, 11, 12] (n + 1) (fun g s9 s10 s11 s12 wr => ∃ (i : Nat), i ≤ n + 1 ∧ g = n + 1 - i ∧ s12 = .int .i64 i ∧ Row5 l L w (min i n) (min i n + cntLt f i na) s9 s10 s11 wr)
  case atStart => exact ⟨0, by omega, by omega, rfl, [], [], [], by rw [Nat.zero_min]; exact Ins.start, ⟨World.Since.refl _ _, World.ownsRow_nil _ _ _ _, World.ownsRow_nil _ _ _ _, World.ownsRow_nil _ _ _ _⟩, by simp⟩
  case round =>
    obtain ⟨i, hi, rfl, rfl, hrow⟩ := hrel
    by_cases hlt : i ≤ n
    · have hiz : (i : Int) ≤ (n : Int) := by omega
      rw [show min i n = i by omega] at hrow
      obtain ⟨wo, hwo⟩ : ∃ wo, wo = wr := ⟨_, rfl⟩
      subst hwo
      go_wp2_with fail
      go_loopg [9, 10, 11, 13] na (fun g s9 s10 s11 s13 wr => ∃ (k : Nat), k ≤ na ∧ g = na - k ∧ s13 = .int .i64 k ∧ Row5 l L w i (i + cntLt f i na + cntEq f i k) s9 s10 s11 wr)
      case atStart => exact ⟨0, by omega, by omega, rfl, hrow⟩
      case round =>
        clear hrow
        obtain ⟨k, hk, rfl, rfl, c, nv, old, hins, h3, hcl⟩ := hrel
        obtain ⟨va, vc, rfl⟩ := own_form h3.c
        obtain ⟨ua, uc, rfl⟩ := own_form h3.nv
        obtain ⟨ta, tc, rfl⟩ := own_form h3.old
        by_cases hlt2 : k < na
        · have hkz : (k : Int) < (na : Int) := by omega
          obtain rfl := hA.spot (by omega)
          have c1 := (hA.since h3.since).cell k (by omega)
          have hx := HAR.out k
          generalize hgx : at5.getD k 0 = x at *
          have HGX := Lib.hid hgx
          clear hgx
          have hn0 : ((n : Int) + 1) ≠ 0 := by omega
          have hw1 : IntKind.i64.wrap ((n : Int) + 1) = (n : Int) + 1 := IntWalk.i64_in _ (by omega)
          have HINS := Lib.hid hins
          have HCL : Hid (nv.length = c.length ∧ old.length = c.length) := by
            have := hins.facts HLR.out
            exact ⟨this.1, this.2.1⟩
          clear hins
          have HCE : Hid (cntEq f i (k + 1) = cntEq f i k + if x % ((n : Int) + 1) = (i : Int) then 1 else 0) := by show _ = _; rw [cntEq, HF.out]; simp only [HGX.out]
          have HCLB := Lib.hid hcl
          have hcl2 : c.length ≤ 200000 := by have := cntLt_le f i na; have := cntEq_le f i k; omega
          clear hcl
          go_upto_if 59 with fail
          cases heq : (x % ((n : Int) + 1) == (i : Int))
          · go_wp2_with fail
            go_roundg (na - (k + 1))
            case measure => go_light; omega
            case rel => go_light; exact ⟨k + 1, by omega, rfl, by go_num, c, nv, old, HINS.out, h3, by have := HCLB.out; have := HCE.out; omega⟩
          · have H3 := Lib.hid h3
            have hcc := h3.c
            have hsz := h3.since.size
            have c1' : ∀ o, (wr.alloc o).cell? ⟨ba, oa + k, none⟩ = some (.int .u16 x) := fun o => cell_since1 c1 o
            obtain ⟨w3, hw3⟩ : ∃ w3, w3 = wr := ⟨_, rfl⟩
            subst hw3
            clear h3
            go_upto_region 13 with fail
            go_cut [9] (fun s9 wx => ∃ r, remB r = true ∧ R3 w wx s9 (.slice ua nv.length uc) (.slice ta old.length tc) (c ++ [r]) nv old)
            case first =>
              have e1 : x.tdiv 7 = x / 7 := Int.tdiv_eq_ediv_of_nonneg (by omega)
              have e2 : IntKind.u16.wrap (x.tdiv 7) = x / 7 := by rw [e1]; exact IntWalk.u16_in _ (by omega)
              have e3 : (IntKind.u16.wrap (x.tdiv 7)).tmod 4 = x / 7 % 4 := by rw [e2, Int.tmod_eq_emod_of_nonneg (by omega)]
              have e4 : (IntKind.u16.wrap (x.tdiv 7)).tmod 4 = 0 ∨ (IntKind.u16.wrap (x.tdiv 7)).tmod 4 = 1 ∨ (IntKind.u16.wrap (x.tdiv 7)).tmod 4 = 2 ∨ (IntKind.u16.wrap (x.tdiv 7)).tmod 4 = 3 := by rw [e3]; omega
              clear e1 e2 e3
              rcases e4 with hq | hq | hq | hq
              · go_wp2_with (at_builtin; refine wpList_append_lies _ rfl _ _ _ rfl w.heap.size 34 i34 _ 1 1 Try.underlying22 hi34 hz34 hz34b hz34c rfl (by omega) (.slice va c.length vc) _ _ rfl ((hcc.alloc _).alloc _) ⟨w3.heap.size + 1, 0, none⟩ 1 1 [.int .u8 10] rfl rfl (World.news_of_block (cs := #[.int .u8 10]) (t := 34) (fr := (0, 0)) (blk2' _ _ _)) (by simp [Value.oneCell']) (by omega) (by unfold maxLen; omega) (by omega) (by simp; omega) (w3.heap.size + 2) (by simp) ?_; intro gg capg w4 hown4 hgrow4 hat4 hlt4)
                go_meet
                exact ⟨10, rfl, H3.out.pushC hgrow4 hown4⟩
              · go_wp2_with (at_builtin; refine wpList_append_lies _ rfl _ _ _ rfl w.heap.size 34 i34 _ 1 1 Try.underlying22 hi34 hz34 hz34b hz34c rfl (by omega) (.slice va c.length vc) _ _ rfl ((hcc.alloc _).alloc _) ⟨w3.heap.size + 1, 0, none⟩ 1 1 [.int .u8 19] rfl rfl (World.news_of_block (cs := #[.int .u8 19]) (t := 34) (fr := (0, 0)) (blk2' _ _ _)) (by simp [Value.oneCell']) (by omega) (by unfold maxLen; omega) (by omega) (by simp; omega) (w3.heap.size + 2) (by simp) ?_; intro gg capg w4 hown4 hgrow4 hat4 hlt4)
                go_meet
                exact ⟨19, rfl, H3.out.pushC hgrow4 hown4⟩
              · go_wp2_with (at_builtin; refine wpList_append_lies _ rfl _ _ _ rfl w.heap.size 34 i34 _ 1 1 Try.underlying22 hi34 hz34 hz34b hz34c rfl (by omega) (.slice va c.length vc) _ _ rfl ((hcc.alloc _).alloc _) ⟨w3.heap.size + 1, 0, none⟩ 1 1 [.int .u8 16] rfl rfl (World.news_of_block (cs := #[.int .u8 16]) (t := 34) (fr := (0, 0)) (blk2' _ _ _)) (by simp [Value.oneCell']) (by omega) (by unfold maxLen; omega) (by omega) (by simp; omega) (w3.heap.size + 2) (by simp) ?_; intro gg capg w4 hown4 hgrow4 hat4 hlt4)
                go_meet
                exact ⟨16, rfl, H3.out.pushC hgrow4 hown4⟩
              · go_wp2_with (at_builtin; refine wpList_append_lies _ rfl _ _ _ rfl w.heap.size 34 i34 _ 1 1 Try.underlying22 hi34 hz34 hz34b hz34c rfl (by omega) (.slice va c.length vc) _ _ rfl ((hcc.alloc _).alloc _) ⟨w3.heap.size + 1, 0, none⟩ 1 1 [.int .u8 17] rfl rfl (World.news_of_block (cs := #[.int .u8 17]) (t := 34) (fr := (0, 0)) (blk2' _ _ _)) (by simp [Value.oneCell']) (by omega) (by unfold maxLen; omega) (by omega) (by simp; omega) (w3.heap.size + 2) (by simp) ?_; intro gg capg w4 hown4 hgrow4 hat4 hlt4)
                go_meet
                exact ⟨17, rfl, H3.out.pushC hgrow4 hown4⟩
            case rest =>
              obtain ⟨r, hrem, h4⟩ := hcut
              have HREM := Lib.hid hrem
              clear c1 c1' hcc hsz hrem H3
              have c1 := (hA.since h4.since).cell k (by omega)
              rw [HGX.out] at c1
              obtain ⟨va9, vc9, rfl⟩ := own_form h4.c
              have hlen1 : nv.length ≤ 200000 := by have := HCL.out; omega
              have hlen2 : old.length ≤ 200000 := by have := HCL.out; omega
              go_upto_region 15 with (at_builtin; refine wpList_append_lies _ rfl _ _ _ rfl w.heap.size 5 i5 _ 1 1 Try.underlying23 hi5 hz5 hz5b hz5c rfl (by omega) (.slice ua nv.length uc) _ _ rfl (h4.nv.alloc _) ⟨wc.heap.size, 0, none⟩ 1 1 [.int .u8 (x / 256)] rfl rfl (World.news_of_block (cs := #[.int .u8 (x / 256)]) (t := 5) (fr := (0, 0)) (heap_alloc_new wc _)) (by simp [Value.oneCell']) (by omega) (by unfold maxLen; omega) (by omega) (by have := h4.since.size; simp; omega) (wc.heap.size + 1) (by simp) ?_; intro g5 cap5 w5 hown5 hgrow5 hat5 hlt5)
              have h5 := h4.pushN hgrow5 hown5
              clear h4 c1 hown5 hgrow5 hat5 hlt5
              go_wp2_with (at_builtin; refine wpList_append_lies _ rfl _ _ _ rfl w.heap.size 3 i3 _ 1 8 Try.underlying33 hi3 hz3 hz3b hz3c rfl (by omega) (.slice ta old.length tc) _ _ rfl (h5.old.alloc _) ⟨w5.heap.size, 0, none⟩ 1 1 [.int .i64 (-1)] rfl rfl (World.news_of_block (cs := #[.int .i64 (-1)]) (t := 3) (fr := (0, 0)) (heap_alloc_new w5 _)) (by simp [Value.oneCell']) (by omega) (by unfold maxLen; omega) (by omega) (by have := h5.since.size; simp; omega) (w5.heap.size + 1) (by simp) ?_; intro g6 cap6 w6 hown6 hgrow6 hat6 hlt6)
              go_roundg (na - (k + 1))
              case measure => go_light; omega
              case rel => go_light; exact ⟨k + 1, by omega, rfl, by go_num, _, _, _, Ins.more (v := x / 256) HINS.out HREM.out (by omega), by simpa using h5.pushO hgrow6 hown6, by have h1 := HCLB.out; have h2 := HCE.out; rw [if_pos (by simpa using heq)] at h2; simp; omega⟩
        · obtain rfl : k = na := by omega
          have hkz : ¬ ((k : Int) < (k : Int)) := by omega
          have hcl2 : c.length ≤ 200000 := by have := cntLt_le f i k; have := cntEq_le f i k; omega
          have hlen1 : nv.length ≤ 200000 := by have := hins.facts HLR.out; omega
          have hlen2 : old.length ≤ 200000 := by have := hins.facts HLR.out; omega
          have HINS := Lib.hid hins
          have HCLB := Lib.hid hcl
          clear hins hcl
          by_cases hin : i < n
          · have hiz2 : (i : Int) < (n : Int) := by omega
            obtain rfl := hR.spot (by omega)
            obtain rfl := hL.spot (by omega)
            have c1 := (hR.since h3.since).cell i (by omega)
            generalize hgl : l.getD i 0 = cl5 at *
            have HGL := Lib.hid hgl
            clear hgl
            go_upto_region 18 with (at_builtin; refine wpList_append_lies _ rfl _ _ _ rfl w.heap.size 34 i34 _ 1 1 Try.underlying22 hi34 hz34 hz34b hz34c rfl (by omega) (.slice va c.length vc) _ _ rfl (h3.c.alloc _) ⟨wr.heap.size, 0, none⟩ 1 1 [.int .u8 cl5] rfl rfl (World.news_of_block (cs := #[.int .u8 cl5]) (t := 34) (fr := (0, 0)) (heap_alloc_new wr _)) (by simp [Value.oneCell']) (by omega) (by unfold maxLen; omega) (by omega) (by have := h3.since.size; simp; omega) (wr.heap.size + 1) (by simp) ?_; intro g4 cap4 w4 hown4 hgrow4 hat4 hlt4)
            have h4 := h3.pushC1 hgrow4 hown4
            clear h3 c1 hown4 hgrow4 hat4 hlt4
            have c2 := (hL.since h4.since).cell i (by omega)
            generalize hgL : L.getD i 0 = lv5 at *
            have HGL2 := Lib.hid hgL
            clear hgL
            go_upto_region 19 with (at_builtin; refine wpList_append_lies _ rfl _ _ _ rfl w.heap.size 5 i5 _ 1 1 Try.underlying23 hi5 hz5 hz5b hz5c rfl (by omega) (.slice ua nv.length uc) _ _ rfl (h4.nv.alloc _) ⟨w4.heap.size, 0, none⟩ 1 1 [.int .u8 lv5] rfl rfl (World.news_of_block (cs := #[.int .u8 lv5]) (t := 5) (fr := (0, 0)) (heap_alloc_new w4 _)) (by simp [Value.oneCell']) (by omega) (by unfold maxLen; omega) (by omega) (by have := h4.since.size; simp; omega) (w4.heap.size + 1) (by simp) ?_; intro g5 cap5 w5 hown5 hgrow5 hat5 hlt5)
            have h5 := h4.pushN hgrow5 hown5
            clear h4 c2 hown5 hgrow5 hat5 hlt5
            go_wp2_with (at_builtin; refine wpList_append_lies _ rfl _ _ _ rfl w.heap.size 3 i3 _ 1 8 Try.underlying33 hi3 hz3 hz3b hz3c rfl (by omega) (.slice ta old.length tc) _ _ rfl (h5.old.alloc _) ⟨w5.heap.size, 0, none⟩ 1 1 [.int .i64 i] rfl rfl (World.news_of_block (cs := #[.int .i64 i]) (t := 3) (fr := (0, 0)) (heap_alloc_new w5 _)) (by simp [Value.oneCell']) (by omega) (by unfold maxLen; omega) (by omega) (by have := h5.since.size; simp; omega) (w5.heap.size + 1) (by simp) ?_; intro g6 cap6 w6 hown6 hgrow6 hat6 hlt6)
            go_roundg (n + 1 - (i + 1))
            case measure => go_light; omega
            case rel =>
              go_light
              refine ⟨i + 1, by omega, rfl, by go_num, _, _, _, ?_, by simpa using h5.pushO hgrow6 hown6, by have h1 := HCLB.out; have h2 := cnt_step f i k; simp; omega⟩
              rw [show min (i + 1) n = i + 1 by omega, ← HGL.out, ← HGL2.out]
              exact HINS.out.next
          · obtain rfl : i = n := by omega
            have hiz2 : ¬ ((i : Int) < (i : Int)) := by omega
            go_wp2_with fail
            go_roundg (i + 1 - (i + 1))
            case measure => go_light; omega
            case rel =>
              go_light
              refine ⟨i + 1, by omega, rfl, by go_num, _, _, _, ?_, h3, by have h1 := HCLB.out; have h2 := cnt_step f i k; omega⟩
              rw [show min (i + 1) i = i by omega]
              exact HINS.out
    · obtain rfl : i = n + 1 := by omega
      have hiz : ¬ (((n + 1 : Nat) : Int) ≤ (n : Int)) := by omega
      rw [show min (n + 1) n = n by omega] at hrow
      obtain ⟨c, nv, old, hins, h3, hcl⟩ := hrow
      obtain ⟨va, vc, rfl⟩ := own_form h3.c
      obtain ⟨ua, uc, rfl⟩ := own_form h3.nv
      obtain ⟨ta, tc, rfl⟩ := own_form h3.old
      have hf := hins.facts HLR.out
      have hlaw := ref_without base (by rw [hn]; exact hins) HLR.out
      obtain ⟨cb, hRc⟩ : ∃ cb, Reads wr .u8 va cb 0 c := by
        obtain ⟨a, cc, cb, h1, h2, _⟩ := own_readsK h3.c rfl
        injection h1 with h1 _ _
        subst h1
        exact ⟨cb, h2⟩
      obtain ⟨nb, hRn⟩ : ∃ nb, Reads wr .u8 ua nb 0 nv := by
        obtain ⟨a, cc, nb, h1, h2, _⟩ := own_readsK h3.nv rfl
        injection h1 with h1 _ _
        subst h1
        exact ⟨nb, h2⟩
      obtain ⟨tb, hRo⟩ : ∃ tb, Reads wr .i64 ta tb 0 old := by
        obtain ⟨a, cc, tb, h1, h2, _⟩ := own_readsK h3.old rfl
        injection h1 with h1 _ _
        subst h1
        exact ⟨tb, h2⟩
      have hRl := hR.since h3.since
      have hLl := hL.since h3.since
      have hs3 := h3.since
      have hcb : c.length ≤ 1100 := by have := cntLt_le f (n + 1) na; omega
      rw [hf.1]
      have HRng : Hid (∀ v ∈ nv, 0 ≤ v ∧ v ≤ 255) := hf.2.2.2.2.1
      have HNV : Hid (nv.length = c.length) := hf.1
      clear hf h3 hins hcl
      go_upto_region 21 with (go_at_call 17; refine (eseq_ref l L base n hn hnL (by omega) cap cl _ _ _ _ _ _ _ hRl hLl HB.out HLR.out).mono ?_; rintro e w1 ⟨v1, p1, B1, rfl, hB1, hq1, hs1⟩)
      have hs13 := Since.then hs3 hs1 hs3.size
      have hq1' := hq1
      go_upto_region 22 with (go_at_call 17; refine (eseq_ref c nv base c.length rfl HNV.out (by omega) vc uc _ _ _ _ _ _ _ (hRc.since hs1) (hRn.since hs1) HB.out (getD_range HRng.out)).mono ?_; rintro e w2 ⟨v2, p2, B2, rfl, hB2, hq2, hs2⟩)
      have hq1 := hq1'.since hs2
      have hRo2 := (hRo.since hs1).since hs2
      have hs4 := Since.then hs13 hs2 hs13.size
      rw [hlaw.1] at hq2
      have hN : RefN l L base ≤ 65536 := by have := RefN_le0 l L base; omega
      have HLAW : Hid (∀ j, (RefS c nv base j).pl.length = (RefS l L base j).pl.length ∧ (RefS c nv base j).lev = (RefS l L base j).lev ∧ (RefS c nv base j).sos = (RefS l L base j).sos ∧ (RefS c nv base j).eos = (RefS l L base j).eos ∧
        ∀ k, k < (RefS l L base j).pl.length → 0 ≤ (RefS c nv base j).pl.getD k 0 ∧ (RefS c nv base j).pl.getD k 0 < old.length ∧ old.getD ((RefS c nv base j).pl.getD k 0).toNat 0 = (RefS l L base j).pl.getD k 0) := hlaw.2
      have HLEN : Hid (∀ j, (RefS l L base j).pl.length ≤ 65536) := fun j => by have := RefS_le0 l L base j; omega
      generalize RefN l L base = N at *
      generalize RefS l L base = S at *
      generalize RefS c nv base = S2 at *
      have HS4 := Lib.hid hs4
      clear hlaw hRc hRn hRo hRl hLl hs3 hs13 hs1 hs2 hq1' hs4 hB1 hB2
      obtain ⟨a1, e1, rfl⟩ := hq1.shape
      obtain ⟨a2, e2, rfl⟩ := hq2.shape
      have hNN : ((N : Int) != (N : Int)) = false := by simp
      go_wp2_with fail
      go_loopg [18] N (fun g s18 wr => ∃ (j m : Nat), j ≤ N ∧ g = N - j ∧ s18 = .int .i64 j ∧ wr = w2.drewN m)
      case atStart => exact ⟨0, 0, by omega, by omega, rfl, rfl⟩
      case round =>
        obtain ⟨j, m, hj, rfl, rfl, hwr⟩ := hrel
        have HW := Lib.hid hwr
        by_cases hlt : j < N
        · have hjz : (j : Int) < (N : Int) := by omega
          obtain ⟨wq, hwq⟩ : ∃ wq, wq = wr := ⟨_, rfl⟩
          subst hwq
          have q1 : Seqs wq B1 36 (.slice a1 N e1) N p1 S := by rw [hwr]; exact hq1.drewN m
          have q2 : Seqs wq B2 36 (.slice a2 N e2) N p2 S2 := by rw [hwr]; exact hq2.drewN m
          have r1 : Reads wq .i64 ta tb 0 old := by rw [hwr]; exact hRo2.drewN m
          clear hwr
          obtain ⟨ga, ca', hea, -, -⟩ := q1.form (by omega)
          obtain ⟨gb, cb', heb, -, -⟩ := q2.form (by omega)
          injection hea with x1 x2 x3
          injection heb with x4 x5 x6
          clear x2 x3 x5 x6
          subst x1 x4
          obtain ⟨y0, y1, y2, y3⟩ := q1.cells hlt
          obtain ⟨z0, z1, z2, z3⟩ := q2.cells hlt
          obtain ⟨u0, u1, u2, exa, hra⟩ := own_reads (q1.pls j hlt) rfl
          obtain ⟨t0, t1, t2, exb, hrb⟩ := own_reads (q2.pls j hlt) rfl
          obtain ⟨l0, l1, l2, l3, l4⟩ := HLAW.out j
          have hle := HLEN.out j
          rw [exa] at y0
          rw [exb, l0] at z0
          rw [l1] at z1
          rw [l2] at z2
          rw [l3] at z3
          clear l1 l2 l3 exa exb
          obtain ⟨lp, hlp⟩ : ∃ lp, lp = (S j).pl.length := ⟨_, rfl⟩
          rw [← hlp] at y0 z0 hle l0 l4
          have HLP := Lib.hid hlp
          have HL4 := Lib.hid l4
          have HL0 := Lib.hid l0
          have HRA := Lib.hid hra
          have HRB := Lib.hid hrb
          have HR1 := Lib.hid r1
          clear hlp l4 l0 hra hrb r1 q1 q2
          generalize (S j).lev = lv at *
          generalize (S j).sos = sv at *
          generalize (S j).eos = ev at *
          have n1 : (lv != lv) = false := by simp
          have n2 : (sv != sv) = false := by simp
          have n3 : (ev != ev) = false := by simp
          have n4 : ((lp : Int) != (lp : Int)) = false := by simp
          go_upto_region 27 with fail
          go_quiet (fail)
          obtain ⟨w3, hw3⟩ : ∃ w3, w3 = wq.drewN nq := ⟨_, rfl⟩
          rw [← hw3]
          rw [HW.out, World.drewN_drewN] at hw3
          have y0' : w3.cell? ⟨ga, j * 4, none⟩ = some (.slice u0 lp u1) := by rw [hw3, ← World.drewN_drewN, ← HW.out]; exact y0
          have z0' : w3.cell? ⟨gb, j * 4, none⟩ = some (.slice t0 lp t1) := by rw [hw3, ← World.drewN_drewN, ← HW.out]; exact z0
          have HW3 : Hid (∃ k, w3 = wq.drewN k ∧ w3 = w2.drewN (m + nq)) := ⟨nq, by rw [hw3, HW.out, World.drewN_drewN], hw3⟩
          clear hw3 y0 y1 y2 y3 z0 z1 z2 z3 n1 n2 n3 n4
          go_wp2_with fail
          go_loopg [19] lp (fun g s19 wx => ∃ (i m : Nat), i ≤ lp ∧ g = lp - i ∧ s19 = .int .i64 i ∧ wx = w3.drewN m)
          case atStart => exact ⟨0, 0, by omega, by omega, rfl, rfl⟩
          case round =>
            obtain ⟨i, m', hi, rfl, rfl, hwx⟩ := hrel
            have HX := Lib.hid hwx
            clear hwx
            have c0 : wr.cell? ⟨ga, j * 4, none⟩ = some (.slice u0 lp u1) := by rw [HX.out]; exact y0'
            have d0 : wr.cell? ⟨gb, j * 4, none⟩ = some (.slice t0 lp t1) := by rw [HX.out]; exact z0'
            have HXW : Hid (∃ k, wr = wq.drewN k) := by
              obtain ⟨k, h1, _⟩ := HW3.out
              obtain ⟨k2, h2⟩ := drewN_drewN wq k m'
              exact ⟨k2, by rw [HX.out, h1]; exact h2⟩
            by_cases hlt2 : i < lp
            · have hiz : (i : Int) < (lp : Int) := by omega
              obtain ⟨k1, hk1⟩ := HXW.out
              have ra := HRA.out.drewN k1
              have rb := HRB.out.drewN k1
              have ro := HR1.out.drewN k1
              rw [← hk1] at ra rb ro
              clear hk1
              have hlenA : (S j).pl.length = lp := HLP.out.symm
              have hlenB : (S2 j).pl.length = lp := HL0.out
              obtain rfl := ra.spot (by omega)
              obtain rfl := rb.spot (by omega)
              obtain ⟨g1, g2, g3⟩ := HL4.out i hlt2
              obtain ⟨pp, hpp⟩ := Int.eq_ofNat_of_zero_le g1
              have b1 := rb.cell i (by omega)
              have a1 := ra.cell i (by omega)
              rw [hpp] at b1 g2 g3
              rw [Int.toNat_natCast] at g3
              have o1 := ro.cell pp (by omega)
              obtain rfl := ro.spot (by omega)
              rw [Nat.zero_add] at b1 a1 o1
              rw [g3] at o1
              generalize (S j).pl.getD i 0 = v at *
              have hvv : (v != v) = false := by simp
              have hd5 : decide ((old.length : Int) ≤ (pp : Int)) = false := by simp; omega
              have hd6 : decide ((pp : Int) < 0) = false := by simp
              have hd7 : decide (old.length ≤ pp) = false := by simp; omega
              have hd8 : ¬ (old.length ≤ pp) := by omega
              have hd9 : pp < old.length := by omega
              clear ra rb ro hlenA hlenB hpp g1 g3
              go_upto_region 33 with fail
              go_quiet (fail)
              go_wp2_with fail
              go_roundg (lp - (i + 1))
              case measure => go_light; omega
              case rel => go_light; obtain ⟨m2, e⟩ := drewN_drewN w3 m' nq; exact ⟨i + 1, m2, by omega, rfl, by go_num, by rw [HX.out]; exact e⟩
            · obtain rfl : i = lp := by omega
              have hiz : ¬ ((i : Int) < (i : Int)) := by omega
              go_wp2_with fail
              go_roundg (N - (j + 1))
              case measure => go_light; omega
              case rel =>
                go_light
                obtain ⟨_, _, h1⟩ := HW3.out
                obtain ⟨m2, e⟩ := drewN_drewN w2 (m + nq) m'
                exact ⟨j + 1, m2, by omega, rfl, by go_num, by rw [HX.out, h1]; exact e⟩
        · obtain rfl : j = N := by omega
          have hjz : ¬ ((j : Int) < (j : Int)) := by omega
          clear hwr
          go_wp2_with (go_at_call 15; refine (isolates_any _).mono ?_; rintro e w' ⟨rfl, hs9⟩)
          go_ret
          have hs5 : w.Since w.heap.size wr := by rw [HW.out]; exact sinceN HS4.out m
          exact ⟨rfl, Since.then hs5 hs9 hs5.size⟩
end Go.Proofs.Ytkfjhannbnijkaa
