/- The law EmbedSingle, walked. -/
import Derived.Test.YtkfjhannbnijkaaL0
import Derived.Test.YtkfjhannbnijkaaO
namespace Go.Proofs.Ytkfjhannbnijkaa
open Go.RowKit

set_option maxRecDepth 100000 in
set_option maxHeartbeats 4000000 in
theorem law6_skip (n cap : Nat) (ao : Option Addr) (lev base : Int) (w : World) (h : 2000 < n ∨ lev < base) (hm : n ≤ maxLen) :
    Calls Try.prog 6 #[.slice ao n cap, .int .u8 lev, .int .u8 base] w (Since0 w (.bool true)) := by
  unfold maxLen at hm
  by_cases h1 : 2000 < n
  · have d1 : decide ((2000 : Int) < (n : Int)) = true := by simp; omega
    go_enter Try.func6, Try.ntmps6
    go_wp2_with (go_at_call 15; refine (isolates_any _).mono ?_; rintro e w' ⟨rfl, hs⟩)
    go_ret
    exact ⟨rfl, hs⟩
  · have d1 : decide ((2000 : Int) < (n : Int)) = false := by simp; omega
    have d2 : lev < base := by omega
    go_enter Try.func6, Try.ntmps6
    go_wp2_with (go_at_call 15; refine (isolates_any _).mono ?_; rintro e w' ⟨rfl, hs⟩)
    go_ret
    exact ⟨rfl, hs⟩

set_option maxRecDepth 100000 in
set_option maxHeartbeats 4000000 in
theorem law6_any (l : List Int) (lev base : Int) (n : Nat) (hn : l.length = n) (hlen : n ≤ 2000) (cap : Nat) (ao : Option Addr) (b off : Nat) (w : World)
    (hR : Reads w .u8 ao b off l) (hb : 0 ≤ base ∧ base ≤ 255) (hl : 0 ≤ lev ∧ lev ≤ 255) (hlb : base ≤ lev) :
    Calls Try.prog 6 #[.slice ao n cap, .int .u8 lev, .int .u8 base] w (Since0 w (.bool true)) := by
  have d1 : decide ((2000 : Int) < (n : Int)) = false := by simp; omega
  have d2 : decide (lev < base) = false := by simp; omega
  have HB := Lib.hid hb
  have HLB := Lib.hid hlb
  have HL := Lib.hid hl
  obtain ⟨i34, hi34, hz34, hz34b, hz34c⟩ := info_parts Try.info34
  clear hb hlb
  go_enter Try.func6, Try.ntmps6
  go_wp2_with fail
  go_loopg [7, 8] n (fun g s7 s8 wr => ∃ (k : Nat), k ≤ n ∧ g = n - k ∧ s8 = .int .i64 k ∧ w.Since w.heap.size wr ∧ wr.ownsRow w.heap.size 34 1 s7 (kept l k).length ((kept l k).map (Value.int .u8)))
  case atStart => exact ⟨0, by omega, by omega, rfl, World.Since.refl _ _, World.ownsRow_nil _ _ _ _⟩
  case round =>
    obtain ⟨k, hk, rfl, rfl, hs, hown⟩ := hrel
    have hkl : (kept l k).length ≤ k := by rw [kept_len]; exact filt_len l k
    obtain ⟨va, vc, rfl⟩ := own_form hown
    by_cases hlt : k < n
    · have hkz : (k : Int) < (n : Int) := by omega
      obtain rfl := hR.spot (by omega)
      have c1 := (hR.since hs).cell k (by omega)
      obtain ⟨c, hc⟩ : ∃ c, c = l.getD k 0 := ⟨_, rfl⟩
      have hst : kept l (k + 1) = if remB c = true then kept l k else kept l k ++ [c] := by rw [hc]; rfl
      rw [← hc] at c1
      have HST := Lib.hid hst
      have HS := Lib.hid hs
      clear hc hst hs
      generalize kept l k = C at *
      have hsz := HS.out.size
      cases hrem : remB c
      · go_wp2_with (first | (go_at_call 21; refine (rRemoved_any _ _).mono ?_; rintro e w' ⟨rfl, rfl⟩) | (at_builtin; refine wpList_append_lies _ rfl _ _ _ rfl w.heap.size 34 i34 _ 1 1 Try.underlying22 hi34 hz34 hz34b hz34c rfl (by omega) (.slice va C.length vc) _ _ rfl (hown.alloc _) ⟨wr.heap.size, 0, none⟩ 1 1 [.int .u8 c] rfl rfl (World.news_of_block (cs := #[.int .u8 c]) (t := 34) (fr := (0, 0)) (heap_alloc_new wr _)) (by simp [Value.oneCell']) (by omega) (by unfold maxLen; omega) (by omega) (by simp; omega) (wr.heap.size + 1) (by simp) ?_; intro gg capg w4 hown4 hgrow4 hat4 hlt4))
        go_roundg (n - (k + 1))
        case measure => go_light; omega
        case rel =>
          go_light
          refine ⟨k + 1, by omega, rfl, by go_num, (HS.out.alloc hsz _).grown hgrow4 (by simp; omega) (fun r e => (hown.lt r e).1), ?_⟩
          rw [HST.out, if_neg (by rw [hrem]; simp)]
          simpa using hown4
      · go_wp2_with (go_at_call 21; refine (rRemoved_any _ _).mono ?_; rintro e w' ⟨rfl, rfl⟩)
        go_roundg (n - (k + 1))
        case measure => go_light; omega
        case rel =>
          go_light
          refine ⟨k + 1, by omega, rfl, by go_num, HS.out, ?_⟩
          rw [HST.out, if_pos hrem]
          exact hown
    · obtain rfl : k = n := by omega
      have hkz : ¬ ((k : Int) < (k : Int)) := by omega
      have hrem := kept_rem l k
      generalize kept l k = C at *
      obtain ⟨m, hm⟩ : ∃ m, C.length = m := ⟨_, rfl⟩
      rw [hm] at hown hkl
      rw [hm]
      have hmk := run_make_row' (P := Try.prog) 23 5 (.int .u8 0) 1 Try.underlying23 Try.info5 rfl .i64 .i64 m (by omega) (by omega)
      have HREM := Lib.hid hrem
      have HM := Lib.hid hm
      clear hrem hm
      obtain ⟨w1, hw1⟩ : ∃ w1, w1 = wr := ⟨_, rfl⟩
      subst hw1
      go_upto_region 10 with fail
      have hrow := World.rowIs_made w1 (.int .u8 0) m 5
      have hs1 : w.Since w.heap.size (w1.alloc (Obj.cells (madeCells #[Value.int IntKind.u8 0] m) 5)) := hs.alloc hs.size _
      have hown1 := hown.alloc (Obj.cells (madeCells #[Value.int IntKind.u8 0] m) 5)
      have hvb : ∀ r, (Value.slice va m vc).ownBlock = some r → r < w1.heap.size := fun r e => (hown.lt r e).2
      have hlow := hs.size
      clear hs hown hmk
      generalize w1.alloc (Obj.cells (madeCells #[Value.int IntKind.u8 0] m) 5) = w2 at *
      obtain ⟨bn, hbn⟩ : ∃ bn, bn = w1.heap.size := ⟨_, rfl⟩
      rw [← hbn] at hrow hvb hlow ⊢
      have HVB := Lib.hid hvb
      clear hbn hvb
      go_wp2_with fail
      go_loopg [10] m (fun g s10 wr => ∃ (j : Nat), j ≤ m ∧ g = m - j ∧ s10 = .int .i64 j ∧ w.Since w.heap.size wr ∧ wr.ownsRow w.heap.size 34 1 (.slice va m vc) m (C.map (Value.int .u8)) ∧ wr.rowIs bn 5 m (fun i => .int .u8 (if i < j then lev else 0)))
      case atStart => exact ⟨0, by omega, by omega, rfl, hs1, hown1, hrow.congr (fun i _ => by simp)⟩
      case round =>
        clear hs1 hown1 hrow
        obtain ⟨j, hj, rfl, rfl, hs1, hown1, hrow⟩ := hrel
        by_cases hlt2 : j < m
        · have hjz : (j : Int) < (m : Int) := by omega
          have e1 : wr.cell? ⟨bn, j, none⟩ = some (.int .u8 (if j < j then lev else 0)) := hrow.cell hlt2
          have e2 : wr.frozen? ⟨bn, j, none⟩ = false := hrow.frozen j
          have hs2 := hs1.setCell (a := ⟨bn, j, none⟩) hlow (.int .u8 lev)
          have hrow2 := (hrow.set j (.int .u8 lev)).congr (g := fun i => .int .u8 (if i < j + 1 then lev else 0)) (fun i hi => by
            by_cases e : i = j
            · subst e; rw [if_pos rfl, if_pos (by omega)]
            · rw [if_neg e]
              by_cases e2 : i < j
              · rw [if_pos e2, if_pos (by omega)]
              · rw [if_neg e2, if_neg (by omega)])
          have hown2 := hown1.kept (grownBy_setCell wr ⟨bn, j, none⟩ (.int .u8 lev)) (by
            cases hv : (Value.slice va m vc).ownBlock with
            | none => exact Or.inl rfl
            | some r => right; have := HVB.out r hv; intro e; simp only [Option.some.injEq] at e; omega)
          have HS2 := Lib.hid hs2
          have HROW2 := Lib.hid hrow2
          have HOWN2 := Lib.hid hown2
          clear hs2 hrow2 hown2 hs1 hown1 hrow
          go_wp2_with fail
          go_roundg (m - (j + 1))
          case measure => go_light; omega
          case rel => go_light; exact ⟨j + 1, by omega, rfl, by go_num, HS2.out, HOWN2.out, HROW2.out⟩
        · obtain rfl : j = m := by omega
          have hjz : ¬ ((j : Int) < (j : Int)) := by omega
          obtain ⟨w3, hw3⟩ : ∃ w3, w3 = wr := ⟨_, rfl⟩
          subst hw3
          have hRc : ∃ bc, Reads w3 .u8 va bc 0 C := by
            obtain ⟨a, c, bc, h1, h2, _⟩ := own_readsK hown1 HM.out
            injection h1 with h1 _ _
            subst h1
            exact ⟨bc, h2⟩
          obtain ⟨bc, hRc⟩ := hRc
          have hRn : Reads w3 .u8 (some ⟨bn, 0, none⟩) bn 0 (List.replicate C.length lev) := ⟨fun _ => rfl, fun i hi => by
            have hi' : i < j := by rw [← HM.out]; simpa using hi
            rw [Nat.zero_add, hrow.cell hi', if_pos hi', List.getD_eq_getElem?_getD, List.getElem?_replicate, if_pos (by simpa using hi)]; rfl⟩
          have hcall := eseq_ref C (List.replicate C.length lev) base j HM.out (by simpa using HM.out) (by omega) vc j _ _ _ _ _ _ w3 hRc hRn HB.out (getD_range (fun x hx => by rw [(List.mem_replicate.1 hx).2]; exact HL.out))
          have HC := Lib.hid hcall
          clear hcall hRc hRn hrow hown1
          go_upto_region 15 with (go_at_call 17; refine HC.out.mono ?_; rintro e w4 ⟨vs, pv, B, rfl, hBB, hq, hs4⟩)
          have hs5 := Since.then hs1 hs4 hs1.size
          clear hs1 hs4 HC
          by_cases h0 : j = 0
          · subst h0
            have hC0 : C = [] := List.length_eq_zero_iff.1 HM.out
            subst hC0
            have hN0 : RefN [] (List.replicate ([] : List Int).length lev) base = 0 := rfl
            rw [hN0] at hq
            obtain ⟨aa, ac, rfl⟩ := hq.shape
            have HS5 := Lib.hid hs5
            clear hs5 hq hN0
            go_wp2_with (go_at_call 15; refine (isolates_any _).mono ?_; rintro e w' ⟨rfl, hs9⟩)
            go_ret
            exact ⟨rfl, Since.then HS5.out hs9 HS5.out.size⟩
          · have h00 : ((j : Int) == 0) = false := by rw [beq_eq_false_iff_ne]; omega
            obtain ⟨q1, q2, q3, q4, q5, q6⟩ := ref_single C lev base (HREM.out) HLB.out (by rw [HM.out]; omega)
            rw [q1] at hq
            obtain ⟨g, gc, rfl, -, -⟩ := hq.form (by omega)
            obtain ⟨a0, a1, a2, a3⟩ := hq.cells (j := 0) (by omega)
            obtain ⟨xa, xc, xb, exa, hra⟩ := own_reads (hq.pls 0 (by omega)) rfl
            rw [exa, q2, HM.out] at a0
            rw [q4] at a1
            rw [q5] at a2
            rw [q6] at a3
            have HRA : Hid (∀ i, i < j → w4.cell? ⟨xb, i, none⟩ = some (.int .i64 i)) := by
              intro i hi
              have := hra.cell i (by rw [q2, HM.out]; exact hi)
              rw [Nat.zero_add, q3 i (by rw [HM.out]; exact hi)] at this
              exact this
            obtain rfl := hra.spot (by rw [q2, HM.out]; omega)
            have HS5 := Lib.hid hs5
            have f0 : w4.cell? ⟨g, 0, none⟩ = some (.slice (some ⟨xb, 0, none⟩) j xc) := a0
            have f1 : w4.cell? ⟨g, 1, none⟩ = some (.int .u8 lev) := a1
            have f2 : w4.cell? ⟨g, 2, none⟩ = some (.int .u8 (if lev % 2 = 1 then 2 else 1)) := a2
            have f3 : w4.cell? ⟨g, 3, none⟩ = some (.int .u8 (if lev % 2 = 1 then 2 else 1)) := a3
            clear hq hs5 a0 a1 a2 a3 exa hra q1 q2 q3 q4 q5 q6
            have hjz2 : ((j : Int) != (j : Int)) = false := by simp
            have hlz2 : (lev != lev) = false := by simp
            go_upto_if 82 with fail
            obtain ⟨sd, hsd⟩ : ∃ sd : Int, sd = if lev % 2 = 1 then 2 else 1 := ⟨_, rfl⟩
            rw [← hsd] at f2 f3
            have HSD := Lib.hid hsd
            clear hsd
            have hsz2 : (sd != sd) = false := by simp
            go_cut [13] (fun s13 wx => s13 = .int .u8 sd ∧ w4 = wx)
            case first =>
              by_cases hp : lev % 2 = 1
              · have hp2 : (lev % 2 == 1) = true := by simp [hp]
                go_wp2_with fail
                go_meet
                exact ⟨by rw [HSD.out, if_pos hp], rfl⟩
              · have hp2 : (lev % 2 == 1) = false := by rw [beq_eq_false_iff_ne]; exact hp
                go_wp2_with fail
                go_meet
                exact ⟨by rw [HSD.out, if_neg hp], rfl⟩
            case rest =>
              obtain ⟨rfl, rfl⟩ := hcut
              go_wp2_with fail
              go_loopg [14] j (fun g s14 wr => ∃ (i : Nat), i ≤ j ∧ g = j - i ∧ s14 = .int .i64 i ∧ w4 = wr)
              case atStart => exact ⟨0, by omega, by omega, rfl, rfl⟩
              case round =>
                obtain ⟨i, hi, rfl, rfl, rfl⟩ := hrel
                by_cases hlt2 : i < j
                · have hiz : (i : Int) < (j : Int) := by omega
                  have c1 := HRA.out i hlt2
                  have hii : ((i : Int) != (i : Int)) = false := by simp
                  go_wp2_with fail
                  go_roundg (j - (i + 1))
                  case measure => go_light; omega
                  case rel => go_light; exact ⟨i + 1, by omega, rfl, by go_num, rfl⟩
                · obtain rfl : i = j := by omega
                  have hiz : ¬ ((i : Int) < (i : Int)) := by omega
                  go_wp2_with (go_at_call 15; refine (isolates_any _).mono ?_; rintro e w' ⟨rfl, hs9⟩)
                  go_ret
                  exact ⟨rfl, Since.then HS5.out hs9 HS5.out.size⟩
end Go.Proofs.Ytkfjhannbnijkaa
