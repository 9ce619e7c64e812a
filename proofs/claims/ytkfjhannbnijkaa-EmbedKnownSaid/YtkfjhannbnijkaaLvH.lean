/- embed.Levels: walked. -/
import Derived.Test.YtkfjhannbnijkaaLvG
import Derived.Test.YtkfjhannbnijkaaL0
import Derived.Deep.RegionWith
import Derived.Deep.WholeRow
namespace Go.Proofs.Ytkfjhannbnijkaa
open Go.RowKit

set_option maxRecDepth 100000 in
set_option maxHeartbeats 1000000 in
theorem levels_limit (n cap : Nat) (ao : Option Addr) (base : Int) (w : World) (h : 65536 < n) (hm : n ≤ 9223372036854775807) :
    Calls Try.prog 26 #[.slice ao n cap, .int .u8 base] w (LErr w 3) := by
  have hd : decide ((65536 : Int) < (n : Int)) = true := by simp; omega
  go_enter Try.func26, Try.ntmps26
  go_wp2_with fail
  exact bodyPost_ret (v := .tuple #[.slice none 0 0, .slice none 0 0, .int .u8 0, .int .i64 3]) (by simp [results, Try.results26, go_sem]) rfl ⟨rfl, rfl⟩

set_option maxRecDepth 100000 in
set_option maxHeartbeats 1000000 in
theorem levels_arg (l : List Int) (base : Int) (n cap : Nat) (hn : l.length = n) (ao : Option Addr) (b off : Nat) (w : World) (hR : Reads w .u8 ao b off l) (h : n ≤ 65536) (hv : ¬ Valid l ∨ 2 < base) :
    Calls Try.prog 26 #[.slice ao n cap, .int .u8 base] w (LErr w 2) := by
  have hd : decide ((65536 : Int) < (n : Int)) = false := by simp; omega
  have HR := Lib.hid hR
  have HV := Lib.hid hv
  clear hR hv
  go_enter Try.func26, Try.ntmps26
  go_wp2_with fail
  go_loopg [20] n (fun g s20 wx => ∃ k : Nat, k ≤ n ∧ g = n - k ∧ s20 = .int .i64 k ∧ (∀ i, i < k → 1 ≤ l.getD i 0 ∧ l.getD i 0 ≤ 23) ∧ w = wx)
  case atStart => exact ⟨0, by omega, by omega, rfl, fun i hi => by omega, rfl⟩
  case round =>
    obtain ⟨k, hk, rfl, rfl, hall, rfl⟩ := hrel
    have HALL := Lib.hid hall
    clear hall
    by_cases hlt : k < n
    · have hkz : (k : Int) < (n : Int) := by omega
      obtain rfl := HR.out.spot (by omega)
      have c0 := HR.out.cell k (by omega)
      obtain ⟨c, hc⟩ : ∃ c, l.getD k 0 = c := ⟨_, rfl⟩
      rw [hc] at c0
      have HC := Lib.hid hc
      clear hc
      by_cases c1 : c < 1
      · have t1 : decide (c < 1) = true := by simp; omega
        go_wp2_with fail
        exact bodyPost_ret (v := .tuple #[.slice none 0 0, .slice none 0 0, .int .u8 0, .int .i64 2]) (by simp [results, Try.results26, go_sem]) rfl ⟨rfl, rfl⟩
      · have t1 : decide (c < 1) = false := by simp; omega
        by_cases c2 : 23 < c
        · have t2 : decide (23 < c) = true := by simp; omega
          go_wp2_with fail
          exact bodyPost_ret (v := .tuple #[.slice none 0 0, .slice none 0 0, .int .u8 0, .int .i64 2]) (by simp [results, Try.results26, go_sem]) rfl ⟨rfl, rfl⟩
        · have t2 : decide (23 < c) = false := by simp; omega
          go_wp2_with fail
          go_roundg (n - (k + 1))
          case measure => go_light; omega
          case rel => go_light; exact ⟨k + 1, by omega, rfl, by go_num, fun i hi => by (by_cases e : i = k; (subst e; rw [HC.out]; omega); (exact HALL.out i (by omega))), rfl⟩
    · obtain rfl : k = n := by omega
      have hkz : ¬ ((k : Int) < (k : Int)) := by omega
      have hb : 2 < base := by
        rcases HV.out with h | h
        · exact absurd (fun i hi => HALL.out i (by omega)) h
        · exact h
      have t3 : decide (2 < base) = true := by simp; omega
      go_wp2_with fail
      exact bodyPost_ret (v := .tuple #[.slice none 0 0, .slice none 0 0, .int .u8 0, .int .i64 2]) (by simp [results, Try.results26, go_sem]) rfl ⟨rfl, rfl⟩

/-- The paragraph's level. -/
def plev (l : List Int) (base : Int) : Int := if base = 2 then pbase l else base

def doesV : Array Value := #[.nilFunc, .nilFunc, .nilFunc, .nilFunc, .nilFunc, .nilFunc, .nilFunc, .nilFunc, .nilFunc, .nilFunc, .func (.func 47) #[] #[], .func (.func 46) #[] #[], .nilFunc, .nilFunc, .nilFunc, .func (.func 42) #[] #[], .func (.func 42) #[] #[], .func (.func 42) #[] #[], .func (.func 42) #[] #[], .func (.func 43) #[] #[], .func (.func 44) #[] #[], .func (.func 44) #[] #[], .func (.func 44) #[] #[], .func (.func 45) #[] #[]]

theorem rowIs_made' {w : World} {b n : Nat} {z : Value} {t : TypeId} (h : b = w.heap.size) : (w.alloc (.cells (madeCells #[z] n) t)).rowIs b t n (fun _ => z) := by subst h; exact World.rowIs_made w z n t
theorem rowIs_frame' {w : World} {b : Nat} {p : Int} (h : b = w.heap.size) : (w.alloc (.cells #[.pointer none, .int .u8 p, .int .u8 0, .bool false, .int .i64 0, .int .i64 0] 80)).rowIs b 80 6 (frv (.pointer none) ⟨p, 0, false, 0, 0⟩) := by
  subst h
  exact World.rowIs_alloc w _ 80 _ (fun i hi => by
      have : i = 0 ∨ i = 1 ∨ i = 2 ∨ i = 3 ∨ i = 4 ∨ i = 5 := by simp at hi; omega
      rcases this with rfl | rfl | rfl | rfl | rfl | rfl <;> rfl)
theorem rowIs_since {w w' : World} {C b n : Nat} {t : TypeId} {f : Nat → Value} (hs : w.Since C w') (h : w.rowIs b t n f) (hb : b < C) : w'.rowIs b t n f := h.of_block (hs.block _ hb)

/-- A walker that has been made. -/
def LvStart (w1 : World) (l : List Int) (ao : Option Addr) (cap b off : Nat) (p : Int) (s : Value) (wx : World) : Prop :=
  ∃ bw bm bl bc B : Nat, s = .pointer (some ⟨bw, 0, none⟩) ∧ WRel w1 wx ⟨l, mat l, p, ao, cap, b, off, bw, bm, bl, bc⟩ (fun _ => 0) (fun _ => 0) B ⟨p, 0, false, 0, 0⟩ []

theorem lvStart_of {w1 X : World} {l : List Int} {n : Nat} (hn : l.length = n) {ao : Option Addr} {cap b off : Nat} {p : Int} (hr : Reads w1 .u8 ao b off l) {bm bl bc B bw : Nat} (hbw : bw = X.heap.size) (hs : w1.Since w1.heap.size X)
    (hm : X.rowIs bm 3 n (fun i => .int .i64 (mat l i))) (hl : X.rowIs bl 5 n (fun _ => .int .u8 0)) (hc : X.rowIs bc 34 n (fun _ => .int .u8 0)) (hf : X.rowIs B 80 6 (frv (.pointer none) ⟨p, 0, false, 0, 0⟩))
    (hd : w1.heap.size ≤ bm ∧ w1.heap.size ≤ bl ∧ w1.heap.size ≤ bc ∧ w1.heap.size ≤ B ∧ bm ≠ bl ∧ bm ≠ bc ∧ bl ≠ bc ∧ B ≠ bm ∧ B ≠ bl ∧ B ≠ bc) :
    LvStart w1 l ao cap b off p (.pointer (some ⟨bw, 0, none⟩)) (X.alloc (.cells #[.slice ao n cap, .slice (some ⟨bm, 0, none⟩) n n, .int .u8 p, .slice (some ⟨bl, 0, none⟩) n n, .slice (some ⟨bc, 0, none⟩) n n, .pointer (some ⟨B, 0, none⟩)] 73)) := by
  subst hn
  subst hbw
  have h1 := hm.lt
  have h2 := hl.lt
  have h3 := hc.lt
  have h4 := hf.lt
  have h5 := hs.size
  refine ⟨X.heap.size, bm, bl, bc, B, rfl, ?_⟩
  exact { since := hs.alloc hs.size _, reads := hr, lw := hs.size, lm := hd.1, ll := hd.2.1, lc := hd.2.2.1, wm := by simp only; omega, wl := by simp only; omega, wc := by simp only; omega, ml := hd.2.2.2.2.1, mc := hd.2.2.2.2.2.1, lcn := hd.2.2.2.2.2.2.1
          wk := World.rowIs_alloc X _ 73 _ (fun i hi => by
            have : i = 0 ∨ i = 1 ∨ i = 2 ∨ i = 3 ∨ i = 4 ∨ i = 5 := by simp at hi; omega
            rcases this with rfl | rfl | rfl | rfl | rfl | rfl <;> rfl)
          m := hm.alloc _, lv := hl.alloc _, cl := hc.alloc _
          chn := ⟨hd.2.2.2.1, by simp only [List.mem_cons, List.not_mem_nil, or_false]; omega, fun y hy => by simp at hy, hf.alloc _, trivial⟩ }

def nilV : Array Value := #[.nilFunc, .nilFunc, .nilFunc, .nilFunc, .nilFunc, .nilFunc, .nilFunc, .nilFunc, .nilFunc, .nilFunc, .nilFunc, .nilFunc, .nilFunc, .nilFunc, .nilFunc, .nilFunc, .nilFunc, .nilFunc, .nilFunc, .nilFunc, .nilFunc, .nilFunc, .nilFunc, .nilFunc]
theorem b78 (w : World) : (Instr.build 78 #[(15, .func (.func 42) #[] #[]), (16, .func (.func 42) #[] #[]), (17, .func (.func 42) #[] #[]), (18, .func (.func 42) #[] #[]), (19, .func (.func 43) #[] #[]), (20, .func (.func 44) #[] #[]), (21, .func (.func 44) #[] #[]), (22, .func (.func 44) #[] #[]), (23, .func (.func 45) #[] #[]), (11, .func (.func 46) #[] #[]), (10, .func (.func 47) #[] #[])]).run Try.prog w = .ok (.agg doesV) w := by kernel_rfl
theorem a78 (w : World) : (Instr.alloc 78 true (.tuple #[])).run Try.prog w = .ok (.pointer (some ⟨w.heap.size, 0, none⟩)) (w.alloc (.cells nilV 78)) := by kernel_rfl
theorem i78 : (Try.prog.info? 78).map (·.size) = some doesV.size := by kernel_rfl

section
variable {ops : Array Oper} {rest : List Oper} {o : Oper} {a : Act} {w : World} {Q : Exit → Act → World → Prop}
theorem wpList_b78 (hg : o.guard = none) (ho : o.op = .build 78 #[(15, .func 42), (16, .func 42), (17, .func 42), (18, .func 42), (19, .func 43), (20, .func 44), (21, .func 44), (22, .func 44), (23, .func 45), (11, .func 46), (10, .func 47)])
    (h : wpList Try.prog ops Q rest (a.put o.dst (.agg doesV)) w) : wpList Try.prog ops Q (o :: rest) a w :=
  wpList_plain hg fun K hK => by
    have e : (execOp a.eval o).run Try.prog w = .ok (.value (.agg doesV)) w := by
      unfold execOp
      simp only [ho]
      have := b78 w
      have hm : (Array.map (fun x => (x.fst, a.eval x.snd)) #[(15, Operand.func 42), (16, .func 42), (17, .func 42), (18, .func 42), (19, .func 43), (20, .func 44), (21, .func 44), (22, .func 44), (23, .func 45), (11, .func 46), (10, .func 47)]) = #[(15, Value.func (.func 42) #[] #[]), (16, .func (.func 42) #[] #[]), (17, .func (.func 42) #[] #[]), (18, .func (.func 42) #[] #[]), (19, .func (.func 43) #[] #[]), (20, .func (.func 44) #[] #[]), (21, .func (.func 44) #[] #[]), (22, .func (.func 44) #[] #[]), (23, .func (.func 45) #[] #[]), (11, .func (.func 46) #[] #[]), (10, .func (.func 47) #[] #[])] := by kernel_rfl
      simp only [Sem.run_bind, Sem.run_pure, hm]
      exact (congrArg (fun r => Result.andThen r (fun a w' => Result.ok (Next.value a) w')) this)
    unfold Oper.wp
    rw [e, Oper.upon_value]
    exact hK _ _ h
theorem wpList_a78 (hg : o.guard = none) (ho : o.op = .alloc 78)
    (h : wpList Try.prog ops Q rest (a.put o.dst (.pointer (some ⟨w.heap.size, 0, none⟩))) (w.alloc (.cells nilV 78))) : wpList Try.prog ops Q (o :: rest) a w :=
  wpList_plain hg fun K hK => by
    have e : (execOp a.eval o).run Try.prog w = .ok (.value (.pointer (some ⟨w.heap.size, 0, none⟩))) (w.alloc (.cells nilV 78)) := by
      unfold execOp
      simp only [ho]
      have := a78 w
      simp only [Sem.run_bind, Sem.run_pure]
      exact (congrArg (fun r => Result.andThen r (fun a w' => Result.ok (Next.value a) w')) this)
    unfold Oper.wp
    rw [e, Oper.upon_value]
    exact hK _ _ h
theorem wpList_s78 (w0 : World) (hw : w = w0.alloc (.cells nilV 78)) (hg : o.guard = none) (x y : Operand) (ho : o.op = .store 78 x y) (hx : a.eval x = .pointer (some ⟨w0.heap.size, 0, none⟩)) (hy : a.eval y = .agg doesV)
    (h : wpList Try.prog ops Q rest (a.put o.dst undef) (w0.alloc (.cells doesV 78))) : wpList Try.prog ops Q (o :: rest) a w := by
  subst hw
  refine wpList_store_row hg 78 x y ho w0.heap.size doesV hx hy 78 nilV (heap_alloc_last w0 _) i78 rfl (by kernel_rfl) ?_
  rw [World.setRow_alloc_new]
  exact h
end

theorem nf_func (N : Nat) (w : World) : (binOp BinOp.neq 76 (.func (.func N) #[] #[]) .nilFunc).run Try.prog w = .ok (.bool true) w := by kernel_rfl
theorem nf_nil (w : World) : (binOp BinOp.neq 76 .nilFunc .nilFunc).run Try.prog w = .ok (.bool false) w := by kernel_rfl

theorem stands_any {w wr : World} {K : WK} {s : LS} (h : WAt w wr K s) (i : Nat) (hi : i < K.l.length) (c : Int) (hc : K.l.getD i 0 = c) :
    Calls Try.prog 48 #[.pointer (some ⟨K.bw, 0, none⟩), .int .i64 i] wr (WDone w K (s.stands i c)) := by
  obtain ⟨B, bs, hW, hbs⟩ := h
  refine (stands_raw hW i hi).mono ?_
  rintro e w' ⟨rfl, h2⟩
  rw [hc] at h2
  exact ⟨rfl, B, bs, h2, hbs⟩
theorem goes_any {w wr : World} {K : WK} {s : LS} (h : WAt w wr K s) (i : Nat) (hi : i < K.l.length) (hlen : K.l.length ≤ 70000) :
    Calls Try.prog 47 #[.pointer (some ⟨K.bw, 0, none⟩), .int .i64 i] wr (WDone w K (s.goes i K.base)) := by
  obtain ⟨B, bs, hW, hbs⟩ := h
  refine (goes_raw hW i hi hlen).mono ?_
  rintro e w' ⟨rfl, h2⟩
  exact ⟨rfl, B, bs, h2, hbs⟩

set_option maxRecDepth 100000 in
set_option maxHeartbeats 20000000 in
theorem levels_ok (l : List Int) (base : Int) (n cap : Nat) (hn : l.length = n) (ao : Option Addr) (b off : Nat) (w : World) (hR : Reads w .u8 ao b off l) (h : n ≤ 65536) (hv : Valid l) (hb : 0 ≤ base ∧ base ≤ 2) :
    Calls Try.prog 26 #[.slice ao n cap, .int .u8 base] w (LvDone w n (plev l base) (lrun l (mat l) (plev l base) n).lv (lrun l (mat l) (plev l base) n).cl) := by
  have hd : decide ((65536 : Int) < (n : Int)) = false := by simp; omega
  have HR := Lib.hid hR
  have HV := Lib.hid hv
  obtain ⟨hb0, hb2⟩ := hb
  clear hR hv
  go_enter Try.func26, Try.ntmps26
  go_wp2_with fail
  go_loopg [20] n (fun g s20 wx => ∃ k : Nat, k ≤ n ∧ g = n - k ∧ s20 = .int .i64 k ∧ w = wx)
  case atStart => exact ⟨0, by omega, by omega, rfl, rfl⟩
  case round =>
    obtain ⟨k, hk, rfl, rfl, rfl⟩ := hrel
    by_cases hlt : k < n
    · have hkz : (k : Int) < (n : Int) := by omega
      obtain rfl := HR.out.spot (by omega)
      have c0 := HR.out.cell k (by omega)
      obtain ⟨hc1, hc2⟩ := HV.out k (by omega)
      generalize l.getD k 0 = c at *
      have t1 : decide (c < 1) = false := by simp; omega
      have t2 : decide (23 < c) = false := by simp; omega
      go_wp2_with fail
      go_roundg (n - (k + 1))
      case measure => go_light; omega
      case rel => go_light; exact ⟨k + 1, by omega, rfl, by go_num, rfl⟩
    · obtain rfl : k = n := by omega
      have hkz : ¬ ((k : Int) < (k : Int)) := by omega
      have t3 : decide (2 < base) = false := by simp; omega
      go_upto_block 2 with fail

      go_cut [1] (fun s1 wx => s1 = .int .u8 (plev l base) ∧ w.Since w.heap.size wx)
      case first =>
        by_cases h2 : base = 2
        · have t4 : (base == 2) = true := by simp [h2]
          have HP : Hid (plev l base = pbase l) := by show _ = _; unfold plev; rw [if_pos h2]
          clear h2
          go_wp2_with (go_at_call 24; refine (base_any l k hn cap ao b off _ HR.out h).mono ?_; rintro e w' ⟨rfl, hs⟩)
          go_meet
          exact ⟨by rw [HP.out], hs⟩
        · have t4 : (base == 2) = false := by simp [h2]
          have HP : Hid (plev l base = base) := by show _ = _; unfold plev; rw [if_neg h2]
          clear h2
          go_wp2_with fail
          go_meet
          exact ⟨by rw [HP.out], World.Since.refl _ _⟩
      case rest =>
        obtain ⟨rfl, hs⟩ := hcut
        have hp : 0 ≤ plev l base ∧ plev l base ≤ 1 := by
          unfold plev pbase
          by_cases e : base = 2
          · rw [if_pos e]; split <;> omega
          · rw [if_neg e]; omega
        have HS := Lib.hid hs
        clear hs hb0 hb2
        generalize plev l base = p at *
        obtain ⟨w0, hw0⟩ : ∃ w0, w0 = wc := ⟨_, rfl⟩
        subst hw0
        go_upto_region 13 with fail
        go_cut [10] (fun s10 wx => s10 = .pointer (some ⟨w0.heap.size, 0, none⟩) ∧ wx = w0.alloc (.cells doesV 78))
        case first =>
          go_wp2_with (first | (refine wpList_b78 rfl rfl ?_) | (refine wpList_a78 rfl rfl ?_) | (refine wpList_s78 w0 rfl rfl _ _ rfl rfl rfl ?_))
          go_meet
          exact ⟨rfl, rfl⟩
        case rest =>
          obtain ⟨rfl, rfl⟩ := hcut
          have hmk1 := run_make_row' (P := Try.prog) 23 5 (.int .u8 0) 1 Try.underlying23 Try.info5 rfl .i64 .i64 k (by omega) (by omega)
          have hmk2 := run_make_row' (P := Try.prog) 22 34 (.int .u8 0) 1 Try.underlying22 Try.info34 rfl .i64 .i64 k (by omega) (by omega)
          obtain ⟨w1, hw1⟩ : ∃ w1, w1 = w0.alloc (.cells doesV 78) := ⟨_, rfl⟩
          rw [← hw1]
          have hs1 : w.Since w.heap.size w1 := by rw [hw1]; exact HS.out.alloc HS.out.size _
          have HR1 := Lib.hid (HR.out.since hs1)
          have HW1 := Lib.hid hw1
          have HS1 := Lib.hid hs1
          clear hw1 hs1
          go_upto_region 14 with fail
          go_cut [11] (fun s11 wx => LvStart w1 l ao cap b off p s11 wx)
          case first =>
            go_region_with (first | (go_at_call 23; refine (match_any l k hn cap ao b off _ (Reads.since HR1.out (by repeat (first | with_reducible exact World.Since.refl _ _ | with_reducible refine World.Since.drew ?_ | with_reducible refine World.Since.alloc ?_ (by first | omega | (simp; done) | (simp; omega)) _))) (by omega)).mono ?_; rintro e w2 ⟨bm, rfl, hbm, hrow, hs2⟩))
            all_goals
              as_aux_lemma =>
                go_wp2_with fail
                go_meet
                have hlt := hrow.lt
                have hsz := hs2.size
                simp only [World.size_drew, World.size_alloc] at hbm hlt hsz
                with_reducible refine lvStart_of hn HR1.out (bm := bm) ?_ ?_ ?_ ?_ ?_ ?_ ?_
                · first | rfl | (simp; done)
                · repeat (first | with_reducible exact World.Since.refl _ _ | with_reducible refine World.Since.drew ?_ | with_reducible refine World.Since.alloc ?_ (by first | omega | (simp; done) | (simp; omega)) _ | with_reducible refine Since.then ?_ hs2 (by first | omega | (simp; done) | (simp; omega)))
                · repeat (first | with_reducible exact hrow | with_reducible refine World.rowIs.alloc ?_ _)
                · repeat (first | ((with_reducible refine rowIs_made' ?_); first | rfl | (simp; done)) | with_reducible refine World.rowIs.alloc ?_ _ | with_reducible refine World.rowIs.drew ?_ | with_reducible refine rowIs_since hs2 ?_ (by first | omega | (simp; done) | (simp; omega)))
                · repeat (first | ((with_reducible refine rowIs_made' ?_); first | rfl | (simp; done)) | with_reducible refine World.rowIs.alloc ?_ _ | with_reducible refine World.rowIs.drew ?_ | with_reducible refine rowIs_since hs2 ?_ (by first | omega | (simp; done) | (simp; omega)))
                · repeat (first | ((with_reducible refine rowIs_frame' ?_); first | rfl | (simp; done)) | with_reducible refine World.rowIs.alloc ?_ _ | with_reducible refine World.rowIs.drew ?_ | with_reducible refine rowIs_since hs2 ?_ (by first | omega | (simp; done) | (simp; omega)))
                · omega
          case rest =>
            obtain ⟨bw, bm, bl, bc, B, rfl, hW⟩ := hcut
            have hW1 : WAt w1 wc ⟨l, mat l, p, ao, cap, b, off, bw, bm, bl, bc⟩ (lrun l (mat l) p 0) := ⟨B, [], hW, rfl⟩
            have hdo : ∀ wx, w1.Since w1.heap.size wx → ∀ i, i < 24 → wx.cell? ⟨w0.heap.size, i, none⟩ = some (doesV.getD i undef) := by
              intro wx hs i hi
              have h1 := rowIs_arr w0 doesV 78
              rw [← HW1.out] at h1
              have hz : w0.heap.size < w1.heap.size := by rw [HW1.out]; simp
              exact (rowIs_since hs h1 hz).cell hi
            have HDO := Lib.hid hdo
            have HV2 := HV
            clear hW hdo hmk1 hmk2
            obtain ⟨K, hK⟩ : ∃ K : WK, K = ⟨l, mat l, p, ao, cap, b, off, bw, bm, bl, bc⟩ := ⟨_, rfl⟩
            rw [← hK] at hW1
            have HK := Lib.hid hK
            have HWW := Lib.hid hW1
            have HNK : Hid (K.l.length = k) := by show _ = _; rw [hK]; exact hn
            have HN := Lib.hid hn
            have HBW : bw = K.bw := by rw [hK]
            subst HBW
            clear hK hW1 hn
            go_wp2_with fail
            go_loopg [57] k (fun g s57 wx => ∃ i : Nat, i ≤ k ∧ g = k - i ∧ s57 = .int .i64 i ∧ WAt w1 wx K (lrun l (mat l) p i))
            case atStart => exact ⟨0, by omega, by omega, rfl, HWW.out⟩
            case round =>
              clear HWW
              obtain ⟨i, hi, rfl, rfl, hAt⟩ := hrel
              by_cases hlt2 : i < k
              · have hiz : (i : Int) < (k : Int) := by omega
                obtain ⟨hc1, hc2⟩ := HV.out i (by have := HN.out; omega)
                obtain ⟨Bx, bs, hWx, hbs⟩ := hAt
                have hAt : WAt w1 wr K (lrun l (mat l) p i) := ⟨Bx, bs, hWx, hbs⟩
                have hil : i < K.l.length := by rw [HNK.out]; exact hlt2
                have hsp := HR1.out.spot (by have := HN.out; omega)
                have c0 : wr.cell? ⟨b, off + i, none⟩ = some (.int .u8 (l.getD i 0)) := (HR1.out.since hWx.since).cell i (by have := HN.out; omega)
                have hdx := HDO.out wr hWx.since
                obtain ⟨m, hm⟩ : ∃ m : Nat, l.getD i 0 = m := ⟨(l.getD i 0).toNat, by omega⟩
                rw [hm] at c0 hc1 hc2
                have hdm := hdx m (by omega)
                have HM := Lib.hid hm
                have HAT := Lib.hid hAt
                have HOK := Lib.hid (lrun_ok l (mat l) (base := p) ⟨hp.1, by omega⟩ i)
                have HKM : Hid (K.l.getD i 0 = (m : Int)) := by show _ = _; rw [HK.out]; exact hm
                have HAH : Hid (Ahead K.l K.mt) := by show Ahead _ _; rw [HK.out]; exact ahead_mat l
                have HST : Hid (lrun l (mat l) p (i + 1) = LS.step K.l K.mt K.base i (lrun l (mat l) p i)) := by show _ = _; rw [HK.out]; rfl
                have hkl : K.l.length ≤ 70000 := by rw [HNK.out]; omega
                have nf1 := nf_func
                have nf2 := nf_nil
                subst hsp
                clear hdx hm hAt hWx hbs
                by_cases g1 : 15 ≤ m ∧ m ≤ 18
                · have hv : doesV.getD m undef = .func (.func 42) #[] #[] := by
                    have : m = 15 ∨ m = 16 ∨ m = 17 ∨ m = 18 := by omega
                    rcases this with rfl | rfl | rfl | rfl <;> rfl
                  rw [hv] at hdm
                  have HS2 : Hid (lrun l (mat l) p (i + 1) = LS.embeds (lrun l (mat l) p i) i K.base (m : Int)) := by show _ = _; rw [HST.out]; unfold LS.step; rw [HKM.out, if_pos (by omega)]
                  clear hv
                  as_aux_lemma =>
                    go_wp2_with (go_at_call 42; refine (embeds_any HAT.out i HOK.out (by omega) i hil hkl (m : Int) HKM.out (by omega)).mono ?_; rintro e w2 ⟨rfl, hA2⟩)
                    go_roundg (k - (i + 1))
                    case measure => go_light; omega
                    case rel => go_light; exact ⟨i + 1, by omega, rfl, by go_num, by rw [HS2.out]; exact hA2⟩
                · by_cases g2 : m = 19
                  · have hv : doesV.getD m undef = .func (.func 43) #[] #[] := by subst g2; rfl
                    rw [hv] at hdm
                    have HS2 : Hid (lrun l (mat l) p (i + 1) = LS.leaves (lrun l (mat l) p i) i K.base) := by show _ = _; rw [HST.out]; unfold LS.step; rw [HKM.out, if_neg (by omega), if_pos (by omega)]
                    clear hv g2 g1
                    as_aux_lemma =>
                      go_wp2_with (go_at_call 43; refine (leaves_any HAT.out i HOK.out (by omega) i hil hkl).mono ?_; rintro e w2 ⟨rfl, hA2⟩)
                      go_roundg (k - (i + 1))
                      case measure => go_light; omega
                      case rel => go_light; exact ⟨i + 1, by omega, rfl, by go_num, by rw [HS2.out]; exact hA2⟩
                  · by_cases g3 : 20 ≤ m ∧ m ≤ 22
                    · have hv : doesV.getD m undef = .func (.func 44) #[] #[] := by
                        have : m = 20 ∨ m = 21 ∨ m = 22 := by omega
                        rcases this with rfl | rfl | rfl <;> rfl
                      rw [hv] at hdm
                      have hin : initB (m : Int) = true := by unfold initB; simp; omega
                      have HS2 : Hid (lrun l (mat l) p (i + 1) = LS.isos (lrun l (mat l) p i) i (m : Int) (isoR K.l K.mt i)) := by show _ = _; rw [HST.out]; unfold LS.step; rw [HKM.out, if_neg (by omega), if_neg (by omega), if_pos hin]
                      clear hv
                      as_aux_lemma =>
                        go_wp2_with (go_at_call 44; refine (isos_any HAT.out i HOK.out (by omega) i hil hkl (m : Int) HKM.out hin HAH.out).mono ?_; rintro e w2 ⟨rfl, hA2⟩)
                        go_roundg (k - (i + 1))
                        case measure => go_light; omega
                        case rel => go_light; exact ⟨i + 1, by omega, rfl, by go_num, by rw [HS2.out]; exact hA2⟩
                    · have hin : ¬ initB (m : Int) = true := by unfold initB; simp; omega
                      by_cases g4 : m = 23
                      · have hv : doesV.getD m undef = .func (.func 45) #[] #[] := by subst g4; rfl
                        rw [hv] at hdm
                        have HS2 : Hid (lrun l (mat l) p (i + 1) = LS.closes (lrun l (mat l) p i) i (m : Int)) := by show _ = _; rw [HST.out]; unfold LS.step; rw [HKM.out, if_neg (by omega), if_neg (by omega), if_neg hin, if_pos (by omega)]
                        clear hv g1 g2 g3 g4 hin
                        as_aux_lemma =>
                          go_wp2_with (go_at_call 45; refine (closes_any HAT.out i HOK.out (by omega) i hil (m : Int) HKM.out).mono ?_; rintro e w2 ⟨rfl, hA2⟩)
                          go_roundg (k - (i + 1))
                          case measure => go_light; omega
                          case rel => go_light; exact ⟨i + 1, by omega, rfl, by go_num, by rw [HS2.out]; exact hA2⟩
                      · by_cases g5 : m = 11
                        · have hv : doesV.getD m undef = .func (.func 46) #[] #[] := by subst g5; rfl
                          rw [hv] at hdm
                          have HS2 : Hid (lrun l (mat l) p (i + 1) = LS.ends (lrun l (mat l) p i) i K.base (m : Int)) := by show _ = _; rw [HST.out]; unfold LS.step; rw [HKM.out, if_neg (by omega), if_neg (by omega), if_neg hin, if_neg (by omega), if_pos (by omega)]
                          clear hv g1 g2 g3 g4 g5 hin
                          as_aux_lemma =>
                            go_wp2_with (go_at_call 46; refine (wends_any HAT.out i hil (m : Int) HKM.out).mono ?_; rintro e w2 ⟨rfl, hA2⟩)
                            go_roundg (k - (i + 1))
                            case measure => go_light; omega
                            case rel => go_light; exact ⟨i + 1, by omega, rfl, by go_num, by rw [HS2.out]; exact hA2⟩
                        · by_cases g6 : m = 10
                          · have hv : doesV.getD m undef = .func (.func 47) #[] #[] := by subst g6; rfl
                            rw [hv] at hdm
                            have HS2 : Hid (lrun l (mat l) p (i + 1) = LS.goes (lrun l (mat l) p i) i K.base) := by show _ = _; rw [HST.out]; unfold LS.step; rw [HKM.out, if_neg (by omega), if_neg (by omega), if_neg hin, if_neg (by omega), if_neg (by omega), if_pos (by omega)]
                            clear hv g1 g2 g3 g4 g5 g6 hin
                            as_aux_lemma =>
                              go_wp2_with (go_at_call 47; refine (goes_any HAT.out i hil hkl).mono ?_; rintro e w2 ⟨rfl, hA2⟩)
                              go_roundg (k - (i + 1))
                              case measure => go_light; omega
                              case rel => go_light; exact ⟨i + 1, by omega, rfl, by go_num, by rw [HS2.out]; exact hA2⟩
                          · have hv : doesV.getD m undef = .nilFunc := by
                              have : m = 1 ∨ m = 2 ∨ m = 3 ∨ m = 4 ∨ m = 5 ∨ m = 6 ∨ m = 7 ∨ m = 8 ∨ m = 9 ∨ m = 12 ∨ m = 13 ∨ m = 14 := by omega
                              rcases this with rfl | rfl | rfl | rfl | rfl | rfl | rfl | rfl | rfl | rfl | rfl | rfl <;> rfl
                            rw [hv] at hdm
                            have HS2 : Hid (lrun l (mat l) p (i + 1) = LS.stands (lrun l (mat l) p i) i (m : Int)) := by show _ = _; rw [HST.out]; unfold LS.step; rw [HKM.out, if_neg (by omega), if_neg (by omega), if_neg hin, if_neg (by omega), if_neg (by omega), if_neg (by omega)]
                            clear hv g1 g2 g3 g4 g5 g6 hin
                            as_aux_lemma =>
                              go_wp2_with (go_at_call 48; refine (stands_any HAT.out i hil (m : Int) HKM.out).mono ?_; rintro e w2 ⟨rfl, hA2⟩)
                              go_roundg (k - (i + 1))
                              case measure => go_light; omega
                              case rel => go_light; exact ⟨i + 1, by omega, rfl, by go_num, by rw [HS2.out]; exact hA2⟩
              · have hiz : ¬ ((i : Int) < (k : Int)) := by omega
                obtain rfl : i = k := by omega
                obtain ⟨Bx, bs, hWx, hbs⟩ := hAt
                have x3 := hWx.sees.w3
                have x4 := hWx.sees.w4
                have HWX := Lib.hid hWx
                rw [HNK.out] at x3 x4
                clear hWx hbs
                go_wp2_with fail
                go_quiet (fail)
                go_wp2_with fail
                refine bodyPost_ret (v := .tuple #[.slice (some ⟨K.bl, 0, none⟩) i i, .slice (some ⟨K.bc, 0, none⟩) i i, .int .u8 p, .int .i64 0]) (by simp [results, Try.results26, go_sem]) rfl ?_
                have hl := HWX.out.lv
                have hc := HWX.out.cl
                rw [HNK.out] at hl hc
                have hws := HS1.out.size
                exact ⟨K.bl, K.bc, rfl, Nat.le_trans hws HWX.out.ll, Nat.le_trans hws HWX.out.lc, HWX.out.lcn, hl, hc, sinceN (Since.then HS1.out HWX.out.since hws) nq⟩
end Go.Proofs.Ytkfjhannbnijkaa
