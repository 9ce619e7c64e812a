/- The walker's isolates: walked. -/
import Derived.Test.YtkfjhannbnijkaaLvE
import Derived.StillTailTactics
namespace Go.Proofs.Ytkfjhannbnijkaa
open Go.RowKit

theorem isos_some {w w' : World} {K : WK} {s : LS} {i : Nat} {c : Int} {r : Bool} {g : Fr} {N B : Nat} {bs : List (Nat × Fr)} (hg : frIn s.top r = some g) (hb : bs.map (·.2) = s.up)
    (h : WRel w w' K (s.stands i c).lv (s.stands i c).cl N ⟨g.lev, g.ov, true, g.is, g.em⟩ ((B, s.top) :: bs)) : WDone w K (s.isos i c r) (.returned (.tuple #[])) w' := by
  refine ⟨rfl, N, (B, s.top) :: bs, ?_, ?_⟩
  · unfold LS.isos; rw [hg]; exact h
  · unfold LS.isos; rw [hg]; simp [hb]

theorem isos_none {w w' : World} {K : WK} {s : LS} {i : Nat} {c : Int} {r : Bool} {B : Nat} {bs : List (Nat × Fr)} (hg : frIn s.top r = none) (hb : bs.map (·.2) = s.up)
    (h : WRel w w' K (s.stands i c).lv (s.stands i c).cl B ⟨s.top.lev, s.top.ov, s.top.iso, s.top.is + 1, s.top.em⟩ bs) : WDone w K (s.isos i c r) (.returned (.tuple #[])) w' := by
  refine ⟨rfl, B, bs, ?_, ?_⟩
  · unfold LS.isos; rw [hg]; exact h
  · unfold LS.isos; rw [hg]; exact hb

/-- Behind the choice of the frame. -/
def IsoMid (w : World) (K : WK) (lv cl : Nat → Int) (B : Nat) (t : Fr) (bs : List (Nat × Fr)) (r : Bool) (v : Value) (w' : World) : Prop :=
  match frIn t r with
  | some g => ∃ N : Nat, v = .pointer (some ⟨N, 0, none⟩) ∧ WRel w w' K lv cl B t bs ∧ Chn w' w.heap.size [K.bw, K.bm, K.bl, K.bc] ((N, g) :: (B, t) :: bs)
  | none => v = .pointer none ∧ WRel w w' K lv cl B t bs

theorem isoMid_of {w : World} {K : WK} {lv cl : Nat → Int} {B : Nat} {t : Fr} {bs : List (Nat × Fr)} {r : Bool} {e : Ending} {w' : World} (h : Within w K lv cl B t bs r e w') : ∃ v, e = .returned v ∧ IsoMid w K lv cl B t bs r v w' := by
  unfold Within at h
  cases hg : frIn t r with
  | some g =>
    rw [hg] at h
    obtain ⟨N, h1, h2, h3⟩ := h
    exact ⟨_, h1, by unfold IsoMid; rw [hg]; exact ⟨N, rfl, h2, h3⟩⟩
  | none =>
    rw [hg] at h
    exact ⟨_, h.1, by unfold IsoMid; rw [hg]; exact ⟨rfl, h.2⟩⟩

theorem isoMid_S {w : World} {K : WK} {lv cl : Nat → Int} {B : Nat} {t : Fr} {bs : List (Nat × Fr)} {r : Bool} {v : Value} {w' : World} (h : IsoMid w K lv cl B t bs r v w') : w'.cell? ⟨K.bw, 5, none⟩ = some (.pointer (some ⟨B, 0, none⟩)) ∧ WRel w w' K lv cl B t bs := by
  unfold IsoMid at h
  cases hg : frIn t r with
  | some g => rw [hg] at h; obtain ⟨N, -, h2, -⟩ := h; exact ⟨h2.sees.w5, h2⟩
  | none => rw [hg] at h; exact ⟨h.2.sees.w5, h.2⟩

theorem FM : Try.prog.follows .mixedOrders = true := by kernel_rfl

theorem wpStill_skip {P : Program} {ops : Array Oper} {w : World} {Q : Act → Prop} {o : Oper} {rest : List Oper} {a : Act} (hw : Region.wanted o (yielded ops a.tmps) = false) (h : wpStill P ops w Q rest (a.put o.dst undef)) : wpStill P ops w Q (o :: rest) a := by
  rw [wpStill, if_neg (by rw [hw]; simp)]; exact h

theorem WRel.newTop {w wr : World} {K : WK} {lv cl : Nat → Int} {B N : Nat} {t g g' : Fr} {bs : List (Nat × Fr)} (h : WRel w wr K lv cl B t bs) (hc : Chn wr w.heap.size [K.bw, K.bm, K.bl, K.bc] ((N, g) :: (B, t) :: bs)) (i : Nat) (v : Value)
    (e : ∀ j, j < 6 → (if j = i then v else frv (ptrOf ((B, t) :: bs)) g j) = frv (ptrOf ((B, t) :: bs)) g' j) :
    WRel w (wr.setCell ⟨N, i, none⟩ v) K lv cl B t bs ∧ Chn (wr.setCell ⟨N, i, none⟩ v) w.heap.size [K.bw, K.bm, K.bl, K.bc] ((N, g') :: (B, t) :: bs) := by
  have hN := (hc.lt (N, g) (by simp)).2.2
  simp at hN
  have hrest : ∀ y ∈ (B, t) :: bs, y.1 ≠ N := fun y hy => by have := hc.2.2.1 y hy; simp only at this; omega
  have hch : Chn (wr.setCell ⟨N, i, none⟩ v) w.heap.size [K.bw, K.bm, K.bl, K.bc] ((B, t) :: bs) := h.chn.setOther hrest v
  refine ⟨{ h with since := h.since.setCell hc.1 _, wk := h.wk.setOther (fun e => hN.1 e.symm) _, m := h.m.setOther (fun e => hN.2.1 e.symm) _, lv := h.lv.setOther (fun e => hN.2.2.1 e.symm) _, cl := h.cl.setOther (fun e => hN.2.2.2 e.symm) _, chn := hch }, hc.1, hc.2.1, hc.2.2.1, (hc.2.2.2.1.set i v).congr e, hch⟩

set_option maxRecDepth 100000 in
set_option maxHeartbeats 2000000 in
theorem isos_any {w wr : World} {K : WK} {s : LS} (h : WAt w wr K s) (k : Nat) (hok : LSOK k s) (hk : k ≤ 70000) (i : Nat) (hi : i < K.l.length) (hlen : K.l.length ≤ 70000) (c : Int) (hc : K.l.getD i 0 = c) (hc1 : initB c = true) (hA : Ahead K.l K.mt) :
    Calls Try.prog 44 #[.pointer (some ⟨K.bw, 0, none⟩), .int .i64 i] wr (WDone w K (s.isos i c (isoR K.l K.mt i))) := by
  obtain ⟨B, bs, hW, hbs⟩ := h
  have HW := Lib.hid hW
  have HT := Lib.hid hok.top
  have HB := Lib.hid hbs
  have HC := Lib.hid hc
  have HA := Lib.hid hA
  have hcc : c = 20 ∨ c = 21 ∨ c = 22 := by simp [initB] at hc1; omega
  clear hW hok hbs hc hA hc1
  have hmt : K.mt i < 0 ∨ (0 ≤ K.mt i ∧ (i : Int) < K.mt i ∧ K.mt i < K.l.length) := by
    by_cases h0 : K.mt i < 0
    · exact .inl h0
    · exact .inr ⟨by omega, HA.out i (by rw [HC.out]; rcases hcc with rfl | rfl | rfl <;> rfl) (by omega)⟩
  obtain ⟨z, hz⟩ : ∃ z, isoTo K.l.length (K.mt i) = z := ⟨_, rfl⟩
  have hz1 : z ≤ K.l.length ∧ i < z := by rw [← hz]; unfold isoTo; split <;> omega
  obtain ⟨hz1, hz2⟩ := hz1
  have hR : isoR K.l K.mt i = (decide (c = 21) || (decide (c = 22) && erw K.l K.mt K.l.length (i + 1) z)) := by unfold isoR; rw [HC.out, hz]
  obtain ⟨r, hr⟩ : ∃ r, isoR K.l K.mt i = r := ⟨_, rfl⟩
  have HR : Hid (r = (decide (c = 21) || (decide (c = 22) && erw K.l K.mt K.l.length (i + 1) z))) := by exact hr ▸ hR
  rw [hr]
  clear hr hR
  have hzz : (if K.mt i < 0 then (K.l.length : Int) else K.mt i) = z := by rw [← hz]; unfold isoTo; split <;> omega
  obtain ⟨m, hm⟩ : ∃ m, K.mt i = m := ⟨_, rfl⟩
  rw [hm] at hmt hzz
  have HM := Lib.hid hm
  clear hm hz
  go_enter Try.func44, Try.ntmps44
  go_upto_region 1 with (go_at_call 48; refine (stands_raw HW.out i hi).mono ?_; rintro e w1 ⟨rfl, h1⟩)
  rw [HC.out] at h1
  have x0 := h1.sees.w0
  have x0' := h1.sees.w0
  obtain ⟨hrd, hao⟩ := h1.sees.rd i hi
  have hrm := h1.sees.m i hi
  rw [HC.out] at hrd
  rw [HM.out] at hrm
  rw [hao] at x0
  have x1 := h1.sees.w1
  have x5 := h1.sees.w5
  have H1 := Lib.hid h1
  clear h1
  go_quiet (fail)
  have H2 := Lib.hid (H1.out.drewN nq)
  clear hrd hrm H1 hao HM
  have x0 := H2.out.sees.w0
  have x1 := H2.out.sees.w1
  have x5 := H2.out.sees.w5
  have hrd := H2.out.reads
  generalize w1.drewN nq = w2 at *
  go_upto_if 25 with fail
  go_cut [5] (fun s5 wx => s5 = .int .i64 z ∧ w2 = wx)
  case first =>
    by_cases hm0 : m < 0
    · rw [if_pos hm0] at hzz
      have HZ := Lib.hid hzz
      clear hzz
      go_wp2_with fail
      go_meet
      exact ⟨by rw [HZ.out], rfl⟩
    · rw [if_neg hm0] at hzz
      have HZ := Lib.hid hzz
      clear hzz
      go_wp2_with fail
      go_meet
      exact ⟨by rw [HZ.out], rfl⟩
  case rest =>
    obtain ⟨rfl, rfl⟩ := hcut
    go_upto_region 4 with fail
    go_cut [6] (fun s6 wx => IsoMid w K (upd s.lv i s.top.lev) (upd s.cl i (if s.top.ov = 0 then c else s.top.ov)) B s.top bs r s6 wx)
    case first =>
      rcases hcc with rfl | rfl | rfl
      · obtain rfl : r = false := HR.out
        refine wp_region_still_tail 17 FM (by kernel_rfl) ?_
        simp only [List.take_succ_cons, List.take_zero, List.drop_succ_cons, List.drop_zero]
        iterate 10 still_step
        iterate 5 ((with_reducible refine wpStill_skip ?_ ?_); (kernel_rfl); go_simp)
        iterate 2 still_step
        refine wpStill_nil ?_
        change wpList _ _ _ _ _ w2.drew
        go_wp2_with (first | (go_at_call 52; refine (within_any H2.out.drew false k HT.out hk).mono ?_; intro e w3 hW3; obtain ⟨v, rfl, h3⟩ := isoMid_of hW3; clear hW3))
        go_meet
        exact h3
      · obtain rfl : r = true := HR.out
        refine wp_region_still_tail 17 FM (by kernel_rfl) ?_
        simp only [List.take_succ_cons, List.take_zero, List.drop_succ_cons, List.drop_zero]
        iterate 7 still_step
        iterate 9 ((with_reducible refine wpStill_skip ?_ ?_); (kernel_rfl); go_simp)
        still_step
        refine wpStill_nil ?_
        change wpList _ _ _ _ _ w2.drew
        go_wp2_with (first | (go_at_call 52; refine (within_any H2.out.drew true k HT.out hk).mono ?_; intro e w3 hW3; obtain ⟨v, rfl, h3⟩ := isoMid_of hW3; clear hW3))
        go_meet
        exact h3
      · have hr' : erw K.l K.mt K.l.length (i + 1) z = r := HR.out.symm
        have hS := H2.out.drew.sees
        have hrc := rightward_any K.l K.mt K.l.length rfl hlen K.bw K.bm K.cap K.b K.off K.ao w2.drew hS.w0 hS.w1 hS.m (hrd.since H2.out.drew.since) HA.out (i + 1) z K.l.length (by omega) hz1 (by omega)
        rw [hr'] at hrc
        have HRC := Lib.hid hrc
        clear hr' hS hrc
        refine wp_region_still_tail 17 FM (by kernel_rfl) ?_
        simp only [List.take_succ_cons, List.take_zero, List.drop_succ_cons, List.drop_zero]
        iterate 14 still_step
        refine wpStill_step (fun K hK => ?_)
        go_simp
        have hwr : IntKind.i64.wrap ((i : Int) + 1) = ((i + 1 : Nat) : Int) := IntWalk.i64_in _ (by omega)
        refine ⟨.bool r, by rw [hwr]; exact HRC.out.mono (fun _ _ ⟨a, b⟩ => ⟨a, b.symm⟩), hK _ ?_⟩
        clear hK K hwr
        iterate 2 still_step
        refine wpStill_nil ?_
        change wpList _ _ _ _ _ w2.drew
        go_wp2_with (first | (go_at_call 52; refine (within_any H2.out.drew r k HT.out hk).mono ?_; intro e w3 hW3; obtain ⟨v, rfl, h3⟩ := isoMid_of hW3; clear hW3))
        go_meet
        exact h3
    case rest =>
      unfold IsoMid at hcut
      cases hg : frIn s.top r with
      | some g =>
        rw [hg] at hcut
        obtain ⟨N, rfl, h2, h3⟩ := hcut
        have HG := Lib.hid hg
        clear hg hcc hmt hzz x0 x1 x5 hrd H2
        have z3 := h3.2.2.2.1.cell (i := 3) (by omega)
        have z3f := h3.2.2.2.1.frozen 3
        obtain ⟨h4, h5⟩ := h2.newTop h3 3 (.bool true) (g' := { g with iso := true }) (fun j hj => frv_iso _ _ _ j)
        have x5 := h4.sees.w5
        have x5f := h4.sees.w5f
        have H5 := Lib.hid (h4.setF h5)
        clear h2 h3 h4 h5
        go_wp2_with fail
        go_end0
        exact isos_some HG.out HB.out (B := B) (N := N) H5.out
      | none =>
        rw [hg] at hcut
        obtain ⟨rfl, h2⟩ := hcut
        have HG := Lib.hid hg
        clear hg hcc hmt hzz x0 x1 x5 hrd H2
        have x5 := h2.sees.w5
        have y4 := h2.sees.f4
        have y4f := h2.sees.ff 4
        have i1 := HT.out.i1
        have i0 := HT.out.i0
        have H2 := Lib.hid h2
        clear h2
        go_wp2_with fail
        go_end0
        exact isos_none HG.out HB.out (B := B) (H2.out.setTop 4 (.int .i64 (s.top.is + 1)) (fun j hj => frv_is _ _ _ j))
end Go.Proofs.Ytkfjhannbnijkaa
