/- The walker's leaves, ends, closes: walked. -/
import Derived.Test.YtkfjhannbnijkaaLvD
namespace Go.Proofs.Ytkfjhannbnijkaa
open Go.RowKit

theorem wat_up {w w' : World} {K : WK} {s s' : LS} {B : Nat} {bs : List (Nat × Fr)} (h : WRel w w' K s.lv s.cl B s.top bs) (hb : bs.map (·.2) = s.up) (e : s = s') : WDone w K s' (.returned (.tuple #[])) w' := by
  subst e; exact ⟨rfl, B, bs, h, hb⟩

set_option maxRecDepth 100000 in
set_option maxHeartbeats 2000000 in
theorem leaves_any {w wr : World} {K : WK} {s : LS} (h : WAt w wr K s) (k : Nat) (hok : LSOK k s) (hk : k ≤ 70000) (i : Nat) (hi : i < K.l.length) (hlen : K.l.length ≤ 70000) :
    Calls Try.prog 43 #[.pointer (some ⟨K.bw, 0, none⟩), .int .i64 i] wr (WDone w K (s.leaves i K.base)) := by
  obtain ⟨B, bs, hW, hbs⟩ := h
  have HW := Lib.hid hW
  have HT := Lib.hid hok.top
  clear hW hok
  obtain ⟨lv, cl, t, up⟩ := s
  simp only at hbs HW HT
  subst hbs
  by_cases c1 : 0 < t.is
  · go_enter Try.func43, Try.ntmps43
    go_upto_region 1 with (go_at_call 47; refine (goes_raw HW.out i hi hlen).mono ?_; rintro e w1 ⟨rfl, h1⟩)
    have x5 := h1.sees.w5
    have y4 := h1.sees.f4
    have H1 := Lib.hid h1
    clear h1
    go_wp2_with fail
    go_end0
    exact wat_up (s := LS.goes ⟨lv, cl, t, bs.map (·.2)⟩ i K.base) (B := B) (bs := bs) H1.out rfl (by unfold LS.leaves; simp only; rw [if_pos c1])
  · by_cases c2 : 0 < t.em
    · have e1 := HT.out.e1
      go_enter Try.func43, Try.ntmps43
      go_upto_region 1 with (go_at_call 47; refine (goes_raw HW.out i hi hlen).mono ?_; rintro e w1 ⟨rfl, h1⟩)
      have x5 := h1.sees.w5
      have y4 := h1.sees.f4
      have y5 := h1.sees.f5
      have y5f := h1.sees.ff 5
      have H1 := Lib.hid h1
      clear h1
      go_wp2_with fail
      go_end0
      exact wat_up (s := ⟨(LS.goes ⟨lv, cl, t, bs.map (·.2)⟩ i K.base).lv, (LS.goes ⟨lv, cl, t, bs.map (·.2)⟩ i K.base).cl, { t with em := t.em - 1 }, bs.map (·.2)⟩) (B := B) (bs := bs) (H1.out.setTop 5 (.int .i64 (t.em - 1)) (fun j hj => frv_em _ _ _ j hj)) rfl (by unfold LS.leaves; simp only; rw [if_neg (by omega), if_pos c2])
    · match bs, HW with
      | [], HW =>
        go_enter Try.func43, Try.ntmps43
        go_upto_region 1 with (go_at_call 47; refine (goes_raw HW.out i hi hlen).mono ?_; rintro e w1 ⟨rfl, h1⟩)
        have x5 := h1.sees.w5
        have y0 := h1.sees.f0
        have y4 := h1.sees.f4
        have y5 := h1.sees.f5
        simp only [ptrOf] at y0
        have H1 := Lib.hid h1
        clear h1
        go_wp2_with fail
        go_end0
        exact wat_up (s := LS.goes ⟨lv, cl, t, []⟩ i K.base) (B := B) (bs := []) H1.out rfl (by unfold LS.leaves; simp only; rw [if_neg (by omega), if_neg (by omega)]; rfl)
      | x :: bs, HW =>
        obtain ⟨iso, hiso⟩ : ∃ b, t.iso = b := ⟨_, rfl⟩
        have HI := Lib.hid hiso
        clear hiso
        go_enter Try.func43, Try.ntmps43
        go_upto_region 1 with (go_at_call 47; refine (goes_raw HW.out i hi hlen).mono ?_; rintro e w1 ⟨rfl, h1⟩)
        have x5 := h1.sees.w5
        have x5f := h1.sees.w5f
        have y0 := h1.sees.f0
        have y3 := h1.sees.f3
        have y4 := h1.sees.f4
        have y5 := h1.sees.f5
        rw [HI.out] at y3
        simp only [ptrOf] at y0
        have H1 := Lib.hid h1
        clear h1
        cases iso with
        | true =>
          go_wp2_with fail
          go_end0
          exact wat_up (s := LS.goes ⟨lv, cl, t, x.2 :: bs.map (·.2)⟩ i K.base) (B := B) (bs := x :: bs) H1.out rfl (by unfold LS.leaves; simp only [List.map_cons]; rw [if_neg (by omega), if_neg (by omega), if_pos HI.out])
        | false =>
          go_wp2_with fail
          go_end0
          exact wat_up (s := ⟨(LS.goes ⟨lv, cl, t, x.2 :: bs.map (·.2)⟩ i K.base).lv, (LS.goes ⟨lv, cl, t, x.2 :: bs.map (·.2)⟩ i K.base).cl, x.2, bs.map (·.2)⟩) (B := x.1) (bs := bs) (H1.out.setF H1.out.chn.2.2.2.2) rfl (by unfold LS.leaves; simp only [List.map_cons]; rw [if_neg (by omega), if_neg (by omega), if_neg (by rw [HI.out]; simp)])

set_option maxRecDepth 100000 in
set_option maxHeartbeats 2000000 in
theorem wends_any {w wr : World} {K : WK} {s : LS} (h : WAt w wr K s) (i : Nat) (hi : i < K.l.length) (c : Int) (hc : K.l.getD i 0 = c) :
    Calls Try.prog 46 #[.pointer (some ⟨K.bw, 0, none⟩), .int .i64 i] wr (WDone w K (s.ends i K.base c)) := by
  obtain ⟨B, bs, hW, hbs⟩ := h
  have x2 := hW.sees.w2
  have x5 := (hW.alloc (.cells #[.pointer none, .int .u8 K.base, .int .u8 0, .bool false, .int .i64 0, .int .i64 0] 80)).sees.w5
  have x5f := (hW.alloc (.cells #[.pointer none, .int .u8 K.base, .int .u8 0, .bool false, .int .i64 0, .int .i64 0] 80)).sees.w5f
  have HG := Lib.hid ((hW.alloc (.cells #[.pointer none, .int .u8 K.base, .int .u8 0, .bool false, .int .i64 0, .int .i64 0] 80)).setF (hW.grown (f := ⟨K.base, 0, false, 0, 0⟩) (p := .pointer none) (up := []) rfl trivial))
  have HC := Lib.hid hc
  clear hW hbs hc
  go_enter Try.func46, Try.ntmps46
  go_wp2_with (go_at_call 48; refine (stands_raw HG.out i hi).mono ?_; rintro e w1 ⟨rfl, h1⟩)
  go_end0
  rw [HC.out] at h1
  exact wat_up (s := s.ends i K.base c) (B := wr.heap.size) (bs := []) h1 rfl rfl

theorem Chn.heldC {wr : World} {lo : Nat} {av : List Nat} : ∀ {c : List (Nat × Fr)}, Chn wr lo av c → Chn wr lo av (heldC c) := by
  intro c
  induction c with
  | nil => intro _; trivial
  | cons x r ih =>
    intro h
    rw [Go.Proofs.Ytkfjhannbnijkaa.heldC]
    split
    · exact h
    · exact ih h.2.2.2.2

/-- What is found: nothing, or an isolate's frame with one around it. -/
def HeldIs (B : Nat) (t : Fr) (bs : List (Nat × Fr)) : Option (Fr × List Fr) → Prop
  | none => heldC ((B, t) :: bs) = []
  | some p => ∃ x y r, heldC ((B, t) :: bs) = x :: y :: r ∧ y.2 = p.1 ∧ r.map (·.2) = p.2

theorem held_is : ∀ (bs : List (Nat × Fr)) (B : Nat) (t : Fr), botOK t (bs.map (·.2)) → HeldIs B t bs (heldUp t (bs.map (·.2))) := by
  intro bs
  induction bs with
  | nil => intro B t h; have h : t.iso = false := h; simp [heldUp, HeldIs, heldC, h]
  | cons x r ih =>
    intro B t h
    simp only [List.map_cons, heldUp]
    by_cases ht : t.iso = true
    · rw [if_pos ht]
      exact ⟨(B, t), x, r, by simp [heldC, ht], rfl, rfl⟩
    · rw [if_neg ht]
      have h2 := ih x.1 x.2 h
      have e : heldC ((B, t) :: x :: r) = heldC ((x.1, x.2) :: r) := by rw [heldC, if_neg ht]
      unfold HeldIs at h2 ⊢
      rw [e]
      exact h2

set_option maxRecDepth 100000 in
set_option maxHeartbeats 2000000 in
theorem closes_any {w wr : World} {K : WK} {s : LS} (h : WAt w wr K s) (k : Nat) (hok : LSOK k s) (hk : k ≤ 70000) (i : Nat) (hi : i < K.l.length) (c : Int) (hc : K.l.getD i 0 = c) :
    Calls Try.prog 45 #[.pointer (some ⟨K.bw, 0, none⟩), .int .i64 i] wr (WDone w K (s.closes i c)) := by
  obtain ⟨B, bs, hW, hbs⟩ := h
  have x5 := hW.sees.w5
  have y4 := hW.sees.f4
  have i1 := hok.top.i1
  have hbot := hok.bot
  obtain ⟨lv, cl, t, up⟩ := s
  simp only at hbs hW hbot i1 y4
  subst hbs
  have HC := Lib.hid hc
  clear hc hok
  by_cases c1 : 0 < t.is
  · have y4f := hW.sees.ff 4
    have HW := Lib.hid (hW.setTop 4 (.int .i64 (t.is - 1)) (fun j hj => frv_is _ _ _ j))
    clear hW hbot
    go_enter Try.func45, Try.ntmps45
    go_wp2_with (go_at_call 48; refine (stands_raw HW.out i hi).mono ?_; rintro e w1 ⟨rfl, h1⟩)
    go_end0
    rw [HC.out] at h1
    exact wat_up (s := LS.stands ⟨lv, cl, { t with is := t.is - 1 }, bs.map (·.2)⟩ i c) (B := B) (bs := bs) h1 rfl (by unfold LS.closes; simp only; rw [if_pos (by omega)])
  · have hh := held_is bs B t hbot
    have hH := held_any ((B, t) :: bs) hW.chn
    have hchn := hW.chn.heldC
    have x5f := hW.sees.w5f
    have HW := Lib.hid hW
    clear hW hbot
    cases hu : heldUp t (bs.map (·.2)) with
    | none =>
      rw [hu] at hh
      unfold HeldIs at hh
      rw [hh] at hH
      have HH := Lib.hid hH
      have HU := Lib.hid hu
      clear hH hu hh hchn
      go_enter Try.func45, Try.ntmps45
      go_upto_region 3 with (go_at_call 53; refine HH.out.mono ?_; rintro e w1 ⟨rfl, rfl⟩)
      simp only [ptrOf]
      go_wp2_with (go_at_call 48; refine (stands_raw HW.out i hi).mono ?_; rintro e w1 ⟨rfl, h1⟩)
      go_end0
      rw [HC.out] at h1
      exact wat_up (s := LS.stands ⟨lv, cl, t, bs.map (·.2)⟩ i c) (B := B) (bs := bs) h1 rfl (by unfold LS.closes; simp only; rw [if_neg (by omega), HU.out])
    | some p =>
      rw [hu] at hh
      obtain ⟨x, y, r, hx, hy, hr⟩ := hh
      rw [hx] at hH hchn
      have y0 := hchn.2.2.2.1.cell (i := 0) (by omega)
      have HZ := Lib.hid (HW.out.setF hchn.2.2.2.2)
      have HH := Lib.hid hH
      have HU := Lib.hid hu
      have HY := Lib.hid hy
      have HR := Lib.hid hr
      clear hH hu hx hy hr hchn
      simp only [frv, if_true, ptrOf] at y0
      go_enter Try.func45, Try.ntmps45
      go_upto_region 3 with (go_at_call 53; refine HH.out.mono ?_; rintro e w1 ⟨rfl, rfl⟩)
      simp only [ptrOf]
      go_wp2_with (go_at_call 48; refine (stands_raw HZ.out i hi).mono ?_; rintro e w1 ⟨rfl, h1⟩)
      go_end0
      rw [HC.out] at h1
      exact wat_up (s := LS.stands ⟨lv, cl, y.2, r.map (·.2)⟩ i c) (B := y.1) (bs := r) h1 rfl (by unfold LS.closes; simp only; rw [if_neg (by omega), HU.out, HY.out, HR.out])
end Go.Proofs.Ytkfjhannbnijkaa
