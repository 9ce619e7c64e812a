/- What the reference's within computes, plain; its walker in memory; stands: walked. -/
import Derived.Test.YtkfjhannbnijkaaRvA
import Derived.BigRegion
import Derived.Outline
import Derived.ChangeAlike
namespace Go.Proofs.Ytkfjhannbnijkaa
open Go.RowKit

structure LC where
  lv : Nat → Int
  cl : Nat → Int

def LC.st (s : LC) (i : Nat) (lev ov c : Int) : LC := ⟨upd s.lv i lev, upd s.cl i (if ov = 0 then c else ov)⟩

def isoRr (l : List Int) (i : Nat) : Bool := decide (l.getD i 0 = 21) || (decide (l.getD i 0 = 22) && rrw l true l.length (i + 1) 0)

/-- Does the round's place end what is gone through? -/
def rwEnd (c kind : Int) (held : Bool) (is em : Nat) : Bool := decide (c = 11 ∧ kind ≠ 0) || decide (c = 23 ∧ is = 0 ∧ held = true) || decide (c = 19 ∧ is + em = 0 ∧ kind = 1)

def rwi (l : List Int) (base : Int) : Nat → Nat → Int → Int → Int → Bool → Nat → Nat → LC → Nat × LC
  | 0, i, _, _, _, _, _, _, s => (i, s)
  | f + 1, i, lev, ov, kind, held, is, em, s =>
    if l.length ≤ i then (i, s)
    else if rwEnd (l.getD i 0) kind held is em = true then (i, s)
    else if l.getD i 0 = 11 then rwi l base f (i + 1) lev ov kind held 0 0 (s.st i base 0 (l.getD i 0))
    else if l.getD i 0 = 23 then rwi l base f (i + 1) lev ov kind held (is - 1) em (s.st i lev ov (l.getD i 0))
    else if l.getD i 0 = 19 then rwi l base f (i + 1) lev ov kind held is (if is = 0 then em - 1 else em) s
    else if initB (l.getD i 0) = true then
      (if is + em = 0 ∧ nextL lev (isoRr l i) ≤ 125 then
        let r := rwi l base f (i + 1) (nextL lev (isoRr l i)) 0 2 true 0 0 (s.st i lev ov (l.getD i 0))
        if r.1 < l.length ∧ l.getD r.1 0 = 23 then rwi l base f (r.1 + 1) lev ov kind held is em (r.2.st r.1 lev ov 23) else rwi l base f r.1 lev ov kind held is em r.2
      else rwi l base f (i + 1) lev ov kind held (is + 1) em (s.st i lev ov (l.getD i 0)))
    else if 15 ≤ l.getD i 0 ∧ l.getD i 0 ≤ 18 then
      (if is + em = 0 ∧ nextL lev (embR (l.getD i 0)) ≤ 125 then
        let r := rwi l base f (i + 1) (nextL lev (embR (l.getD i 0))) (embO (l.getD i 0)) 1 held 0 0 s
        if r.1 < l.length ∧ l.getD r.1 0 = 19 then rwi l base f (r.1 + 1) lev ov kind held is em r.2 else rwi l base f r.1 lev ov kind held is em r.2
      else rwi l base f (i + 1) lev ov kind held is (if is = 0 then em + 1 else em) s)
    else if l.getD i 0 = 10 then rwi l base f (i + 1) lev ov kind held is em s
    else rwi l base f (i + 1) lev ov kind held is em (s.st i lev ov (l.getD i 0))

theorem rwi_bd (l : List Int) (base : Int) : ∀ f i lev ov kind held is em s, i ≤ l.length → i ≤ (rwi l base f i lev ov kind held is em s).1 ∧ (rwi l base f i lev ov kind held is em s).1 ≤ l.length := by
  intro f
  induction f with
  | zero => intro i lev ov kind held is em s hi; exact ⟨Nat.le_refl _, hi⟩
  | succ f ih =>
    intro i lev ov kind held is em s hi
    rw [rwi]
    split
    · exact ⟨Nat.le_refl _, hi⟩
    · rename_i hlt
      have step : ∀ j, i + 1 ≤ j → j ≤ l.length → ∀ lev ov kind held is em s, i ≤ (rwi l base f j lev ov kind held is em s).1 ∧ (rwi l base f j lev ov kind held is em s).1 ≤ l.length := by
        intro j h1 h2 lev ov kind held is em s
        have := ih j lev ov kind held is em s h2
        omega
      split
      · exact ⟨Nat.le_refl _, hi⟩
      · dsimp only
        have h1 := ih (i + 1) (nextL lev (isoRr l i)) 0 2 true 0 0 (s.st i lev ov (l.getD i 0)) (by omega)
        have h2 := ih (i + 1) (nextL lev (embR (l.getD i 0))) (embO (l.getD i 0)) 1 held 0 0 s (by omega)
        generalize rwi l base f (i + 1) (nextL lev (isoRr l i)) 0 2 true 0 0 (s.st i lev ov (l.getD i 0)) = r1 at *
        generalize rwi l base f (i + 1) (nextL lev (embR (l.getD i 0))) (embO (l.getD i 0)) 1 held 0 0 s = r2 at *
        repeat' split
        all_goals
          first
          | (refine step (i + 1) ?_ ?_ _ _ _ _ _ _ _ <;> omega)
          | (refine step (r1.1 + 1) ?_ ?_ _ _ _ _ _ _ _ <;> omega)
          | (refine step r1.1 ?_ ?_ _ _ _ _ _ _ _ <;> omega)
          | (refine step (r2.1 + 1) ?_ ?_ _ _ _ _ _ _ _ <;> omega)
          | (refine step r2.1 ?_ ?_ _ _ _ _ _ _ _ <;> omega)

structure RWK where
  l : List Int
  base : Int
  ao : Option Addr
  cap : Nat
  b : Nat
  off : Nat
  bw : Nat
  bl : Nat
  bc : Nat

def rwkv (K : RWK) : Nat → Value := fun i => if i = 0 then .slice K.ao K.l.length K.cap else if i = 1 then .int .u8 K.base else if i = 2 then .slice (some ⟨K.bl, 0, none⟩) K.l.length K.l.length else .slice (some ⟨K.bc, 0, none⟩) K.l.length K.l.length

structure RRel (w wr : World) (K : RWK) (s : LC) : Prop where
  since : w.Since w.heap.size wr
  reads : Reads w .u8 K.ao K.b K.off K.l
  lw : w.heap.size ≤ K.bw
  ll : w.heap.size ≤ K.bl
  lc : w.heap.size ≤ K.bc
  wl : K.bw ≠ K.bl
  wc : K.bw ≠ K.bc
  lcn : K.bl ≠ K.bc
  wk : wr.rowIs K.bw 66 4 (rwkv K)
  lv : wr.rowIs K.bl 5 K.l.length (fun i => .int .u8 (s.lv i))
  cl : wr.rowIs K.bc 34 K.l.length (fun i => .int .u8 (s.cl i))

/-- But for the two rows all is as it was. -/
def Kep (K : RWK) (a b : World) : Prop := a.heap.size ≤ b.heap.size ∧ ∀ j, j < a.heap.size → j ≠ K.bl → j ≠ K.bc → b.heap[j]? = a.heap[j]?

theorem Kep.refl (K : RWK) (a : World) : Kep K a a := ⟨Nat.le_refl _, fun _ _ _ _ => rfl⟩
theorem Kep.trans {K : RWK} {a b c : World} (h : Kep K a b) (h2 : Kep K b c) : Kep K a c := ⟨Nat.le_trans h.1 h2.1, fun j h3 h4 h5 => (h2.2 j (Nat.lt_of_lt_of_le h3 h.1) h4 h5).trans (h.2 j h3 h4 h5)⟩
theorem Kep.drew {K : RWK} {a b : World} (h : Kep K a b) : Kep K a b.drew := h
theorem Kep.drewN {K : RWK} {a b : World} (h : Kep K a b) (n : Nat) : Kep K a (b.drewN n) := h
theorem Kep.alloc {K : RWK} {a b : World} (h : Kep K a b) (o : Obj) : Kep K a (b.alloc o) := ⟨by have := h.1; simp; omega, fun j h3 h4 h5 => by rw [Go.Deep.blk_alloc_lt _ _ _ (Nat.lt_of_lt_of_le h3 h.1)]; exact h.2 j h3 h4 h5⟩
theorem Kep.setLv {K : RWK} {a b : World} (h : Kep K a b) (i : Nat) (v : Value) : Kep K a (b.setCell ⟨K.bl, i, none⟩ v) := ⟨by have := h.1; simp; omega, fun j h3 h4 h5 => by rw [Go.Deep.blk_setCell_other _ _ _ _ h4]; exact h.2 j h3 h4 h5⟩
theorem Kep.setCl {K : RWK} {a b : World} (h : Kep K a b) (i : Nat) (v : Value) : Kep K a (b.setCell ⟨K.bc, i, none⟩ v) := ⟨by have := h.1; simp; omega, fun j h3 h4 h5 => by rw [Go.Deep.blk_setCell_other _ _ _ _ h5]; exact h.2 j h3 h4 h5⟩
theorem Kep.since {K : RWK} {a b c : World} (h : Kep K a b) (hs : b.Since b.heap.size c) : Kep K a c := h.trans ⟨hs.size, fun j h3 _ _ => hs.block j h3⟩
theorem Kep.row {K : RWK} {a b : World} (h : Kep K a b) {B n : Nat} {t : TypeId} {f : Nat → Value} (hr : a.rowIs B t n f) (h1 : B ≠ K.bl) (h2 : B ≠ K.bc) : b.rowIs B t n f := hr.of_block (h.2 B hr.lt h1 h2)

theorem RRel.drew {w wr : World} {K : RWK} {s : LC} (h : RRel w wr K s) : RRel w wr.drew K s := { h with since := h.since.drew, wk := h.wk.drew, lv := h.lv.drew, cl := h.cl.drew }
theorem RRel.drewN {w wr : World} {K : RWK} {s : LC} (h : RRel w wr K s) (n : Nat) : RRel w (wr.drewN n) K s := { h with since := sinceN h.since n, wk := h.wk, lv := h.lv, cl := h.cl }
theorem RRel.alloc {w wr : World} {K : RWK} {s : LC} (h : RRel w wr K s) (o : Obj) : RRel w (wr.alloc o) K s := { h with since := h.since.alloc h.since.size _, wk := h.wk.alloc _, lv := h.lv.alloc _, cl := h.cl.alloc _ }
theorem RRel.later {w wr w' : World} {K : RWK} {s : LC} (h : RRel w wr K s) (hs : wr.Since wr.heap.size w') : RRel w w' K s :=
  { h with
    since := ⟨hs.os.trans h.since.os, hs.tape.trans h.since.tape, hs.output.trans h.since.output, Nat.le_trans h.since.size hs.size, fun j hj => (hs.block j (Nat.lt_of_lt_of_le hj h.since.size)).trans (h.since.block j hj)⟩
    wk := h.wk.of_block (hs.block _ h.wk.lt), lv := h.lv.of_block (hs.block _ h.lv.lt), cl := h.cl.of_block (hs.block _ h.cl.lt) }
theorem RRel.setLv {w wr : World} {K : RWK} {s : LC} (h : RRel w wr K s) (i : Nat) (v : Int) : RRel w (wr.setCell ⟨K.bl, i, none⟩ (.int .u8 v)) K ⟨upd s.lv i v, s.cl⟩ :=
  { h with since := h.since.setCell h.ll _, wk := h.wk.setOther h.wl _, lv := (h.lv.set i _).congr (fun j _ => by simp only [upd]; split <;> rfl), cl := h.cl.setOther (fun e => h.lcn e.symm) _ }
theorem RRel.setCl {w wr : World} {K : RWK} {s : LC} (h : RRel w wr K s) (i : Nat) (v : Int) : RRel w (wr.setCell ⟨K.bc, i, none⟩ (.int .u8 v)) K ⟨s.lv, upd s.cl i v⟩ :=
  { h with since := h.since.setCell h.lc _, wk := h.wk.setOther h.wc _, lv := h.lv.setOther h.lcn _, cl := (h.cl.set i _).congr (fun j _ => by simp only [upd]; split <;> rfl) }

/-- What is read of the walker. -/
structure RSees (wr : World) (K : RWK) (s : LC) : Prop where
  w0 : wr.cell? ⟨K.bw, 0, none⟩ = some (.slice K.ao K.l.length K.cap)
  w1 : wr.cell? ⟨K.bw, 1, none⟩ = some (.int .u8 K.base)
  w2 : wr.cell? ⟨K.bw, 2, none⟩ = some (.slice (some ⟨K.bl, 0, none⟩) K.l.length K.l.length)
  w3 : wr.cell? ⟨K.bw, 3, none⟩ = some (.slice (some ⟨K.bc, 0, none⟩) K.l.length K.l.length)
  lv : ∀ i, i < K.l.length → wr.cell? ⟨K.bl, i, none⟩ = some (.int .u8 (s.lv i))
  lvf : ∀ i, wr.frozen? ⟨K.bl, i, none⟩ = false
  cl : ∀ i, i < K.l.length → wr.cell? ⟨K.bc, i, none⟩ = some (.int .u8 (s.cl i))
  clf : ∀ i, wr.frozen? ⟨K.bc, i, none⟩ = false
  rd : ∀ i, i < K.l.length → wr.cell? ⟨K.b, K.off + i, none⟩ = some (.int .u8 (K.l.getD i 0)) ∧ K.ao = some ⟨K.b, K.off, none⟩

theorem RRel.sees {w wr : World} {K : RWK} {s : LC} (h : RRel w wr K s) : RSees wr K s :=
  { w0 := h.wk.cell (i := 0) (by omega), w1 := h.wk.cell (i := 1) (by omega), w2 := h.wk.cell (i := 2) (by omega), w3 := h.wk.cell (i := 3) (by omega)
    lv := fun i hi => h.lv.cell hi, lvf := h.lv.frozen, cl := fun i hi => h.cl.cell hi, clf := h.cl.frozen
    rd := fun i hi => ⟨by
      have h1 := h.reads.cell i hi
      rw [h.since.cell (a := ⟨K.b, K.off + i, none⟩) (World.block_lt_of_cell? _ _ h1)]; exact h1, h.reads.spot (by omega)⟩ }

set_option maxRecDepth 100000 in
set_option maxHeartbeats 1000000 in
theorem rstands_any {w wr : World} {K : RWK} {s : LC} (h : RRel w wr K s) (i : Nat) (hi : i < K.l.length) (lev ov c : Int) (hc : K.l.getD i 0 = c) :
    Calls Try.prog 49 #[.pointer (some ⟨K.bw, 0, none⟩), .int .i64 i, .agg #[.int .u8 lev, .int .u8 ov]] wr (fun e w' => e = .returned (.tuple #[]) ∧ RRel w w' K (s.st i lev ov c) ∧ Kep K wr w') := by
  obtain ⟨w1, hw1⟩ : ∃ w1, w1 = wr.alloc (.cells #[.int .u8 lev, .int .u8 ov] 69) := ⟨_, rfl⟩
  have hR := h.alloc (.cells #[.int .u8 lev, .int .u8 ov] 69)
  have hK := (Kep.refl K wr).alloc (.cells #[.int .u8 lev, .int .u8 ov] 69)
  have hE := World.rowIs_alloc wr #[.int .u8 lev, .int .u8 ov] 69 (fun i => if i = 0 then .int .u8 lev else .int .u8 ov) (fun i hi => by
    have : i = 0 ∨ i = 1 := by simp at hi; omega
    rcases this with rfl | rfl <;> rfl)
  rw [← hw1] at hR hK hE
  obtain ⟨be, hbe⟩ : ∃ be, be = wr.heap.size := ⟨_, rfl⟩
  have hbl : be ≠ K.bl := by have := h.lv.lt; omega
  have hbc : be ≠ K.bc := by have := h.cl.lt; omega
  rw [← hbe] at hE
  have HW1 := Lib.hid hw1
  have HBE := Lib.hid hbe
  clear h hw1 hbe
  have hs := hR.sees
  obtain ⟨hrd, hao⟩ := hs.rd i hi
  have x0 := hs.w0
  have x2 := hs.w2
  have x3 := hs.w3
  have z1 := hs.lv i hi
  have z2 := hs.lvf i
  rw [hao] at x0
  rw [hc] at hrd
  have HC := Lib.hid hc
  have e0 := hE.cell (i := 0) (by simp)
  clear hs hao hc
  have HR := Lib.hid hR
  have HK := Lib.hid hK
  have HE := Lib.hid hE
  clear hR hK hE
  go_enter Try.func49, Try.ntmps49
  go_upto_region 1 with fail
  rw [← HW1.out, ← HBE.out]
  go_cut [] (fun wx => RRel w wx K ⟨upd s.lv i lev, s.cl⟩ ∧ Kep K wr wx ∧ wx.rowIs be 69 2 (fun i => if i = 0 then .int .u8 lev else .int .u8 ov))
  case first =>
    go_region
    all_goals
      go_wp2_with fail
      go_meet
      exact ⟨(HR.out.setLv i lev).drew, (HK.out.setLv i _).drew, (HE.out.setOther hbl _).drew⟩
  case rest =>
    obtain ⟨h2, k2, r2⟩ := hcut
    clear x0 x2 x3 z1 z2 e0 hrd HR HK HE
    have hs := h2.sees
    have hrd := (hs.rd i hi).1
    have hao := (hs.rd i hi).2
    have x0 := hs.w0
    have x3 := hs.w3
    have z3 := hs.cl i hi
    have z4 := hs.clf i
    rw [hao] at x0
    rw [HC.out] at hrd
    clear hs hao
    have H2 := Lib.hid h2
    have K2 := Lib.hid k2
    have R2 := Lib.hid r2
    clear h2 k2 r2
    go_upto_region 2 with fail
    go_cut [] (fun wx => RRel w wx K ⟨upd s.lv i lev, upd s.cl i c⟩ ∧ Kep K wr wx ∧ wx.rowIs be 69 2 (fun i => if i = 0 then .int .u8 lev else .int .u8 ov))
    case first =>
      go_region
      all_goals
        go_wp2_with fail
        go_meet
        exact ⟨(H2.out.setCl i c).drew, (K2.out.setCl i _).drew, (R2.out.setOther hbc _).drew⟩
    case rest =>
      obtain ⟨h2, k2, r2⟩ := hcut
      clear x0 x3 z3 z4 hrd H2 K2 R2
      have hs := h2.sees
      have x3 := hs.w3
      have z3 := hs.cl i hi
      have z4 := hs.clf i
      have e1 := r2.cell (i := 1) (by omega)
      simp only [Nat.one_ne_zero, if_false] at e1
      clear hs r2
      have H2 := Lib.hid h2
      have K2 := Lib.hid k2
      clear h2 k2
      by_cases ho : ov = 0
      · have hoz : (ov != 0) = false := by simp [ho]
        have HO : Hid ((LC.st s i lev ov c) = ⟨upd s.lv i lev, upd s.cl i c⟩) := by show _ = _; unfold LC.st; rw [if_pos ho]
        clear ho
        go_wp2_with fail
        go_end0
        exact ⟨rfl, by rw [HO.out]; exact H2.out, K2.out⟩
      · have hoz : (ov != 0) = true := by simp [ho]
        have HO : Hid ((LC.st s i lev ov c) = ⟨upd s.lv i lev, upd s.cl i ov⟩) := by show _ = _; unfold LC.st; rw [if_neg ho]
        clear ho
        go_wp2_with fail
        go_region
        all_goals
          go_wp2_with fail
          go_end0
          exact ⟨rfl, by rw [HO.out]; have h3 := (H2.out.setCl i ov).drew; simp only [upd_upd] at h3; exact h3, (K2.out.setCl i _).drew⟩
end Go.Proofs.Ytkfjhannbnijkaa
