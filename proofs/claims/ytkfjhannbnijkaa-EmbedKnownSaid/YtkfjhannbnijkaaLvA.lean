/- What embed.Levels computes, step by step; a walker, and its frames, in memory. No program in sight. -/
import Derived.Test.YtkfjhannbnijkaaR
namespace Go.Proofs.Ytkfjhannbnijkaa
open Go.RowKit

/-- A frame: its level, override, whether it is an isolate's, what was begun in it and is too deep. -/
structure Fr where
  lev : Int
  ov : Int
  iso : Bool
  is : Int
  em : Int

def nextL (lev : Int) (right : Bool) : Int := if right then (if lev % 2 = 0 then lev + 1 else lev + 2) else (if lev % 2 = 0 then lev + 2 else lev + 1)

def frIn (f : Fr) (right : Bool) : Option Fr := if nextL f.lev right ≤ 125 ∧ f.is + f.em ≤ 0 then some ⟨nextL f.lev right, 0, false, 0, 0⟩ else none

structure LS where
  lv : Nat → Int
  cl : Nat → Int
  top : Fr
  up : List Fr

def LS.stands (s : LS) (i : Nat) (c : Int) : LS := ⟨upd s.lv i s.top.lev, upd s.cl i (if s.top.ov = 0 then c else s.top.ov), s.top, s.up⟩
def LS.goes (s : LS) (i : Nat) (base : Int) : LS := ⟨upd s.lv i (if i = 0 then base else s.lv (i - 1)), upd s.cl i 10, s.top, s.up⟩

def embR (c : Int) : Bool := decide (c = 16 ∨ c = 18)
def embO (c : Int) : Int := if c = 17 then 1 else if c = 18 then 2 else 0

def LS.embeds (s : LS) (i : Nat) (base c : Int) : LS :=
  match frIn s.top (embR c) with
  | some f => ⟨(s.goes i base).lv, (s.goes i base).cl, { f with ov := embO c }, s.top :: s.up⟩
  | none => if s.top.is = 0 then ⟨(s.goes i base).lv, (s.goes i base).cl, { s.top with em := s.top.em + 1 }, s.up⟩ else s.goes i base

def LS.isos (s : LS) (i : Nat) (c : Int) (right : Bool) : LS :=
  match frIn s.top right with
  | some f => ⟨(s.stands i c).lv, (s.stands i c).cl, { f with iso := true }, s.top :: s.up⟩
  | none => ⟨(s.stands i c).lv, (s.stands i c).cl, { s.top with is := s.top.is + 1 }, s.up⟩

/-- What is left behind the last isolate's frame. -/
def heldUp : Fr → List Fr → Option (Fr × List Fr)
  | _, [] => none
  | t, f :: r => if t.iso then some (f, r) else heldUp f r

def LS.closes (s : LS) (i : Nat) (c : Int) : LS :=
  if 0 < s.top.is then LS.stands ⟨s.lv, s.cl, { s.top with is := s.top.is - 1 }, s.up⟩ i c
  else match heldUp s.top s.up with
    | some (f, r) => LS.stands ⟨s.lv, s.cl, f, r⟩ i c
    | none => s.stands i c

def LS.leaves (s : LS) (i : Nat) (base : Int) : LS :=
  if 0 < s.top.is then s.goes i base
  else if 0 < s.top.em then ⟨(s.goes i base).lv, (s.goes i base).cl, { s.top with em := s.top.em - 1 }, s.up⟩
  else match s.up with
    | f :: r => if s.top.iso then s.goes i base else ⟨(s.goes i base).lv, (s.goes i base).cl, f, r⟩
    | [] => s.goes i base

def LS.ends (s : LS) (i : Nat) (base c : Int) : LS := LS.stands ⟨s.lv, s.cl, ⟨base, 0, false, 0, 0⟩, []⟩ i c

/-- Is the first strong class between two places R or AL? -/
def erw (l : List Int) (mt : Nat → Int) : Nat → Nat → Nat → Bool
  | 0, _, _ => false
  | f + 1, i, z =>
    if z ≤ i then false
    else if l.getD i 0 = 2 ∨ l.getD i 0 = 3 then true
    else if l.getD i 0 = 1 ∨ l.getD i 0 = 11 then false
    else if initB (l.getD i 0) = true then (if mt i < 0 then false else erw l mt f ((mt i).toNat + 1) z)
    else erw l mt f (i + 1) z

def isoTo (n : Nat) (m : Int) : Nat := if m < 0 then n else m.toNat
def isoR (l : List Int) (mt : Nat → Int) (i : Nat) : Bool :=
  decide (l.getD i 0 = 21) || (decide (l.getD i 0 = 22) && erw l mt l.length (i + 1) (isoTo l.length (mt i)))

def LS.step (l : List Int) (mt : Nat → Int) (base : Int) (i : Nat) (s : LS) : LS :=
  if 15 ≤ l.getD i 0 ∧ l.getD i 0 ≤ 18 then s.embeds i base (l.getD i 0)
  else if l.getD i 0 = 19 then s.leaves i base
  else if initB (l.getD i 0) = true then s.isos i (l.getD i 0) (isoR l mt i)
  else if l.getD i 0 = 23 then s.closes i (l.getD i 0)
  else if l.getD i 0 = 11 then s.ends i base (l.getD i 0)
  else if l.getD i 0 = 10 then s.goes i base
  else s.stands i (l.getD i 0)

def lrun (l : List Int) (mt : Nat → Int) (base : Int) : Nat → LS
  | 0 => ⟨fun _ => 0, fun _ => 0, ⟨base, 0, false, 0, 0⟩, []⟩
  | i + 1 => LS.step l mt base i (lrun l mt base i)

/-! What holds of the frames. -/
structure FrOK (k : Nat) (f : Fr) : Prop where
  l0 : 0 ≤ f.lev
  l1 : f.lev ≤ 125
  o0 : 0 ≤ f.ov
  o1 : f.ov ≤ 2
  i0 : 0 ≤ f.is
  i1 : f.is ≤ k
  e0 : 0 ≤ f.em
  e1 : f.em ≤ k

/-- The last one is no isolate's. -/
def botOK : Fr → List Fr → Prop
  | t, [] => t.iso = false
  | _, f :: r => botOK f r

structure LSOK (k : Nat) (s : LS) : Prop where
  top : FrOK k s.top
  up : ∀ f ∈ s.up, FrOK k f
  bot : botOK s.top s.up
  lv : ∀ i, 0 ≤ s.lv i ∧ s.lv i ≤ 125

theorem FrOK.succ {k : Nat} {f : Fr} (h : FrOK k f) : FrOK (k + 1) f := ⟨h.l0, h.l1, h.o0, h.o1, h.i0, by have := h.i1; omega, h.e0, by have := h.e1; omega⟩

theorem nextL_bd {lev : Int} {r : Bool} : lev < nextL lev r ∧ nextL lev r ≤ lev + 2 ∧ (nextL lev r % 2 = 1 ↔ r = true) := by
  unfold nextL
  cases r <;> simp <;> split <;> omega

theorem frIn_ok {k : Nat} {f g : Fr} {r : Bool} (h : FrOK k f) (e : frIn f r = some g) : FrOK (k + 1) g ∧ g.iso = false ∧ g.ov = 0 ∧ g.lev = nextL f.lev r ∧ g.is = 0 ∧ g.em = 0 := by
  unfold frIn at e
  split at e
  · rename_i h1
    injection e with e
    subst e
    have := nextL_bd (lev := f.lev) (r := r)
    have := h.l0
    exact ⟨⟨by simp only; omega, h1.1, by simp, by simp, by simp, by simp only; omega, by simp, by simp only; omega⟩, rfl, rfl, rfl, rfl, rfl⟩
  · cases e

theorem stands_ok {k i : Nat} {s : LS} {c : Int} (h : LSOK k s) : LSOK k (s.stands i c) :=
  ⟨h.top, h.up, h.bot, fun j => by
    simp only [LS.stands, upd]
    split
    · exact ⟨h.top.l0, h.top.l1⟩
    · exact h.lv j⟩

theorem goes_ok {k i : Nat} {s : LS} {base : Int} (hb : 0 ≤ base ∧ base ≤ 125) (h : LSOK k s) : LSOK k (s.goes i base) :=
  ⟨h.top, h.up, h.bot, fun j => by
    simp only [LS.goes, upd]
    split
    · split
      · exact hb
      · exact h.lv _
    · exact h.lv j⟩

theorem LSOK.succ {k : Nat} {s : LS} (h : LSOK k s) : LSOK (k + 1) s := ⟨h.top.succ, fun f hf => (h.up f hf).succ, h.bot, h.lv⟩

theorem botOK.top {t u : Fr} {r : List Fr} (h : botOK t r) (e : u.iso = t.iso) : botOK u r := by
  cases r with
  | nil => exact e.trans h
  | cons f r => exact h

theorem heldUp_ok {k : Nat} : ∀ (r : List Fr) (t : Fr), botOK t r → (∀ f ∈ r, FrOK k f) → ∀ g q, heldUp t r = some (g, q) → FrOK k g ∧ (∀ f ∈ q, FrOK k f) ∧ botOK g q := by
  intro r
  induction r with
  | nil => intro t _ _ g q e; simp [heldUp] at e
  | cons f r ih =>
    intro t hb hr g q e
    rw [heldUp] at e
    split at e
    · injection e with e
      injection e with e1 e2
      subst e1 e2
      exact ⟨hr _ (by simp), fun x hx => hr x (by simp [hx]), hb⟩
    · exact ih f hb (fun x hx => hr x (by simp [hx])) g q e

theorem step_ok {l : List Int} {mt : Nat → Int} {base : Int} {k : Nat} {s : LS} (hb : 0 ≤ base ∧ base ≤ 125) (h : LSOK k s) : LSOK (k + 1) (LS.step l mt base k s) := by
  have hg := goes_ok (i := k) hb h
  have hsT : ∀ c, LSOK k (s.stands k c) := fun c => stands_ok h
  unfold LS.step
  split
  · unfold LS.embeds
    split
    · rename_i f hf
      obtain ⟨h1, h2, h3, -⟩ := frIn_ok h.top hf
      refine ⟨⟨h1.l0, h1.l1, ?_, ?_, h1.i0, h1.i1, h1.e0, h1.e1⟩, ?_, h.bot, hg.lv⟩
      · simp only [embO]; repeat' split
        all_goals omega
      · simp only [embO]; repeat' split
        all_goals omega
      · intro x hx
        rcases List.mem_cons.1 hx with rfl | hx
        · exact h.top.succ
        · exact (h.up x hx).succ
    · split
      · exact ⟨⟨h.top.l0, h.top.l1, h.top.o0, h.top.o1, h.top.i0, by have := h.top.i1; simp only; omega, by have := h.top.e0; simp only; omega, by have := h.top.e1; simp only; omega⟩, fun f hf => (h.up f hf).succ, h.bot.top rfl, hg.lv⟩
      · exact hg.succ
  · split
    · unfold LS.leaves
      split
      · exact hg.succ
      · split
        · rename_i he
          exact ⟨⟨h.top.l0, h.top.l1, h.top.o0, h.top.o1, h.top.i0, by have := h.top.i1; simp only; omega, by simp only; omega, by have := h.top.e1; simp only; omega⟩, fun f hf => (h.up f hf).succ, h.bot.top rfl, hg.lv⟩
        · split
          · rename_i f r hu
            split
            · exact hg.succ
            · have hup := h.up
              have hbot := h.bot
              rw [hu] at hup hbot
              exact ⟨(hup f (by simp)).succ, fun x hx => (hup x (by simp [hx])).succ, hbot, hg.lv⟩
          · exact hg.succ
    · split
      · unfold LS.isos
        split
        · rename_i f hf
          obtain ⟨h1, h2, h3, -⟩ := frIn_ok h.top hf
          refine ⟨⟨h1.l0, h1.l1, h1.o0, h1.o1, h1.i0, h1.i1, h1.e0, h1.e1⟩, ?_, h.bot, (hsT (l.getD k 0)).lv⟩
          intro x hx
          rcases List.mem_cons.1 hx with rfl | hx
          · exact h.top.succ
          · exact (h.up x hx).succ
        · exact ⟨⟨h.top.l0, h.top.l1, h.top.o0, h.top.o1, by have := h.top.i0; simp only; omega, by have := h.top.i1; simp only; omega, h.top.e0, by have := h.top.e1; simp only; omega⟩, fun f hf => (h.up f hf).succ, h.bot.top rfl, (hsT (l.getD k 0)).lv⟩
      · split
        · unfold LS.closes
          split
          · rename_i hi
            refine stands_ok ⟨⟨h.top.l0, h.top.l1, h.top.o0, h.top.o1, by simp only; omega, by have := h.top.i1; simp only; omega, h.top.e0, by have := h.top.e1; simp only; omega⟩, fun f hf => (h.up f hf).succ, h.bot.top rfl, h.lv⟩
          · split
            · rename_i f r hu
              obtain ⟨h1, h2, h3⟩ := heldUp_ok _ _ h.bot h.up _ _ hu
              exact stands_ok ⟨h1.succ, fun x hx => (h2 x hx).succ, h3, h.lv⟩
            · exact (hsT _).succ
        · split
          · exact stands_ok ⟨⟨hb.1, hb.2, by simp, by simp, by simp, by simp only; omega, by simp, by simp only; omega⟩, fun f hf => by simp at hf, rfl, h.lv⟩
          · split
            · exact hg.succ
            · exact (hsT _).succ

theorem lrun_ok (l : List Int) (mt : Nat → Int) {base : Int} (hb : 0 ≤ base ∧ base ≤ 125) (k : Nat) : LSOK k (lrun l mt base k) := by
  induction k with
  | zero => exact ⟨⟨hb.1, hb.2, by simp [lrun], by simp [lrun], by simp [lrun], by simp [lrun], by simp [lrun], by simp [lrun]⟩, fun f hf => by simp [lrun] at hf, rfl, fun i => by simp [lrun]⟩
  | succ k ih => exact step_ok hb ih

/-! In memory. -/
def frv (up : Value) (f : Fr) : Nat → Value := fun i => if i = 0 then up else if i = 1 then .int .u8 f.lev else if i = 2 then .int .u8 f.ov else if i = 3 then .bool f.iso else if i = 4 then .int .i64 f.is else .int .i64 f.em

def ptrOf : List (Nat × Fr) → Value
  | [] => .pointer none
  | x :: _ => .pointer (some ⟨x.1, 0, none⟩)

def Chn (w : World) (lo : Nat) (av : List Nat) : List (Nat × Fr) → Prop
  | [] => True
  | x :: r => lo ≤ x.1 ∧ x.1 ∉ av ∧ (∀ y ∈ r, y.1 < x.1) ∧ w.rowIs x.1 80 6 (frv (ptrOf r) x.2) ∧ Chn w lo av r

theorem Chn.lt {w : World} {lo : Nat} {av : List Nat} : ∀ {r : List (Nat × Fr)}, Chn w lo av r → ∀ y ∈ r, y.1 < w.heap.size ∧ lo ≤ y.1 ∧ y.1 ∉ av := by
  intro r
  induction r with
  | nil => intro _ y hy; simp at hy
  | cons x r ih =>
    intro h y hy
    rcases List.mem_cons.1 hy with rfl | hy
    · exact ⟨h.2.2.2.1.lt, h.1, h.2.1⟩
    · exact ih h.2.2.2.2 y hy

/-- The blocks of a chain are as they were. -/
theorem Chn.of_blocks {w w' : World} {lo : Nat} {av : List Nat} : ∀ {r : List (Nat × Fr)}, Chn w lo av r → (∀ y ∈ r, w'.heap[y.1]? = w.heap[y.1]?) → Chn w' lo av r := by
  intro r
  induction r with
  | nil => intro _ _; trivial
  | cons x r ih =>
    intro h e
    exact ⟨h.1, h.2.1, h.2.2.1, h.2.2.2.1.of_block (e x (by simp)), ih h.2.2.2.2 (fun y hy => e y (by simp [hy]))⟩

theorem Chn.setOther {w : World} {lo : Nat} {av : List Nat} {r : List (Nat × Fr)} (h : Chn w lo av r) {a : Addr} (ha : ∀ y ∈ r, y.1 ≠ a.block) (v : Value) : Chn (w.setCell a v) lo av r :=
  h.of_blocks fun y hy => Go.Deep.blk_setCell_other _ _ _ _ (ha y hy)

theorem Chn.alloc {w : World} {lo : Nat} {av : List Nat} {r : List (Nat × Fr)} (h : Chn w lo av r) (o : Obj) : Chn (w.alloc o) lo av r :=
  h.of_blocks fun y hy => Go.Deep.blk_alloc_lt _ _ _ (h.lt y hy).1

theorem Chn.drew {w : World} {lo : Nat} {av : List Nat} {r : List (Nat × Fr)} (h : Chn w lo av r) : Chn w.drew lo av r := h.of_blocks fun _ _ => rfl

/-- What stays: the classes, who matches whom, the base, the blocks. -/
structure WK where
  l : List Int
  mt : Nat → Int
  base : Int
  ao : Option Addr
  cap : Nat
  b : Nat
  off : Nat
  bw : Nat
  bm : Nat
  bl : Nat
  bc : Nat

def wkv (K : WK) (p : Value) : Nat → Value := fun i => if i = 0 then .slice K.ao K.l.length K.cap else if i = 1 then .slice (some ⟨K.bm, 0, none⟩) K.l.length K.l.length else if i = 2 then .int .u8 K.base else if i = 3 then .slice (some ⟨K.bl, 0, none⟩) K.l.length K.l.length else if i = 4 then .slice (some ⟨K.bc, 0, none⟩) K.l.length K.l.length else p

structure WRel (w wr : World) (K : WK) (lv cl : Nat → Int) (B : Nat) (t : Fr) (bs : List (Nat × Fr)) : Prop where
  since : w.Since w.heap.size wr
  reads : Reads w .u8 K.ao K.b K.off K.l
  lw : w.heap.size ≤ K.bw
  lm : w.heap.size ≤ K.bm
  ll : w.heap.size ≤ K.bl
  lc : w.heap.size ≤ K.bc
  wm : K.bw ≠ K.bm
  wl : K.bw ≠ K.bl
  wc : K.bw ≠ K.bc
  ml : K.bm ≠ K.bl
  mc : K.bm ≠ K.bc
  lcn : K.bl ≠ K.bc
  wk : wr.rowIs K.bw 73 6 (wkv K (.pointer (some ⟨B, 0, none⟩)))
  m : wr.rowIs K.bm 3 K.l.length (fun i => .int .i64 (K.mt i))
  lv : wr.rowIs K.bl 5 K.l.length (fun i => .int .u8 (lv i))
  cl : wr.rowIs K.bc 34 K.l.length (fun i => .int .u8 (cl i))
  chn : Chn wr w.heap.size [K.bw, K.bm, K.bl, K.bc] ((B, t) :: bs)

theorem WRel.drew {w wr : World} {K : WK} {lv cl : Nat → Int} {B : Nat} {t : Fr} {bs : List (Nat × Fr)} (h : WRel w wr K lv cl B t bs) : WRel w wr.drew K lv cl B t bs :=
  { h with since := h.since.drew, wk := h.wk.drew, m := h.m.drew, lv := h.lv.drew, cl := h.cl.drew, chn := h.chn.drew }

theorem WRel.away {w wr : World} {K : WK} {lv cl : Nat → Int} {B : Nat} {t : Fr} {bs : List (Nat × Fr)} (h : WRel w wr K lv cl B t bs) : ∀ y ∈ (B, t) :: bs, y.1 ≠ K.bw ∧ y.1 ≠ K.bm ∧ y.1 ≠ K.bl ∧ y.1 ≠ K.bc := by
  intro y hy
  have := (h.chn.lt y hy).2.2
  simp at this
  exact this

/-- A level is stored. -/
theorem WRel.setLv {w wr : World} {K : WK} {lv cl : Nat → Int} {B : Nat} {t : Fr} {bs : List (Nat × Fr)} (h : WRel w wr K lv cl B t bs) (i : Nat) (v : Int) : WRel w (wr.setCell ⟨K.bl, i, none⟩ (.int .u8 v)) K (upd lv i v) cl B t bs :=
  { h with since := h.since.setCell h.ll _, wk := h.wk.setOther h.wl _, m := h.m.setOther h.ml _, lv := (h.lv.set i _).congr (fun j _ => by simp only [upd]; split <;> rfl), cl := h.cl.setOther (fun e => h.lcn e.symm) _, chn := h.chn.setOther (fun y hy => (h.away y hy).2.2.1) _ }

/-- A class is stored. -/
theorem WRel.setCl {w wr : World} {K : WK} {lv cl : Nat → Int} {B : Nat} {t : Fr} {bs : List (Nat × Fr)} (h : WRel w wr K lv cl B t bs) (i : Nat) (v : Int) : WRel w (wr.setCell ⟨K.bc, i, none⟩ (.int .u8 v)) K lv (upd cl i v) B t bs :=
  { h with since := h.since.setCell h.lc _, wk := h.wk.setOther h.wc _, m := h.m.setOther h.mc _, lv := h.lv.setOther h.lcn _, cl := (h.cl.set i _).congr (fun j _ => by simp only [upd]; split <;> rfl), chn := h.chn.setOther (fun y hy => (h.away y hy).2.2.2) _ }

/-- Something of the last frame is stored. -/
theorem WRel.setTop {w wr : World} {K : WK} {lv cl : Nat → Int} {B : Nat} {t t' : Fr} {bs : List (Nat × Fr)} (h : WRel w wr K lv cl B t bs) (i : Nat) (v : Value) (e : ∀ j, j < 6 → (if j = i then v else frv (ptrOf bs) t j) = frv (ptrOf bs) t' j) : WRel w (wr.setCell ⟨B, i, none⟩ v) K lv cl B t' bs :=
  have ha := h.away (B, t) (by simp)
  { h with
    since := h.since.setCell h.chn.1 _, wk := h.wk.setOther (fun e => ha.1 e.symm) _, m := h.m.setOther (fun e => ha.2.1 e.symm) _, lv := h.lv.setOther (fun e => ha.2.2.1 e.symm) _, cl := h.cl.setOther (fun e => ha.2.2.2 e.symm) _
    chn := ⟨h.chn.1, h.chn.2.1, h.chn.2.2.1, (h.chn.2.2.2.1.set i v).congr e, h.chn.2.2.2.2.setOther (fun y hy => by have := h.chn.2.2.1 y hy; simp only at this ⊢; omega) _⟩ }

/-- The walker's frame is another one: a part of the chain. -/
theorem WRel.setF {w wr : World} {K : WK} {lv cl : Nat → Int} {B B' : Nat} {t t' : Fr} {bs bs' : List (Nat × Fr)} (h : WRel w wr K lv cl B t bs) (hc : Chn wr w.heap.size [K.bw, K.bm, K.bl, K.bc] ((B', t') :: bs')) : WRel w (wr.setCell ⟨K.bw, 5, none⟩ (.pointer (some ⟨B', 0, none⟩))) K lv cl B' t' bs' :=
  { h with
    since := h.since.setCell h.lw _, m := h.m.setOther (fun e => h.wm e.symm) _, lv := h.lv.setOther (fun e => h.wl e.symm) _, cl := h.cl.setOther (fun e => h.wc e.symm) _
    wk := (h.wk.set 5 _).congr (fun j hj => by
      unfold wkv
      by_cases e5 : j = 5
      · subst e5; simp
      · rw [if_neg e5]
        have : j = 0 ∨ j = 1 ∨ j = 2 ∨ j = 3 ∨ j = 4 := by omega
        rcases this with rfl | rfl | rfl | rfl | rfl <;> simp)
    chn := hc.setOther (fun y hy => by
      have := (hc.lt y hy).2.2
      simp at this
      exact this.1) _ }

/-- A new frame is made. -/
theorem WRel.alloc {w wr : World} {K : WK} {lv cl : Nat → Int} {B : Nat} {t : Fr} {bs : List (Nat × Fr)} (h : WRel w wr K lv cl B t bs) (o : Obj) : WRel w (wr.alloc o) K lv cl B t bs :=
  { h with since := h.since.alloc h.since.size _, wk := h.wk.alloc _, m := h.m.alloc _, lv := h.lv.alloc _, cl := h.cl.alloc _, chn := h.chn.alloc _ }

/-- A new frame's chain. -/
theorem WRel.grown {w wr : World} {K : WK} {lv cl : Nat → Int} {B : Nat} {t f : Fr} {bs : List (Nat × Fr)} (h : WRel w wr K lv cl B t bs) {p : Value} {up : List (Nat × Fr)} (hp : p = ptrOf up) (hu : Chn wr w.heap.size [K.bw, K.bm, K.bl, K.bc] up) :
    Chn (wr.alloc (.cells #[p, .int .u8 f.lev, .int .u8 f.ov, .bool f.iso, .int .i64 f.is, .int .i64 f.em] 80)) w.heap.size [K.bw, K.bm, K.bl, K.bc] ((wr.heap.size, f) :: up) := by
  subst hp
  have hs := h.since.size
  refine ⟨hs, ?_, fun y hy => (hu.lt y hy).1, ?_, hu.alloc _⟩
  · have h1 := h.wk.lt
    have h2 := h.m.lt
    have h3 := h.lv.lt
    have h4 := h.cl.lt
    simp only [List.mem_cons, List.not_mem_nil, or_false]
    omega
  · exact World.rowIs_alloc wr _ 80 _ (fun i hi => by
      have : i = 0 ∨ i = 1 ∨ i = 2 ∨ i = 3 ∨ i = 4 ∨ i = 5 := by simp at hi; omega
      rcases this with rfl | rfl | rfl | rfl | rfl | rfl <;> rfl)

/-- A walker that stands. -/
def WAt (w wr : World) (K : WK) (s : LS) : Prop := ∃ B bs, WRel w wr K s.lv s.cl B s.top bs ∧ bs.map (·.2) = s.up

def WDone (w : World) (K : WK) (s : LS) (e : Ending) (w' : World) : Prop := e = .returned (.tuple #[]) ∧ WAt w w' K s
end Go.Proofs.Ytkfjhannbnijkaa
