/- The reference's Sequences, walked. -/
import Derived.Test.YtkfjhannbnijkaaH
import Derived.Test.YtkfjhannbnijkaaC
import Derived.Deep.RegionLaw
namespace Go.Proofs.Ytkfjhannbnijkaa
open Go.RowKit

theorem Try.info61 : (Try.prog.info? 61).map (fun i => (i.zero, i.size, i.bytes)) = some (some (.agg #[.slice none 0 0, .int .u8 0, .int .u8 0, .int .u8 0]), 4, 32) := by kernel_rfl

set_option maxRecDepth 100000 in
set_option maxHeartbeats 400000 in
theorem rseq_limit (n nl cap cl : Nat) (ao al : Option Addr) (base : Int) (w : World) (h : 65536 < n) (hm : n ≤ 9223372036854775807) :
    Calls Try.prog 16 #[.slice ao n cap, .slice al nl cl, .int .u8 base] w (SeqErr w 3) := by
  go_enter Try.func16, Try.ntmps16
  go_wp2
  go_ret2
  exact ⟨rfl, rfl⟩

set_option maxRecDepth 100000 in
set_option maxHeartbeats 400000 in
theorem rseq_arg (n nl cap cl : Nat) (ao al : Option Addr) (base : Int) (w : World) (h : n ≤ 65536) (hne : n ≠ nl) :
    Calls Try.prog 16 #[.slice ao n cap, .slice al nl cl, .int .u8 base] w (SeqErr w 2) := by
  have hz : ((n : Int) != (nl : Int)) = true := by rw [bne_iff_ne]; omega
  clear hne
  go_enter Try.func16, Try.ntmps16
  go_wp2
  go_ret2
  exact ⟨rfl, rfl⟩

/-- The row of places, as the first loop fills it. -/
structure L1 (w wr : World) (n br ba : Nat) (al : Value) (base : Int) (vp : Value) (P : List Int) (atl : Nat → Int) : Prop where
  since : w.Since w.heap.size wr
  lr : w.heap.size ≤ br
  la : br < ba
  sz : ba < wr.heap.size
  r : wr.rowIs br 57 3 (fun i => if i = 0 then vp else if i = 1 then al else .int .u8 base)
  a : wr.rowIs ba 3 n (fun i => .int .i64 (atl i))
  p : wr.ownsRow (ba + 1) 3 1 vp P.length (P.map (Value.int .i64))

theorem at_upd {l : List Int} {k n : Nat} {x : Int} (h : atf l k = x) : ∀ i, i < n → upd (fun i => if i < k then atf l i else 0) k x i = if i < k + 1 then atf l i else 0 := by
  intro i _
  simp only [upd]
  by_cases e : i = k
  · subst e; rw [if_pos rfl, if_pos (by omega), h]
  · rw [if_neg e]
    by_cases e2 : i < k
    · rw [if_pos e2, if_pos (by omega)]
    · rw [if_neg e2, if_neg (by omega)]

namespace L1
variable {w wr : World} {n br ba : Nat} {al : Value} {base : Int} {vp : Value} {P : List Int} {atl : Nat → Int}
theorem setA (h : L1 w wr n br ba al base vp P atl) (i : Nat) (v : Int) : L1 w (wr.setCell ⟨ba, i, none⟩ (.int .i64 v)) n br ba al base vp P (upd atl i v) := by
  have h1 := h.lr; have h2 := h.la
  exact ⟨h.since.setCell (by show w.heap.size ≤ ba; omega) _, h1, h2, by simpa [World.setCell] using h.sz, h.r.setOther (by show br ≠ ba; omega) _, (h.a.set i _).congr (fun j _ => by simp only [upd]; split <;> rfl),
    h.p.kept (grownBy_setCell wr ⟨ba, i, none⟩ _) (own_base h.p (by show ba < ba + 1; omega))⟩
theorem told (h : L1 w wr n br ba al base vp P atl) {atl' : Nat → Int} (e : ∀ i, i < n → atl i = atl' i) : L1 w wr n br ba al base vp P atl' :=
  ⟨h.since, h.lr, h.la, h.sz, h.r, h.a.congr (fun i hi => by rw [e i hi]), h.p⟩
theorem cell0 (h : L1 w wr n br ba al base vp P atl) : wr.cell? ⟨br, 0, none⟩ = some vp := h.r.cell (i := 0) (by omega)
theorem cell1 (h : L1 w wr n br ba al base vp P atl) : wr.cell? ⟨br, 1, none⟩ = some al := h.r.cell (i := 1) (by omega)
theorem cell2 (h : L1 w wr n br ba al base vp P atl) : wr.cell? ⟨br, 2, none⟩ = some (.int .u8 base) := h.r.cell (i := 2) (by omega)
theorem pshape (h : L1 w wr n br ba al base vp P atl) : ∃ a c, vp = .slice a P.length c := by
  rcases h.p.2 with ⟨rfl, e⟩ | ⟨g, cap, cur, rfl, _⟩
  · exact ⟨_, _, by rw [e]⟩
  · exact ⟨_, _, rfl⟩
/-- Behind the append to the places: what r's first cell held is there yet. -/
theorem between (h : L1 w wr n br ba al base vp P atl) {o : Obj} {w4 : World} (hg : (wr.alloc o).grownBy w4 vp.ownBlock) : w4.cell? ⟨br, 0, none⟩ = some vp ∧ w4.frozen? ⟨br, 0, none⟩ = false := by
  have hla := h.la
  have hsz := h.sz
  have e : w4.heap[br]? = wr.heap[br]? := (hg.block br (by simp; omega) (fun e => by have := (h.p.lt br e.symm).1; omega)).trans (Below.heap_alloc wr o br (by omega))
  have hr := h.r.of_block e
  exact ⟨hr.cell (i := 0) (by omega), hr.frozen 0⟩
theorem push (h : L1 w wr n br ba al base vp P atl) {o : Obj} {w4 : World} {g cap : Nat} {i : Int} (hg : (wr.alloc o).grownBy w4 vp.ownBlock)
    (hn : w4.ownsRow (ba + 1) 3 1 (.slice (some ⟨g, 0, none⟩) (P.length + 1) cap) (P.length + 1) (P.map (Value.int .i64) ++ [.int .i64 i])) :
    L1 w (w4.setCell ⟨br, 0, none⟩ (.slice (some ⟨g, 0, none⟩) (P.length + 1) cap)) n br ba al base (.slice (some ⟨g, 0, none⟩) (P.length + 1) cap) (P ++ [i]) atl := by
  have hla := h.la
  have hlr := h.lr
  have hsz := h.sz
  have e : ∀ k, k ≤ ba → w4.heap[k]? = wr.heap[k]? := fun k hk => (hg.block k (by simp; omega) (fun e => by have := (h.p.lt k e.symm).1; omega)).trans (Below.heap_alloc wr o k (by omega))
  have hs := h.since.alloc h.since.size o
  have hgl := (hn.lt g rfl).1
  refine ⟨(hs.grown hg hs.size (fun k e => by have := (h.p.lt k e).1; omega)).setCell (by show w.heap.size ≤ br; omega) _, hlr, hla, by have := hg.size; simp at this; simp [World.setCell]; omega,
    ((h.r.of_block (e br (by omega))).set 0 _).congr (fun j _ => ?_), (h.a.of_block (e ba (by omega))).setOther (by show ba ≠ br; omega) _, ?_⟩
  · by_cases e : j = 0
    · subst e; rfl
    · simp only [if_neg e]
  · have hk := hn.kept (grownBy_setCell w4 ⟨br, 0, none⟩ (.slice (some ⟨g, 0, none⟩) (P.length + 1) cap)) (own_base hn (by show br < ba + 1; omega))
    simpa using hk
end L1

/-- What the second and the third loop only read. -/
structure Stat (w1 : World) (n br ba bm : Nat) (pa : Option Addr) (qc : Nat) (vl : Value) (base : Int) (bp : Nat) (P : List Int) (atl mt : Nat → Int) (ao al : Option Addr) (b off bl ol : Nat) (l L : List Int) : Prop where
  c0 : w1.cell? ⟨br, 0, none⟩ = some (.slice pa P.length qc)
  c1 : w1.cell? ⟨br, 1, none⟩ = some vl
  c2 : w1.cell? ⟨br, 2, none⟩ = some (.int .u8 base)
  p : Reads w1 .i64 pa bp 0 P
  a : ∀ i, i < n → w1.cell? ⟨ba, i, none⟩ = some (.int .i64 (atl i))
  m : ∀ i, i < n → w1.cell? ⟨bm, i, none⟩ = some (.int .i64 (mt i))
  l : Reads w1 .u8 ao b off l
  lv : Reads w1 .u8 al bl ol L

theorem cell_since {w w' : World} {a : Addr} {v : Value} (h : w.cell? a = some v) (hs : w.Since w.heap.size w') : w'.cell? a = some v := by
  rw [hs.cell (World.block_lt_of_cell? _ _ h)]; exact h

theorem Stat.since {w1 w2 : World} {n br ba bm : Nat} {pa : Option Addr} {qc : Nat} {vl : Value} {base : Int} {bp : Nat} {P : List Int} {atl mt : Nat → Int} {ao al : Option Addr} {b off bl ol : Nat} {l L : List Int}
    (h : Stat w1 n br ba bm pa qc vl base bp P atl mt ao al b off bl ol l L) (hs : w1.Since w1.heap.size w2) : Stat w2 n br ba bm pa qc vl base bp P atl mt ao al b off bl ol l L :=
  ⟨cell_since h.c0 hs, cell_since h.c1 hs, cell_since h.c2 hs, h.p.since hs, fun i hi => cell_since (h.a i hi) hs, fun i hi => cell_since (h.m i hi) hs, h.l.since hs, h.lv.since hs⟩

theorem L1.reads {w wr : World} {n br ba : Nat} {al : Value} {base : Int} {P : List Int} {atl : Nat → Int} {qa : Option Addr} {qc : Nat} (h : L1 w wr n br ba al base (.slice qa P.length qc) P atl) : ∃ bp, Reads wr .i64 qa bp 0 P := by
  rcases h.p.2 with ⟨e, e0⟩ | ⟨g, cap, cur, e, _⟩
  · exact ⟨0, ⟨fun h => by omega, fun i hi => by omega⟩⟩
  · injection e with e1 e2 e3
    subst e1
    refine ⟨g, ⟨fun _ => rfl, fun i hi => ?_⟩⟩
    rw [Nat.zero_add, h.p.cellAt i (by omega), List.getElem?_map, List.getElem?_eq_getElem hi, List.getD_eq_getElem?_getD, List.getElem?_eq_getElem hi]
    rfl

theorem ends_r (P L : List Int) (base : Int) (k : Nat) (hk : k ≤ 69000) (nl cp cl : Nat) (hnl : L.length = nl) (hlim : P.length ≤ 70000 ∧ nl ≤ 70000) (ap al : Option Addr) (bp op bl ol : Nat) (w : World)
    (hp : Reads w .i64 ap bp op P) (hl : Reads w .u8 al bl ol L) (hP : ∀ i, i < P.length → 0 ≤ P.getD i 0 ∧ P.getD i 0 < nl) :
    Calls Try.prog 31 #[.agg #[.slice ap P.length cp, .slice al nl cl, .int .u8 base], .int .i64 k] w (Since0 w (.bool (rends P L base k))) :=
  ends_any P L base k hk P.length nl cp cl rfl hnl hlim ap al bp op bl ol w hp hl hP

theorem begins_r (P L : List Int) (base : Int) (k : Nat) (hk : k ≤ 69000) (nl cp cl : Nat) (hnl : L.length = nl) (hlim : P.length ≤ 70000 ∧ nl ≤ 70000) (ap al : Option Addr) (bp op bl ol : Nat) (w : World)
    (hp : Reads w .i64 ap bp op P) (hl : Reads w .u8 al bl ol L) (hP : ∀ i, i < P.length → 0 ≤ P.getD i 0 ∧ P.getD i 0 < nl) :
    Calls Try.prog 33 #[.agg #[.slice ap P.length cp, .slice al nl cl, .int .u8 base], .int .i64 k] w (Since0 w (.bool (rbegins P L base k))) :=
  begins_any P L base k hk P.length nl cp cl rfl hnl hlim ap al bp op bl ol w hp hl hP

theorem quietS {P : Program} {f : FuncId} {args : Array Value} {w : World} {n : Nat} {v : Value}
    (h : Calls P f args (w.drewN n) fun e w' => e = .returned v ∧ w.drewN n = w') : Calls P f args (w.drewN n) fun e w'' => e = .returned v ∧ ∃ m, w'' = w.drewN m :=
  h.mono fun _ _ ⟨he, hm⟩ => ⟨he, n, hm.symm⟩

theorem since_then {w0 wa wb : World} (h : w0.Since w0.heap.size wa) (hs : wa.Since wa.heap.size wb) : w0.Since w0.heap.size wb :=
  h.trans ⟨hs.os, hs.tape, hs.output, hs.size, fun k hk => hs.block k (by have := h.size; omega)⟩

theorem own_shape {w : World} {B T s : Nat} {v : Value} {n : Nat} {xs : List Value} (h : w.ownsRow B T s v n xs) : ∃ a c, v = .slice a n c := by
  rcases h.2 with ⟨rfl, rfl⟩ | ⟨g, cap, cur, rfl, _⟩
  · exact ⟨_, _, rfl⟩
  · exact ⟨_, _, rfl⟩

theorem six_since {wa wb : World} {a0 a1 a2 a3 a4 a5 : Addr} {v0 v1 v2 v3 v4 v5 : Value} {w0 : World} (h : wa.cell? a0 = some v0 ∧ wa.cell? a1 = some v1 ∧ wa.cell? a2 = some v2 ∧ wa.cell? a3 = some v3 ∧ wa.cell? a4 = some v4 ∧ wa.cell? a5 = some v5 ∧ w0.Since w0.heap.size wa)
    (hs : wa.Since wa.heap.size wb) : wb.cell? a0 = some v0 ∧ wb.cell? a1 = some v1 ∧ wb.cell? a2 = some v2 ∧ wb.cell? a3 = some v3 ∧ wb.cell? a4 = some v4 ∧ wb.cell? a5 = some v5 ∧ w0.Since w0.heap.size wb := by
  obtain ⟨h0, h1, h2, h3, h4, h5, h6⟩ := h
  exact ⟨cell_since h0 hs, cell_since h1 hs, cell_since h2 hs, cell_since h3 hs, cell_since h4 hs, cell_since h5 hs, h6.trans ⟨hs.os, hs.tape, hs.output, hs.size, fun k hk => hs.block k (by have := h6.size; omega)⟩⟩

theorem six_last {wa : World} {a0 a1 a2 a3 a4 a5 : Addr} {v0 v1 v2 v3 v4 v5 : Value} {w0 : World} (h : wa.cell? a0 = some v0 ∧ wa.cell? a1 = some v1 ∧ wa.cell? a2 = some v2 ∧ wa.cell? a3 = some v3 ∧ wa.cell? a4 = some v4 ∧ wa.cell? a5 = some v5 ∧ w0.Since w0.heap.size wa) :
    w0.Since w0.heap.size wa := h.2.2.2.2.2.2

theorem four_since {wa wb : World} {a0 a1 a2 : Addr} {v0 v1 v2 : Value} {w0 : World} (h : wa.cell? a0 = some v0 ∧ wa.cell? a1 = some v1 ∧ wa.cell? a2 = some v2 ∧ w0.Since w0.heap.size wa)
    (hs : wa.Since wa.heap.size wb) : wb.cell? a0 = some v0 ∧ wb.cell? a1 = some v1 ∧ wb.cell? a2 = some v2 ∧ w0.Since w0.heap.size wb := by
  obtain ⟨h0, h1, h2, h6⟩ := h
  exact ⟨cell_since h0 hs, cell_since h1 hs, cell_since h2 hs, h6.trans ⟨hs.os, hs.tape, hs.output, hs.size, fun k hk => hs.block k (by have := h6.size; omega)⟩⟩
theorem four_last {wa : World} {a0 a1 a2 : Addr} {v0 v1 v2 : Value} {w0 : World} (h : wa.cell? a0 = some v0 ∧ wa.cell? a1 = some v1 ∧ wa.cell? a2 = some v2 ∧ w0.Since w0.heap.size wa) : w0.Since w0.heap.size wa := h.2.2.2
theorem since_alloc (w : World) (o : Obj) : w.Since w.heap.size (w.alloc o) := (World.Since.refl _ _).alloc (Nat.le_refl _) o

theorem since_allocN (w : World) (o : Obj) (m : Nat) : w.Since w.heap.size ((w.alloc o).drewN m) := ⟨rfl, rfl, rfl, (since_alloc w o).size, (since_alloc w o).block⟩
theorem since_drew (w : World) : w.Since w.heap.size w.drew := ⟨rfl, rfl, rfl, Nat.le_refl _, fun _ _ => rfl⟩

theorem sinceN_refl (w : World) (n : Nat) : w.Since w.heap.size (w.drewN n) := ⟨rfl, rfl, rfl, Nat.le_refl _, fun _ _ => rfl⟩

def f4 (c0 c1 c2 c3 : Value) : Nat → Value := fun i => if i = 0 then c0 else if i = 1 then c1 else if i = 2 then c2 else c3

/-- A new block of four cells, carried over calls that turn nothing that was there. -/
structure NB (w : World) (B b : Nat) (c0 c1 c2 c3 : Value) : Prop where
  lo : B ≤ b
  row : w.rowIs b 61 4 (f4 c0 c1 c2 c3)
namespace NB
variable {w w4 : World} {B b : Nat} {c0 c1 c2 c3 u0 u1 u2 u3 : Value}
theorem n0 (h : NB w B b c0 c1 c2 c3) : w.cell? ⟨b, 0, none⟩ = some c0 := h.row.cell (i := 0) (by omega)
theorem n1 (h : NB w B b c0 c1 c2 c3) : w.cell? ⟨b, 1, none⟩ = some c1 := h.row.cell (i := 1) (by omega)
theorem n2 (h : NB w B b c0 c1 c2 c3) : w.cell? ⟨b, 2, none⟩ = some c2 := h.row.cell (i := 2) (by omega)
theorem n3 (h : NB w B b c0 c1 c2 c3) : w.cell? ⟨b, 3, none⟩ = some c3 := h.row.cell (i := 3) (by omega)
theorem f (h : NB w B b c0 c1 c2 c3) (i : Nat) : w.frozen? ⟨b, i, none⟩ = false := h.row.frozen i
theorem on (h : NB w B b c0 c1 c2 c3) (hs : w.Since w.heap.size w4) : NB w4 B b c0 c1 c2 c3 := ⟨h.lo, h.row.of_block (hs.block b h.row.lt)⟩
theorem made (hB : B ≤ w.heap.size) : NB (w.alloc (.cells #[c0, c1, c2, c3] 61)) B w.heap.size c0 c1 c2 c3 :=
  ⟨hB, World.rowIs_alloc w #[c0, c1, c2, c3] 61 _ (fun i hi => by
    have hi : i < 4 := hi
    match i, hi with
    | 0, _ => rfl
    | 1, _ => rfl
    | 2, _ => rfl
    | 3, _ => rfl)⟩
theorem new {wr : World} {p0 p1 p2 : Prop} (h : p0 ∧ p1 ∧ p2 ∧ wr.Since wr.heap.size w) (hs : (w.alloc (.cells #[c0, c1, c2, c3] 61)).Since (w.alloc (.cells #[c0, c1, c2, c3] 61)).heap.size w4) : NB w4 wr.heap.size w.heap.size c0 c1 c2 c3 :=
  (made (w := w) h.2.2.2.size).on hs
theorem newD (hs : (w.alloc (.cells #[c0, c1, c2, c3] 61)).drew.Since (w.alloc (.cells #[c0, c1, c2, c3] 61)).drew.heap.size w4) : NB w4 w.heap.size w.heap.size c0 c1 c2 c3 :=
  (made (w := w) (Nat.le_refl _)).on ⟨hs.os, hs.tape, hs.output, hs.size, hs.block⟩
theorem stored (h : NB w B b c0 c1 c2 c3) : NB ((((w.setCell ⟨b, 0, none⟩ u0).setCell ⟨b, 1, none⟩ u1).setCell ⟨b, 2, none⟩ u2).setCell ⟨b, 3, none⟩ u3) B b u0 u1 u2 u3 :=
  ⟨h.lo, ((((h.row.set 0 u0).set 1 u1).set 2 u2).set 3 u3).congr (fun i hi => by
    match i, hi with
    | 0, _ => rfl
    | 1, _ => rfl
    | 2, _ => rfl
    | 3, _ => rfl)⟩
theorem storedSince {wr : World} (h : NB w wr.heap.size b c0 c1 c2 c3) (hs : wr.Since wr.heap.size w) : wr.Since wr.heap.size ((((w.setCell ⟨b, 0, none⟩ u0).setCell ⟨b, 1, none⟩ u1).setCell ⟨b, 2, none⟩ u2).setCell ⟨b, 3, none⟩ u3) :=
  (((hs.setCell h.lo _).setCell h.lo _).setCell h.lo _).setCell h.lo _
theorem own_other (h : NB w B b c0 c1 c2 c3) {B' s n : Nat} {v : Value} {xs : List Value} (ho : w.ownsRow B' 3 s v n xs) : v.ownBlock ≠ some b := by
  intro e
  rcases ho.2 with ⟨rfl, _⟩ | ⟨g, cap, cur, rfl, _, hg, _⟩
  · simp [Value.ownBlock] at e
  · simp only [Value.ownBlock, Option.some.injEq] at e
    subst e
    obtain ⟨c, hb, _⟩ := h.row
    rw [hg] at hb
    simp only [Option.some.injEq, Obj.cells.injEq] at hb
    exact absurd hb.2.1 (by decide)
theorem between (h : NB w B b c0 c1 c2 c3) {n : Nat} {v : Value} {xs : List Value} (ho : w.ownsRow B 3 1 v n xs) {o : Obj} (hg : (w.alloc o).drew.grownBy w4 v.ownBlock) : NB w4 B b c0 c1 c2 c3 :=
  ⟨h.lo, h.row.of_block ((hg.block b (by have := h.row.lt; show b < (w.alloc o).heap.size; simp; omega) (fun e => h.own_other ho e.symm)).trans (Below.heap_alloc w o b h.row.lt))⟩
theorem set0 (h : NB w B b c0 c1 c2 c3) (u : Value) : NB (w.setCell ⟨b, 0, none⟩ u) B b u c1 c2 c3 :=
  ⟨h.lo, (h.row.set 0 u).congr (fun i hi => by
    match i, hi with
    | 0, _ => rfl
    | 1, _ => rfl
    | 2, _ => rfl
    | 3, _ => rfl)⟩
theorem set3 (h : NB w B b c0 c1 c2 c3) (u : Value) : NB (w.setCell ⟨b, 3, none⟩ u) B b c0 c1 c2 u :=
  ⟨h.lo, (h.row.set 3 u).congr (fun i hi => by
    match i, hi with
    | 0, _ => rfl
    | 1, _ => rfl
    | 2, _ => rfl
    | 3, _ => rfl)⟩
end NB

theorem two_of {wr w' : World} {a0 a1 : Addr} {v0 v1 : Value} (h0 : wr.cell? a0 = some v0) (h1 : wr.cell? a1 = some v1) (hs : wr.Since wr.heap.size w') :
    w'.cell? a0 = some v0 ∧ w'.cell? a1 = some v1 ∧ wr.Since wr.heap.size w' := ⟨cell_since h0 hs, cell_since h1 hs, hs⟩
theorem two_last {w0 wa : World} {p0 p1 : Prop} (h : p0 ∧ p1 ∧ w0.Since w0.heap.size wa) : w0.Since w0.heap.size wa := h.2.2
theorem since_app {wo wr w4 : World} {v : Value} {n : Nat} {xs : List Value} {o : Obj} (h : wo.Since wo.heap.size wr) (ho : wr.ownsRow wo.heap.size 3 1 v n xs) (hg : (wr.alloc o).drew.grownBy w4 v.ownBlock) : wo.Since wo.heap.size w4 :=
  ((h.alloc h.size o).drew).grown hg (by have := h.size; show _ ≤ (wr.alloc o).heap.size; simp; omega) (fun k e => (ho.lt k e).1)

def NBAt (wr wx : World) (s18 : Value) (c1 c2 : Value) : Prop := ∃ bs, s18 = .pointer (some ⟨bs, 0, none⟩) ∧ NB wx wr.heap.size bs (.slice none 0 0) c1 c2 (.int .u8 0) ∧ wr.Since wr.heap.size wx

theorem level_S4 {wr w1 : World} {a0 a1 a2 : Addr} {v0 v1 v2 : Value} {n br ba bm : Nat} {pa : Option Addr} {qc : Nat} {vl : Value} {base : Int} {bp : Nat} {P : List Int} {atl mt : Nat → Int} {ao al : Option Addr} {b off bl ol : Nat} {l L : List Int} {cl : Nat}
    (hst : Stat wr n br ba bm pa qc vl base bp P atl mt ao al b off bl ol l L) (hnL : L.length = n) (hlim : P.length ≤ 70000 ∧ n ≤ 70000) (hP : ∀ i, i < P.length → 0 ≤ P.getD i 0 ∧ P.getD i 0 < n) {x : Int} (hk : -70000 ≤ x ∧ x ≤ 70000)
    (h : w1.cell? a0 = some v0 ∧ w1.cell? a1 = some v1 ∧ w1.cell? a2 = some v2 ∧ wr.Since wr.heap.size w1) :
    Calls Try.prog 34 #[.agg #[.slice pa P.length qc, .slice al n cl, .int .u8 base], .int .i64 x] w1 (Since0 w1 (.int .u8 (levI P L base x))) :=
  level_any P L base x hk P.length n qc cl rfl hnL hlim pa al bp 0 bl ol w1 (hst.since h.2.2.2).p (hst.since h.2.2.2).lv hP

theorem four_of {wr w' : World} {a0 a1 a2 : Addr} {v0 v1 v2 : Value} (h0 : wr.cell? a0 = some v0) (h1 : wr.cell? a1 = some v1) (h2 : wr.cell? a2 = some v2) (hs : wr.Since wr.heap.size w') :
    w'.cell? a0 = some v0 ∧ w'.cell? a1 = some v1 ∧ w'.cell? a2 = some v2 ∧ wr.Since wr.heap.size w' := ⟨cell_since h0 hs, cell_since h1 hs, cell_since h2 hs, hs⟩

/-- The second loop's two rows. -/
structure L2 (w1 wr : World) (np be bd : Nat) (ld : Nat → Int) (dd : Nat → Bool) : Prop where
  since : w1.Since w1.heap.size wr
  ne : be ≠ bd
  le : w1.heap.size ≤ be
  lb : w1.heap.size ≤ bd
  e : wr.rowIs be 3 np (fun i => .int .i64 (ld i))
  d : wr.rowIs bd 4 np (fun i => .bool (dd i))

namespace L2
variable {w1 wr : World} {np be bd : Nat} {ld : Nat → Int} {dd : Nat → Bool}
theorem after (h : L2 w1 wr np be bd ld dd) {w2 : World} (hs : wr.Since wr.heap.size w2) : L2 w1 w2 np be bd ld dd :=
  ⟨h.since.trans ⟨hs.os, hs.tape, hs.output, hs.size, fun k hk => hs.block k (by have := h.since.size; omega)⟩, h.ne, h.le, h.lb, h.e.of_block (hs.block _ h.e.lt), h.d.of_block (hs.block _ h.d.lt)⟩
theorem drew (h : L2 w1 wr np be bd ld dd) : L2 w1 wr.drew np be bd ld dd := ⟨h.since.drew, h.ne, h.le, h.lb, h.e.drew, h.d.drew⟩
theorem setE (h : L2 w1 wr np be bd ld dd) (i : Nat) (v : Int) : L2 w1 (wr.setCell ⟨be, i, none⟩ (.int .i64 v)) np be bd (upd ld i v) dd :=
  ⟨h.since.setCell h.le _, h.ne, h.le, h.lb, (h.e.set i _).congr (fun j _ => by simp only [upd]; split <;> rfl), h.d.setOther (fun e => h.ne e.symm) _⟩
theorem setD (h : L2 w1 wr np be bd ld dd) (i : Nat) (v : Bool) : L2 w1 (wr.setCell ⟨bd, i, none⟩ (.bool v)) np be bd ld (updB dd i v) :=
  ⟨h.since.setCell h.lb _, h.ne, h.le, h.lb, h.e.setOther h.ne _, (h.d.set i _).congr (fun j _ => by simp only [updB]; split <;> rfl)⟩
theorem told (h : L2 w1 wr np be bd ld dd) {ld' : Nat → Int} {dd' : Nat → Bool} (e : ∀ i, i < np → ld i = ld' i) (e2 : ∀ i, i < np → dd i = dd' i) : L2 w1 wr np be bd ld' dd' :=
  ⟨h.since, h.ne, h.le, h.lb, h.e.congr (fun i hi => by rw [e i hi]), h.d.congr (fun i hi => by rw [e2 i hi])⟩
theorem start1 (w1 : World) (np : Nat) : L2 w1 ((w1.alloc (.cells (madeCells #[.int .i64 0] np) 3)).alloc (.cells (madeCells #[.bool false] np) 4)) np w1.heap.size (w1.heap.size + 1) (fun _ => 0) (fun _ => false) := by
  have h1 := (World.rowIs_made w1 (.int .i64 0) np 3).alloc (.cells (madeCells #[.bool false] np) 4)
  have h2 := World.rowIs_made (w1.alloc (.cells (madeCells #[.int .i64 0] np) 3)) (.bool false) np 4
  have e : (w1.alloc (.cells (madeCells #[.int .i64 0] np) 3)).heap.size = w1.heap.size + 1 := by simp
  rw [e] at h2
  exact ⟨((World.Since.refl _ _).alloc (Nat.le_refl _) _).alloc (by rw [e]; omega) _, by omega, Nat.le_refl _, by omega, h1, h2⟩
theorem start2 (w1 : World) (np : Nat) : L2 w1 ((w1.alloc (.cells (madeCells #[.bool false] np) 4)).alloc (.cells (madeCells #[.int .i64 0] np) 3)) np (w1.heap.size + 1) w1.heap.size (fun _ => 0) (fun _ => false) := by
  have h1 := (World.rowIs_made w1 (.bool false) np 4).alloc (.cells (madeCells #[.int .i64 0] np) 3)
  have h2 := World.rowIs_made (w1.alloc (.cells (madeCells #[.bool false] np) 4)) (.int .i64 0) np 3
  have e : (w1.alloc (.cells (madeCells #[.bool false] np) 4)).heap.size = w1.heap.size + 1 := by simp
  rw [e] at h2
  exact ⟨((World.Since.refl _ _).alloc (Nat.le_refl _) _).alloc (by rw [e]; omega) _, by omega, by omega, Nat.le_refl _, h2, h1⟩
end L2

def L2At (w1 : World) (np : Nat) (s12 s13 : Value) (wx : World) : Prop :=
  ∃ be bd, s12 = .slice (some ⟨be, 0, none⟩) np np ∧ s13 = .slice (some ⟨bd, 0, none⟩) np np ∧ L2 w1 wx np be bd (fun _ => 0) (fun _ => false)

set_option maxRecDepth 100000 in
set_option maxHeartbeats 20000000 in
theorem rseq_any (l L : List Int) (base : Int) (n : Nat) (hn : l.length = n) (hnL : L.length = n) (hlen : n ≤ 65536) (cap cl : Nat) (ao al : Option Addr) (b off bl ol : Nat) (w : World)
    (hR : Reads w .u8 ao b off l) (hL : Reads w .u8 al bl ol L) (hb : 0 ≤ base ∧ base ≤ 255) (hLr : ∀ i, 0 ≤ L.getD i 0 ∧ L.getD i 0 ≤ 255)
    (hM : ∀ i, 0 ≤ rmat l i → rmat l i < n ∧ remB (l.getD (rmat l i).toNat 0) = false ∧ (initB (l.getD i 0) = true → i < rmat l i)) :
    Calls Try.prog 16 #[.slice ao n cap, .slice al n cl, .int .u8 base] w (SeqDone w 61 (rout l (filt l n) L base (rmat l) (rlead l (filt l n) L base (rmat l) (atf l)) (rled (rlead l (filt l n) L base (rmat l) (atf l)) (filt l n).length) (filt l n).length).1
      (rout l (filt l n) L base (rmat l) (rlead l (filt l n) L base (rmat l) (atf l)) (rled (rlead l (filt l n) L base (rmat l) (atf l)) (filt l n).length) (filt l n).length).2) := by
  have hz : ((n : Int) != (n : Int)) = false := by simp
  have hmk3 := run_make_row' (P := Try.prog) 33 3 (.int .i64 0) 8 Try.underlying33 Try.info3 rfl .i64 .i64 n (by omega) (by omega)
  have hlen2 : n ≤ 70000 := by omega
  have hd : decide ((65536 : Int) < (n : Int)) = false := by simp; omega
  have HLR := Lib.hid hLr
  have HB0 := Lib.hid hb
  have HM := Lib.hid hM
  clear hLr hM
  go_enter Try.func16, Try.ntmps16
  go_wp2_with fail
  obtain ⟨i3, hi3, hz3, hz3b, hz3c⟩ := info_parts Try.info3
  have hE : L1 w ((w.alloc (Obj.cells #[Value.slice none 0 0, Value.slice al n cl, Value.int IntKind.u8 base] 57)).alloc (Obj.cells (madeCells #[Value.int IntKind.i64 0] n) 3)) n w.heap.size (w.heap.size + 1) (.slice al n cl) base (.slice none 0 0) (filt l 0) (fun _ => 0) := by
    have hm := World.rowIs_made (w.alloc (Obj.cells #[Value.slice none 0 0, Value.slice al n cl, Value.int IntKind.u8 base] 57)) (.int .i64 0) n 3
    have e : (w.alloc (Obj.cells #[Value.slice none 0 0, Value.slice al n cl, Value.int IntKind.u8 base] 57)).heap.size = w.heap.size + 1 := by simp
    rw [e] at hm
    exact ⟨((World.Since.refl _ _).alloc (Nat.le_refl _) _).alloc (by rw [e]; omega) _, Nat.le_refl _, by omega, by simp,
      (World.rowIs_alloc w #[Value.slice none 0 0, Value.slice al n cl, Value.int IntKind.u8 base] 57 _ (fun i hi => by
        have hi : i < 3 := hi
        match i, hi with
        | 0, _ => rfl
        | 1, _ => rfl
        | 2, _ => rfl)).alloc _, hm, World.ownsRow_nil _ _ _ _⟩
  generalize (w.alloc (Obj.cells #[Value.slice none 0 0, Value.slice al n cl, Value.int IntKind.u8 base] 57)).alloc (Obj.cells (madeCells #[Value.int IntKind.i64 0] n) 3) = w0 at *
  obtain ⟨br, hbr⟩ : ∃ br, br = w.heap.size := ⟨_, rfl⟩
  obtain ⟨ba, hba⟩ : ∃ ba, ba = br + 1 := ⟨_, rfl⟩
  rw [← hbr, ← hba]
  have hE : L1 w w0 n br ba (.slice al n cl) base (.slice none 0 0) (filt l 0) (fun _ => 0) := by rw [hba, hbr]; exact hE
  clear hbr hba hmk3 hb
  have HBB := Lib.hid (fun k hk => World.block_lt_of_cell? _ _ (hR.cell k hk))
  go_loopg [10] n (fun g s10 wr => ∃ (k : Nat) (vp : Value), k ≤ n ∧ g = n - k ∧ s10 = .int .i64 k ∧ L1 w wr n br ba (.slice al n cl) base vp (filt l k) (fun i => if i < k then atf l i else 0))
  case atStart => exact ⟨0, _, by omega, rfl, rfl, hE.told (fun i _ => by simp)⟩
  case round =>
    clear hE
    obtain ⟨k, vp, hk, rfl, rfl, hE⟩ := hrel
    by_cases hlt : k < n
    · have hkz : (k : Int) < (n : Int) := by omega
      obtain rfl := hR.spot (by omega)
      obtain ⟨c, hc⟩ : ∃ c, c = l.getD k 0 := ⟨_, rfl⟩
      obtain ⟨qa, qc, rfl⟩ := hE.pshape
      have hfl := filt_len l k
      have hstep : filt l (k + 1) = if remB c = true then filt l k else filt l k ++ [(k : Int)] := by rw [hc]; rfl
      have hat : atf l k = (filt l k).length := rfl
      have HSTEP := Lib.hid hstep
      have HAT := Lib.hid hat
      clear hstep hat
      obtain ⟨P, hP⟩ : ∃ P, P = filt l k := ⟨_, rfl⟩
      rw [← hP] at hE hfl
      have HP := Lib.hid hP
      clear hP
      have r0 := hE.cell0
      have a1 : wr.cell? ⟨ba, k, none⟩ = some (.int .i64 (if k < k then atf l k else 0)) := hE.a.cell hlt
      have a2 : wr.frozen? ⟨ba, k, none⟩ = false := hE.a.frozen k
      go_upto_region 11 with fail
      have hE1 := hE.setA k P.length
      have g1 : (wr.setCell ⟨ba, k, none⟩ (.int .i64 P.length)).cell? ⟨b, off + k, none⟩ = some (.int .u8 c) := by rw [hE1.since.cell (a := ⟨b, off + k, none⟩) (HBB.out k (by omega)), hc]; exact hR.cell k (by omega)
      have HC := Lib.hid hc
      clear hc hE r0 a1 a2
      generalize wr.setCell ⟨ba, k, none⟩ (.int .i64 P.length) = w1 at *
      have r0 := hE1.cell0
      have hpl := hE1.p
      have hsz := hE1.sz
      cases hrem : remB c
      · go_wp2_with (first | (go_at_call 21; refine (rRemoved_any _ _).mono ?_; rintro e w' ⟨rfl, rfl⟩) | (at_builtin; refine wpList_append_lies _ rfl _ _ _ rfl (ba + 1) 3 i3 _ 1 8 Try.underlying33 hi3 hz3 hz3b hz3c rfl (by omega) (.slice qa P.length qc) _ _ rfl (hpl.alloc _) ⟨w1.heap.size, 0, none⟩ 1 1 [.int .i64 k] rfl rfl (World.news_of_block (cs := #[.int .i64 k]) (t := 3) (fr := (0, 0)) (heap_alloc_new w1 _)) (by simp [Value.oneCell']) (by omega) (by unfold maxLen; omega) (by omega) (by simp; omega) (w1.heap.size + 1) (by simp) ?_; intro gg capg w4 hown4 hgrow4 hat4 hlt4; obtain ⟨hst1, hst2⟩ := hE1.between hgrow4))
        go_roundg (n - (k + 1))
        case measure => go_light; omega
        case rel =>
          go_light
          refine ⟨k + 1, .slice (some ⟨gg, 0, none⟩) (P.length + 1) capg, by omega, rfl, by go_num, ?_⟩
          rw [HSTEP.out, if_neg (by rw [hrem]; simp), ← HP.out]
          exact (hE1.push hgrow4 hown4).told (at_upd (by rw [HAT.out, HP.out]))
      · go_wp2_with (go_at_call 21; refine (rRemoved_any _ _).mono ?_; rintro e w' ⟨rfl, rfl⟩)
        go_roundg (n - (k + 1))
        case measure => go_light; omega
        case rel =>
          go_light
          refine ⟨k + 1, .slice qa P.length qc, by omega, rfl, by go_num, ?_⟩
          rw [HSTEP.out, if_pos hrem, ← HP.out]
          exact hE1.told (at_upd (by rw [HAT.out, HP.out]))
    · obtain rfl : k = n := by omega
      have hkz : ¬ ((k : Int) < (k : Int)) := by omega
      have hE2 := hE.told (atl' := atf l) (fun i hi => by rw [if_pos hi])
      clear hE
      have hfl := filt_len l k
      have hPr : ∀ i, i < (filt l k).length → 0 ≤ (filt l k).getD i 0 ∧ (filt l k).getD i 0 < k ∧ remB (l.getD ((filt l k).getD i 0).toNat 0) = false ∧ atf l ((filt l k).getD i 0).toNat = i := by
        intro i hi
        obtain ⟨q, h1, h2, h3, h4⟩ := filt_get l k hi
        rw [h4]
        exact ⟨by omega, by omega, by rw [Int.toNat_natCast]; exact h2, by rw [Int.toNat_natCast]; unfold atf; omega⟩
      obtain ⟨P, hP⟩ : ∃ P, P = filt l k := ⟨_, rfl⟩
      rw [← hP] at hE2 hfl hPr
      have HP := Lib.hid hP
      have HPR := Lib.hid hPr
      clear hP hPr
      obtain ⟨qa, qc, rfl⟩ := hE2.pshape
      have hRr := hR.since hE2.since
      go_upto_region 14 with (go_at_call 20; refine (rmatch_any l _ hn cap ao b off _ hRr hlen2).mono ?_; rintro e w1 ⟨bm, rfl, hm0, hm1, hm2⟩)
      obtain ⟨bp, hrp⟩ := hE2.reads
      have hst : Stat w1 k br ba bm qa qc (.slice al k cl) base bp P (atf l) (rmat l) ao al b off bl ol l L :=
        ⟨cell_since hE2.cell0 hm2, cell_since hE2.cell1 hm2, cell_since hE2.cell2 hm2, hrp.since hm2, fun i hi => cell_since (hE2.a.cell hi) hm2, fun i hi => hm1.cell hi, hRr.since hm2, (hL.since hE2.since).since hm2⟩
      have HS1 : Hid (w.Since w.heap.size w1) := hE2.since.trans ⟨hm2.os, hm2.tape, hm2.output, hm2.size, fun i hi => hm2.block i (by have := hE2.since.size; omega)⟩
      have hmkE := run_make_row' (P := Try.prog) 33 3 (.int .i64 0) 8 Try.underlying33 Try.info3 rfl .i64 .i64 P.length (by omega) (by omega)
      have hmkD := run_make_row' (P := Try.prog) 41 4 (.bool false) 1 Try.underlying41 Try.info4 rfl .i64 .i64 P.length (by omega) (by omega)
      have c0 := hst.c0
      have c0' : ∀ o, (w1.alloc o).cell? ⟨br, 0, none⟩ = some (.slice qa P.length qc) := fun o => cell_since c0 ((World.Since.refl _ _).alloc (Nat.le_refl _) o)
      clear hm0 hm1 hm2 hE2 hRr hrp
      go_cut [12, 13] (fun s12 s13 wx => L2At w1 P.length s12 s13 wx)
      case first =>
        go_region
        all_goals
          go_wp2_with fail
          go_meet
          first | exact ⟨_, _, rfl, rfl, (L2.start1 w1 P.length).drew⟩ | exact ⟨_, _, rfl, rfl, (L2.start2 w1 P.length).drew⟩
      case rest =>
        obtain ⟨be, bd, rfl, rfl, hE⟩ := hcut
        clear hmkE hmkD c0 c0'
        go_wp2_with fail
        obtain ⟨ld, hld⟩ : ∃ ld, ld = rlead l P L base (rmat l) (atf l) := ⟨_, rfl⟩
        have HLD := Lib.hid hld
        have HLDR : Hid (∀ j, j < P.length → -1 ≤ ld j ∧ ld j < P.length ∧ (0 ≤ ld j → (j : Int) < ld j)) := by
          intro j hj
          rw [hld, HP.out] at *
          exact rlead_range l L base (rmat l) k HM.out hj
        clear hld
        go_loopg [14] P.length (fun g s14 wr => ∃ j : Nat, j ≤ P.length ∧ g = P.length - j ∧ s14 = .int .i64 j ∧ L2 w1 wr P.length be bd (fun i => if i < j then ld i else 0) (rled ld j))
        case atStart => exact ⟨0, by omega, rfl, rfl, hE.told (fun i _ => by simp) (fun i _ => rfl)⟩
        case round =>
          clear hE
          obtain ⟨j, hj, rfl, rfl, hE⟩ := hrel
          have hsr := hst.since hE.since
          have r0 := hsr.c0
          by_cases hjp : j < P.length
          · have hjz : (j : Int) < (P.length : Int) := by omega
            obtain ⟨hp1, hp2, hp3, hp4⟩ := HPR.out j hjp
            obtain ⟨q, hq⟩ := Int.eq_ofNat_of_zero_le hp1
            have HQ := Lib.hid hq
            rw [hq] at hp1 hp2 hp3 hp4
            rw [Int.toNat_natCast] at hp3 hp4
            have hqk : q < k := by omega
            have e1 : wr.cell? ⟨be, j, none⟩ = some (.int .i64 (if j < j then ld j else 0)) := hE.e.cell hjp
            have e2 : wr.frozen? ⟨be, j, none⟩ = false := hE.e.frozen j
            obtain rfl := hsr.p.spot (by omega)
            have HP3 := Lib.hid hp3
            have HP4 := Lib.hid hp4
            clear hq hp3 hp4
            go_upto_region 19 with fail
            have hE1 := hE.setE j (-1)
            clear hE hsr e1 e2 r0
            generalize wr.setCell ⟨be, j, none⟩ (.int .i64 (-1)) = w2 at *
            have hsr := hst.since hE1.since
            have r0 := hsr.c0
            have r1 := hsr.c1
            have r2 := hsr.c2
            have p1 : w2.cell? ⟨bp, j, none⟩ = some (.int .i64 q) := by have := hsr.p.cell j hjp; rw [HQ.out, Nat.zero_add] at this; exact this
            have m1 : w2.cell? ⟨bm, q, none⟩ = some (.int .i64 (rmat l q)) := hsr.m q hqk
            have hqz : (q : Int) < (k : Int) := by omega
            go_upto_if 91 with (go_at_call 31; refine (ends_r P L base j (by omega) _ _ _ hnL ⟨by omega, hlen2⟩ _ _ bp 0 bl ol _ hsr.p hsr.lv (fun i hi => ⟨(HPR.out i hi).1, (HPR.out i hi).2.1⟩)).mono ?_; rintro e w3 ⟨rfl, hs3⟩)
            have hE2 := hE1.after hs3
            have hsr3 := hst.since hE2.since
            clear hE1 hsr r0 r1 r2 p1 m1 hs3
            go_cut [15] (fun s15 wx => L2 w1 wx P.length be bd (fun i => if i < j + 1 then ld i else 0) (rled ld j))
            case first =>
              as_aux_lemma =>
                have e1 : w3.cell? ⟨be, j, none⟩ = some (.int .i64 (upd (fun i => if i < j then ld i else 0) j (-1) j)) := hE2.e.cell hjp
                have e2 : w3.frozen? ⟨be, j, none⟩ = false := hE2.e.frozen j
                have HUPD : ∀ (x : Int) (wx : World), ld j = x → L2 w1 wx P.length be bd (upd (upd (fun i => if i < j then ld i else 0) j (-1)) j x) (rled ld j) → L2 w1 wx P.length be bd (fun i => if i < j + 1 then ld i else 0) (rled ld j) := by
                  intro x wx hx h
                  refine h.told (fun i _ => ?_) (fun i _ => rfl)
                  rw [upd_upd]
                  simp only [upd]
                  by_cases e : i = j
                  · subst e; rw [if_pos rfl, if_pos (by omega), hx]
                  · rw [if_neg e]
                    by_cases e2 : i < j
                    · rw [if_pos e2, if_pos (by omega)]
                    · rw [if_neg e2, if_neg (by omega)]
                have HU := Lib.hid HUPD
                clear HUPD
                cases hen : rends P L base j
                · have HLJ : Hid (ld j = (j : Int) + 1) := by show _ = _; rw [HLD.out, rlead, if_pos hen]
                  go_wp2_with fail
                  go_meet
                  go_light
                  exact HU.out _ _ HLJ.out (hE2.setE j _)
                · obtain ⟨cq, hcq⟩ : ∃ c, c = l.getD q 0 := ⟨_, rfl⟩
                  have r0 := hsr3.c0
                  have r1 := hsr3.c1
                  have r2 := hsr3.c2
                  have p1 : w3.cell? ⟨bp, j, none⟩ = some (.int .i64 q) := by have := hsr3.p.cell j hjp; rw [HQ.out, Nat.zero_add] at this; exact this
                  obtain rfl := hsr3.l.spot (by omega)
                  have g1 : w3.cell? ⟨b, off + q, none⟩ = some (.int .u8 cq) := by rw [hcq]; exact hsr3.l.cell q (by omega)
                  have HCQ := Lib.hid hcq
                  clear hcq
                  have HLJ : Hid (ld j = if initB cq = true ∧ 0 ≤ rmat l q ∧ rbegins P L base (atf l (rmat l q).toNat).toNat = true then atf l (rmat l q).toNat else -1) := by
                    show _ = _
                    rw [HLD.out, rlead, if_neg (by rw [hen]; simp), HQ.out, Int.toNat_natCast, HCQ.out]
                  have hzz : ((-1 : Int)) = -1 := rfl
                  clear hzz
                  cases hin : initB cq
                  · have HLJ2 : Hid (ld j = -1) := by show _ = _; rw [HLJ.out, if_neg (by rw [hin]; simp)]
                    go_upto_region 22 with fail
                    go_quiet ((go_at_call 32; exact quietS (rInitiator_any _ _)))
                    go_wp2_with fail
                    go_meet
                    go_light
                    exact (HU.out _ _ HLJ2.out ((hE2.after (sinceN_refl w3 _)).told (fun i _ => by rw [upd_upd]) (fun i _ => rfl)))
                  · by_cases hm0 : rmat l q < 0
                    · have HLJ2 : Hid (ld j = -1) := by show _ = _; rw [HLJ.out, if_neg (by intro hh; omega)]
                      have hd0 : decide (0 ≤ rmat l q) = false := by simp; omega
                      go_upto_region 22 with fail
                      go_quiet ((go_at_call 32; exact quietS (rInitiator_any _ _)))
                      go_wp2_with fail
                      go_meet
                      go_light
                      exact (HU.out _ _ HLJ2.out ((hE2.after (sinceN_refl w3 _)).told (fun i _ => by rw [upd_upd]) (fun i _ => rfl)))
                    · obtain ⟨hm1, hm2, hm3⟩ := HM.out q (by omega)
                      obtain ⟨m, hm⟩ := Int.eq_ofNat_of_zero_le (show 0 ≤ rmat l q by omega)
                      rw [hm]
                      rw [hm] at hm0 hm1 hm2 hm3
                      have hmk : m < k := by omega
                      have hmz : (m : Int) < (k : Int) := by omega
                      obtain ⟨tt, htt⟩ : ∃ tt, tt = (filt l m).length := ⟨_, rfl⟩
                      have htt2 : tt ≤ 65536 := by have := filt_len l m; omega
                      have a1 : w3.cell? ⟨ba, m, none⟩ = some (.int .i64 tt) := by rw [htt]; exact hsr3.a m hmk
                      have HTT : Hid (atf l (rmat l q).toNat = tt) := by show _ = _; rw [hm, Int.toNat_natCast, htt]; rfl
                      have HMM := Lib.hid hm
                      have HM2 := Lib.hid hm2
                      have HM3 := Lib.hid hm3
                      clear hm htt hm2 hm3
                      go_upto_region 22 with fail
                      have hSt := hsr3
                      have HST := Lib.hid hSt
                      have hdr : w3.Since w3.heap.size w3.drew := (World.Since.refl _ _).drew
                      go_region_held3 (fun w' => w'.cell? ⟨br, 0, none⟩ = some (.slice (some ⟨bp, 0, none⟩) P.length qc) ∧ w'.cell? ⟨br, 1, none⟩ = some (.slice al k cl) ∧ w'.cell? ⟨br, 2, none⟩ = some (.int .u8 base) ∧ w'.cell? ⟨bp, j, none⟩ = some (.int .i64 q) ∧ w'.cell? ⟨b, off + q, none⟩ = some (.int .u8 cq) ∧ w'.cell? ⟨ba, m, none⟩ = some (.int .i64 tt) ∧ w3.Since w3.heap.size w') (first | exact ⟨r0, r1, r2, p1, g1, a1, hdr⟩ | assumption | exact six_since (by assumption) (by assumption)) (first | (go_at_call 32; refine (rInitiator_any _ _).mono ?_; rintro e w' ⟨rfl, rfl⟩) | (go_at_call 33; have hsx := (HST.out).since (And.right (And.right (And.right (And.right (And.right (And.right (by assumption))))))); refine (begins_r P L base tt (by omega) _ _ _ hnL ⟨by omega, hlen2⟩ _ _ bp 0 bl ol _ hsx.p hsx.lv (fun i hi => ⟨(HPR.out i hi).1, (HPR.out i hi).2.1⟩)).mono ?_; rintro e w4 ⟨rfl, hs4⟩))
                      have hs5 : w3.Since w3.heap.size w4 := six_last (by assumption)
                      have hE5 := hE2.after hs5
                      have a5 : w4.cell? ⟨ba, m, none⟩ = some (.int .i64 tt) := cell_since a1 hs5
                      have e1 : w4.cell? ⟨be, j, none⟩ = some (.int .i64 (upd (fun i => if i < j then ld i else 0) j (-1) j)) := hE5.e.cell hjp
                      have e2 : w4.frozen? ⟨be, j, none⟩ = false := hE5.e.frozen j
                      clear a1 r0 r1 r2 p1 g1 hdr
                      cases hbg : rbegins P L base tt
                      · have HLJ2 : Hid (ld j = -1) := by
                          show _ = _
                          rw [HLJ.out, HTT.out, Int.toNat_natCast, hbg, if_neg (by simp)]
                        go_wp2_with fail
                        go_meet
                        go_light
                        exact HU.out _ _ HLJ2.out (hE5.told (fun i _ => by rw [upd_upd]) (fun i _ => rfl))
                      · have HLJ2 : Hid (ld j = (tt : Int)) := by
                          show _ = _
                          rw [HLJ.out, HTT.out, Int.toNat_natCast, hbg, if_pos ⟨hin, by rw [HMM.out]; omega, rfl⟩]
                        go_wp2_with fail
                        go_meet
                        go_light
                        exact HU.out _ _ HLJ2.out (hE5.setE j _)
            case rest =>
              clear hE2 hsr3
              have hE := hcut
              clear hcut
              have HLR2 : Hid (ld j < P.length ∧ (-1 ≤ ld j)) := ⟨(HLDR.out j hjp).2.1, (HLDR.out j hjp).1⟩
              have e1 : wc.cell? ⟨be, j, none⟩ = some (.int .i64 (ld j)) := by have := hE.e.cell hjp; rw [if_pos (by omega)] at this; exact this
              have HRD : Hid (rled ld (j + 1) = if 0 ≤ ld j then updB (rled ld j) (ld j).toNat true else rled ld j) := rfl
              have hlj1 := HLR2.out.1
              have hlj2 := HLR2.out.2
              generalize ld j = lj at *
              by_cases h0 : 0 ≤ lj
              · obtain ⟨t, rfl⟩ := Int.eq_ofNat_of_zero_le h0
                have htp : t < P.length := by omega
                have d1 : wc.cell? ⟨bd, t, none⟩ = some (.bool (rled ld j t)) := hE.d.cell htp
                have d2 : wc.frozen? ⟨bd, t, none⟩ = false := hE.d.frozen t
                go_wp2_with fail
                go_roundg (P.length - (j + 1))
                case measure => go_light; omega
                case rel => go_light; exact ⟨j + 1, by omega, rfl, by go_num, (hE.setD t true).told (fun i _ => rfl) (fun i _ => by rw [HRD.out, if_pos h0]; rfl)⟩
              · go_wp2_with fail
                go_roundg (P.length - (j + 1))
                case measure => go_light; omega
                case rel => go_light; exact ⟨j + 1, by omega, rfl, by go_num, hE.told (fun i _ => rfl) (fun i _ => by rw [HRD.out, if_neg (by omega)])⟩
          · obtain rfl : j = P.length := by omega
            have hjz : ¬ ((P.length : Int) < (P.length : Int)) := by omega
            go_wp2_with fail
            have hst2 := hst.since hE.since
            have HE1 : Hid (∀ i, i < P.length → wr.cell? ⟨be, i, none⟩ = some (.int .i64 (ld i))) := by
              intro i hi
              have := hE.e.cell hi
              rw [if_pos hi] at this
              exact this
            have HE2 : Hid (∀ i, i < P.length → wr.cell? ⟨bd, i, none⟩ = some (.bool (rled ld P.length i))) := fun i hi => hE.d.cell hi
            have HS2 : Hid (w.Since w.heap.size wr) := HS1.out.trans ⟨hE.since.os, hE.since.tape, hE.since.output, hE.since.size, fun i hi => hE.since.block i (by have := HS1.out.size; omega)⟩
            have HST2 := Lib.hid hst2
            clear hst hE hst2 r0 hsr
            obtain ⟨dd, hdd⟩ : ∃ dd, dd = rled ld P.length := ⟨_, rfl⟩
            rw [← hdd] at HE2
            have HDD := Lib.hid hdd
            clear hdd
            obtain ⟨w5, hw5⟩ : ∃ w5, w5 = wr := ⟨_, rfl⟩
            subst hw5
            go_loopg [16, 17] P.length (fun g s16 s17 wx => ∃ (j : Nat) (pv : Nat → Value), j ≤ P.length ∧ g = P.length - j ∧ s17 = .int .i64 j ∧ w5.Since w5.heap.size wx ∧ Seqs wx w5.heap.size 61 s16 (rout l P L base (rmat l) ld dd j).1 pv (rout l P L base (rmat l) ld dd j).2)
            case atStart => exact ⟨0, fun _ => .slice none 0 0, by omega, rfl, rfl, World.Since.refl _ _, Seqs.nil _ _ _ (by decide) _ _⟩
            case round =>
              obtain ⟨j, pv, hj, rfl, rfl, hsn, hE⟩ := hrel
              have hsr := HST2.out.since hsn
              have r0 := hsr.c0
              by_cases hjp : j < P.length
              · have hjz : (j : Int) < (P.length : Int) := by omega
                have d1 : wr.cell? ⟨bd, j, none⟩ = some (.bool (dd j)) := cell_since (HE2.out j hjp) hsn
                cases hdj : dd j
                · rw [hdj] at d1
                  obtain ⟨qa2, qc2, rfl⟩ := hE.shape
                  have r1 := hsr.c1
                  have r2 := hsr.c2
                  have hdr : wr.Since wr.heap.size wr.drew := (World.Since.refl _ _).drew
                  have HSR := Lib.hid hsr
                  clear hsr
                  have hk2 : -70000 ≤ (j : Int) - 1 ∧ (j : Int) - 1 ≤ 70000 := by omega
                  have hk3 : -70000 ≤ (j : Int) ∧ (j : Int) ≤ 70000 := by omega
                  have hw : IntKind.i64.wrap ((j : Int) - 1) = (j : Int) - 1 := IntWalk.i64_in _ (by omega)
                  go_upto_region 31 with fail
                  go_cut [18] (fun s18 wx => NBAt wr wx s18 (.int .u8 (levI P L base j)) (.int .u8 (sideI (levI P L base j) (levI P L base ((j : Int) - 1)))))
                  case first =>
                    as_aux_lemma =>
                      have hdr2 : ∀ o, wr.Since wr.heap.size (wr.alloc o).drew := fun o => (since_alloc wr o).drew
                      go_region_held3 (fun w' => w'.cell? ⟨br, 0, none⟩ = some (.slice qa P.length qc) ∧ w'.cell? ⟨br, 1, none⟩ = some (.slice al k cl) ∧ w'.cell? ⟨br, 2, none⟩ = some (.int .u8 base) ∧ wr.Since wr.heap.size w') (first | exact ⟨r0, r1, r2, hdr⟩ | with_reducible assumption | exact four_of r0 r1 r2 (hdr2 _) | (refine four_since ?_ (since_alloc _ _); with_reducible assumption) | exact four_of r0 r1 r2 (NB.storedSince (by with_reducible assumption) (four_last (by with_reducible assumption)))) (first | (go_at_call 35; refine (rside_any _ _ (levI_range HB0.out HLR.out _) (levI_range HB0.out HLR.out _) _).mono ?_; rintro e w' ⟨rfl, rfl⟩) | (go_at_call 34; refine (level_S4 HSR.out hnL ⟨by omega, hlen2⟩ (fun i hi => ⟨(HPR.out i hi).1, (HPR.out i hi).2.1⟩) (by first | exact hk3 | exact hk2) (by with_reducible assumption)).mono ?_; rintro e w4 ⟨rfl, hs4⟩; have hS4 := four_since (by with_reducible assumption) hs4; (first | (have hN := NB.newD hs4; have hN0 := hN.n0; have hN1 := hN.n1; have hN2 := hN.n2; have hN3 := hN.n3; have hNf := hN.f) | (have hN := NB.new (by with_reducible assumption) hs4; have hN0 := hN.n0; have hN1 := hN.n1; have hN2 := hN.n2; have hN3 := hN.n3; have hNf := hN.f) | (have hN := NB.on (by with_reducible assumption) hs4; have hN0 := hN.n0; have hN1 := hN.n1; have hN2 := hN.n2; have hN3 := hN.n3; have hNf := hN.f) | skip); clear hs4))
                      all_goals
                        go_wp2_with fail
                        go_meet
                        first | exact ⟨_, rfl, NB.stored (by with_reducible assumption), NB.storedSince (by with_reducible assumption) (four_last (by with_reducible assumption))⟩ | exact ⟨_, rfl, NB.made (four_last (by with_reducible assumption)).size, four_last (by with_reducible assumption)⟩
                  case rest =>
                    obtain ⟨wo, hwo⟩ : ∃ wo, wo = wr := ⟨_, rfl⟩
                    subst hwo
                    obtain ⟨bs, rfl, hNB, hsn6⟩ := hcut
                    clear r0 r1 r2 hw hk2 hk3 d1 hdr
                    have HEQ := Lib.hid hE
                    clear hE
                    go_wp2_with fail
                    go_loopg [19, 20] P.length (fun g s19 s20 wx => ∃ (x last : Int) (acc : List Int) (pn : Value), s20 = .int .i64 x ∧ s19 = .int .i64 last ∧ -1 ≤ x ∧ x < P.length ∧ 0 ≤ last ∧ last < P.length ∧ acc.length + g = P.length ∧ (x < 0 ∨ (P.length : Int) ≤ x + g) ∧
                      Hid (rch P ld g x last acc = rch P ld P.length j j []) ∧ wo.Since wo.heap.size wx ∧ NB wx wo.heap.size bs pn (.int .u8 (levI P L base j)) (.int .u8 (sideI (levI P L base j) (levI P L base ((j : Int) - 1)))) (.int .u8 0) ∧ wx.ownsRow wo.heap.size 3 1 pn acc.length (acc.map (Value.int .i64)))
                    case atStart => exact ⟨j, j, [], .slice none 0 0, rfl, rfl, by omega, by omega, by omega, by omega, by simp, by omega, rfl, hsn6, hNB, World.ownsRow_nil _ _ _ _⟩
                    case round =>
                      clear hNB hsn6
                      obtain ⟨x, last, acc, pn, rfl, rfl, hx1, hx2, hl1, hl2, hag, hxg, HR, hsn7, hNB, hown⟩ := hrel
                      have hsr := HSR.out.since hsn7
                      by_cases hx0 : x < 0
                      · have HR2 : Hid ((acc, last) = rch P ld P.length j j []) := by
                          show _ = _
                          rw [← HR.out]
                          cases gk with
                          | zero => rfl
                          | succ g => rw [rch, if_pos hx0]
                        as_aux_lemma =>
                          obtain ⟨la, rfl⟩ := Int.eq_ofNat_of_zero_le hl1
                          have hlp : la < P.length := by omega
                          have hqq := HPR.out la hlp
                          obtain ⟨hq1, hq2, -, -⟩ := hqq
                          obtain ⟨q, hq⟩ := Int.eq_ofNat_of_zero_le hq1
                          have HQ := Lib.hid hq
                          rw [hq] at hq1 hq2
                          have hqk : q < k := by omega
                          have hk4 : -70000 ≤ (la : Int) + 1 ∧ (la : Int) + 1 ≤ 70000 := by omega
                          have hk5 : -70000 ≤ (la : Int) ∧ (la : Int) ≤ 70000 := by omega
                          have hw : IntKind.i64.wrap ((la : Int) + 1) = (la : Int) + 1 := IntWalk.i64_in _ (by omega)
                          have hlz : (la : Int) < (P.length : Int) := by omega
                          have hqz : (q : Int) < (k : Int) := by omega
                          have r0 := hsr.c0
                          have r1 := hsr.c1
                          have r2 := hsr.c2
                          obtain rfl := hsr.p.spot (by omega)
                          obtain rfl := hsr.l.spot (by omega)
                          clear hq hxg hx1 hx2
                          go_upto_region 39 with (go_at_call 34; refine (level_any P L base ((la : Int) + 1) hk4 P.length k qc cl rfl hnL ⟨by omega, hlen2⟩ _ al bp 0 bl ol _ hsr.p hsr.lv (fun i hi => ⟨(HPR.out i hi).1, (HPR.out i hi).2.1⟩)).mono ?_; rintro e w6 ⟨rfl, hs6⟩)
                          have hsn8 := since_then hsn7 hs6
                          have hNB8 := hNB.on hs6
                          have hown8 := own_since hown hs6 (fun r e => (hown.lt r e).2)
                          have hsr8 := hsr.since hs6
                          clear hsn7 hNB hown hsr hs6 r0 r1 r2
                          have r0 := hsr8.c0
                          have r1 := hsr8.c1
                          have r2 := hsr8.c2
                          have p1 : w6.cell? ⟨bp, la, none⟩ = some (.int .i64 q) := by have := hsr8.p.cell la hlp; rw [HQ.out, Nat.zero_add] at this; exact this
                          have g1 := hsr8.l.cell q (by omega)
                          have m1 : w6.cell? ⟨bm, q, none⟩ = some (.int .i64 (rmat l q)) := hsr8.m q hqk
                          have HBEH : Hid (rbeh l P L base (rmat l) la = if initB (l.getD q 0) = true ∧ rmat l q < 0 then base else levI P L base ((la : Int) + 1)) := by
                            show _ = _
                            rw [rbeh, Int.toNat_natCast, HQ.out, Int.toNat_natCast]
                          have hbr : 0 ≤ rbeh l P L base (rmat l) la ∧ rbeh l P L base (rmat l) la ≤ 255 := by
                            rw [HBEH.out]
                            split
                            · exact HB0.out
                            · exact levI_range HB0.out HLR.out _
                          have HBR := Lib.hid hbr
                          clear hbr
                          generalize l.getD q 0 = cq at *
                          generalize rmat l q = mq at *
                          obtain ⟨gd, hgd⟩ : ∃ gd, gd = (initB cq && decide (mq < 0)) := ⟨_, rfl⟩
                          have HGD := Lib.hid hgd
                          clear hgd
                          go_cut [201] (fun s201 wx => s201 = .bool gd ∧ w6 = wx)
                          case first =>
                            cases hin : initB cq
                            · go_wp2_with (go_at_call 32; refine (rInitiator_any _ _).mono ?_; rintro e w' ⟨rfl, rfl⟩)
                              go_meet
                              exact ⟨by rw [HGD.out, hin]; rfl, rfl⟩
                            · by_cases hmq : mq < 0
                              · go_wp2_with (go_at_call 32; refine (rInitiator_any _ _).mono ?_; rintro e w' ⟨rfl, rfl⟩)
                                go_meet
                                exact ⟨by rw [HGD.out, hin, decide_eq_true hmq]; rfl, rfl⟩
                              · go_wp2_with (go_at_call 32; refine (rInitiator_any _ _).mono ?_; rintro e w' ⟨rfl, rfl⟩)
                                go_meet
                                exact ⟨by rw [HGD.out, hin]; simp, rfl⟩
                          case rest =>
                            obtain ⟨rfl, rfl⟩ := hcut
                            clear p1 g1 m1
                            obtain ⟨bh, hbh⟩ : ∃ bh, bh = rbeh l P L base (rmat l) la := ⟨_, rfl⟩
                            rw [← hbh] at HBEH HBR
                            have HBH := Lib.hid hbh
                            clear hbh
                            go_upto_if 201 with fail
                            go_cut [21] (fun s21 wx => s21 = .int .u8 bh ∧ w6 = wx)
                            case first =>
                              cases hgd : gd
                              · go_wp2_with fail
                                go_meet
                                refine ⟨?_, rfl⟩
                                rw [HBEH.out, if_neg (fun hh => ?_)]
                                rw [hgd, hh.1, decide_eq_true hh.2] at HGD
                                exact absurd HGD.out (by decide)
                              · go_wp2_with fail
                                go_meet
                                refine ⟨?_, rfl⟩
                                rw [HBEH.out, if_pos]
                                have := HGD.out
                                rw [hgd] at this
                                simpa using this.symm
                            case rest =>
                              obtain ⟨rfl, rfl⟩ := hcut
                              go_upto_region 42 with (first | (go_at_call 34; refine (level_any P L base la hk5 P.length k qc cl rfl hnL ⟨by omega, hlen2⟩ _ al bp 0 bl ol _ hsr8.p hsr8.lv (fun i hi => ⟨(HPR.out i hi).1, (HPR.out i hi).2.1⟩)).mono ?_; rintro e w7 ⟨rfl, hs7⟩; have hNB9 := hNB8.on hs7; have n3 := hNB9.n3; have f3 := hNB9.f 3) | (go_at_call 35; refine (rside_any _ _ (levI_range HB0.out HLR.out _) HBR.out _).mono ?_; rintro e w' ⟨rfl, rfl⟩))
                              have hsn9 := (since_then hsn8 hs7).setCell (a := ⟨bs, 3, none⟩) hNB9.lo (.int .u8 (sideI (levI P L base la) bh))
                              have hNBA := hNB9.set3 (.int .u8 (sideI (levI P L base la) bh))
                              have hown9 := (own_since hown8 hs7 (fun r e => (hown8.lt r e).2)).kept (grownBy_setCell w7 ⟨bs, 3, none⟩ (.int .u8 (sideI (levI P L base la) bh))) (Or.inr (hNB9.own_other (own_since hown8 hs7 (fun r e => (hown8.lt r e).2))))
                              clear hsn8 hNB8 hown8 hsr8 hNB9 n3 f3 hs7 r0 r1 r2
                              generalize w7.setCell ⟨bs, 3, none⟩ (.int .u8 (sideI (levI P L base la) bh)) = w8 at *
                              have n0 := hNBA.n0
                              have n1 := hNBA.n1
                              have n2 := hNBA.n2
                              have n3 := hNBA.n3
                              have hE8 := HEQ.out.since hsn9
                              obtain ⟨xs, hownS, hxs⟩ := hE8.own
                              clear hE8
                              obtain ⟨i61, hi61, hz61, hz61b, hz61c⟩ := info_parts Try.info61
                              have hle := rout_le l P L base (rmat l) ld dd j
                              have hz1 := hsn.size
                              have hz2 := hsn9.size
                              have HXS := Lib.hid hxs
                              clear hxs
                              have HRO : Hid (rout l P L base (rmat l) ld dd (j + 1) = ((rout l P L base (rmat l) ld dd j).1 + 1, updS (rout l P L base (rmat l) ld dd j).2 (rout l P L base (rmat l) ld dd j).1 ⟨acc, levI P L base j, sideI (levI P L base j) (levI P L base ((j : Int) - 1)), sideI (levI P L base la) bh⟩)) := by
                                show _ = _
                                rw [rout, if_neg (by rw [hdj]; simp), rseq, ← HR2.out, HBH.out]
                              obtain ⟨pa9, pc9, rfl⟩ := own_shape hown9
                              obtain ⟨rn, hrn⟩ : ∃ rn, rn = (rout l P L base (rmat l) ld dd j).1 := ⟨_, rfl⟩
                              rw [← hrn] at hownS HXS hle HRO HEQ ⊢
                              clear hrn
                              obtain ⟨v1, hv1⟩ : ∃ v1, v1 = levI P L base j := ⟨_, rfl⟩
                              obtain ⟨v2, hv2⟩ : ∃ v2, v2 = sideI (levI P L base j) (levI P L base ((j : Int) - 1)) := ⟨_, rfl⟩
                              obtain ⟨v3, hv3⟩ : ∃ v3, v3 = sideI (levI P L base la) bh := ⟨_, rfl⟩
                              rw [← hv2, ← hv3, ← hv1] at HRO
                              rw [← hv1] at n1
                              rw [← hv2] at n2
                              rw [← hv3] at n3
                              clear hv1 hv2 hv3 hNBA HR2 HR HBH HBEH
                              go_wp2_with (at_builtin; refine wpList_append_lies _ rfl _ _ _ rfl w5.heap.size 61 i61 _ 4 32 Try.underlying25 hi61 hz61 hz61b hz61c rfl (by omega) (.slice qa2 rn qc2) _ _ rfl (hownS.alloc _) ⟨w8.heap.size, 0, none⟩ 1 1 [.slice pa9 acc.length pc9, .int .u8 v1, .int .u8 v2, .int .u8 v3] rfl rfl (World.news_of_block (cs := #[.slice pa9 acc.length pc9, .int .u8 v1, .int .u8 v2, .int .u8 v3]) (t := 61) (fr := (0, 0)) (heap_alloc_new w8 _)) (by simp [Value.oneCell']) (by omega) (by unfold maxLen; omega) (by omega) (by simp; omega) (w8.heap.size + 1) (by simp) ?_; intro gg capg w9 hownT hgrow9 hat9 hlt9)
                              go_roundg (P.length - (j + 1))
                              case measure => go_light; omega
                              case rel =>
                                go_light
                                refine ⟨j + 1, updV pv rn (.slice pa9 acc.length pc9), by omega, rfl, by go_num, ((since_then hsn hsn9).alloc (by omega) _).grown hgrow9 (by simp; omega) (fun k e => (hownS.lt k e).1), ?_⟩
                                rw [HRO.out]
                                exact HEQ.out.appendWhole (d := ⟨acc, v1, v2, v3⟩) (hsn9.alloc hsn9.size _) (hown9.alloc _) hsn.size ⟨xs, hownS.alloc _, HXS.out, hownT⟩ hgrow9
                      · obtain ⟨q, rfl⟩ := Int.eq_ofNat_of_zero_le (show 0 ≤ x by omega)
                        have hqp : q < P.length := by omega
                        obtain ⟨g, rfl⟩ : ∃ g, gk = g + 1 := ⟨gk - 1, by omega⟩
                        have HR2 : Hid (rch P ld g (ld q) q (acc ++ [P.getD q 0]) = rch P ld P.length j j []) := by
                          show _ = _
                          rw [← HR.out, rch, if_neg hx0, Int.toNat_natCast]
                        have hq1 := HLDR.out q hqp
                        obtain rfl := hsr.p.spot (by omega)
                        have r0 := hsr.c0
                        have p1 : wr.cell? ⟨bp, q, none⟩ = some (.int .i64 (P.getD q 0)) := by have := hsr.p.cell q hqp; rw [Nat.zero_add] at this; exact this
                        have l1 : wr.cell? ⟨be, q, none⟩ = some (.int .i64 (ld q)) := cell_since (cell_since (HE1.out q hqp) hsn) hsn7
                        have n0 := hNB.n0
                        have n0' : ∀ o, (wr.alloc o).cell? ⟨bs, 0, none⟩ = some pn := fun o => cell_since n0 (since_alloc wr o)
                        have r0o := HSR.out.c0
                        have p1o : wo.cell? ⟨bp, q, none⟩ = some (.int .i64 (P.getD q 0)) := by have := HSR.out.p.cell q hqp; rw [Nat.zero_add] at this; exact this
                        have hqz : (q : Int) < (P.length : Int) := by omega
                        have hr1 : acc.length + 1 ≤ maxLen := by unfold maxLen; omega
                        have hr2 : (acc.length + 1) * 8 ≤ 140737488355328 := by omega
                        have hr3 : wo.heap.size ≤ wr.heap.size := hsn7.size
                        have hsn7d : wo.Since wo.heap.size wr.drew := hsn7.drew
                        have hsn7a : ∀ o, wo.Since wo.heap.size (wr.alloc o).drew := fun o => (hsn7.alloc hsn7.size o).drew
                        have hbs := hNB.lo
                        generalize hpq : P.getD q 0 = y at *
                        have HPQ := Lib.hid hpq
                        clear hpq hsr
                        as_aux_lemma =>
                          have r0' : ∀ o, (wr.alloc o).cell? ⟨br, 0, none⟩ = some (.slice (some ⟨bp, 0, none⟩) P.length qc) := fun o => cell_since r0 (since_alloc wr o)
                          have p1' : ∀ o, (wr.alloc o).cell? ⟨bp, q, none⟩ = some (.int .i64 y) := fun o => cell_since p1 (since_alloc wr o)
                          go_upto_region 36 with fail
                          go_region_law (first | (refine step_append_lies _ (by rfl) _ _ _ (by rfl) wo.heap.size 3 i3 _ 1 8 Try.underlying33 hi3 hz3 hz3b hz3c rfl (by omega) pn acc.length (acc.map (Value.int .i64)) (by rfl) ((hown.alloc _).drew) ⟨wr.heap.size, 0, none⟩ 1 1 [.int .i64 y] (by rfl) (by rfl) (World.news_of_block (cs := #[.int .i64 y]) (t := 3) (fr := (0, 0)) (heap_alloc_new wr _)) (by simp [Value.oneCell']) (by omega) hr1 hr2 (by simp; omega) (wr.heap.size + 1) (by simp) ?_; intro gg capg w4 hown4 hgrow4 hat4 hlt4; have hN4 := NB.between hNB hown hgrow4; have hN40 := hN4.n0; have hN4f := hN4.f 0))
                          all_goals
                            have hN5 := hN4.set0 (Value.slice (some ⟨gg, 0, none⟩) (acc.length + 1) capg)
                            have hs5 := (since_app hsn7 hown hgrow4).setCell (a := ⟨bs, 0, none⟩) hbs (Value.slice (some ⟨gg, 0, none⟩) (acc.length + 1) capg)
                            have hown5 := hown4.kept (grownBy_setCell w4 ⟨bs, 0, none⟩ (Value.slice (some ⟨gg, 0, none⟩) (acc.length + 1) capg)) (Or.inr (hN4.own_other hown4))
                            have l5 := cell_since (cell_since (HE1.out q hqp) hsn) hs5
                            clear hN4 hN40 hN4f hown4 hgrow4 hat4 hlt4 hown hNB hsn7d hsn7a r0 p1 l1 n0 n0' r0' p1' r0o p1o
                            generalize w4.setCell ⟨bs, 0, none⟩ (Value.slice (some ⟨gg, 0, none⟩) (acc.length + 1) capg) = w7 at *
                            go_wp2_with fail
                            go_roundg g
                            case measure => go_light; omega
                            case rel => go_light; exact ⟨ld q, q, acc ++ [y], _, rfl, rfl, by omega, by omega, by omega, by omega, by simp; omega, by omega, HR2, hs5, hN5, by simpa using hown5⟩
                · rw [hdj] at d1
                  have HRO : Hid (rout l P L base (rmat l) ld dd (j + 1) = rout l P L base (rmat l) ld dd j) := by show _ = _; rw [rout, if_pos hdj]
                  go_wp2_with fail
                  go_roundg (P.length - (j + 1))
                  case measure => go_light; omega
                  case rel => go_light; exact ⟨j + 1, pv, by omega, rfl, by go_num, hsn, by rw [HRO.out]; exact hE⟩
              · obtain rfl : j = P.length := by omega
                go_wp2_with fail
                go_ret2
                have e1 := HDD.out
                subst e1
                have e2 := HLD.out
                subst e2
                have e3 := HP.out
                subst e3
                exact ⟨_, pv, w5.heap.size, rfl, HS2.out.size, hE, since_then HS2.out hsn⟩
end Go.Proofs.Ytkfjhannbnijkaa
