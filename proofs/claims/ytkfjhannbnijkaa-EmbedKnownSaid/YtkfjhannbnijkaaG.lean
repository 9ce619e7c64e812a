/- embed.Sequences, walked: what it computes, step by step. -/
import Derived.Test.YtkfjhannbnijkaaF
import Derived.Deep.CutBlock
import Derived.StillTailTactics
namespace Go.Proofs.Ytkfjhannbnijkaa
open Go.RowKit

theorem Try.info4 : (Try.prog.info? 4).map (fun i => (i.zero, i.size, i.bytes)) = some (some (.bool false), 1, 1) := by kernel_rfl
theorem Try.info36 : (Try.prog.info? 36).map (fun i => (i.zero, i.size, i.bytes)) = some (some (.agg #[.slice none 0 0, .int .u8 0, .int .u8 0, .int .u8 0]), 4, 32) := by kernel_rfl

structure SS where
  ofs : Nat → Int
  cut : Nat → Bool
  n : Nat
  sd : Nat → SeqD
  last : Int
  before : Int

def sput (s : SS) (cut : Nat → Bool) (j i : Nat) (lev : Int) : SS :=
  ⟨upd s.ofs i j, cut, s.n, updS s.sd j { s.sd j with pl := (s.sd j).pl ++ [(i : Int)] }, i, lev⟩

def snew (s : SS) (lev : Int) : SS := { s with n := s.n + 1, sd := updS s.sd s.n ⟨[], lev, sideI s.before lev, 0⟩ }

def scut (L : List Int) (i : Nat) (s : SS) : Nat → Bool :=
  if 0 ≤ s.last then updB s.cut s.last.toNat (L.getD s.last.toNat 0 != L.getD i 0) else s.cut

/-- Which sequence the i-th place comes to (a new one, or one that is there). -/
def ssel (L : List Int) (mt : Nat → Int) (i : Nat) (s : SS) : SS × Nat :=
  if 0 ≤ s.last ∧ scut L i s s.last.toNat = false then (s, (s.ofs s.last.toNat).toNat)
  else if 0 ≤ mt i ∧ mt i < i ∧ scut L i s (mt i).toNat = true then (s, (s.ofs (mt i).toNat).toNat)
  else (snew s (L.getD i 0), s.n)

def sstep (l L : List Int) (mt : Nat → Int) (i : Nat) (s : SS) : SS :=
  if remB (l.getD i 0) = true then s else sput (ssel L mt i s).1 (scut L i s) (ssel L mt i s).2 i (L.getD i 0)

def srun (l L : List Int) (mt : Nat → Int) (base : Int) : Nat → SS
  | 0 => ⟨fun _ => 0, fun _ => false, 0, fun _ => ⟨[], 0, 0, 0⟩, -1, base⟩
  | i + 1 => sstep l L mt i (srun l L mt base i)

/-- From the last place to the first: the level behind, and the sequences. -/
def estep (l L : List Int) (mt : Nat → Int) (base : Int) (ofs : Nat → Int) (i : Nat) (t : Int × (Nat → SeqD)) : Int × (Nat → SeqD) :=
  if remB (l.getD i 0) = true then t
  else if (t.2 (ofs i).toNat).pl.getD ((t.2 (ofs i).toNat).pl.length - 1) 0 = i then
    (L.getD i 0, updS t.2 (ofs i).toNat { t.2 (ofs i).toNat with eos := sideI (L.getD i 0) (if initB (l.getD i 0) = true ∧ mt i < 0 then base else t.1) })
  else (L.getD i 0, t.2)

def erun (l L : List Int) (mt : Nat → Int) (base : Int) (ofs : Nat → Int) (sd : Nat → SeqD) : Nat → Int × (Nat → SeqD)
  | 0 => (base, sd)
  | k + 1 => estep l L mt base ofs (l.length - 1 - k) (erun l L mt base ofs sd k)

structure SI (k : Nat) (s : SS) : Prop where
  last0 : -1 ≤ s.last
  last1 : s.last < k
  lofs : 0 ≤ s.last → 0 ≤ s.ofs s.last.toNat ∧ s.ofs s.last.toNat < s.n
  cofs : ∀ j, s.cut j = true → 0 ≤ s.ofs j ∧ s.ofs j < s.n
  nk : s.n ≤ k
  pk : ∀ j, (s.sd j).pl.length ≤ k
  bf : 0 ≤ s.before ∧ s.before ≤ 255

theorem scut_ofs {L : List Int} {i : Nat} {k : Nat} {s : SS} (h : SI k s) {j : Nat} (hj : scut L i s j = true) : 0 ≤ s.ofs j ∧ s.ofs j < s.n := by
  unfold scut at hj
  split at hj
  · rename_i hl
    unfold updB at hj
    split at hj
    · rename_i e; subst e; exact h.lofs hl
    · exact h.cofs j hj
  · exact h.cofs j hj

theorem ssel_lt {L : List Int} {mt : Nat → Int} {i k : Nat} {s : SS} (h : SI k s) : (ssel L mt i s).2 < (ssel L mt i s).1.n ∧ s.n ≤ (ssel L mt i s).1.n ∧ (ssel L mt i s).1.n ≤ s.n + 1 := by
  unfold ssel
  split
  · rename_i h1; have := h.lofs h1.1; simp only; omega
  · split
    · rename_i h1; have := scut_ofs h h1.2.2; simp only; omega
    · simp only [snew]; omega

theorem ssel_same {L : List Int} {mt : Nat → Int} {i : Nat} {s : SS} : (ssel L mt i s).1.ofs = s.ofs ∧ (ssel L mt i s).1.before = s.before ∧ (∀ j k, (∀ j, (s.sd j).pl.length ≤ k) → (((ssel L mt i s).1.sd j).pl.length ≤ k)) := by
  unfold ssel
  split
  · exact ⟨rfl, rfl, fun j k h => h j⟩
  · split
    · exact ⟨rfl, rfl, fun j k h => h j⟩
    · refine ⟨rfl, rfl, fun j k h => ?_⟩
      simp only [snew, updS]
      split
      · simp
      · exact h j

theorem sstep_inv {l L : List Int} {mt : Nat → Int} {k : Nat} {s : SS} (h : SI k s) (hL : ∀ i, 0 ≤ L.getD i 0 ∧ L.getD i 0 ≤ 255) : SI (k + 1) (sstep l L mt k s) := by
  unfold sstep
  split
  · exact ⟨h.last0, by have := h.last1; omega, h.lofs, h.cofs, by have := h.nk; omega, fun j => by have := h.pk j; omega, h.bf⟩
  · have hs := ssel_lt (L := L) (mt := mt) (i := k) h
    have ho := ssel_same (L := L) (mt := mt) (i := k) (s := s)
    refine ⟨by simp only [sput]; omega, by simp only [sput]; omega, fun _ => ?_, fun j hj => ?_, ?_, fun j => ?_, ?_⟩
    · simp only [sput, upd, Int.toNat_natCast, if_true]; omega
    · simp only [sput, upd] at hj ⊢
      split
      · omega
      · rw [ho.1]; have := scut_ofs h hj; omega
    · simp only [sput]; have := h.nk; omega
    · simp only [sput, updS]
      split
      · simp only [List.length_append, List.length_singleton]
        have := ho.2.2 (ssel L mt k s).2 k h.pk
        omega
      · have := ho.2.2 j k h.pk
        omega
    · exact hL k

theorem srun_inv {l L : List Int} {mt : Nat → Int} {base : Int} (hb : 0 ≤ base ∧ base ≤ 255) (hL : ∀ i, 0 ≤ L.getD i 0 ∧ L.getD i 0 ≤ 255) (k : Nat) : SI k (srun l L mt base k) := by
  induction k with
  | zero => exact ⟨by simp [srun], by simp [srun], by simp [srun], by simp [srun], by simp [srun], by simp [srun], hb⟩
  | succ k ih => exact sstep_inv ih hL

structure ERel (w wr : World) (N bm bo bc B : Nat) (mt : Nat → Int) (va : Value) (pv : Nat → Value) (ofs : Nat → Int) (cut : Nat → Bool) (n : Nat) (sd : Nat → SeqD) : Prop where
  since : w.Since w.heap.size wr
  l0 : w.heap.size ≤ bm
  l1 : bm < bo
  l2 : bo < bc
  l3 : bc < B
  sz : B ≤ wr.heap.size
  m : wr.rowIs bm 3 N (fun i => .int .i64 (mt i))
  o : wr.rowIs bo 3 N (fun i => .int .i64 (ofs i))
  c : wr.rowIs bc 4 N (fun i => .bool (cut i))
  q : Seqs wr B 36 va n pv sd

/-- Each place that counts lies in a sequence that is there, and not empty. -/
def SP (l : List Int) (k : Nat) (s : SS) : Prop := ∀ i, i < k → remB (l.getD i 0) = false → 0 ≤ s.ofs i ∧ s.ofs i < s.n ∧ 0 < (s.sd (s.ofs i).toNat).pl.length

theorem ssel_sd {L : List Int} {mt : Nat → Int} {i : Nat} {s : SS} {j : Nat} (hj : j < s.n) : (ssel L mt i s).1.sd j = s.sd j := by
  unfold ssel
  split
  · rfl
  · split
    · rfl
    · simp only [snew, updS]; rw [if_neg (by omega)]

theorem sstep_sp {l L : List Int} {mt : Nat → Int} {k : Nat} {s : SS} (h : SI k s) (hp : SP l k s) : SP l (k + 1) (sstep l L mt k s) := by
  intro i hi hr
  unfold sstep
  split
  · rename_i hrem
    by_cases e : i = k
    · subst e; rw [hr] at hrem; cases hrem
    · exact hp i (by omega) hr
  · have hs := ssel_lt (L := L) (mt := mt) (i := k) h
    have ho := ssel_same (L := L) (mt := mt) (i := k) (s := s)
    by_cases e : i = k
    · subst e
      simp only [sput, upd, if_true, updS, Int.toNat_natCast, List.length_append, List.length_singleton]
      omega
    · have h3 := hp i (by omega) hr
      simp only [sput, upd, if_neg e, ho.1, updS]
      refine ⟨h3.1, by omega, ?_⟩
      split
      · simp only [List.length_append, List.length_singleton]; omega
      · rw [ssel_sd (by omega)]; exact h3.2.2

theorem srun_sp {l L : List Int} {mt : Nat → Int} {base : Int} (hb : 0 ≤ base ∧ base ≤ 255) (hL : ∀ i, 0 ≤ L.getD i 0 ∧ L.getD i 0 ≤ 255) (k : Nat) : SP l k (srun l L mt base k) := by
  induction k with
  | zero => intro i hi; omega
  | succ k ih => exact sstep_sp (srun_inv hb hL k) ih

theorem erun_inv {l L : List Int} {mt : Nat → Int} {base : Int} (hb : 0 ≤ base ∧ base ≤ 255) (hL : ∀ i, 0 ≤ L.getD i 0 ∧ L.getD i 0 ≤ 255) (ofs : Nat → Int) (sd : Nat → SeqD) (k : Nat) :
    (0 ≤ (erun l L mt base ofs sd k).1 ∧ (erun l L mt base ofs sd k).1 ≤ 255) ∧ ∀ j, ((erun l L mt base ofs sd k).2 j).pl = (sd j).pl := by
  induction k with
  | zero => exact ⟨hb, fun _ => rfl⟩
  | succ k ih =>
    simp only [erun, estep]
    split
    · exact ih
    · split
      · refine ⟨hL _, fun j => ?_⟩
        simp only [updS]
        split
        · rename_i e; rw [e]; exact ih.2 _
        · exact ih.2 j
      · exact ⟨hL _, ih.2⟩

/-- Behind the choice of the i-th place's sequence. -/
def EMid (w wx : World) (N bm bo bc B : Nat) (mt : Nat → Int) (va : Value) (L : List Int) (k : Nat) (s : SS) : Prop :=
  ∃ pv, ERel w wx N bm bo bc B mt va pv (upd s.ofs k (ssel L mt k s).2) (scut L k s) (ssel L mt k s).1.n (ssel L mt k s).1.sd

/-- What is handed back: sequences in new memory, and no error. -/
def SeqDone (w : World) (T n : Nat) (sd : Nat → SeqD) (e : Ending) (w' : World) : Prop :=
  ∃ va pv B, e = .returned (.tuple #[va, .int .i64 0]) ∧ w.heap.size ≤ B ∧ Seqs w' B T va n pv sd ∧ w.Since w.heap.size w'

def SeqErr (w : World) (x : Int) (e : Ending) (w' : World) : Prop := e = .returned (.tuple #[.slice none 0 0, .int .i64 x]) ∧ w = w'

set_option maxRecDepth 100000 in
set_option maxHeartbeats 400000 in
theorem eseq_limit (n nl cap cl : Nat) (ao al : Option Addr) (base : Int) (w : World) (h : 65536 < n) (hm : n ≤ 9223372036854775807) :
    Calls Try.prog 17 #[.slice ao n cap, .slice al nl cl, .int .u8 base] w (SeqErr w 3) := by
  go_enter Try.func17, Try.ntmps17
  go_wp2
  go_ret2
  exact ⟨rfl, rfl⟩

set_option maxRecDepth 100000 in
set_option maxHeartbeats 400000 in
theorem eseq_arg (n nl cap cl : Nat) (ao al : Option Addr) (base : Int) (w : World) (h : n ≤ 65536) (hne : n ≠ nl) :
    Calls Try.prog 17 #[.slice ao n cap, .slice al nl cl, .int .u8 base] w (SeqErr w 2) := by
  have hz : ((n : Int) != (nl : Int)) = true := by rw [bne_iff_ne]; omega
  clear hne
  go_enter Try.func17, Try.ntmps17
  go_wp2
  go_ret2
  exact ⟨rfl, rfl⟩

theorem Seqs.shape {w : World} {B T : Nat} {va : Value} {n : Nat} {pv : Nat → Value} {sd : Nat → SeqD} (h : Seqs w B T va n pv sd) : ∃ a c, va = .slice a n c := by
  obtain ⟨⟨xs, h1, _⟩, _⟩ := h
  rcases h1.2 with ⟨rfl, rfl⟩ | ⟨g, cap, cur, rfl, _⟩
  · exact ⟨_, _, rfl⟩
  · exact ⟨_, _, rfl⟩

theorem ERel.low {w wr : World} {N bm bo bc B : Nat} {mt : Nat → Int} {va : Value} {pv : Nat → Value} {ofs : Nat → Int} {cut : Nat → Bool} {n : Nat} {sd : Nat → SeqD} (h : ERel w wr N bm bo bc B mt va pv ofs cut n sd) : w.heap.size ≤ B := by
  have := h.l0; have := h.l1; have := h.l2; have := h.l3; omega
theorem ERel.drew {w wr : World} {N bm bo bc B : Nat} {mt : Nat → Int} {va : Value} {pv : Nat → Value} {ofs : Nat → Int} {cut : Nat → Bool} {n : Nat} {sd : Nat → SeqD} (h : ERel w wr N bm bo bc B mt va pv ofs cut n sd) :
    ERel w wr.drew N bm bo bc B mt va pv ofs cut n sd := ⟨h.since.drew, h.l0, h.l1, h.l2, h.l3, h.sz, h.m.drew, h.o.drew, h.c.drew, h.q.drew⟩
theorem ERel.drewN {w wr : World} {N bm bo bc B : Nat} {mt : Nat → Int} {va : Value} {pv : Nat → Value} {ofs : Nat → Int} {cut : Nat → Bool} {n : Nat} {sd : Nat → SeqD} (h : ERel w wr N bm bo bc B mt va pv ofs cut n sd) (k : Nat) :
    ERel w (wr.drewN k) N bm bo bc B mt va pv ofs cut n sd := ⟨sinceN h.since k, h.l0, h.l1, h.l2, h.l3, h.sz, h.m, h.o, h.c, h.q.drewN k⟩
theorem ERel.alloc {w wr : World} {N bm bo bc B : Nat} {mt : Nat → Int} {va : Value} {pv : Nat → Value} {ofs : Nat → Int} {cut : Nat → Bool} {n : Nat} {sd : Nat → SeqD} (h : ERel w wr N bm bo bc B mt va pv ofs cut n sd) (o : Obj) :
    ERel w (wr.alloc o) N bm bo bc B mt va pv ofs cut n sd := ⟨h.since.alloc (h.since.size) o, h.l0, h.l1, h.l2, h.l3, by have := h.sz; simp; omega, h.m.alloc o, h.o.alloc o, h.c.alloc o, h.q.alloc o⟩
theorem ERel.setC {w wr : World} {N bm bo bc B : Nat} {mt : Nat → Int} {va : Value} {pv : Nat → Value} {ofs : Nat → Int} {cut : Nat → Bool} {n : Nat} {sd : Nat → SeqD} (h : ERel w wr N bm bo bc B mt va pv ofs cut n sd) (i : Nat) (v : Bool) :
    ERel w (wr.setCell ⟨bc, i, none⟩ (.bool v)) N bm bo bc B mt va pv ofs (updB cut i v) n sd := by
  have h0 := h.l0; have h1 := h.l1; have h2 := h.l2
  exact ⟨h.since.setCell (by show w.heap.size ≤ bc; omega) _, h.l0, h.l1, h.l2, h.l3, by simpa [World.setCell] using h.sz, h.m.setOther (by show bm ≠ bc; omega) _, h.o.setOther (by show bo ≠ bc; omega) _,
    (h.c.set i _).congr (fun j _ => by simp only [updB]; split <;> rfl), h.q.setLow h.l3 _⟩
theorem ERel.setO {w wr : World} {N bm bo bc B : Nat} {mt : Nat → Int} {va : Value} {pv : Nat → Value} {ofs : Nat → Int} {cut : Nat → Bool} {n : Nat} {sd : Nat → SeqD} (h : ERel w wr N bm bo bc B mt va pv ofs cut n sd) (i : Nat) (v : Int) :
    ERel w (wr.setCell ⟨bo, i, none⟩ (.int .i64 v)) N bm bo bc B mt va pv (upd ofs i v) cut n sd := by
  have h0 := h.l0; have h1 := h.l1; have h2 := h.l2; have h3 := h.l3
  exact ⟨h.since.setCell (by show w.heap.size ≤ bo; omega) _, h.l0, h.l1, h.l2, h.l3, by simpa [World.setCell] using h.sz, h.m.setOther (by show bm ≠ bo; omega) _,
    (h.o.set i _).congr (fun j _ => by simp only [upd]; split <;> rfl), h.c.setOther (by show bc ≠ bo; omega) _, h.q.setLow (by show bo < B; omega) _⟩

theorem keepA {w : World} {a : Addr} {o : Obj} {v : Value} (h : w.drew.cell? a = some v) : (w.alloc o).drew.cell? a = some v := by
  have hb := World.block_lt_of_cell? _ _ (show w.cell? a = some v from h)
  exact (World.cell?_alloc_lt w o a hb).trans h

theorem two_cells (w : World) (a b : Value) (T n : Nat) (hn : n = w.heap.size) : (w.alloc (.cells #[a, b] T)).cell? ⟨n, 0, none⟩ = some a ∧ (w.alloc (.cells #[a, b] T)).cell? ⟨n, 1, none⟩ = some b := by
  subst hn
  exact ⟨World.cell?_alloc_new w _ T 0, World.cell?_alloc_new w _ T 1⟩

theorem blk2 (w : World) (a b : Obj) : ((w.alloc a).alloc b).drew.heap[w.heap.size + 1]? = some b := by
  have h := heap_alloc_new (w.alloc a) b
  have e : (w.alloc a).heap.size = w.heap.size + 1 := by simp
  rw [e] at h
  exact h

/-- Behind an append to one of the sequences' own rows. -/
theorem ERel.grown {w wr w' : World} {N bm bo bc B : Nat} {mt : Nat → Int} {va va' : Value} {pv pv' : Nat → Value} {ofs : Nat → Int} {cut : Nat → Bool} {n n' : Nat} {sd sd' : Nat → SeqD} {row : Option Nat}
    (h : ERel w wr N bm bo bc B mt va pv ofs cut n sd) (hg : wr.grownBy w' row) (hr : ∀ r, row = some r → B ≤ r) (hq : Seqs w' B 36 va' n' pv' sd') : ERel w w' N bm bo bc B mt va' pv' ofs cut n' sd' := by
  have h0 := h.l0; have h1 := h.l1; have h2 := h.l2; have h3 := h.l3
  have hb : ∀ k, k < B → w'.heap[k]? = wr.heap[k]? := fun k hk => hg.block k (by have := h.sz; omega) (fun e => by have := hr k e.symm; omega)
  exact ⟨h.since.grown hg h.since.size (fun k e => by have := hr k e; omega), h.l0, h.l1, h.l2, h.l3, by have := h.sz; have := hg.size; omega,
    h.m.of_block (hb _ (by omega)), h.o.of_block (hb _ (by omega)), h.c.of_block (hb _ (by omega)), hq⟩

theorem ERel.newSeq {w w3 w4 : World} {N bm bo bc B : Nat} {mt : Nat → Int} {va : Value} {pv : Nat → Value} {ofs : Nat → Int} {cut : Nat → Bool} {n : Nat} {sd : Nat → SeqD} {xs : List Value} {a b : Obj} {gg capg : Nat} {lev sos eos : Int}
    (h : ERel w w3 N bm bo bc B mt va pv ofs cut n sd) (hown : w3.ownsRow B 36 4 va n xs)
    (hxs : ∀ j, j < n → xs[j*4]? = some (pv j) ∧ xs[j*4+1]? = some (.int .u8 (sd j).lev) ∧ xs[j*4+2]? = some (.int .u8 (sd j).sos) ∧ xs[j*4+3]? = some (.int .u8 (sd j).eos))
    (hown4 : w4.ownsRow B 36 4 (.slice (some ⟨gg, 0, none⟩) (n + 1) capg) (n + 1) (xs ++ [.slice none 0 0, .int .u8 lev, .int .u8 sos, .int .u8 eos]))
    (hg : ((w3.alloc a).alloc b).drew.grownBy w4 va.ownBlock) :
    ERel w w4 N bm bo bc B mt (.slice (some ⟨gg, 0, none⟩) (n + 1) capg) (updV pv n (.slice none 0 0)) ofs cut (n + 1) (updS sd n ⟨[], lev, sos, eos⟩) := by
  have h' := ((h.alloc a).alloc b).drew
  have ho := (((hown.alloc a).alloc b).drew)
  exact h'.grown hg (fun r e => (ho.lt r e).1) (Seqs.append ⟨xs, ho, hxs, hown4⟩ h'.q hg rfl)

theorem ERel.push {w wr w1 : World} {N bm bo bc B : Nat} {mt : Nat → Int} {g cap : Nat} {pv : Nat → Value} {ofs : Nat → Int} {cut : Nat → Bool} {n : Nat} {sd : Nat → SeqD} {j g' cap' : Nat} {i : Int}
    (h : ERel w wr N bm bo bc B mt (.slice (some ⟨g, 0, none⟩) n cap) pv ofs cut n sd) (hj : j < n)
    (hn : w1.ownsRow B 3 1 (.slice (some ⟨g', 0, none⟩) ((sd j).pl.length + 1) cap') ((sd j).pl.length + 1) ((sd j).pl.map (Value.int .i64) ++ [.int .i64 i])) (hg : wr.grownBy w1 (pv j).ownBlock)
    (hat : (pv j).ownBlock = some g' ∨ wr.heap.size ≤ g') :
    ∃ pv', ERel w (w1.setCell ⟨g, j*4, none⟩ (.slice (some ⟨g', 0, none⟩) ((sd j).pl.length + 1) cap')) N bm bo bc B mt (.slice (some ⟨g, 0, none⟩) n cap) pv' ofs cut n (updS sd j { sd j with pl := (sd j).pl ++ [i] }) := by
  have hq := h.q.push hj hn hg hat
  obtain ⟨⟨xs, h1, _⟩, h3, _⟩ := h.q
  have hgB := (h1.lt g rfl)
  have h0 := h.l0; have h1' := h.l1; have h2 := h.l2; have h3' := h.l3; have hsz := h.sz
  have hb : ∀ k, k < B → (w1.setCell ⟨g, j*4, none⟩ (.slice (some ⟨g', 0, none⟩) ((sd j).pl.length + 1) cap')).heap[k]? = wr.heap[k]? := fun k hk =>
    ((grownBy_setCell w1 ⟨g, j*4, none⟩ _).block k (by have := hg.size; omega) (fun e => by simp only [Option.some.injEq] at e; omega)).trans
      (hg.block k (by omega) (fun e => by have := ((h3 j hj).lt k e.symm).1; omega))
  exact ⟨_, (h.since.grown hg h.since.size (fun k e => by have := ((h3 j hj).lt k e).1; omega)).setCell (by show w.heap.size ≤ g; omega) _, h.l0, h.l1, h.l2, h.l3, by have := hg.size; simp [World.setCell]; omega,
    h.m.of_block (hb _ (by omega)), h.o.of_block (hb _ (by omega)), h.c.of_block (hb _ (by omega)), hq⟩

theorem ERel.setE {w wr : World} {N bm bo bc B : Nat} {mt : Nat → Int} {g cap : Nat} {pv : Nat → Value} {ofs : Nat → Int} {cut : Nat → Bool} {n : Nat} {sd : Nat → SeqD} {j : Nat}
    (h : ERel w wr N bm bo bc B mt (.slice (some ⟨g, 0, none⟩) n cap) pv ofs cut n sd) (hj : j < n) (x : Int) :
    ERel w (wr.setCell ⟨g, j*4+3, none⟩ (.int .u8 x)) N bm bo bc B mt (.slice (some ⟨g, 0, none⟩) n cap) pv ofs cut n (updS sd j { sd j with eos := x }) := by
  obtain ⟨xs, h1, _⟩ := h.q.own
  have hgB := (h1.lt g rfl).1
  exact h.grown (grownBy_setCell wr ⟨g, j*4+3, none⟩ _) (fun r e => by simp only [Option.some.injEq] at e; omega) (h.q.setEos hj x)

theorem ERel.start {w w1 : World} {N bm : Nat} {mt : Nat → Int} (hm : w1.rowIs bm 3 N (fun i => .int .i64 (mt i))) (h0 : w.heap.size ≤ bm) (hs : w.Since w.heap.size w1) :
    ERel w ((w1.alloc (.cells (madeCells #[.int .i64 0] N) 3)).alloc (.cells (madeCells #[.bool false] N) 4)) N bm w1.heap.size (w1.heap.size + 1) (w1.heap.size + 2) mt (.slice none 0 0) (fun _ => .slice none 0 0) (fun _ => 0) (fun _ => false) 0 (fun _ => ⟨[], 0, 0, 0⟩) := by
  have e : (w1.alloc (.cells (madeCells #[.int .i64 0] N) 3)).heap.size = w1.heap.size + 1 := by simp
  have h2 := World.rowIs_made (w1.alloc (.cells (madeCells #[.int .i64 0] N) 3)) (.bool false) N 4
  rw [e] at h2
  exact ⟨(hs.alloc hs.size _).alloc (by rw [e]; have := hs.size; omega) _, h0, hm.lt, by omega, by omega, by simp, (hm.alloc _).alloc _, (World.rowIs_made w1 (.int .i64 0) N 3).alloc _, h2, Seqs.nil _ _ _ (by decide) _ _⟩

set_option maxRecDepth 100000 in
set_option maxHeartbeats 4000000 in
theorem eseq_any (l L : List Int) (base : Int) (n : Nat) (hn : l.length = n) (hnL : L.length = n) (hlen : n ≤ 65536) (cap cl : Nat) (ao al : Option Addr) (b off bl ol : Nat) (w : World)
    (hR : Reads w .u8 ao b off l) (hL : Reads w .u8 al bl ol L) (hb : 0 ≤ base ∧ base ≤ 255) (hLr : ∀ i, 0 ≤ L.getD i 0 ∧ L.getD i 0 ≤ 255) :
    Calls Try.prog 17 #[.slice ao n cap, .slice al n cl, .int .u8 base] w (SeqDone w 36 (srun l L (mat l) base n).n (erun l L (mat l) base (srun l L (mat l) base n).ofs (srun l L (mat l) base n).sd n).2) := by
  have hz : ((n : Int) != (n : Int)) = false := by simp
  have hmk3 := run_make_row' (P := Try.prog) 33 3 (.int .i64 0) 8 Try.underlying33 Try.info3 rfl .i64 .i64 n (by omega) (by omega)
  have hmk4 := run_make_row' (P := Try.prog) 41 4 (.bool false) 1 Try.underlying41 Try.info4 rfl .i64 .i64 n (by omega) (by omega)
  have hlen2 : n ≤ 70000 := by omega
  have hd : decide ((65536 : Int) < (n : Int)) = false := by simp; omega
  have hinv := fun k => srun_inv (l := l) (mt := mat l) (L := L) hb hLr k
  have HINV := Lib.hid hinv
  have HB0 := Lib.hid hb
  have HLR := Lib.hid hLr
  clear hLr hinv
  go_enter Try.func17, Try.ntmps17
  go_wp2_with (go_at_call 23; refine (match_any l n hn cap ao b off _ hR hlen2).mono ?_; rintro e w1 ⟨bm, rfl, hm0, hm1, hm2⟩)
  have hE := ERel.start hm1 hm0 hm2
  clear hm0 hm1 hm2 hmk3 hmk4
  obtain ⟨mt, hmt⟩ : ∃ mt, mt = mat l := ⟨_, rfl⟩
  rw [← hmt] at hE
  have HINV2 : Hid (∀ k, SI k (srun l L mt base k)) := by intro k; rw [hmt]; exact HINV.out k
  have HMT := Lib.hid hmt
  clear hmt HINV
  have HINV := HINV2
  clear HINV2
  obtain ⟨bo, hbo⟩ : ∃ bo, bo = w1.heap.size := ⟨_, rfl⟩
  obtain ⟨bc, hbc⟩ : ∃ bc, bc = bo + 1 := ⟨_, rfl⟩
  obtain ⟨B, hB⟩ : ∃ B, B = bo + 2 := ⟨_, rfl⟩
  rw [← hbo, ← hbc, ← hB] at hE
  rw [← hbo, ← hbc]
  generalize (w1.alloc (Obj.cells (madeCells #[Value.int IntKind.i64 0] n) 3)).alloc (Obj.cells (madeCells #[Value.bool false] n) 4) = w2 at *
  clear hbo hbc hB hb
  have HBB := Lib.hid (fun k hk => World.block_lt_of_cell? _ _ (hR.cell k hk))
  have HBL := Lib.hid (fun k hk => World.block_lt_of_cell? _ _ (hL.cell k hk))
  go_loopg [11, 12, 13, 42] n (fun g s11 s12 s13 s42 wr => ∃ (k : Nat) (pv : Nat → Value), k ≤ n ∧ g = n - k ∧ s42 = .int .i64 k ∧ s12 = .int .i64 (srun l L mt base k).last ∧ s13 = .int .u8 (srun l L mt base k).before ∧
    ERel w wr n bm bo bc B mt s11 pv (srun l L mt base k).ofs (srun l L mt base k).cut (srun l L mt base k).n (srun l L mt base k).sd)
  case atStart => exact ⟨0, _, by omega, rfl, rfl, rfl, rfl, hE⟩
  case round =>
    clear hE
    obtain ⟨k, pv, hk, rfl, rfl, rfl, rfl, hE⟩ := hrel
    by_cases hlt : k < n
    · have hkz : (k : Int) < (n : Int) := by omega
      have hI := HINV.out k
      have hstep : srun l L mt base (k + 1) = sstep l L mt k (srun l L mt base k) := rfl
      generalize srun l L mt base k = s at *
      have HI := Lib.hid hI
      clear hI
      obtain rfl := hR.spot (by omega)
      obtain rfl := hL.spot (by omega)
      obtain ⟨c, hc⟩ : ∃ c, c = l.getD k 0 := ⟨_, rfl⟩
      have g1 : wr.cell? ⟨b, off + k, none⟩ = some (.int .u8 c) := by rw [hE.since.cell (a := ⟨b, off + k, none⟩) (HBB.out k (by omega)), hc]; exact hR.cell k (by omega)
      have HC := Lib.hid hc
      have HS := Lib.hid hstep
      clear hc hstep
      cases hrem : remB c
      · obtain ⟨qa, qc, rfl⟩ := hE.q.shape
        go_upto_if 50 with (go_at_call 36; refine (removed_any _ _).mono ?_; rintro e w' ⟨rfl, rfl⟩)
        have hlev : wr.cell? ⟨bl, ol + k, none⟩ = some (.int .u8 (L.getD k 0)) := by rw [hE.since.cell (a := ⟨bl, ol + k, none⟩) (HBL.out k (by omega))]; exact hL.cell k (by omega)
        go_cut [] (fun wx => ERel w wx n bm bo bc B mt (.slice qa s.n qc) pv s.ofs (scut L k s) s.n s.sd)
        case first =>
          by_cases hl : 0 ≤ s.last
          · have hl1 := HI.out.last1
            have hjn : s.last.toNat < n := by omega
            have hjz : s.last < (n : Int) := by omega
            have hlev2 : wr.cell? ⟨bl, ol + s.last.toNat, none⟩ = some (.int .u8 (L.getD s.last.toNat 0)) := by rw [hE.since.cell (a := ⟨bl, ol + s.last.toNat, none⟩) (HBL.out s.last.toNat (by omega))]; exact hL.cell s.last.toNat (by omega)
            have c1 : wr.cell? ⟨bc, s.last.toNat, none⟩ = some (.bool (s.cut s.last.toNat)) := hE.c.cell hjn
            have c2 : wr.frozen? ⟨bc, s.last.toNat, none⟩ = false := hE.c.frozen _
            have E : Hid (scut L k s = updB s.cut s.last.toNat (L.getD s.last.toNat 0 != L.getD k 0)) := if_pos hl
            generalize L.getD k 0 = x at *
            generalize L.getD s.last.toNat 0 = y at *
            go_wp2_with fail
            go_region
            go_wp2_with fail
            go_meet
            go_light
            rw [E.out]
            exact (hE.setC s.last.toNat _).drew
          · have E : Hid (scut L k s = s.cut) := if_neg hl
            go_wp2_with fail
            go_meet
            go_light
            rw [E.out]
            exact hE
        case rest =>
          clear hE
          have hE := hcut
          clear hcut
          have m1 : wc.cell? ⟨bm, k, none⟩ = some (.int .i64 (mt k)) := hE.m.cell hlt
          go_upto_block 3 with fail
          go_cut [11] (fun s11 wx => EMid w wx n bm bo bc B mt s11 L k s)
          case first =>
            have o1 : wc.cell? ⟨bo, k, none⟩ = some (.int .i64 (s.ofs k)) := hE.o.cell hlt
            have o2 : wc.frozen? ⟨bo, k, none⟩ = false := hE.o.frozen k
            have hl1 := HI.out.last1
            by_cases hA : 0 ≤ s.last ∧ scut L k s s.last.toNat = false
            · have hsel : ssel L mt k s = (s, (s.ofs s.last.toNat).toNat) := if_pos hA
              obtain ⟨hA1, hA2⟩ := hA
              have hjn : s.last.toNat < n := by omega
              have hjz : s.last < (n : Int) := by omega
              have hlo := HI.out.lofs hA1
              have c1 : wc.cell? ⟨bc, s.last.toNat, none⟩ = some (.bool false) := by rw [← hA2]; exact hE.c.cell hjn
              have o3 : wc.cell? ⟨bo, s.last.toNat, none⟩ = some (.int .i64 (s.ofs s.last.toNat)) := hE.o.cell hjn
              have HSEL := Lib.hid hsel
              clear hsel hA2 hlev m1
              go_wp2_with fail
              go_meet
              go_light
              refine ⟨pv, ?_⟩
              rw [HSEL.out]
              have := hE.setO k (s.ofs s.last.toNat)
              rw [show ((((s.ofs s.last.toNat).toNat : Nat)) : Int) = s.ofs s.last.toNat by omega]
              exact this
            · have HA : Hid (¬ (0 ≤ s.last ∧ scut L k s s.last.toNat = false)) := hA
              have hA' : s.last < 0 ∨ (0 ≤ s.last ∧ scut L k s s.last.toNat = true) := by
                by_cases h : s.last < 0
                · exact Or.inl h
                · right
                  refine ⟨by omega, ?_⟩
                  cases hh : scut L k s s.last.toNat
                  · exact absurd ⟨by omega, hh⟩ hA
                  · rfl
              obtain ⟨wd, hwd⟩ : ∃ wd, wd = wc := ⟨_, rfl⟩
              subst hwd
              go_upto_region 19 with fail
              go_cut [87] (fun s87 wx => s87 = .bool false ∧ wd = wx)
              case first =>
                clear hA o1 o2 m1 hlev
                rcases hA' with h1 | ⟨h1, h2⟩
                · go_wp2_with fail
                  go_meet
                  exact ⟨rfl, rfl⟩
                · have hjz : s.last < (n : Int) := by omega
                  have c1 : wd.cell? ⟨bc, s.last.toNat, none⟩ = some (.bool true) := by rw [← h2]; exact hE.c.cell (by omega)
                  clear h2
                  go_wp2_with fail
                  go_meet
                  exact ⟨rfl, rfl⟩
              case rest =>
                obtain ⟨rfl, rfl⟩ := hcut
                clear hA hA'
                by_cases hB : 0 ≤ mt k ∧ mt k < k ∧ scut L k s (mt k).toNat = true
                · have hsel : ssel L mt k s = (s, (s.ofs (mt k).toNat).toNat) := by unfold ssel; rw [if_neg HA.out, if_pos hB]
                  obtain ⟨hB1, hB2, hB3⟩ := hB
                  have hmn : (mt k).toNat < n := by omega
                  have hmz : mt k < (n : Int) := by omega
                  have hso := scut_ofs HI.out hB3
                  have c1 : wd.cell? ⟨bc, (mt k).toNat, none⟩ = some (.bool true) := by rw [← hB3]; exact hE.c.cell hmn
                  have o3 : wd.cell? ⟨bo, (mt k).toNat, none⟩ = some (.int .i64 (s.ofs (mt k).toNat)) := hE.o.cell hmn
                  have HSEL := Lib.hid hsel
                  clear hsel hB3 hlev m1
                  go_wp2_with fail
                  go_meet
                  go_light
                  refine ⟨pv, ?_⟩
                  rw [HSEL.out]
                  have := hE.setO k (s.ofs (mt k).toNat)
                  rw [show ((((s.ofs (mt k).toNat).toNat : Nat)) : Int) = s.ofs (mt k).toNat by omega]
                  exact this
                · have hsel : ssel L mt k s = (snew s (L.getD k 0), s.n) := by unfold ssel; rw [if_neg HA.out, if_neg hB]
                  have hB' : mt k < 0 ∨ (k : Int) ≤ mt k ∨ (0 ≤ mt k ∧ mt k < k ∧ scut L k s (mt k).toNat = false) := by
                    by_cases h : mt k < 0
                    · exact Or.inl h
                    · by_cases h2 : (k : Int) ≤ mt k
                      · exact Or.inr (Or.inl h2)
                      · right; right
                        refine ⟨by omega, by omega, ?_⟩
                        cases hh : scut L k s (mt k).toNat
                        · rfl
                        · exact absurd ⟨by omega, by omega, hh⟩ hB
                  go_upto_region 21 with fail
                  go_cut [104] (fun s104 wx => s104 = .bool false ∧ wd = wx)
                  case first =>
                    clear hB o1 o2 m1 hlev hsel
                    rcases hB' with h1 | h1 | ⟨h1, h2, h3⟩
                    · go_wp2_with fail
                      go_meet
                      exact ⟨rfl, rfl⟩
                    · have h1' : 0 ≤ mt k := by omega
                      go_wp2_with fail
                      go_meet
                      exact ⟨rfl, rfl⟩
                    · have hmz : mt k < (n : Int) := by omega
                      have c1 : wd.cell? ⟨bc, (mt k).toNat, none⟩ = some (.bool false) := by rw [← h3]; exact hE.c.cell (by omega)
                      clear h3
                      go_wp2_with fail
                      go_meet
                      exact ⟨rfl, rfl⟩
                  case rest =>
                    obtain ⟨rfl, rfl⟩ := hcut
                    clear hB hB'
                    have hx := HLR.out k
                    have hbf := HI.out.bf
                    obtain ⟨i36, hi36, hz36, hz36b, hz36c⟩ := info_parts Try.info36
                    generalize hxx : L.getD k 0 = x at *
                    have HX := Lib.hid hxx
                    have HSEL := Lib.hid hsel
                    clear hsel hxx
                    go_upto_region 18 with fail
                    have hE3 := hE.setO k s.n
                    have hlev3 : (wd.setCell ⟨bo, k, none⟩ (.int .i64 s.n)).cell? ⟨bl, ol + k, none⟩ = some (.int .u8 x) := by
                      have h1 := hE3.since.cell (a := ⟨bl, ol + k, none⟩) (HBL.out k (by omega))
                      rw [h1, hL.cell k (by omega), HX.out]
                    generalize wd.setCell ⟨bo, k, none⟩ (.int .i64 s.n) = w3 at *
                    clear hE o1 o2 m1 hlev
                    obtain ⟨xs, hown, hxs⟩ := hE3.q.own
                    have HHE := Lib.hid hE3
                    have HXS := Lib.hid hxs
                    clear hE3 hxs
                    have hnk := HI.out.nk
                    have hr1 : s.n + 1 ≤ maxLen := by unfold maxLen; omega
                    have hr2 : (s.n + 1) * 32 ≤ 140737488355328 := by omega
                    have hr3 : B ≤ w3.heap.size := HHE.out.sz
                    have hnb : some bl ≠ (Value.slice qa s.n qc).ownBlock := by
                      intro e
                      have := (hown.lt bl e.symm).1
                      have := HHE.out.low
                      have := HBL.out k (by omega)
                      omega
                    go_region_held3 (fun w' => w'.cell? ⟨bl, ol + k, none⟩ = some (.int .u8 x)) (first | exact hlev3 | assumption | exact keepA (by assumption) | exact World.grownBy.cell (by assumption) (by assumption) hnb) (first | (go_at_call 37; refine (side_any _ _ hbf hx _ _ ?_ ?_).mono ?_; (simp); (simp); rintro e w' ⟨rfl, rfl⟩) | (refine step_append_lies _ (by rfl) _ _ _ (by rfl) B 36 i36 _ 4 32 Try.underlying29 hi36 hz36 hz36b hz36c rfl (by omega) (.slice qa s.n qc) s.n xs (by rfl) (((hown.alloc _).alloc _).drew) ⟨w3.heap.size + 1, 0, none⟩ 1 1 [.slice none 0 0, .int .u8 x, .int .u8 (sideI s.before x), .int .u8 0] (by rfl) (by rfl) (World.news_of_block (cs := #[.slice none 0 0, .int .u8 x, .int .u8 (sideI s.before x), .int .u8 0]) (t := 36) (fr := (0, 0)) (blk2 _ _ _)) (by simp [Value.oneCell']) (by omega) hr1 hr2 (by simp; omega) (w3.heap.size + 2) (by simp) ?_; intro gg capg w4 hown4 hgrow4 hat4 hlt4))
                    go_wp2_with fail
                    go_meet
                    go_light
                    unfold EMid
                    rw [HSEL.out]
                    simp only [snew]
                    exact ⟨_, HHE.out.newSeq hown HXS.out hown4 hgrow4⟩
          case rest =>
            clear hE m1
            obtain ⟨pv', hE⟩ := hcut
            have hsl := ssel_lt (L := L) (mt := mt) (i := k) HI.out
            have hsm := ssel_same (L := L) (mt := mt) (i := k) (s := s)
            have hbef1 := hsm.2.2 (ssel L mt k s).2 k HI.out.pk
            have hbef2 := HI.out.nk
            have HST : Hid (sstep l L mt k s = sput (ssel L mt k s).1 (scut L k s) (ssel L mt k s).2 k (L.getD k 0)) := by
              show _ = _
              rw [sstep, if_neg (by rw [← HC.out, hrem]; simp)]
            have HOFS := Lib.hid hsm.1
            clear hsm
            obtain ⟨hsl1, hsl2, hsl3⟩ := hsl
            generalize ssel L mt k s = sj at *
            obtain ⟨s', j⟩ := sj
            simp only at hE hsl1 hsl2 hsl3 hbef1
            obtain ⟨g, cp, rfl, hg1, hg2⟩ := hE.q.form (by omega)
            obtain ⟨i3, hi3, hz3, hz3b, hz3c⟩ := info_parts Try.info3
            have o1 : wc.cell? ⟨bo, k, none⟩ = some (.int .i64 j) := by
              have := hE.o.cell hlt
              simpa [upd] using this
            have hjz : (j : Int) < (s'.n : Int) := by omega
            have HRUN : Hid (srun l L mt base (k + 1) = sput s' (scut L k s) j k (L.getD k 0)) := by show _ = _; rw [HS.out, HST.out]
            have q0 := (hE.q.cells hsl1).1
            have hsz := hE.sz
            have hpl := hE.q.pls j hsl1
            go_upto_region 24 with fail
            go_wp2_with (at_builtin; go_loud (refine wpList_append_lies _ rfl _ _ _ rfl B 3 i3 _ 1 8 Try.underlying33 hi3 hz3 hz3b hz3c rfl (by omega) (pv' j) _ _ rfl (hpl.alloc _) ⟨wc.heap.size, 0, none⟩ 1 1 [.int .i64 k] rfl rfl (World.news_of_block (cs := #[.int .i64 k]) (t := 3) (fr := (0, 0)) (heap_alloc_new wc _)) (by simp [Value.oneCell']) (by omega) (by unfold maxLen; omega) (by omega) (by simp; omega) (wc.heap.size + 1) (by simp) ?_); intro gg capg w4 hown4 hgrow4 hat4 hlt4; obtain ⟨hst1, hst2⟩ := (hE.q.alloc _).pushed hsl1 hgrow4)
            obtain ⟨pv2, hE2⟩ := (hE.alloc _).push hsl1 hown4 hgrow4 (hat4.imp id (fun e => by simp; omega))
            clear hE q0 hsz hpl o1 hown4 hgrow4 hat4 hlt4 hst1 hst2
            generalize w4.setCell ⟨g, j * 4, none⟩ (.slice (some ⟨gg, 0, none⟩) ((s'.sd j).pl.length + 1) capg) = w5 at *
            have hlev5 : w5.cell? ⟨bl, ol + k, none⟩ = some (.int .u8 (L.getD k 0)) := by rw [hE2.since.cell (a := ⟨bl, ol + k, none⟩) (HBL.out k (by omega))]; exact hL.cell k (by omega)
            generalize L.getD k 0 = x at *
            go_region
            go_wp2_with fail
            go_roundg (n - (k + 1))
            case measure => go_light; omega
            case rel =>
              go_light
              refine ⟨k + 1, pv2, by omega, rfl, by go_num, by rw [HRUN.out]; rfl, by rw [HRUN.out]; rfl, ?_⟩
              rw [HRUN.out]
              simp only [sput]
              rw [HOFS.out]
              exact hE2.drew
      · go_wp2_with (go_at_call 36; refine (removed_any _ _).mono ?_; rintro e w' ⟨rfl, rfl⟩)
        go_roundg (n - (k + 1))
        case measure => go_light; omega
        case rel => go_light; exact ⟨k + 1, pv, by omega, rfl, by go_num, by rw [HS.out, sstep, if_pos (by rw [← HC.out]; exact hrem)], by rw [HS.out, sstep, if_pos (by rw [← HC.out]; exact hrem)], by rw [HS.out, sstep, if_pos (by rw [← HC.out]; exact hrem)]; exact hE⟩
    · obtain rfl : k = n := by omega
      have hkz : ¬ ((k : Int) < (k : Int)) := by omega
      have HINV2 := Lib.hid (fun k => srun_sp (l := l) (mt := mt) (L := L) HB0.out HLR.out k)
      have HEV := Lib.hid (fun ofs sd k => erun_inv (l := l) (mt := mt) (L := L) HB0.out HLR.out ofs sd k)
      have HSP : Hid (SP l k (srun l L mt base k)) := HINV2.out k
      have HSI : Hid (SI k (srun l L mt base k)) := HINV.out k
      clear HINV2
      obtain ⟨s, hs⟩ : ∃ s, s = srun l L mt base k := ⟨_, rfl⟩
      rw [← hs] at hE HSP HSI
      have HSR := Lib.hid hs
      clear hs
      go_wp2_with fail
      go_loopg [18, 19] k (fun g s18 s19 wx => ∃ q : Nat, q ≤ k ∧ g = k - q ∧ s19 = .int .i64 ((k : Int) - 1 - q) ∧ s18 = .int .u8 (erun l L mt base s.ofs s.sd q).1 ∧ ERel w wx k bm bo bc B mt u11 pv s.ofs s.cut s.n (erun l L mt base s.ofs s.sd q).2)
      case atStart => exact ⟨0, by omega, rfl, by go_num, rfl, hE⟩
      case round =>
        clear hE
        obtain ⟨q, hq, rfl, rfl, rfl, hE⟩ := hrel
        by_cases hqk : q < k
        · obtain ⟨i, hi⟩ : ∃ i : Nat, (k : Int) - 1 - q = i := ⟨k - 1 - q, by omega⟩
          have hik : i < k := by omega
          have hev := HEV.out s.ofs s.sd q
          have hstep : erun l L mt base s.ofs s.sd (q + 1) = estep l L mt base s.ofs i (erun l L mt base s.ofs s.sd q) := by
            rw [erun, show l.length - 1 - q = i by omega]
          rw [hi]
          generalize erun l L mt base s.ofs s.sd q = t at *
          obtain ⟨t1, t2⟩ := t
          obtain ⟨⟨ht0, ht1⟩, htp⟩ := hev
          simp only at ht0 ht1 htp hE
          have HS := Lib.hid hstep
          have HTP := Lib.hid htp
          have HI := Lib.hid hi
          clear hstep htp hi
          obtain rfl := hR.spot (by omega)
          obtain rfl := hL.spot (by omega)
          obtain ⟨c, hc⟩ : ∃ c, c = l.getD i 0 := ⟨_, rfl⟩
          obtain ⟨x, hx⟩ : ∃ x, x = L.getD i 0 := ⟨_, rfl⟩
          have hxr : 0 ≤ x ∧ x ≤ 255 := by rw [hx]; exact HLR.out i
          have g1 : wr.cell? ⟨b, off + i, none⟩ = some (.int .u8 c) := by rw [hE.since.cell (a := ⟨b, off + i, none⟩) (HBB.out i (by omega)), hc]; exact hR.cell i (by omega)
          have g2 : wr.cell? ⟨bl, ol + i, none⟩ = some (.int .u8 x) := by rw [hE.since.cell (a := ⟨bl, ol + i, none⟩) (HBL.out i (by omega)), hx]; exact hL.cell i (by omega)
          have HC := Lib.hid hc
          have HX := Lib.hid hx
          clear hc hx
          cases hrem : remB c
          · have hsp := HSP.out i hik (by rw [← HC.out]; exact hrem)
            obtain ⟨j, hj⟩ := Int.eq_ofNat_of_zero_le hsp.1
            rw [hj] at hsp
            have hsp2 : j < s.n := by omega
            have hjz : (j : Int) < (s.n : Int) := by omega
            have hsp3 : 0 < (t2 j).pl.length := by rw [HTP.out j]; exact hsp.2.2
            have hplk : (t2 j).pl.length ≤ 70000 := by rw [HTP.out j]; have := HSI.out.pk j; omega
            have o1 : wr.cell? ⟨bo, i, none⟩ = some (.int .i64 j) := by have := hE.o.cell hik; rw [hj] at this; exact this
            have HSTP : Hid (estep l L mt base s.ofs i (t1, t2) = if (t2 j).pl.getD ((t2 j).pl.length - 1) 0 = i then (x, updS t2 j { t2 j with eos := sideI x (if initB c = true ∧ mt i < 0 then base else t1) }) else (x, t2)) := by
              show _ = _
              rw [estep, if_neg (by rw [← HC.out, hrem]; simp), hj, HC.out, HX.out]
              rfl
            have HJ := Lib.hid hj
            clear hsp hj
            obtain ⟨g, cp, rfl, hg1, hg2⟩ := hE.q.form (by omega)
            obtain ⟨q0, q1, q2, q3⟩ := hE.q.cells hsp2
            obtain ⟨g', cp', hpv, _, _⟩ := (hE.q.pls j hsp2).form hsp3
            have hpc := (hE.q.pls j hsp2)
            rw [hpv] at hpc q0
            have hpc1 := hpc.cellAt ((t2 j).pl.length - 1) (by omega)
            have hpc2 : wr.cell? ⟨g', (t2 j).pl.length - 1, none⟩ = some (.int .i64 ((t2 j).pl.getD ((t2 j).pl.length - 1) 0)) := by
              rw [hpc1, List.getElem?_map, List.getElem?_eq_getElem (by omega), List.getD_eq_getElem?_getD, List.getElem?_eq_getElem (by omega)]; rfl
            clear hpc hpc1
            have HPV := Lib.hid hpv
            clear hpv
            go_upto_region 33 with (go_at_call 36; refine (removed_any _ _).mono ?_; rintro e w' ⟨rfl, rfl⟩)
            obtain ⟨m, hm⟩ : ∃ m, m = (t2 j).pl.length := ⟨_, rfl⟩
            obtain ⟨y, hy⟩ : ∃ y, y = (t2 j).pl.getD ((t2 j).pl.length - 1) 0 := ⟨_, rfl⟩
            have HY := Lib.hid hy
            rw [← hy] at hpc2 HSTP
            rw [← hm] at hpc2 q0 hsp3 hplk
            have HM := Lib.hid hm
            clear hm hy
            have w1 : IntKind.i64.wrap ((m : Int) - 1) = (m : Int) - 1 := IntWalk.i64_in _ (by omega)
            have w2 : 0 ≤ (m : Int) - 1 := by omega
            have w3 : (m : Int) - 1 < (m : Int) := by omega
            have w4 : ((m : Int) - 1).toNat = m - 1 := by omega
            go_quiet (fail)
            clear w1 w2 w3 w4
            go_upto_if 179 with fail
            go_cut [] (fun wx => ERel w wx k bm bo bc B mt (.slice (some ⟨g, 0, none⟩) s.n cp) pv s.ofs s.cut s.n (estep l L mt base s.ofs i (t1, t2)).2)
            case first =>
              by_cases hyi : y = i
              · have hz : (y == (i : Int)) = true := by simp [hyi]
                have HYI := Lib.hid hyi
                clear hyi
                have m1 : wr.cell? ⟨bm, i, none⟩ = some (.int .i64 (mt i)) := hE.m.cell hik
                have q3f : ∀ nq o, ((wr.drewN nq).alloc o).frozen? ⟨g, j * 4 + 3, none⟩ = false := fun nq o => ((hE.q.drewN nq).alloc o).frozen _
                have q3c : ∀ nq o, ((wr.drewN nq).alloc o).cell? ⟨g, j * 4 + 3, none⟩ = some (.int .u8 (t2 j).eos) := fun nq o => (((hE.q.drewN nq).alloc o).cells hsp2).2.2.2
                cases hin : initB c
                · have E : Hid ((estep l L mt base s.ofs i (t1, t2)).2 = updS t2 j { t2 j with eos := sideI x t1 }) := by
                    show _ = _
                    rw [HSTP.out, if_pos HYI.out, if_neg (by rw [hin]; simp)]
                  clear HSTP
                  go_wp2_with (first | (go_at_call 38; refine (initiator_any _ _).mono ?_; rintro e w' ⟨rfl, rfl⟩) | (go_at_call 37; refine (side_any _ _ hxr (by first | exact HB0.out | exact ⟨ht0, ht1⟩) _ _ (two_cells _ _ _ _ _ rfl).1 (two_cells _ _ _ _ _ rfl).2).mono ?_; rintro e w' ⟨rfl, rfl⟩))
                  go_meet
                  go_light
                  rw [E.out]
                  exact ((hE.drewN _).alloc _).setE hsp2 _
                · by_cases hmi : mt i < 0
                  · have E : Hid ((estep l L mt base s.ofs i (t1, t2)).2 = updS t2 j { t2 j with eos := sideI x base }) := by
                      show _ = _
                      rw [HSTP.out, if_pos HYI.out, if_pos ⟨hin, hmi⟩]
                    clear HSTP
                    go_wp2_with (first | (go_at_call 38; refine (initiator_any _ _).mono ?_; rintro e w' ⟨rfl, rfl⟩) | (go_at_call 37; refine (side_any _ _ hxr (by first | exact HB0.out | exact ⟨ht0, ht1⟩) _ _ (two_cells _ _ _ _ _ rfl).1 (two_cells _ _ _ _ _ rfl).2).mono ?_; rintro e w' ⟨rfl, rfl⟩))
                    go_meet
                    go_light
                    rw [E.out]
                    exact ((hE.drewN _).alloc _).setE hsp2 _
                  · have E : Hid ((estep l L mt base s.ofs i (t1, t2)).2 = updS t2 j { t2 j with eos := sideI x t1 }) := by
                      show _ = _
                      rw [HSTP.out, if_pos HYI.out, if_neg (by intro hh; exact hmi hh.2)]
                    clear HSTP
                    go_wp2_with (first | (go_at_call 38; refine (initiator_any _ _).mono ?_; rintro e w' ⟨rfl, rfl⟩) | (go_at_call 37; refine (side_any _ _ hxr (by first | exact HB0.out | exact ⟨ht0, ht1⟩) _ _ (two_cells _ _ _ _ _ rfl).1 (two_cells _ _ _ _ _ rfl).2).mono ?_; rintro e w' ⟨rfl, rfl⟩))
                    go_meet
                    go_light
                    rw [E.out]
                    exact ((hE.drewN _).alloc _).setE hsp2 _
              · have hz : (y == (i : Int)) = false := by simp [hyi]
                have E : Hid ((estep l L mt base s.ofs i (t1, t2)).2 = t2) := by
                  show _ = _
                  rw [HSTP.out, if_neg hyi]
                clear HSTP hyi
                go_wp2_with fail
                go_meet
                go_light
                rw [E.out]
                exact hE.drewN _
            case rest =>
              have E1 : Hid ((estep l L mt base s.ofs i (t1, t2)).1 = x) := by
                show _ = _
                rw [HSTP.out]; split <;> rfl
              clear hE g1 g2 q0 q1 q2 q3 o1 hpc2 HSTP
              have hE := hcut
              clear hcut
              have g2 : wc.cell? ⟨bl, ol + i, none⟩ = some (.int .u8 x) := by rw [hE.since.cell (a := ⟨bl, ol + i, none⟩) (HBL.out i (by omega)), HX.out]; exact hL.cell i (by omega)
              go_wp2_with fail
              go_roundg (k - (q + 1))
              case measure => go_light; omega
              case rel =>
                go_light
                exact ⟨q + 1, by omega, rfl, congrArg (Value.int IntKind.i64) (by have := HI.out; omega), by rw [HS.out, E1.out], by rw [HS.out]; exact hE⟩
          · go_wp2_with (go_at_call 36; refine (removed_any _ _).mono ?_; rintro e w' ⟨rfl, rfl⟩)
            go_roundg (k - (q + 1))
            case measure => go_light; omega
            case rel => go_light; exact ⟨q + 1, by omega, rfl, congrArg (Value.int IntKind.i64) (by have := HI.out; omega), by rw [HS.out, estep, if_pos (by rw [← HC.out]; exact hrem)], by rw [HS.out, estep, if_pos (by rw [← HC.out]; exact hrem)]; exact hE⟩
        · obtain rfl : q = k := by omega
          have hqz : ¬ (0 ≤ (q : Int) - 1 - q) := by omega
          go_wp2_with fail
          go_ret2
          exact ⟨_, pv, B, rfl, hE.low, by rw [← HMT.out, ← HSR.out]; exact hE.q, hE.since⟩
#print axioms eseq_any
end Go.Proofs.Ytkfjhannbnijkaa
