/- What the laws of sequences share: a row copied, a row as a string, zeros put into a sequence. -/
import Derived.Test.YtkfjhannbnijkaaK
import Derived.Laws.AppendOwnNone
import Derived.Laws.BytesArg
namespace Go.Proofs.Ytkfjhannbnijkaa
open Go.RowKit

theorem Try.info34 : (Try.prog.info? 34).map (fun i => (i.zero, i.size, i.bytes)) = some (some (.int .u8 0), 1, 1) := by kernel_rfl
theorem Try.info5 : (Try.prog.info? 5).map (fun i => (i.zero, i.size, i.bytes)) = some (some (.int .u8 0), 1, 1) := by kernel_rfl

theorem own_form {w : World} {B T s : Nat} {v : Value} {n : Nat} {xs : List Value} (h : w.ownsRow B T s v n xs) : ∃ a c, v = .slice a n c := by
  rcases h.2 with ⟨rfl, rfl⟩ | ⟨g, cap, cur, rfl, _⟩
  · exact ⟨_, _, rfl⟩
  · exact ⟨_, _, rfl⟩

/-- append(v, x...), where x is a row of numbers that is read: nil, empty or not. -/
theorem wpList_append_read {P : Program} {w : World} {ops : Array Oper} {rest : List Oper} {o : Oper} {a : Act} {Q : Exit → Act → World → Prop} (hgd : o.guard = none) (s x : Operand) (t : TypeId)
    (ho : o.op = .call { callee := .builtin .append, args := #[s, x], argTypes := #[t, t] })
    (base : Nat) (e : TypeId) (i : TypeInfo) (z : Value) (bytes : Nat) (ht : P.underlying t = some (.slice e)) (hi : P.info? e = some i) (hz : i.zero = some z)
    (hsize : i.size = 1) (hby : i.bytes = bytes) (hzs : z.cells.size = 1)
    (v : Value) (n : Nat) (xs : List Value) (hs : a.eval s = v) (hown : w.ownsRow base e 1 v n xs)
    {k : IntKind} {ao : Option Addr} {b off c m : Nat} {l : List Int} (hR : Reads w k ao b off l) (hm : l.length = m) (hc : ao = none → c = 0) (hx : a.eval x = .slice ao m c)
    (h63 : n + m ≤ maxLen) (hbytes : (n + m) * bytes ≤ 140737488355328) (hbase : base ≤ w.heap.size)
    (h : ∀ v' w', w'.ownsRow base e 1 v' (n + m) (xs ++ l.map (Value.int k)) → w.grownBy w' v.ownBlock → wpList P ops Q rest (a.put o.dst v') w') :
    wpList P ops Q (o :: rest) a w := by
  cases ao with
  | none =>
    have hl0 : l = [] := by
      cases l with
      | nil => rfl
      | cons y l => have := hR.spot (by simp); cases this
    subst hl0
    have hm0 : m = 0 := by simpa using hm.symm
    have hc0 := hc rfl
    subst hm0 hc0
    refine wpList_append_own_none hgd s x t ho base e i 1 ht hi v n xs hs hown hx ?_
    refine h v w (by simpa using hown) ⟨rfl, rfl, rfl, Nat.le_refl _, fun _ _ _ => rfl⟩
  | some ad =>
    refine wpList_append_own_at w hgd s x t ho base e i z 1 bytes ht hi hz hsize hby hzs (by omega) v n xs hs hown ad m c (l.map (Value.int k)) hx (by simpa using hm) ?_ ?_ h63 hbytes hbase ?_
    · intro j u hj
      have hjl : j < l.length := by
        rcases Nat.lt_or_ge j l.length with h | h
        · exact h
        · rw [List.getElem?_eq_none (by simpa using h)] at hj; cases hj
      have hsp := hR.spot (by omega)
      injection hsp with hsp
      subst hsp
      have hcell := hR.cell j hjl
      rw [List.getElem?_map, List.getElem?_eq_getElem hjl] at hj
      simp only [Option.map_some, Option.some.injEq] at hj
      rw [Go.WideShapes.add_plain, hcell, ← hj, List.getD_eq_getElem?_getD, List.getElem?_eq_getElem hjl]
      rfl
    · intro u hu
      obtain ⟨y, _, rfl⟩ := List.mem_map.1 hu
      rfl
    · intro v' w' h1 h2 _ _
      exact h v' w' h1 h2

theorem own_readsK {w : World} {B T : Nat} {v : Value} {P : List Int} {k : IntKind} {n : Nat} (h : w.ownsRow B T 1 v n (P.map (Value.int k))) (hn : P.length = n) : ∃ a c b, v = .slice a n c ∧ Reads w k a b 0 P ∧ (a = none → c = 0) := by
  rcases h.2 with ⟨rfl, e⟩ | ⟨g, cap, cur, rfl, _⟩
  · exact ⟨none, 0, 0, by rw [e], ⟨fun h => by omega, fun i hi => by omega⟩, fun _ => rfl⟩
  · refine ⟨_, cap, g, rfl, ⟨fun _ => rfl, fun i hi => ?_⟩, fun e => by cases e⟩
    rw [Nat.zero_add, h.cellAt i (by omega), List.getElem?_map, List.getElem?_eq_getElem hi, List.getD_eq_getElem?_getD, List.getElem?_eq_getElem hi]
    rfl

theorem conv_reads {w : World} {ao : Option Addr} {b off n c : Nat} {l : List Int} (h : Reads w .u8 ao b off l) (hn : l.length = n) :
    ∀ dst, Try.prog.underlying dst = some .string → (convert 23 dst (.slice ao n c)).run Try.prog w = .ok (.string (strOfNums l)) w := by
  intro dst hd
  by_cases h0 : 0 < l.length
  · have := h.spot h0
    subst this
    exact run_convert_bytes_arg w 23 5 Try.underlying23 Try.underlying5 b off n c l hn (fun i hi => h.cell i (by omega)) dst hd
  · have hl0 : l = [] := by cases l with
      | nil => rfl
      | cons y l => simp at h0
    subst hl0
    have hm0 : n = 0 := by simpa using hn.symm
    subst hm0
    cases ao with
    | none => rw [run_convert_bytes_nil w 23 5 Try.underlying23 Try.underlying5 0 c dst hd]; rfl
    | some ad =>
      rw [run_convert_bytes_string w 23 dst 5 _ 0 c Try.underlying23 Try.underlying5 hd, run_bytesToString w ad 0 c [] (by simp [loadCells, loadCellsFrom])]
      rfl

theorem Since.then {A B : Nat} {a b c : World} (h : a.Since A b) (k : b.Since B c) (hAB : A ≤ B) : a.Since A c :=
  ⟨k.os.trans h.os, k.tape.trans h.tape, k.output.trans h.output, Nat.le_trans h.size k.size, fun i hi => (k.block i (by omega)).trans (h.block i hi)⟩

theorem grown_since {w w' : World} {row : Option Nat} (h : w.grownBy w' row) (hr : ∀ r, row = some r → w.heap.size ≤ r) : w.Since w.heap.size w' :=
  (World.Since.refl _ _).grown h (Nat.le_refl _) hr

/-- A number put into a place of the j-th sequence. -/
theorem Seqs.poke {w : World} {B T : Nat} {va : Value} {n : Nat} {pv : Nat → Value} {sd : Nat → SeqD} (h : Seqs w B T va n pv sd) {j : Nat} (hj : j < n) {g c : Nat} (hp : pv j = .slice (some ⟨g, 0, none⟩) (sd j).pl.length c) (k : Nat) (x : Int) :
    Seqs (w.setCell ⟨g, k, none⟩ (.int .i64 x)) B T va n pv (updS sd j { sd j with pl := (sd j).pl.set k x }) := by
  obtain ⟨⟨xs, h1, h2⟩, h3, h4, h5⟩ := h
  have hgr := grownBy_setCell w ⟨g, k, none⟩ (.int .i64 x)
  have hob : (pv j).ownBlock = some g := by rw [hp]; rfl
  have k1 : (w.setCell ⟨g, k, none⟩ (.int .i64 x)).ownsRow B T 4 va n xs := h1.kept hgr (by rw [← hob]; exact own_ne h1 (h3 j hj) h5)
  refine ⟨⟨xs, k1, fun i hi => ?_⟩, fun i hi => ?_, h4, h5⟩
  · obtain ⟨a, b, c, d⟩ := h2 i hi
    simp only [updS]
    split
    · rename_i e; subst e; exact ⟨a, b, c, d⟩
    · exact ⟨a, b, c, d⟩
  · by_cases e : i = j
    · subst e
      simp only [updS, if_true, List.length_set, List.map_set]
      have h6 := h3 i hj
      rw [hp] at h6 ⊢
      exact (h6.stored k _).1
    · simp only [updS, if_neg e]
      exact (h3 i hi).kept hgr (by rw [← hob]; exact h4 i j hi hj e)
end Go.Proofs.Ytkfjhannbnijkaa
