/- A slice of bytes that came in, as it is read. -/
import Derived.Test.YtkfjhannbnijkaaJ
import Derived.OpenShut
namespace Go.Proofs.Ytkfjhannbnijkaa
open Go.RowKit

theorem arg_reads {w : World} {a : Option Addr} {len cap : Nat} {zs : List Int}
    (h : (a = none ∧ len = 0 ∧ cap = 0 ∧ zs = []) ∨ ∃ x, a = some x ∧ len ≤ cap ∧ cap ≤ maxLen ∧ zs.length = cap ∧ (∀ i, i < zs.length → w.cell? (x.add i) = some (.int .u8 (zs.getD i 0))) ∧ ∀ n ∈ zs, (Lit.int .u8 n).wf = true) :
    ∃ b off, Reads w .u8 a b off (zs.take len) ∧ (zs.take len).length = len ∧ (a = none → cap = 0) ∧ len ≤ maxLen ∧ ∀ n ∈ zs.take len, 0 ≤ n ∧ n ≤ 255 := by
  rcases h with ⟨rfl, rfl, rfl, rfl⟩ | ⟨x, rfl, h1, h2, h3, h4, h5⟩
  · exact ⟨0, 0, ⟨fun h => by simp at h, fun i hi => by simp at hi⟩, rfl, fun _ => rfl, Nat.zero_le _, fun n hn => by simp at hn⟩
  · have hl : (zs.take len).length = len := by rw [List.length_take]; omega
    have hb : ∀ n ∈ zs.take len, 0 ≤ n ∧ n ≤ 255 := fun n hn => bounds_u8 (h5 n (List.mem_of_mem_take hn))
    by_cases h0 : 0 < zs.length
    · obtain ⟨b, off, rfl, hc⟩ := ints_at h4 h0
      refine ⟨b, off, ⟨fun _ => rfl, fun i hi => ?_⟩, hl, (fun e => by cases e), by omega, hb⟩
      rw [hc i (by omega), List.getD_eq_getElem?_getD, List.getD_eq_getElem?_getD, List.getElem?_take, if_pos (by omega)]
    · exact ⟨0, 0, ⟨fun h => by rw [hl] at h; omega, fun i hi => by rw [hl] at hi; omega⟩, hl, (fun e => by cases e), by omega, hb⟩

theorem since_below {B : Nat} {w w' : World} (h : w.Since B w') : Below B w w' := ⟨h.os, h.tape, h.output, h.size, h.block⟩
end Go.Proofs.Ytkfjhannbnijkaa
