/- A slice of 16-bit numbers that came in, as it is read. -/
import Derived.Test.YtkfjhannbnijkaaN
namespace Go.Proofs.Ytkfjhannbnijkaa
open Go.RowKit

theorem arg_reads16 {w : World} {a : Option Addr} {len cap : Nat} {zs : List Int}
    (h : (a = none ∧ len = 0 ∧ cap = 0 ∧ zs = []) ∨ ∃ x, a = some x ∧ len ≤ cap ∧ cap ≤ maxLen ∧ zs.length = cap ∧ (∀ i, i < zs.length → w.cell? (x.add i) = some (.int .u16 (zs.getD i 0))) ∧ ∀ n ∈ zs, (Lit.int .u16 n).wf = true) :
    ∃ b off, Reads w .u16 a b off (zs.take len) ∧ (zs.take len).length = len ∧ (a = none → cap = 0) ∧ len ≤ maxLen ∧ ∀ n ∈ zs.take len, 0 ≤ n ∧ n ≤ 65535 := by
  rcases h with ⟨rfl, rfl, rfl, rfl⟩ | ⟨x, rfl, h1, h2, h3, h4, h5⟩
  · exact ⟨0, 0, ⟨fun h => by simp at h, fun i hi => by simp at hi⟩, rfl, fun _ => rfl, Nat.zero_le _, fun n hn => by simp at hn⟩
  · have hl : (zs.take len).length = len := by rw [List.length_take]; omega
    have hb : ∀ n ∈ zs.take len, 0 ≤ n ∧ n ≤ 65535 := fun n hn => bounds_u16 (h5 n (List.mem_of_mem_take hn))
    by_cases h0 : 0 < zs.length
    · obtain ⟨b, off, rfl, hc⟩ := ints_at h4 h0
      refine ⟨b, off, ⟨fun _ => rfl, fun i hi => ?_⟩, hl, (fun e => by cases e), by omega, hb⟩
      rw [hc i (by omega), List.getD_eq_getElem?_getD, List.getD_eq_getElem?_getD, List.getElem?_take, if_pos (by omega)]
    · exact ⟨0, 0, ⟨fun h => by rw [hl] at h; omega, fun i hi => by rw [hl] at hi; omega⟩, hl, (fun e => by cases e), by omega, hb⟩

theorem getD_range16 {L : List Int} (h : ∀ x ∈ L, 0 ≤ x ∧ x ≤ 65535) (i : Nat) : 0 ≤ L.getD i 0 ∧ L.getD i 0 ≤ 65535 := by
  rw [List.getD_eq_getElem?_getD]
  by_cases hi : i < L.length
  · rw [List.getElem?_eq_getElem hi]; exact h _ (List.getElem_mem hi)
  · rw [List.getElem?_eq_none (by omega)]; exact ⟨by decide, by decide⟩
end Go.Proofs.Ytkfjhannbnijkaa
