/- places, alike: two equal rows; sequences that are the same. -/
import Derived.Test.YtkfjhannbnijkaaR
namespace Go.Proofs.Ytkfjhannbnijkaa
open Go.RowKit

def Quiet (w : World) (v : Value) (e : Ending) (w' : World) : Prop := e = .returned v ∧ ∃ k, w' = w.drewN k

theorem drewN_drewN (w : World) (a b : Nat) : ∃ k, (w.drewN a).drewN b = w.drewN k := ⟨_, World.drewN_drewN w a b⟩

theorem Reads.drewN {w : World} {k : IntKind} {ao : Option Addr} {b off : Nat} {l : List Int} (h : Reads w k ao b off l) (n : Nat) : Reads (w.drewN n) k ao b off l := ⟨h.spot, h.cell⟩

set_option maxHeartbeats 1000000 in
theorem places_any (P : List Int) (n : Nat) (hn : P.length = n) (hlim : n ≤ 70000) (cp cq : Nat) (ap aq : Option Addr) (bp op bq oq : Nat) (w : World) (hp : Reads w .i64 ap bp op P) (hq : Reads w .i64 aq bq oq P) :
    Calls Try.prog 30 #[.slice ap n cp, .slice aq n cq] w (Quiet w (.bool true)) := by
  have hz : ((n : Int) != (n : Int)) = false := by simp
  go_enter Try.func30, Try.ntmps30
  go_wp2_with fail
  go_loopg [5] n (fun g s5 wr => ∃ k m : Nat, k ≤ n ∧ g = n - k ∧ s5 = .int .i64 k ∧ wr = w.drewN m)
  case atStart => exact ⟨0, 0, by omega, by omega, rfl, rfl⟩
  case round =>
    obtain ⟨k, m, hk, rfl, rfl, hwr⟩ := hrel
    have HW := Lib.hid hwr
    clear hwr
    by_cases hlt : k < n
    · have hkz : (k : Int) < (n : Int) := by omega
      obtain rfl := hp.spot (by omega)
      obtain rfl := hq.spot (by omega)
      have p1 : wr.cell? ⟨bp, op + k, none⟩ = some (.int .i64 (P.getD k 0)) := by rw [HW.out]; exact hp.cell k (by omega)
      have q1 : wr.cell? ⟨bq, oq + k, none⟩ = some (.int .i64 (P.getD k 0)) := by rw [HW.out]; exact hq.cell k (by omega)
      generalize P.getD k 0 = x at *
      have hzz : (x != x) = false := by simp
      go_upto_region 6 with fail
      go_quiet (fail)
      go_wp2_with fail
      go_roundg (n - (k + 1))
      case measure => go_light; omega
      case rel => go_light; obtain ⟨m', e⟩ := drewN_drewN w m nq; exact ⟨k + 1, m', by omega, rfl, by go_num, by rw [HW.out]; exact e⟩
    · obtain rfl : k = n := by omega
      have hkz : ¬ ((k : Int) < (k : Int)) := by omega
      go_wp2_with fail
      go_ret
      exact ⟨rfl, m, HW.out⟩

theorem own_reads {w : World} {B s : Nat} {v : Value} {P : List Int} (h : w.ownsRow B 3 s v P.length (P.map (Value.int .i64))) (hs : s = 1) : ∃ a c b, v = .slice a P.length c ∧ Reads w .i64 a b 0 P := by
  subst hs
  rcases h.2 with ⟨rfl, e⟩ | ⟨g, cap, cur, rfl, _⟩
  · exact ⟨none, 0, 0, by rw [e], ⟨fun h => by omega, fun i hi => by omega⟩⟩
  · refine ⟨_, cap, g, rfl, ⟨fun _ => rfl, fun i hi => ?_⟩⟩
    rw [Nat.zero_add, h.cellAt i (by omega), List.getElem?_map, List.getElem?_eq_getElem hi, List.getD_eq_getElem?_getD, List.getElem?_eq_getElem hi]
    rfl

set_option maxHeartbeats 2000000 in
theorem alike_any {TA TB BA BB n : Nat} {va vb : Value} {pa pb : Nat → Value} {sa sb : Nat → SeqD} {w : World} (hA : Seqs w BA TA va n pa sa) (hB : Seqs w BB TB vb n pb sb) (he : ∀ j, j < n → sa j = sb j) (hp : ∀ j, j < n → (sa j).pl.length ≤ 70000) (hlim : n ≤ 70000) :
    Calls Try.prog 18 #[va, vb] w (Quiet w (.bool true)) := by
  obtain ⟨aa, ca, rfl⟩ := hA.shape
  obtain ⟨ab, cb, rfl⟩ := hB.shape
  have hz : ((n : Int) != (n : Int)) = false := by simp
  go_enter Try.func18, Try.ntmps18
  go_wp2_with fail
  go_loopg [5] n (fun g s5 wr => ∃ k m : Nat, k ≤ n ∧ g = n - k ∧ s5 = .int .i64 k ∧ wr = w.drewN m)
  case atStart => exact ⟨0, 0, by omega, by omega, rfl, rfl⟩
  case round =>
    obtain ⟨k, m, hk, rfl, rfl, hwr⟩ := hrel
    have HW := Lib.hid hwr
    clear hwr
    by_cases hlt : k < n
    · have hkz : (k : Int) < (n : Int) := by omega
      obtain ⟨ga, ca', hea, -, -⟩ := hA.form (by omega)
      obtain ⟨gb, cb', heb, -, -⟩ := hB.form (by omega)
      injection hea with e1 e2 e3
      injection heb with e4 e5 e6
      clear e2 e3 e5 e6
      subst e1 e4
      obtain ⟨a0, a1, a2, a3⟩ := (hA.drewN m).cells hlt
      obtain ⟨b0, b1, b2, b3⟩ := (hB.drewN m).cells hlt
      rw [← HW.out] at a0 a1 a2 a3 b0 b1 b2 b3
      obtain ⟨xa, xc, xb, exa, hra⟩ := own_reads ((hA.drewN m).pls k hlt) rfl
      obtain ⟨ya, yc, yb, eya, hrb⟩ := own_reads ((hB.drewN m).pls k hlt) rfl
      rw [← HW.out] at hra hrb
      have hle := hp k hlt
      rw [exa] at a0
      rw [eya, ← he k hlt] at b0
      rw [← he k hlt] at b1 b2 b3 hrb
      clear exa eya
      generalize sa k = d at *
      obtain ⟨P, lev, sos, eos⟩ := d
      simp only at a0 a1 a2 a3 b0 b1 b2 b3 hra hrb hle
      have z1 : (lev != lev) = false := by simp
      have z2 : (sos != sos) = false := by simp
      have z3 : (eos != eos) = false := by simp
      have HRA := Lib.hid hra
      have HRB := Lib.hid hrb
      clear hra hrb
      go_upto_region 6 with fail
      go_quiet ((go_at_call 30; exact (places_any P P.length rfl hle _ _ _ _ _ _ _ _ _ (HRA.out.drewN _) (HRB.out.drewN _)).mono fun _ _ ⟨h1, k, h2⟩ => ⟨h1, by rw [h2]; exact drewN_drewN _ _ _⟩))
      go_wp2_with fail
      go_roundg (n - (k + 1))
      case measure => go_light; omega
      case rel => go_light; obtain ⟨m', e⟩ := drewN_drewN w m nq; exact ⟨k + 1, m', by omega, rfl, by go_num, by rw [HW.out]; exact e⟩
    · obtain rfl : k = n := by omega
      have hkz : ¬ ((k : Int) < (k : Int)) := by omega
      go_wp2_with fail
      go_ret
      exact ⟨rfl, m, HW.out⟩
end Go.Proofs.Ytkfjhannbnijkaa
