/- Both functions, on any input: the same error, the same sequences. -/
import Derived.Test.YtkfjhannbnijkaaI
import Derived.Test.YtkfjhannbnijkaaL0
namespace Go.Proofs.Ytkfjhannbnijkaa
open Go.RowKit

/-- What either function tells, of any input. -/
def SeqAny (w : World) (T : TypeId) (x : Int) (n : Nat) (sd : Nat → SeqD) (e : Ending) (w' : World) : Prop :=
  ∃ va pv B, e = .returned (.tuple #[va, .int .i64 x]) ∧ w.heap.size ≤ B ∧ Seqs w' B T va n pv sd ∧ w.Since w.heap.size w'

theorem rch_len (P : List Int) (ld : Nat → Int) : ∀ f x last acc, (rch P ld f x last acc).1.length ≤ acc.length + f := by
  intro f
  induction f with
  | zero => intro x last acc; simp [rch]
  | succ f ih =>
    intro x last acc
    rw [rch]
    split
    · simp
    · have := ih (ld x.toNat) x (acc ++ [P.getD x.toNat 0])
      simp only [List.length_append, List.length_singleton] at this
      omega

theorem rout_len (l P L : List Int) (base : Int) (mt ld : Nat → Int) (dd : Nat → Bool) (K j : Nat) : ((rout l P L base mt ld dd K).2 j).pl.length ≤ P.length := by
  induction K with
  | zero => simp [rout]
  | succ K ih =>
    rw [rout]
    split
    · exact ih
    · simp only [updS]
      split
      · have := rch_len P ld P.length K K []
        simpa [rseq] using this
      · exact ih

theorem RefN_le (l L : List Int) (base : Int) : RefN l L base ≤ l.length := by
  have h1 := rout_le l (filt l l.length) L base (rmat l) (rlead l (filt l l.length) L base (rmat l) (atf l)) (rled (rlead l (filt l l.length) L base (rmat l) (atf l)) (filt l l.length).length) (filt l l.length).length
  have h2 := filt_len l l.length
  unfold RefN
  omega
theorem RefS_le (l L : List Int) (base : Int) (j : Nat) : (RefS l L base j).pl.length ≤ l.length := by
  have h1 := rout_len l (filt l l.length) L base (rmat l) (rlead l (filt l l.length) L base (rmat l) (atf l)) (rled (rlead l (filt l l.length) L base (rmat l) (atf l)) (filt l l.length).length) (filt l l.length).length j
  have h2 := filt_len l l.length
  unfold RefS
  omega

theorem rseq_ref (l L : List Int) (base : Int) (n : Nat) (hn : l.length = n) (hnL : L.length = n) (hlen : n ≤ 65536) (cap cl : Nat) (ao al : Option Addr) (b off bl ol : Nat) (w : World)
    (hR : Reads w .u8 ao b off l) (hL : Reads w .u8 al bl ol L) (hb : 0 ≤ base ∧ base ≤ 255) (hLr : ∀ i, 0 ≤ L.getD i 0 ∧ L.getD i 0 ≤ 255) :
    Calls Try.prog 16 #[.slice ao n cap, .slice al n cl, .int .u8 base] w (SeqDone w 61 (RefN l L base) (RefS l L base)) := by
  have h := rseq_any l L base n hn hnL hlen cap cl ao al b off bl ol w hR hL hb hLr (fun i hi => by subst hn; exact rmat_law l i hi)
  subst hn
  exact h

/-- Both functions, on any input that is not too long: the same error, the same sequences. -/
theorem seq_all (l L : List Int) (base : Int) (n nl : Nat) (hn : l.length = n) (hnl : L.length = nl) (hlen : n ≤ 65536) (hb : 0 ≤ base ∧ base ≤ 255) (hLr : ∀ i, 0 ≤ L.getD i 0 ∧ L.getD i 0 ≤ 255) :
    ∃ (x : Int) (N : Nat) (S : Nat → SeqD), N ≤ 65536 ∧ (∀ j, (S j).pl.length ≤ 65536) ∧
      (∀ (cap cl : Nat) (ao al : Option Addr) (b off bl ol : Nat) (w : World), Reads w .u8 ao b off l → Reads w .u8 al bl ol L → Calls Try.prog 17 #[.slice ao n cap, .slice al nl cl, .int .u8 base] w (SeqAny w 36 x N S)) ∧
      (∀ (cap cl : Nat) (ao al : Option Addr) (b off bl ol : Nat) (w : World), Reads w .u8 ao b off l → Reads w .u8 al bl ol L → Calls Try.prog 16 #[.slice ao n cap, .slice al nl cl, .int .u8 base] w (SeqAny w 61 x N S)) := by
  by_cases he : n = nl
  · subst he
    refine ⟨0, RefN l L base, RefS l L base, by have := RefN_le l L base; omega, fun j => by have := RefS_le l L base j; omega, fun cap cl ao al b off bl ol w h1 h2 => ?_, fun cap cl ao al b off bl ol w h1 h2 => ?_⟩
    · exact eseq_ref l L base n hn hnl hlen cap cl ao al b off bl ol w h1 h2 hb hLr
    · exact rseq_ref l L base n hn hnl hlen cap cl ao al b off bl ol w h1 h2 hb hLr
  · refine ⟨2, 0, fun _ => ⟨[], 0, 0, 0⟩, by omega, fun j => by simp, fun cap cl ao al b off bl ol w h1 h2 => ?_, fun cap cl ao al b off bl ol w h1 h2 => ?_⟩
    · refine (eseq_arg n nl cap cl ao al base w hlen he).mono ?_
      rintro e w' ⟨rfl, rfl⟩
      exact ⟨_, fun _ => .slice none 0 0, _, rfl, Nat.le_refl _, Seqs.nil _ _ _ (by decide) _ _, World.Since.refl _ _⟩
    · refine (rseq_arg n nl cap cl ao al base w hlen he).mono ?_
      rintro e w' ⟨rfl, rfl⟩
      exact ⟨_, fun _ => .slice none 0 0, _, rfl, Nat.le_refl _, Seqs.nil _ _ _ (by decide) _ _, World.Since.refl _ _⟩

end Go.Proofs.Ytkfjhannbnijkaa
