/- calamusref10.Match, walked. -/
import Derived.Test.YtkfjhannbnijkaaB
namespace Go.Proofs.Ytkfjhannbnijkaa
open Go.RowKit

/-- +1 at an initiator, -1 at a PDI. -/
def bal (c : Int) : Int := (if initB c then 1 else 0) - (if c = 23 then 1 else 0)

def rfind (l : List Int) : Nat → Nat → Int → Option Nat
  | 0, _, _ => none
  | f + 1, k, d => if l.getD k 0 = 11 then none else if d + bal (l.getD k 0) = 0 then some k else rfind l f (k + 1) (d + bal (l.getD k 0))

def rset (f : Nat → Int) (i : Nat) : Option Nat → Nat → Int
  | none => f
  | some m => upd (upd f i m) m i

def rrun (l : List Int) : Nat → Nat → Int
  | 0 => fun _ => -1
  | i + 1 => if initB (l.getD i 0) = true ∧ rrun l i i < 0 then rset (rrun l i) i (rfind l (l.length - i) i 0) else rrun l i

/-- What the reference's Match tells. -/
def rmat (l : List Int) (i : Nat) : Int := rrun l l.length i

theorem rfind_lt (l : List Int) : ∀ (f k : Nat) (d : Int) (m : Nat), rfind l f k d = some m → k ≤ m ∧ m < k + f := by
  intro f
  induction f with
  | zero => intro k d m h; simp [rfind] at h
  | succ f ih =>
    intro k d m h
    simp only [rfind] at h
    split at h
    · simp at h
    · split at h
      · simp at h; omega
      · have := ih _ _ _ h; omega

theorem rfind_B {l : List Int} {f k : Nat} {d : Int} (h : l.getD k 0 = 11) : rfind l (f + 1) k d = none := by rw [rfind, if_pos h]
theorem rfind_hit {l : List Int} {f k : Nat} {d : Int} (h : l.getD k 0 ≠ 11) (h2 : d + bal (l.getD k 0) = 0) : rfind l (f + 1) k d = some k := by
  rw [rfind, if_neg h, if_pos h2]
theorem rfind_go {l : List Int} {f k : Nat} {d : Int} (h : l.getD k 0 ≠ 11) (h2 : d + bal (l.getD k 0) ≠ 0) : rfind l (f + 1) k d = rfind l f (k + 1) (d + bal (l.getD k 0)) := by
  rw [rfind, if_neg h, if_neg h2]

structure OutRel (w wr : World) (n bo : Nat) (f : Nat → Int) : Prop where
  since : w.Since w.heap.size wr
  lo : w.heap.size ≤ bo
  out : wr.rowIs bo 3 n (fun i => .int .i64 (f i))

theorem OutRel.set {w wr : World} {n bo : Nat} {f : Nat → Int} (h : OutRel w wr n bo f) (i : Nat) (v : Int) : OutRel w (wr.setCell ⟨bo, i, none⟩ (.int .i64 v)) n bo (upd f i v) :=
  ⟨h.since.setCell h.lo _, h.lo, (h.out.set i _).congr (fun j _ => by simp only [upd]; split <;> rfl)⟩
theorem OutRel.to {w wr : World} {n bo : Nat} {f g : Nat → Int} (h : OutRel w wr n bo f) (e : ∀ i, i < n → f i = g i) : OutRel w wr n bo g :=
  ⟨h.since, h.lo, h.out.congr (fun i hi => by rw [e i hi])⟩
theorem OutRel.start (w : World) (n : Nat) : OutRel w (w.alloc (.cells (madeCells #[.int .i64 0] n) 3)) n w.heap.size (fun _ => 0) :=
  ⟨(World.Since.refl w.heap.size w).alloc (Nat.le_refl _) _, Nat.le_refl _, World.rowIs_made w (.int .i64 0) n 3⟩

/-- The inner loop's state: nothing found yet; or found at m. -/
def Inner (l : List Int) (n i : Nat) (f : Nat → Int) (k : Nat) (d : Int) (h : Nat → Int) : Prop :=
  (h = f ∧ rfind l (n - k) k d = rfind l (n - i) i 0) ∨ (∃ m, rfind l (n - i) i 0 = some m ∧ h = rset f i (some m))

theorem rset_self (f : Nat → Int) (i m : Nat) : 0 ≤ rset f i (some m) i := by
  simp only [rset, upd]; split
  · omega
  · rw [if_pos trivial]; omega

theorem Inner.neg {l : List Int} {n i : Nat} {f : Nat → Int} {k : Nat} {d : Int} {h : Nat → Int} (H : Inner l n i f k d h) (hlt : h i < 0) : h = f ∧ rfind l (n - k) k d = rfind l (n - i) i 0 := by
  rcases H with H | ⟨m, _, rfl⟩
  · exact H
  · exact absurd hlt (by have := rset_self f i m; omega)

theorem Inner.endNot {l : List Int} {i : Nat} (hi : initB (l.getD i 0) = false) {h : Nat → Int} (H : h = rrun l i) : h = rrun l (i + 1) := by
  rw [H, rrun, if_neg (by rw [hi]; simp)]

theorem Inner.endPos {l : List Int} {n i : Nat} (hn : l.length = n) (hi : initB (l.getD i 0) = true) {k : Nat} {d : Int} {h : Nat → Int} (H : Inner l n i (rrun l i) k d h) (h0 : 0 ≤ h i) (hst : 0 ≤ rrun l i i → h = rrun l i) : h = rrun l (i + 1) := by
  subst hn
  rcases H with ⟨rfl, _⟩ | ⟨m, hm, rfl⟩
  · rw [rrun, if_neg (by omega)]
  · by_cases hc : rrun l i i < 0
    · rw [rrun, if_pos ⟨hi, hc⟩, hm]
    · rw [hst (by omega), rrun, if_neg (by omega)]

theorem Inner.endNone {l : List Int} {n i : Nat} (hn : l.length = n) (hi : initB (l.getD i 0) = true) {k : Nat} {d : Int} {h : Nat → Int} (H : Inner l n i (rrun l i) k d h) (h0 : h i < 0) (hr : rfind l (n - k) k d = none) : h = rrun l (i + 1) := by
  subst hn
  obtain ⟨rfl, e⟩ := H.neg h0
  rw [rrun, if_pos ⟨hi, h0⟩, ← e, hr]
  rfl

theorem endAbs {c : Int} {x y : Int} {p : Prop} (h1 : initB c = true) (h2 : x < 0) (h3 : x = y) (h4 : initB c = false ∨ 0 ≤ y) : p := by
  rcases h4 with h | h
  · rw [h1] at h; cases h
  · omega

theorem bal_cases (c : Int) : (initB c = true ∧ (c == 23) = false ∧ bal c = 1) ∨ (initB c = false ∧ (c == 23) = true ∧ bal c = -1) ∨ (initB c = false ∧ (c == 23) = false ∧ bal c = 0) := by
  by_cases h : c = 23
  · subst h; exact Or.inr (Or.inl ⟨rfl, rfl, rfl⟩)
  · have h2 : (c == 23) = false := by simp [h]
    cases hi : initB c
    · exact Or.inr (Or.inr ⟨rfl, h2, by simp [bal, hi, h]⟩)
    · exact Or.inl ⟨rfl, h2, by simp [bal, hi, h]⟩

set_option maxHeartbeats 2000000 in
theorem rmatch_any (l : List Int) (n : Nat) (hn : l.length = n) (cap : Nat) (ao : Option Addr) (b off : Nat) (w : World) (hR : Reads w .u8 ao b off l) (hlen : n ≤ 70000) :
    Calls Try.prog 20 #[.slice ao n cap] w (NewInts w n (rmat l)) := by
  have hmk := run_make_row' (P := Try.prog) 33 3 (.int .i64 0) 8 Try.underlying33 Try.info3 rfl .i64 .i64 n (by omega) (by omega)
  go_enter Try.func20, Try.ntmps20
  go_wp2_with fail
  have hO := OutRel.start w n
  have hbB := fun k hk => World.block_lt_of_cell? _ _ (hR.cell k hk)
  have HB := Lib.hid hbB
  clear hmk hbB
  obtain ⟨bo, hbo⟩ : ∃ bo, bo = w.heap.size := ⟨_, rfl⟩
  rw [← hbo] at hO ⊢
  clear hbo
  go_loopg [4] n (fun g s4 wr => ∃ k : Nat, k ≤ n ∧ g = n - k ∧ s4 = .int .i64 k ∧ OutRel w wr n bo (fun i => if i < k then -1 else 0))
  case atStart => exact ⟨0, Nat.zero_le _, rfl, rfl, hO.to (fun i _ => by simp)⟩
  case round =>
    clear hO
    obtain ⟨k, hk, rfl, rfl, hO⟩ := hrel
    by_cases hlt : k < n
    · have hkz : (k : Int) < (n : Int) := by omega
      have o1 : wr.cell? ⟨bo, k, none⟩ = some (.int .i64 (if k < k then -1 else 0)) := hO.out.cell hlt
      have o2 : wr.frozen? ⟨bo, k, none⟩ = false := hO.out.frozen k
      go_wp2_with fail
      go_roundg (n - (k + 1))
      case measure => go_light; omega
      case rel =>
        go_light
        exact ⟨k + 1, by omega, rfl, by go_num, (hO.set k (-1)).to (fun i _ => by simp only [upd]; repeat' split; all_goals omega)⟩
    · obtain rfl : k = n := by omega
      have hkz : ¬ ((k : Int) < (k : Int)) := by omega
      go_wp2_with fail
      have hO2 := hO.to (g := rrun l 0) (fun i hi => by simp [rrun, hi])
      clear hO
      go_loopg [5, 6, 7] k (fun g s5 s6 s7 wr => ∃ i : Nat, i ≤ k ∧ g = k - i ∧ s5 = .int .i64 i ∧ OutRel w wr k bo (rrun l i))
      case atStart => exact ⟨0, Nat.zero_le _, rfl, rfl, hO2⟩
      case round =>
        clear hO2
        obtain ⟨i, hi, rfl, rfl, hO⟩ := hrel
        by_cases hlti : i < k
        · have hiz : (i : Int) < (k : Int) := by omega
          go_wp2_with fail
          obtain rfl := hR.spot (by omega)
          obtain ⟨ci, hci⟩ : ∃ c, c = l.getD i 0 := ⟨_, rfl⟩
          have hc1 := hR.cell i (by omega)
          rw [← hci] at hc1
          have HCI := Lib.hid hci
          clear hci
          go_loopg [6, 7] (k - i) (fun g s6 s7 wx => ∃ (q : Nat) (d : Int) (h : Nat → Int), i ≤ q ∧ q ≤ k ∧ g = k - q ∧ -(q : Int) ≤ d ∧ d ≤ q ∧ s6 = .int .i64 d ∧ s7 = .int .i64 q ∧ OutRel w wx k bo h ∧ Inner l k i (rrun l i) q d h ∧ ((initB ci = false ∨ 0 ≤ rrun l i i) → h = rrun l i))
          case atStart => exact ⟨i, 0, _, by omega, by omega, rfl, by omega, by omega, rfl, rfl, hO, Or.inl ⟨rfl, rfl⟩, fun _ => rfl⟩
          case round =>
            clear hO
            obtain ⟨q, d, h, hq1, hq2, rfl, hd1, hd2, rfl, rfl, hO, HI, hst⟩ := hrel
            have HHI := Lib.hid HI
            have HST := Lib.hid hst
            clear HI hst
            have g1 : wr.cell? ⟨b, off + i, none⟩ = some (.int .u8 ci) := by rw [hO.since.cell (a := ⟨b, off + i, none⟩) (HB.out i (by omega))]; exact hc1
            have o1 : wr.cell? ⟨bo, i, none⟩ = some (.int .i64 (h i)) := hO.out.cell hlti
            cases hi0 : initB ci
            · go_wp2_with (go_at_call 32; refine (rInitiator_any _ _).mono ?_; rintro e w' ⟨rfl, rfl⟩)
              go_roundg (k - (i + 1))
              case measure => go_light; omega
              case rel => go_light; exact ⟨i + 1, by omega, rfl, by go_num, hO.to (fun j _ => congrFun (Inner.endNot (by rw [← HCI.out]; exact hi0) (HST.out (Or.inl hi0))) j)⟩
            · by_cases h0 : h i < 0
              · by_cases hqk : q < k
                · have hqz : (q : Int) < (k : Int) := by omega
                  obtain ⟨cq, hcq⟩ : ∃ c, c = l.getD q 0 := ⟨_, rfl⟩
                  have g2 : wr.cell? ⟨b, off + q, none⟩ = some (.int .u8 cq) := by rw [hO.since.cell (a := ⟨b, off + q, none⟩) (HB.out q (by omega)), hcq]; exact hR.cell q (by omega)
                  have HCQ := Lib.hid hcq
                  clear hcq
                  have hH := HHI.out.neg h0
                  by_cases hB : cq = 11
                  · have hBz : (cq == 11) = true := by simp [hB]
                    have hBz2 : (cq != 11) = false := by simp [hB]
                    have HBB := Lib.hid hB
                    clear hB
                    have HH := Lib.hid hH
                    clear hH
                    go_wp2_with (go_at_call 32; refine (rInitiator_any _ _).mono ?_; rintro e w' ⟨rfl, rfl⟩)
                    go_roundg (k - (i + 1))
                    case measure => go_light; omega
                    case rel => go_light; exact ⟨i + 1, by omega, rfl, by go_num, hO.to (fun j _ => congrFun (Inner.endNone hn (by rw [← HCI.out]; exact hi0) HHI.out h0 (by rw [show k - q = (k - q - 1) + 1 by omega]; exact rfind_B (by rw [← HCQ.out]; exact HBB.out))) j)⟩
                  · have hBz : (cq == 11) = false := by simp [hB]
                    have hBz2 : (cq != 11) = true := by simp [hB]
                    have hf : ∀ x, cq = x → rfind l (k - q) q d = (if d + bal x = 0 then some q else rfind l (k - (q + 1)) (q + 1) (d + bal x)) := by
                      intro x hx
                      subst hx
                      rw [show k - q = (k - (q + 1)) + 1 by omega, rfind, ← HCQ.out, if_neg hB]
                    have HF : Hid (rfind l (k - i) i 0 = (if d + bal cq = 0 then some q else rfind l (k - (q + 1)) (q + 1) (d + bal cq))) := by rw [← hf cq rfl, hH.2]; rfl
                    have HH := Lib.hid hH.1
                    have HBB := Lib.hid hB
                    clear hB hH hf
                    rcases bal_cases cq with ⟨b1, b2, b3⟩ | ⟨b1, b2, b3⟩ | ⟨b1, b2, b3⟩
                    · by_cases hz : d + 1 = 0
                      · have hz1 : (d + 1 == 0) = true := by simp [hz]
                        have o2 : wr.frozen? ⟨bo, i, none⟩ = false := hO.out.frozen i
                        have o3 : ∀ v, (wr.setCell ⟨bo, i, none⟩ v).cell? ⟨bo, q, none⟩ = some (if q = i then v else .int .i64 (h q)) := fun v => (hO.out.set i v).cell hqk
                        have o4 : ∀ v, (wr.setCell ⟨bo, i, none⟩ v).frozen? ⟨bo, q, none⟩ = false := fun v => (hO.out.set i v).frozen q
                        have HZ : Hid (d + bal cq = 0) := by rw [b3]; show _ = _; omega
                        clear hz b3
                        go_wp2_with (go_at_call 32; refine (rInitiator_any _ _).mono ?_; rintro e w' ⟨rfl, rfl⟩)
                        go_roundg (k - (q + 1))
                        case measure => go_light; omega
                        case rel =>
                          go_light
                          exact ⟨q + 1, d + 1, _, by omega, by omega, rfl, by omega, by omega, rfl, by go_num, (hO.set i q).set q i,
                            Or.inr ⟨q, by rw [HF.out, if_pos HZ.out], by rw [HH.out]; rfl⟩, fun hh => by have := congrFun HH.out i; exact endAbs hi0 h0 this hh⟩
                      · have hz1 : (d + 1 == 0) = false := by simp [hz]
                        have HZ : Hid (d + bal cq ≠ 0) := by rw [b3]; show _ ≠ _; omega
                        have HB3 := Lib.hid b3
                        clear hz b3
                        go_wp2_with (go_at_call 32; refine (rInitiator_any _ _).mono ?_; rintro e w' ⟨rfl, rfl⟩)
                        go_roundg (k - (q + 1))
                        case measure => go_light; omega
                        case rel =>
                          go_light
                          exact ⟨q + 1, d + 1, _, by omega, by omega, rfl, by omega, by omega, rfl, by go_num, hO,
                            Or.inl ⟨HH.out, by rw [HF.out, if_neg HZ.out, HB3.out]⟩, fun _ => HH.out⟩
                    · by_cases hz : d - 1 = 0
                      · have hz1 : (d - 1 == 0) = true := by simp [hz]
                        have o2 : wr.frozen? ⟨bo, i, none⟩ = false := hO.out.frozen i
                        have o3 : ∀ v, (wr.setCell ⟨bo, i, none⟩ v).cell? ⟨bo, q, none⟩ = some (if q = i then v else .int .i64 (h q)) := fun v => (hO.out.set i v).cell hqk
                        have o4 : ∀ v, (wr.setCell ⟨bo, i, none⟩ v).frozen? ⟨bo, q, none⟩ = false := fun v => (hO.out.set i v).frozen q
                        have HZ : Hid (d + bal cq = 0) := by rw [b3]; show _ = _; omega
                        clear hz b3
                        go_wp2_with (go_at_call 32; refine (rInitiator_any _ _).mono ?_; rintro e w' ⟨rfl, rfl⟩)
                        go_roundg (k - (q + 1))
                        case measure => go_light; omega
                        case rel =>
                          go_light
                          exact ⟨q + 1, d - 1, _, by omega, by omega, rfl, by omega, by omega, rfl, by go_num, (hO.set i q).set q i,
                            Or.inr ⟨q, by rw [HF.out, if_pos HZ.out], by rw [HH.out]; rfl⟩, fun hh => by have := congrFun HH.out i; exact endAbs hi0 h0 this hh⟩
                      · have hz1 : (d - 1 == 0) = false := by simp [hz]
                        have HZ : Hid (d + bal cq ≠ 0) := by rw [b3]; show _ ≠ _; omega
                        have HB3 := Lib.hid b3
                        clear hz b3
                        go_wp2_with (go_at_call 32; refine (rInitiator_any _ _).mono ?_; rintro e w' ⟨rfl, rfl⟩)
                        go_roundg (k - (q + 1))
                        case measure => go_light; omega
                        case rel =>
                          go_light
                          exact ⟨q + 1, d - 1, _, by omega, by omega, rfl, by omega, by omega, rfl, by go_num, hO,
                            Or.inl ⟨HH.out, by rw [HF.out, if_neg HZ.out, HB3.out]; rfl⟩, fun _ => HH.out⟩
                    · by_cases hz : d = 0
                      · have hz1 : (d == 0) = true := by simp [hz]
                        have o2 : wr.frozen? ⟨bo, i, none⟩ = false := hO.out.frozen i
                        have o3 : ∀ v, (wr.setCell ⟨bo, i, none⟩ v).cell? ⟨bo, q, none⟩ = some (if q = i then v else .int .i64 (h q)) := fun v => (hO.out.set i v).cell hqk
                        have o4 : ∀ v, (wr.setCell ⟨bo, i, none⟩ v).frozen? ⟨bo, q, none⟩ = false := fun v => (hO.out.set i v).frozen q
                        have HZ : Hid (d + bal cq = 0) := by rw [b3]; show _ = _; omega
                        clear hz b3
                        go_wp2_with (go_at_call 32; refine (rInitiator_any _ _).mono ?_; rintro e w' ⟨rfl, rfl⟩)
                        go_roundg (k - (q + 1))
                        case measure => go_light; omega
                        case rel =>
                          go_light
                          exact ⟨q + 1, d, _, by omega, by omega, rfl, by omega, by omega, rfl, by go_num, (hO.set i q).set q i,
                            Or.inr ⟨q, by rw [HF.out, if_pos HZ.out], by rw [HH.out]; rfl⟩, fun hh => by have := congrFun HH.out i; exact endAbs hi0 h0 this hh⟩
                      · have hz1 : (d == 0) = false := by simp [hz]
                        have HZ : Hid (d + bal cq ≠ 0) := by rw [b3]; show _ ≠ _; omega
                        have HB3 := Lib.hid b3
                        clear hz b3
                        go_wp2_with (go_at_call 32; refine (rInitiator_any _ _).mono ?_; rintro e w' ⟨rfl, rfl⟩)
                        go_roundg (k - (q + 1))
                        case measure => go_light; omega
                        case rel =>
                          go_light
                          exact ⟨q + 1, d, _, by omega, by omega, rfl, by omega, by omega, rfl, by go_num, hO,
                            Or.inl ⟨HH.out, by rw [HF.out, if_neg HZ.out, HB3.out, Int.add_zero]⟩, fun _ => HH.out⟩
                · obtain rfl : q = k := by omega
                  have hqz : ¬ ((q : Int) < (q : Int)) := by omega
                  go_wp2_with (go_at_call 32; refine (rInitiator_any _ _).mono ?_; rintro e w' ⟨rfl, rfl⟩)
                  go_roundg (q - (i + 1))
                  case measure => go_light; omega
                  case rel => go_light; exact ⟨i + 1, by omega, rfl, by go_num, hO.to (fun j _ => congrFun (Inner.endNone hn (by rw [← HCI.out]; exact hi0) HHI.out h0 (by simp [rfind])) j)⟩
              · go_wp2_with (go_at_call 32; refine (rInitiator_any _ _).mono ?_; rintro e w' ⟨rfl, rfl⟩)
                go_roundg (k - (i + 1))
                case measure => go_light; omega
                case rel => go_light; exact ⟨i + 1, by omega, rfl, by go_num, hO.to (fun j _ => congrFun (Inner.endPos hn (by rw [← HCI.out]; exact hi0) HHI.out (by omega) (fun hh => HST.out (Or.inr hh))) j)⟩
        · obtain rfl : i = k := by omega
          have hiz : ¬ ((i : Int) < (i : Int)) := by omega
          go_wp2_with fail
          go_ret
          subst hn
          exact ⟨_, rfl, hO.lo, hO.out, hO.since⟩
#print axioms rmatch_any
end Go.Proofs.Ytkfjhannbnijkaa
