/- The sequences that the program finds place by place are those that the reference gathers. No program is in sight. -/
import Derived.Test.YtkfjhannbnijkaaQ
namespace Go.Proofs.Ytkfjhannbnijkaa
open Go.RowKit

theorem sideI_comm (x y : Int) : sideI x y = sideI y x := by
  unfold sideI
  rw [Int.max_comm]

section
variable {l L : List Int} {base : Int} {mt : Nat → Int}

theorem levI_at {P : List Int} {k : Nat} (h : k < P.length) : levI P L base k = L.getD (P.getD k 0).toNat 0 := by
  unfold levI
  rw [if_neg (by omega), Int.toNat_natCast]

/-- What the program knows ahead of place i. -/
structure EI (l L : List Int) (base : Int) (mt : Nat → Int) (P : List Int) (pd : Nat → Option Nat) (k : Nat) (s : SS) : Prop where
  last : s.last = if k = 0 then -1 else P.getD (k - 1) 0
  before : s.before = levI P L base ((k : Int) - 1)
  cut : ∀ x, x + 1 < k → s.cut (P.getD x 0).toNat = (levI P L base x != levI P L base ((x : Int) + 1))
  ofs : ∀ x, x < k → s.ofs (P.getD x 0).toNat = sOf pd x
  n : s.n = nS pd k
  sd : ∀ h, h < k → pd h = none → s.sd (nS pd h) = ⟨gat pd P (nS pd h) k, levI P L base h, sideI (levI P L base h) (levI P L base ((h : Int) - 1)), 0⟩

theorem upd_eq (f : Nat → Int) (i : Nat) (v : Int) : upd f i v i = v := if_pos rfl
theorem upd_ne (f : Nat → Int) {i j : Nat} (h : j ≠ i) (v : Int) : upd f i v j = f j := if_neg h

theorem ei_step (hM : MT l mt) {i : Nat} (hi : i < l.length) (s : SS)
    (h : EI l L base mt (filt l l.length) (prd l (filt l l.length) L base mt) (filt l i).length s) :
    EI l L base mt (filt l l.length) (prd l (filt l l.length) L base mt) (filt l (i + 1)).length (sstep l L mt i s) := by
  unfold sstep
  by_cases hr : remB (l.getD i 0) = true
  · rw [if_pos hr]
    have : filt l (i + 1) = filt l i := by rw [filt, if_pos hr]
    rw [this]; exact h
  · rw [if_neg hr]
    have hr' : remB (l.getD i 0) = false := by simpa using hr
    have hlen : (filt l (i + 1)).length = (filt l i).length + 1 := by rw [filt, if_neg hr]; simp
    rw [hlen]
    obtain ⟨a1, a2⟩ := filt_at l l.length hi hr'
    have hlt : ∀ k q, k < (filt l l.length).length → prd l (filt l l.length) L base mt k = some q → q < k := fun k q hk => prd_lt hM hk
    have hinj : ∀ x y, x < (filt l l.length).length → y < (filt l l.length).length → (((filt l l.length).getD x 0).toNat = ((filt l l.length).getD y 0).toNat) → x = y := by
      intro x y hx hy e
      obtain ⟨u, _, _, u3, u4⟩ := filt_get l l.length hx
      obtain ⟨v, _, _, v3, v4⟩ := filt_get l l.length hy
      rw [u4, v4, Int.toNat_natCast, Int.toNat_natCast] at e
      subst e; omega
    have hpos : ∀ x, x < (filt l l.length).length → 0 ≤ (filt l l.length).getD x 0 := by
      intro x hx
      obtain ⟨u, _, _, _, u4⟩ := filt_get l l.length hx
      omega
    have hq : ∀ m, m < i → remB (l.getD m 0) = false → (filt l m).length < (filt l i).length ∧ (filt l l.length).getD (filt l m).length 0 = m := fun m h1 h2 => ⟨filt_lt h1 h2, (filt_at l l.length (by omega) h2).2⟩
    have hprd : prd l (filt l l.length) L base mt (filt l i).length = if 0 < (filt l i).length ∧ levI (filt l l.length) L base (((filt l i).length : Int) - 1) = levI (filt l l.length) L base (filt l i).length then some ((filt l i).length - 1)
      else if 0 ≤ mt i ∧ mt i < i ∧ levI (filt l l.length) L base ((filt l (mt i).toNat).length : Int) ≠ levI (filt l l.length) L base (((filt l (mt i).toNat).length : Int) + 1) then some (filt l (mt i).toNat).length else none := by
      unfold prd; rw [a2, Int.toNat_natCast]
    generalize prd l (filt l l.length) L base mt = pd at *
    generalize hk : (filt l i).length = k at *
    generalize hP : filt l l.length = P at *
    have hlk : levI P L base k = L.getD i 0 := by rw [levI_at a1, a2, Int.toNat_natCast]
    have hcut : ∀ x, x < k → scut L i s (P.getD x 0).toNat = (levI P L base x != levI P L base ((x : Int) + 1)) := by
      intro x hx
      have hk0 : k ≠ 0 := by omega
      have hl : s.last = P.getD (k - 1) 0 := by rw [h.last, if_neg hk0]
      have := hpos (k - 1) (by omega)
      unfold scut
      rw [if_pos (by omega), hl]
      unfold updB
      by_cases e : x = k - 1
      · subst e
        rw [if_pos rfl, ← levI_at (base := base) (by omega), show ((k - 1 : Nat) : Int) + 1 = k by omega, hlk]
      · rw [if_neg (fun e2 => e (hinj _ _ (by omega) (by omega) e2))]
        exact h.cut x (by omega)
    have hsel : (ssel L mt i s).2 = sOf pd k ∧ (ssel L mt i s).1.n = nS pd (k + 1) ∧ (ssel L mt i s).1.ofs = s.ofs ∧
        ∀ h, h < k + 1 → pd h = none → (ssel L mt i s).1.sd (nS pd h) = ⟨gat pd P (nS pd h) k, levI P L base h, sideI (levI P L base h) (levI P L base ((h : Int) - 1)), 0⟩ := by
      by_cases c1 : 0 < k ∧ levI P L base ((k : Int) - 1) = levI P L base k
      · rw [if_pos c1] at hprd
        have hl : s.last = P.getD (k - 1) 0 := by rw [h.last, if_neg (by omega)]
        have h0 := hpos (k - 1) (by omega)
        have : 0 ≤ s.last ∧ scut L i s s.last.toNat = false := by
          refine ⟨by omega, ?_⟩
          rw [hl, hcut (k - 1) (by omega), show ((k - 1 : Nat) : Int) = (k : Int) - 1 by omega, show (k : Int) - 1 + 1 = k by omega, c1.2]
          simp
        unfold ssel
        rw [if_pos this]
        refine ⟨?_, ?_, rfl, fun x hx hn => ?_⟩
        · rw [hl, h.ofs (k - 1) (by omega), Int.toNat_natCast, of_some hprd (by omega)]
        · rw [h.n, nS, if_neg (by rw [hprd]; simp)]
        · have : x ≠ k := fun e => by subst e; rw [hn] at hprd; cases hprd
          exact h.sd x (by omega) hn
      · rw [if_neg c1] at hprd
        have hno : ¬ (0 ≤ s.last ∧ scut L i s s.last.toNat = false) := by
          rintro ⟨b1, b2⟩
          by_cases hk0 : k = 0
          · have := h.last; rw [if_pos hk0] at this; omega
          · have hl : s.last = P.getD (k - 1) 0 := by rw [h.last, if_neg hk0]
            rw [hl, hcut (k - 1) (by omega), show ((k - 1 : Nat) : Int) = (k : Int) - 1 by omega, show (k : Int) - 1 + 1 = k by omega, bne_eq_false_iff_eq] at b2
            exact c1 ⟨by omega, b2⟩
        unfold ssel
        rw [if_neg hno]
        by_cases c2 : 0 ≤ mt i ∧ mt i < i ∧ levI P L base ((filt l (mt i).toNat).length : Int) ≠ levI P L base (((filt l (mt i).toNat).length : Int) + 1)
        · rw [if_pos c2] at hprd
          obtain ⟨m, m1, m2, m3, m4, m5, m6, m7⟩ := hM i c2.1
          obtain ⟨q1, q2⟩ := hq m (by omega) m6
          rw [m3, Int.toNat_natCast] at hprd c2
          have hc := hcut _ q1
          rw [q2, Int.toNat_natCast] at hc
          rw [m3, Int.toNat_natCast, if_pos ⟨by omega, by omega, by rw [hc]; simpa using c2.2.2⟩]
          refine ⟨?_, ?_, rfl, fun x hx hn => ?_⟩
          · have := h.ofs _ q1
            rw [q2, Int.toNat_natCast] at this
            rw [this, of_some hprd q1, Int.toNat_natCast]
          · rw [h.n, nS, if_neg (by rw [hprd]; simp)]
          · have : x ≠ k := fun e => by subst e; rw [hn] at hprd; cases hprd
            exact h.sd x (by omega) hn
        · rw [if_neg c2] at hprd
          have hno2 : ¬ (0 ≤ mt i ∧ mt i < i ∧ scut L i s (mt i).toNat = true) := by
            rintro ⟨b1, b2, b3⟩
            obtain ⟨m, m1, m2, m3, m4, m5, m6, m7⟩ := hM i b1
            obtain ⟨q1, q2⟩ := hq m (by omega) m6
            have hc := hcut _ q1
            rw [q2, Int.toNat_natCast] at hc
            rw [m3, Int.toNat_natCast, hc] at b3
            refine c2 ⟨b1, b2, ?_⟩
            rw [m3, Int.toNat_natCast]
            simpa using b3
          rw [if_neg hno2]
          refine ⟨?_, ?_, rfl, fun x hx hn => ?_⟩
          · rw [of_none hprd]; exact h.n
          · simp only [snew]; rw [h.n, nS, if_pos hprd]
          · simp only [snew, updS]
            by_cases e : x = k
            · subst e
              rw [h.n, if_pos rfl, h.before, ← hlk]
              have : gat pd P (nS pd x) x = [] := by
                rw [gat_skip (a := 0) (b := x) (Nat.zero_le _) (fun z _ hz he => by
                  have h1 := sOf_lt hlt z (by omega)
                  have h2 := nS_mono (pd := pd) (i := z + 1) (j := x) (by omega)
                  omega)]
                rfl
              rw [this, sideI_comm]
            · have := nS_lt hn (show x < k by omega)
              rw [h.n, if_neg (by omega)]
              exact h.sd x (by omega) hn
    obtain ⟨s1, s2, s3, s4⟩ := hsel
    refine ⟨?_, ?_, fun x hx => ?_, fun x hx => ?_, ?_, fun x hx hn => ?_⟩
    · rw [if_neg (by omega)]; show (i : Int) = _; rw [Nat.add_sub_cancel, a2]
    · show L.getD i 0 = _; rw [← hlk]; congr 1; omega
    · exact hcut x (by omega)
    · simp only [sput]
      by_cases e : x = k
      · subst e; rw [a2, Int.toNat_natCast, upd_eq, s1]
      · have : (P.getD x 0).toNat ≠ i := fun e2 => e (hinj x k (by omega) (by omega) (by rw [e2, a2, Int.toNat_natCast]))
        rw [upd_ne _ this, s3]; exact h.ofs x (by omega)
    · exact s2
    · simp only [sput, updS, s1]
      rw [gat]
      by_cases e : nS pd x = sOf pd k
      · rw [if_pos e, if_pos e.symm, ← e, s4 x hx hn, a2]
      · rw [if_neg e, if_neg (fun e2 => e e2.symm)]; exact s4 x hx hn

theorem srun_ei (hM : MT l mt) (i : Nat) (hi : i ≤ l.length) : EI l L base mt (filt l l.length) (prd l (filt l l.length) L base mt) (filt l i).length (srun l L mt base i) := by
  induction i with
  | zero => exact ⟨rfl, by simp [srun, filt, levI], fun x hx => by simp [filt] at hx, fun x hx => by simp [filt] at hx, rfl, fun x hx => by simp [filt] at hx⟩
  | succ i ih => exact ei_step hM (by omega) _ (ih (by omega))

/-- From behind: the ends. -/
theorem erun_ok (ofs : Nat → Int) (sd : Nat → SeqD) (N : Nat) (pd : Nat → Option Nat) (Z : Nat → Nat)
    (hof : ∀ x, x < (filt l l.length).length → ofs ((filt l l.length).getD x 0).toNat = sOf pd x)
    (hZ : ∀ j, j < N → Z j < (filt l l.length).length ∧ sOf pd (Z j) = j ∧ (sd j).pl.getD ((sd j).pl.length - 1) 0 = (filt l l.length).getD (Z j) 0)
    (hN : ∀ x, x < (filt l l.length).length → sOf pd x < N) :
    ∀ kk, kk ≤ l.length → (erun l L mt base ofs sd kk).1 = levI (filt l l.length) L base ((filt l (l.length - kk)).length : Int) ∧
      ∀ j, j < N → (erun l L mt base ofs sd kk).2 j = if (filt l (l.length - kk)).length ≤ Z j then { sd j with eos := sideI (levI (filt l l.length) L base (Z j)) (rbeh l (filt l l.length) L base mt (Z j)) } else sd j := by
  intro kk
  induction kk with
  | zero =>
    intro _
    refine ⟨by simp [erun, levI], fun j hj => ?_⟩
    have := (hZ j hj).1
    rw [Nat.sub_zero, if_neg (by omega)]; rfl
  | succ kk ih =>
    intro hk
    obtain ⟨h1, h2⟩ := ih (by omega)
    rw [erun]
    obtain ⟨a, ha⟩ : ∃ a, a = l.length - (kk + 1) := ⟨_, rfl⟩
    rw [show l.length - 1 - kk = a by omega, ← ha]
    rw [show l.length - kk = a + 1 by omega] at h1 h2
    unfold estep
    by_cases hr : remB (l.getD a 0) = true
    · rw [if_pos hr]
      have : filt l (a + 1) = filt l a := by rw [filt, if_pos hr]
      rw [this] at h1 h2
      exact ⟨h1, h2⟩
    · rw [if_neg hr]
      have hr' : remB (l.getD a 0) = false := by simpa using hr
      have hlen : (filt l (a + 1)).length = (filt l a).length + 1 := by rw [filt, if_neg hr]; simp
      rw [hlen] at h1 h2
      obtain ⟨a1, a2⟩ := filt_at l l.length (show a < l.length by omega) hr'
      have hinj : ∀ x y, x < (filt l l.length).length → y < (filt l l.length).length → (filt l l.length).getD x 0 = (filt l l.length).getD y 0 → x = y := by
        intro x y hx hy e
        obtain ⟨u, _, _, u3, u4⟩ := filt_get l l.length hx
        obtain ⟨v, _, _, v3, v4⟩ := filt_get l l.length hy
        rw [u4, v4] at e
        have : u = v := by omega
        subst this; omega
      generalize hP : filt l l.length = P at *
      generalize hk : (filt l a).length = k at *
      have hlk : levI P L base k = L.getD a 0 := by rw [levI_at a1, a2, Int.toNat_natCast]
      have ho : (ofs a).toNat = sOf pd k := by
        have := hof k a1
        rw [a2, Int.toNat_natCast] at this
        rw [this, Int.toNat_natCast]
      rw [ho]
      have hj := hN k a1
      have hpl : ((erun l L mt base ofs sd kk).2 (sOf pd k)).pl = (sd (sOf pd k)).pl := by
        rw [h2 _ hj]; split <;> rfl
      rw [hpl, (hZ _ hj).2.2]
      by_cases hz : P.getD (Z (sOf pd k)) 0 = (a : Int)
      · rw [if_pos hz]
        refine ⟨hlk.symm, fun j hj2 => ?_⟩
        have hzk : Z (sOf pd k) = k := hinj _ _ (hZ _ hj).1 a1 (by rw [hz, a2])
        simp only [updS]
        by_cases e : j = sOf pd k
        · subst e
          rw [if_pos rfl, hzk, if_pos (Nat.le_refl _), h2 _ hj, hzk, if_neg (by omega), h1, hlk]
          congr 1
          rw [rbeh, Int.toNat_natCast, a2, Int.toNat_natCast]
          rfl
        · rw [if_neg e, h2 j hj2]
          have hne : Z j ≠ k := fun e2 => e (by rw [← e2]; exact (hZ j hj2).2.1.symm)
          by_cases e3 : k + 1 ≤ Z j
          · rw [if_pos e3, if_pos (by omega)]
          · rw [if_neg e3, if_neg (by omega)]
      · rw [if_neg hz]
        refine ⟨hlk.symm, fun j hj2 => ?_⟩
        rw [h2 j hj2]
        have hne : Z j ≠ k := fun e2 => by
          have h3 := (hZ j hj2).2.1
          rw [e2] at h3
          subst h3
          rw [e2, a2] at hz
          exact hz rfl
        by_cases e3 : k + 1 ≤ Z j
        · rw [if_pos e3, if_pos (by omega)]
        · rw [if_neg e3, if_neg (by omega)]

theorem rout_ok (P : List Int) (ld : Nat → Int) (dd : Nat → Bool) (pd : Nat → Option Nat) (K : Nat) (hdd : ∀ k, k < K → (dd k = true ↔ pd k ≠ none)) :
    (rout l P L base mt ld dd K).1 = nS pd K ∧ ∀ h, h < K → pd h = none → (rout l P L base mt ld dd K).2 (nS pd h) = rseq l P L base mt ld h := by
  induction K with
  | zero => exact ⟨rfl, fun h hh => by omega⟩
  | succ K ih =>
    obtain ⟨h1, h2⟩ := ih (fun k hk => hdd k (by omega))
    rw [rout, nS]
    by_cases hn : pd K = none
    · have : dd K = false := by
        cases h : dd K with
        | false => rfl
        | true => exact absurd hn ((hdd K (by omega)).1 h)
      rw [this, if_neg (by simp), if_pos hn, h1]
      refine ⟨rfl, fun h hh hp => ?_⟩
      simp only [updS]
      by_cases e : h = K
      · subst e; rw [if_pos rfl]
      · have := nS_lt hp (show h < K by omega)
        rw [if_neg (by omega)]
        exact h2 h (by omega) hp
    · rw [if_pos ((hdd K (by omega)).2 hn), if_neg hn]
      refine ⟨h1, fun h hh hp => ?_⟩
      have : h ≠ K := fun e => by subst e; exact hn hp
      exact h2 h (by omega) hp

/-- The last one of the j-th sequence's places. -/
theorem gat_last (pd : Nat → Option Nat) (P : List Int) (j z N : Nat) (hz : z < N) (hj : sOf pd z = j) (hno : ∀ y, z < y → y < N → sOf pd y ≠ j) :
    (gat pd P j N).getD ((gat pd P j N).length - 1) 0 = P.getD z 0 := by
  rw [gat_skip (a := z + 1) (b := N) (by omega) (fun y h1 h2 => hno y (by omega) h2), gat, if_pos hj]
  simp [List.getD_eq_getElem?_getD]

/-- THE TWO ARE THE SAME. -/
theorem seq_same (hM : MT l mt) : (srun l L mt base l.length).n = (rout l (filt l l.length) L base mt (rlead l (filt l l.length) L base mt (atf l)) (rled (rlead l (filt l l.length) L base mt (atf l)) (filt l l.length).length) (filt l l.length).length).1 ∧
    ∀ j, j < (srun l L mt base l.length).n → (erun l L mt base (srun l L mt base l.length).ofs (srun l L mt base l.length).sd l.length).2 j =
      (rout l (filt l l.length) L base mt (rlead l (filt l l.length) L base mt (atf l)) (rled (rlead l (filt l l.length) L base mt (atf l)) (filt l l.length).length) (filt l l.length).length).2 j := by
  have hE := srun_ei (L := L) (base := base) hM l.length (Nat.le_refl _)
  have hlt : ∀ k q, k < (filt l l.length).length → prd l (filt l l.length) L base mt k = some q → q < k := fun k q hk => prd_lt hM hk
  have hld : ∀ q k, q < (filt l l.length).length → k < (filt l l.length).length → (rlead l (filt l l.length) L base mt (atf l) q = k ↔ prd l (filt l l.length) L base mt k = some q) := fun q k hq hk => lead_prd hM hq hk
  have hr : ∀ q, q < (filt l l.length).length → -1 ≤ rlead l (filt l l.length) L base mt (atf l) q ∧ rlead l (filt l l.length) L base mt (atf l) q < (filt l l.length).length ∧ (0 ≤ rlead l (filt l l.length) L base mt (atf l) q → (q : Int) < rlead l (filt l l.length) L base mt (atf l) q) :=
    fun q hq => rlead_range l L base mt l.length (fun i h0 => by
      obtain ⟨m, m1, m2, m3, m4, m5, m6, m7⟩ := hM i h0
      rw [m3, Int.toNat_natCast]
      refine ⟨by omega, m6, fun hi => ?_⟩
      rcases m7 with m7 | m7
      · omega
      · rw [m7.1] at hi; simp at hi) hq
  have hdd : ∀ k, k < (filt l l.length).length → (rled (rlead l (filt l l.length) L base mt (atf l)) (filt l l.length).length k = true ↔ prd l (filt l l.length) L base mt k ≠ none) := by
    intro k hk
    rw [rled_true]
    constructor
    · rintro ⟨q, h1, h2⟩
      rw [(hld q k h1 hk).1 h2]; simp
    · intro h
      cases hp : prd l (filt l l.length) L base mt k with
      | none => exact absurd hp h
      | some q => have := hlt k q hk hp; exact ⟨q, by omega, (hld q k (by omega) hk).2 hp⟩
  have hR := rout_ok (l := l) (L := L) (base := base) (mt := mt) (filt l l.length) (rlead l (filt l l.length) L base mt (atf l)) (rled (rlead l (filt l l.length) L base mt (atf l)) (filt l l.length).length) (prd l (filt l l.length) L base mt) (filt l l.length).length hdd
  generalize hs : srun l L mt base l.length = s at *
  generalize hldd : rlead l (filt l l.length) L base mt (atf l) = ld at *
  generalize rled ld (filt l l.length).length = dd at *
  have hZ : ∀ j, ∃ z, j < s.n → z < (filt l l.length).length ∧ sOf (prd l (filt l l.length) L base mt) z = j ∧ (∀ y, z < y → y < (filt l l.length).length → sOf (prd l (filt l l.length) L base mt) y ≠ j) ∧
      ∃ h, h < (filt l l.length).length ∧ prd l (filt l l.length) L base mt h = none ∧ nS (prd l (filt l l.length) L base mt) h = j ∧ rch (filt l l.length) ld (filt l l.length).length h h [] = (gat (prd l (filt l l.length) L base mt) (filt l l.length) j (filt l l.length).length, (z : Int)) := by
    intro j
    by_cases hj : j < s.n
    · rw [hE.n] at hj
      obtain ⟨h, h1, h2, h3⟩ := nS_head hj
      have h0 : gat (prd l (filt l l.length) L base mt) (filt l l.length) j h = [] := by
        rw [gat_skip (a := 0) (b := h) (Nat.zero_le _) (fun z _ hz he => by
          have h1 := sOf_lt hlt z (by omega)
          have h2 := nS_mono (pd := prd l (filt l l.length) L base mt) (i := z + 1) (j := h) (by omega)
          omega)]
        rfl
      obtain ⟨z, z1, z2, z3, z4, z5⟩ := chain_gat (P := filt l l.length) hlt hld hr j (filt l l.length).length h h h1 (by rw [of_none h2, h3]) (by omega)
      rw [h0] at z5
      exact ⟨z, fun _ => ⟨z1, z3, z4, h, h1, h2, h3, z5⟩⟩
    · exact ⟨0, fun h => absurd h hj⟩
  refine ⟨by rw [hE.n, hR.1], fun j hj => ?_⟩
  have hsd : ∀ j, j < s.n → ∀ h, h < (filt l l.length).length → prd l (filt l l.length) L base mt h = none → nS (prd l (filt l l.length) L base mt) h = j → s.sd j = ⟨gat (prd l (filt l l.length) L base mt) (filt l l.length) j (filt l l.length).length, levI (filt l l.length) L base h, sideI (levI (filt l l.length) L base h) (levI (filt l l.length) L base ((h : Int) - 1)), 0⟩ := by
    intro j hj h h1 h2 h3
    have := hE.sd h h1 h2
    rw [h3] at this
    exact this
  have hER := (erun_ok (l := l) (L := L) (base := base) (mt := mt) s.ofs s.sd s.n (prd l (filt l l.length) L base mt) (fun j => (hZ j).choose) (fun x hx => hE.ofs x hx) (fun j hj => by
    obtain ⟨z1, z2, z3, h, h1, h2, h3, h4⟩ := (hZ j).choose_spec hj
    refine ⟨z1, z2, ?_⟩
    rw [hsd j hj h h1 h2 h3]
    exact gat_last _ _ j _ _ z1 z2 z3) (fun x hx => by
      rw [hE.n]
      have h1 := sOf_lt hlt x hx
      have h2 := nS_mono (pd := prd l (filt l l.length) L base mt) (i := x + 1) (j := (filt l l.length).length) (by omega)
      omega) l.length (Nat.le_refl _)).2 j hj
  obtain ⟨z1, z2, z3, h, h1, h2, h3, h4⟩ := (hZ j).choose_spec hj
  rw [hER, if_pos (by rw [Nat.sub_self]; exact Nat.zero_le _)]
  have h5 := hR.2 h h1 h2
  rw [h3] at h5
  rw [h5, hsd j hj h h1 h2 h3, rseq, h4]
end

section
variable {l L : List Int} {base : Int} {mt mt' : Nat → Int}
theorem ssel_congr {i : Nat} {s : SS} (h : mt i = mt' i) : ssel L mt i s = ssel L mt' i s := by unfold ssel; rw [h]
theorem srun_congr (h : ∀ i, i < l.length → mt i = mt' i) (k : Nat) (hk : k ≤ l.length) : srun l L mt base k = srun l L mt' base k := by
  induction k with
  | zero => rfl
  | succ k ih => rw [srun, srun, ih (by omega), sstep, sstep, ssel_congr (h k (by omega))]
theorem erun_congr (h : ∀ i, i < l.length → mt i = mt' i) (ofs : Nat → Int) (sd : Nat → SeqD) (k : Nat) (hk : k ≤ l.length) : erun l L mt base ofs sd k = erun l L mt' base ofs sd k := by
  induction k with
  | zero => rfl
  | succ k ih => rw [erun, erun, ih (by omega), estep, estep, h (l.length - 1 - k) (by omega)]
end

/-- The number of the sequences, and the sequences: the reference's words. -/
def RefN (l L : List Int) (base : Int) : Nat := (rout l (filt l l.length) L base (rmat l) (rlead l (filt l l.length) L base (rmat l) (atf l)) (rled (rlead l (filt l l.length) L base (rmat l) (atf l)) (filt l l.length).length) (filt l l.length).length).1
def RefS (l L : List Int) (base : Int) : Nat → SeqD := (rout l (filt l l.length) L base (rmat l) (rlead l (filt l l.length) L base (rmat l) (atf l)) (rled (rlead l (filt l l.length) L base (rmat l) (atf l)) (filt l l.length).length) (filt l l.length).length).2

theorem seq_law (l L : List Int) (base : Int) : (srun l L (mat l) base l.length).n = RefN l L base ∧
    ∀ j, j < RefN l L base → (erun l L (mat l) base (srun l L (mat l) base l.length).ofs (srun l L (mat l) base l.length).sd l.length).2 j = RefS l L base j := by
  have h := seq_same (L := L) (base := base) (rmat_MT l)
  rw [srun_congr (mt := mat l) (mt' := rmat l) (fun i hi => mat_eq l hi) l.length (Nat.le_refl _), erun_congr (mt := mat l) (mt' := rmat l) (fun i hi => mat_eq l hi) _ _ l.length (Nat.le_refl _)]
  exact ⟨h.1, fun j hj => h.2 j (by rw [h.1]; exact hj)⟩
end Go.Proofs.Ytkfjhannbnijkaa
