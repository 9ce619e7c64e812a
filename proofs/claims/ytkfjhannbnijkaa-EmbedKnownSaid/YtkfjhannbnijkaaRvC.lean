/- The reference's within: walked. -/
import Derived.Test.YtkfjhannbnijkaaRvB
import Derived.Test.YtkfjhannbnijkaaLvF
namespace Go.Proofs.Ytkfjhannbnijkaa
open Go.RowKit

section
variable {l : List Int} {base : Int} {f k : Nat} {lev ov kind : Int} {held : Bool} {is em : Nat} {s : LC} {c : Int}
theorem rwi_end (hk : k < l.length) (he : rwEnd (l.getD k 0) kind held is em = true) : rwi l base (f + 1) k lev ov kind held is em s = (k, s) := by
  rw [rwi, if_neg (by omega), if_pos he]
theorem rwi_out (hk : ¬ k < l.length) : rwi l base f k lev ov kind held is em s = (k, s) := by
  cases f with
  | zero => rfl
  | succ f => rw [rwi, if_pos (by omega)]
theorem rwi_B (hk : k < l.length) (hc : l.getD k 0 = 11) (he : rwEnd 11 kind held is em = false) : rwi l base (f + 1) k lev ov kind held is em s = rwi l base f (k + 1) lev ov kind held 0 0 (s.st k base 0 11) := by
  rw [rwi, if_neg (by omega), hc, if_neg (by rw [he]; simp), if_pos rfl]
theorem rwi_P (hk : k < l.length) (hc : l.getD k 0 = 23) (he : rwEnd 23 kind held is em = false) : rwi l base (f + 1) k lev ov kind held is em s = rwi l base f (k + 1) lev ov kind held (is - 1) em (s.st k lev ov 23) := by
  rw [rwi, if_neg (by omega), hc, if_neg (by rw [he]; simp), if_neg (by omega), if_pos rfl]
theorem rwi_F (hk : k < l.length) (hc : l.getD k 0 = 19) (he : rwEnd 19 kind held is em = false) : rwi l base (f + 1) k lev ov kind held is em s = rwi l base f (k + 1) lev ov kind held is (if is = 0 then em - 1 else em) s := by
  rw [rwi, if_neg (by omega), hc, if_neg (by rw [he]; simp), if_neg (by omega), if_neg (by omega), if_pos rfl]
theorem rwEnd_not {kind : Int} (h1 : c ≠ 11) (h2 : c ≠ 23) (h3 : c ≠ 19) : rwEnd c kind held is em = false := by
  unfold rwEnd
  simp [h1, h2, h3]
theorem rwi_I {r : Nat × LC} (hk : k < l.length) (hc : l.getD k 0 = c) (hi : initB c = true) (hr : rwi l base f (k + 1) (nextL lev (isoRr l k)) 0 2 true 0 0 (s.st k lev ov c) = r) (hm : is + em = 0 ∧ nextL lev (isoRr l k) ≤ 125) :
    rwi l base (f + 1) k lev ov kind held is em s = (if r.1 < l.length ∧ l.getD r.1 0 = 23 then rwi l base f (r.1 + 1) lev ov kind held is em (r.2.st r.1 lev ov 23) else rwi l base f r.1 lev ov kind held is em r.2) := by
  have h3 := hi
  simp [initB] at h3
  rw [rwi, if_neg (by omega), hc, if_neg (by rw [rwEnd_not (by omega) (by omega) (by omega)]; simp), if_neg (by omega), if_neg (by omega), if_neg (by omega), if_pos hi, if_pos hm]
  dsimp only
  rw [hr]
theorem rwi_I2 (hk : k < l.length) (hc : l.getD k 0 = c) (hi : initB c = true) (hm : ¬ (is + em = 0 ∧ nextL lev (isoRr l k) ≤ 125)) :
    rwi l base (f + 1) k lev ov kind held is em s = rwi l base f (k + 1) lev ov kind held (is + 1) em (s.st k lev ov c) := by
  have h3 := hi
  simp [initB] at h3
  rw [rwi, if_neg (by omega), hc, if_neg (by rw [rwEnd_not (by omega) (by omega) (by omega)]; simp), if_neg (by omega), if_neg (by omega), if_neg (by omega), if_pos hi, if_neg hm]
theorem rwi_E {r : Nat × LC} (hk : k < l.length) (hc : l.getD k 0 = c) (hi : 15 ≤ c ∧ c ≤ 18) (hr : rwi l base f (k + 1) (nextL lev (embR c)) (embO c) 1 held 0 0 s = r) (hm : is + em = 0 ∧ nextL lev (embR c) ≤ 125) :
    rwi l base (f + 1) k lev ov kind held is em s = (if r.1 < l.length ∧ l.getD r.1 0 = 19 then rwi l base f (r.1 + 1) lev ov kind held is em r.2 else rwi l base f r.1 lev ov kind held is em r.2) := by
  rw [rwi, if_neg (by omega), hc, if_neg (by rw [rwEnd_not (by omega) (by omega) (by omega)]; simp), if_neg (by omega), if_neg (by omega), if_neg (by omega), if_neg (by rw [initB_not (by omega)]; simp), if_pos hi, if_pos hm]
  dsimp only
  rw [hr]
theorem rwi_E2 (hk : k < l.length) (hc : l.getD k 0 = c) (hi : 15 ≤ c ∧ c ≤ 18) (hm : ¬ (is + em = 0 ∧ nextL lev (embR c) ≤ 125)) :
    rwi l base (f + 1) k lev ov kind held is em s = rwi l base f (k + 1) lev ov kind held is (if is = 0 then em + 1 else em) s := by
  rw [rwi, if_neg (by omega), hc, if_neg (by rw [rwEnd_not (by omega) (by omega) (by omega)]; simp), if_neg (by omega), if_neg (by omega), if_neg (by omega), if_neg (by rw [initB_not (by omega)]; simp), if_pos hi, if_neg hm]
theorem rwi_N (hk : k < l.length) (hc : l.getD k 0 = 10) : rwi l base (f + 1) k lev ov kind held is em s = rwi l base f (k + 1) lev ov kind held is em s := by
  rw [rwi, if_neg (by omega), hc, if_neg (by rw [rwEnd_not (by omega) (by omega) (by omega)]; simp), if_neg (by omega), if_neg (by omega), if_neg (by omega), if_neg (by rw [initB_not (by omega)]; simp), if_neg (by omega), if_pos rfl]
theorem rwi_O (hk : k < l.length) (hc : l.getD k 0 = c) (h1 : c ≠ 11) (h2 : c ≠ 23) (h3 : ¬ (15 ≤ c ∧ c ≤ 19)) (h4 : initB c = false) (h5 : c ≠ 10) : rwi l base (f + 1) k lev ov kind held is em s = rwi l base f (k + 1) lev ov kind held is em (s.st k lev ov c) := by
  rw [rwi, if_neg (by omega), hc, if_neg (by rw [rwEnd_not h1 h2 (by omega)]; simp), if_neg h1, if_neg h2, if_neg (by omega), if_neg (by rw [h4]; simp), if_neg (by omega), if_neg h5]
end

def entv (lev ov : Int) : Nat → Value := fun i => if i = 0 then .int .u8 lev else .int .u8 ov

/-- Inside within's loop. -/
structure RLoop (w wr wx : World) (K : RWK) (be : Nat) (lev ov : Int) (s : LC) : Prop where
  rel : RRel w wx K s
  kep : Kep K wr wx
  ent : wx.rowIs be 69 2 (entv lev ov)

theorem RLoop.next {w wr wx wy : World} {K : RWK} {be : Nat} {lev ov : Int} {s s' : LC} (h : RLoop w wr wx K be lev ov s) (h2 : RRel w wy K s') (h3 : Kep K wx wy) (h4 : be ≠ K.bl) (h5 : be ≠ K.bc) : RLoop w wr wy K be lev ov s' :=
  ⟨h2, h.kep.trans h3, h3.row h.ent h4 h5⟩

/-- What within tells, and leaves. -/
def RWDone (w wr : World) (K : RWK) (R : Nat × LC) (e : Ending) (w' : World) : Prop := e = .returned (.int .i64 R.1) ∧ RRel w w' K R.2 ∧ Kep K wr w'

set_option maxRecDepth 100000 in
set_option maxHeartbeats 8000000 in
theorem rwithin_any (K : RWK) (n : Nat) (hn : K.l.length = n) (hlen : n ≤ 70000) : ∀ (f : Nat) (w wq : World) (s0 : LC) (i0 : Nat) (lev ov kind : Int) (held : Bool), RRel w wq K s0 → i0 ≤ n → n ≤ i0 + f → 0 ≤ lev → lev ≤ 125 →
    Calls Try.prog 39 #[.pointer (some ⟨K.bw, 0, none⟩), .int .i64 i0, .agg #[.int .u8 lev, .int .u8 ov], .int .i64 kind, .bool held] wq (RWDone w wq K (rwi K.l K.base f i0 lev ov kind held 0 0 s0)) := by
  intro f
  induction f using Nat.strongRecOn with
  | ind f ih =>
  intro w wq s0 i0 lev ov kind held h0 hi0 hf hl0 hl1
  have HIH := Lib.hid ih
  obtain ⟨R, hRR⟩ : ∃ R, rwi K.l K.base f i0 lev ov kind held 0 0 s0 = R := ⟨_, rfl⟩
  rw [hRR]
  have HRR := Lib.hid hRR
  obtain ⟨be, hbe⟩ : ∃ be, be = wq.heap.size := ⟨_, rfl⟩
  have hbl : be ≠ K.bl := by have := h0.lv.lt; omega
  have hbc : be ≠ K.bc := by have := h0.cl.lt; omega
  obtain ⟨w1, hw1⟩ : ∃ w1, w1 = wq.alloc (.cells #[.int .u8 lev, .int .u8 ov] 69) := ⟨_, rfl⟩
  have hL1 : RLoop w wq w1 K be lev ov s0 := by
    rw [hw1, hbe]
    exact ⟨h0.alloc _, (Kep.refl K wq).alloc _, World.rowIs_alloc wq #[.int .u8 lev, .int .u8 ov] 69 (entv lev ov) (fun i hi => by
      have : i = 0 ∨ i = 1 := by simp at hi; omega
      rcases this with rfl | rfl <;> rfl)⟩
  have HL1 := Lib.hid hL1
  have HW1 := Lib.hid hw1
  have HBE := Lib.hid hbe
  have HN := Lib.hid hn
  clear ih hRR hL1 hw1 hbe h0 hn
  go_enter Try.func39, Try.ntmps39
  go_upto_region 1 with fail
  rw [← HW1.out, ← HBE.out]
  go_wp2_with fail
  go_loopg [1, 11, 12] f (fun g s1 s11 s12 wx => ∃ k is em q : Nat, ∃ s : LC, q = g ∧ k ≤ n ∧ is ≤ k ∧ em ≤ k ∧ q ≤ f ∧ n ≤ k + q ∧ s1 = .int .i64 k ∧ s11 = .int .i64 is ∧ s12 = .int .i64 em ∧ RLoop w wq wx K be lev ov s ∧ Hid (rwi K.l K.base q k lev ov kind held is em s = R))
  case atStart => exact ⟨i0, 0, 0, f, s0, rfl, hi0, by omega, by omega, Nat.le_refl _, hf, rfl, rfl, rfl, HL1.out, HRR⟩
  case round =>
    obtain ⟨k, is, em, g, s, rfl, hk, hisk, hemk, hgf, hg, rfl, rfl, rfl, hL, HE⟩ := hrel
    by_cases hlt : k < n
    · have hkl : k < K.l.length := by rw [HN.out]; exact hlt
      have hkz : (k : Int) < (n : Int) := by omega
      have hS := hL.rel.sees
      obtain ⟨hrd, hao⟩ := hS.rd k hkl
      have x0 := hS.w0
      have x1 := hS.w1
      rw [hao, HN.out] at x0
      obtain ⟨c, hc⟩ : ∃ c, K.l.getD k 0 = c := ⟨_, rfl⟩
      rw [hc] at hrd
      have e0 : wr.cell? ⟨be, 0, none⟩ = some (.int .u8 lev) := hL.ent.cell (i := 0) (by omega)
      have e1 : wr.cell? ⟨be, 1, none⟩ = some (.int .u8 ov) := hL.ent.cell (i := 1) (by omega)
      have HL := Lib.hid hL
      have HC := Lib.hid hc
      obtain ⟨g', rfl⟩ : ∃ g', g = g' + 1 := ⟨g - 1, by omega⟩
      clear hS hL hao hc
      by_cases hend : rwEnd c kind held is em = true
      · have hE := HE.out
        rw [rwi_end hkl (by rw [HC.out]; exact hend)] at hE
        have HD : Hid (R.1 = k ∧ R.2 = s) := by rw [← hE]; exact ⟨rfl, rfl⟩
        have h3 : (c = 11 ∧ kind ≠ 0) ∨ (c = 23 ∧ is = 0 ∧ held = true) ∨ (c = 19 ∧ is + em = 0 ∧ kind = 1) := by unfold rwEnd at hend; simp only [Bool.or_eq_true, decide_eq_true_eq, or_assoc] at hend; exact hend
        clear hE HE hend
        rcases h3 with ⟨rfl, h3⟩ | ⟨rfl, h3, rfl⟩ | ⟨rfl, h3, rfl⟩
        · have t1 : (kind != 0) = true := by simp [h3]
          clear h3
          as_aux_lemma =>
            go_wp2_with fail
            go_ret
            exact ⟨ret_int (by rw [HD.out.1]), by rw [HD.out.2]; exact HL.out.rel, HL.out.kep⟩
        · have t1 : ((is : Int) == 0) = true := by simp [h3]
          clear h3
          as_aux_lemma =>
            go_wp2_with fail
            go_ret
            exact ⟨ret_int (by rw [HD.out.1]), by rw [HD.out.2]; exact HL.out.rel, HL.out.kep⟩
        · have t1 : ((is : Int) + (em : Int) == 0) = true := by simp; omega
          clear h3
          as_aux_lemma =>
            go_wp2_with fail
            go_ret
            exact ⟨ret_int (by rw [HD.out.1]), by rw [HD.out.2]; exact HL.out.rel, HL.out.kep⟩
      · have hend' : rwEnd c kind held is em = false := by simpa using hend
        clear hend
        by_cases cB : c = 11
        · subst cB
          have hE := HE.out
          rw [rwi_B hkl HC.out hend'] at hE
          have HE2 := Lib.hid hE
          have hkind : (kind != 0) = false := by
            unfold rwEnd at hend'
            simp at hend' ⊢
            exact hend'
          clear HE hE hend'
          as_aux_lemma =>
            go_wp2_with (go_at_call 49; refine (rstands_any HL.out.rel k hkl K.base 0 11 HC.out).mono ?_; rintro e w2 ⟨rfl, h2, k2⟩)
            go_roundg g'
            case measure => go_light; omega
            case rel => go_light; exact ⟨k + 1, 0, 0, g', _, rfl, by omega, by omega, by omega, by omega, by omega, by go_num, rfl, rfl, HL.out.next h2 k2 hbl hbc, HE2⟩
        · by_cases cP : c = 23
          · subst cP
            have hE := HE.out
            rw [rwi_P hkl HC.out hend'] at hE
            have HE2 := Lib.hid hE
            clear HE hE
            by_cases hi0 : is = 0
            · have t1 : ((is : Int) == 0) = true := by simp [hi0]
              have hheld : held = false := by unfold rwEnd at hend'; simp [hi0] at hend'; exact hend'
              subst hheld
              have t2 : (is : Int) - 1 < 0 := by omega
              have HI := Lib.hid hi0
              clear hend' hi0
              as_aux_lemma =>
                go_wp2_with (go_at_call 49; refine (rstands_any HL.out.rel k hkl lev ov 23 HC.out).mono ?_; rintro e w2 ⟨rfl, h2, k2⟩)
                go_roundg g'
                case measure => go_light; omega
                case rel => go_light; exact ⟨k + 1, is - 1, em, g', _, rfl, by omega, by omega, by omega, by omega, by omega, by go_num, (by have := HI.out; congr 1; omega), rfl, HL.out.next h2 k2 hbl hbc, HE2⟩
            · have t1 : ((is : Int) == 0) = false := by simp [hi0]
              have t2 : 0 ≤ (is : Int) - 1 := by omega
              clear hend'
              as_aux_lemma =>
                go_wp2_with (go_at_call 49; refine (rstands_any HL.out.rel k hkl lev ov 23 HC.out).mono ?_; rintro e w2 ⟨rfl, h2, k2⟩)
                all_goals
                  go_roundg g'
                  case measure => go_light; omega
                  case rel => go_light; exact ⟨k + 1, is - 1, em, g', _, rfl, by omega, by omega, by omega, by omega, by omega, by go_num, (by congr 1; omega), rfl, HL.out.next h2 k2 hbl hbc, HE2⟩
          · by_cases cF : c = 19
            · subst cF
              have hE := HE.out
              rw [rwi_F hkl HC.out hend'] at hE
              have HE2 := Lib.hid hE
              clear HE hE
              have hF : ¬ (is + em = 0 ∧ kind = 1) := by unfold rwEnd at hend'; simp at hend' ⊢; exact hend'
              clear hend'
              by_cases hi0 : is = 0
              · have t1 : ((is : Int) == 0) = true := by simp [hi0]
                by_cases he0 : em = 0
                · have t2 : ((is : Int) + (em : Int) == 0) = true := by simp; omega
                  have t3 : (kind == 1) = false := by simp; exact fun h => hF ⟨by omega, h⟩
                  have t4 : (em : Int) - 1 < 0 := by omega
                  have HI := Lib.hid hi0
                  have HZ := Lib.hid he0
                  clear hF hi0 he0
                  as_aux_lemma =>
                    go_wp2_with fail
                    go_roundg g'
                    case measure => go_light; omega
                    case rel => go_light; exact ⟨k + 1, is, (if is = 0 then em - 1 else em), g', _, rfl, by omega, by omega, (by split <;> omega), by omega, by omega, by go_num, rfl, (by have := HI.out; have := HZ.out; rw [if_pos HI.out]; congr 1; omega), HL.out, HE2⟩
                · have t2 : ((is : Int) + (em : Int) == 0) = false := by simp; omega
                  have t4 : 0 ≤ (em : Int) - 1 := by omega
                  have HI := Lib.hid hi0
                  clear hF hi0
                  as_aux_lemma =>
                    go_wp2_with fail
                    all_goals
                      go_roundg g'
                      case measure => go_light; omega
                      case rel => go_light; exact ⟨k + 1, is, (if is = 0 then em - 1 else em), g', _, rfl, by omega, by omega, (by split <;> omega), by omega, by omega, by go_num, rfl, (by rw [if_pos HI.out]; congr 1; omega), HL.out, HE2⟩
              · have t1 : ((is : Int) == 0) = false := by simp [hi0]
                have t2 : ((is : Int) + (em : Int) == 0) = false := by simp; omega
                clear hF
                as_aux_lemma =>
                  go_wp2_with fail
                  go_roundg g'
                  case measure => go_light; omega
                  case rel => go_light; exact ⟨k + 1, is, (if is = 0 then em - 1 else em), g', _, rfl, by omega, by omega, (by split <;> omega), by omega, by omega, by go_num, rfl, (by rw [if_neg hi0]), HL.out, HE2⟩
            · clear hend'
              by_cases hi : initB c = true
              · have hcc : c = 20 ∨ c = 21 ∨ c = 22 := by simp [initB] at hi; omega
                clear cB cP cF
                have hRr : isoRr K.l k = (decide (c = 21) || (decide (c = 22) && rrw K.l true K.l.length (k + 1) 0)) := by unfold isoRr; rw [HC.out]
                obtain ⟨rr, hrr⟩ : ∃ r, isoRr K.l k = r := ⟨_, rfl⟩
                have HR : Hid (rr = (decide (c = 21) || (decide (c = 22) && rrw K.l true K.l.length (k + 1) 0))) := by exact hrr ▸ hRr
                have HRR2 := Lib.hid hrr
                have HI := Lib.hid hi
                have HCC := Lib.hid hcc
                have b1 : (c == 11) = false := by simp; omega
                have b2 : (c == 23) = false := by simp; omega
                have b3 : (c == 19) = false := by simp; omega
                clear hRr hrr hcc
                go_upto_region 21 with (first | (go_at_call 32; refine (rInitiator_any _ _).mono ?_; rintro e w' ⟨rfl, rfl⟩) | (go_at_call 49; refine (rstands_any HL.out.rel k hkl lev ov c HC.out).mono ?_; rintro e w2 ⟨rfl, h2, k2⟩))
                have HL2 := Lib.hid (HL.out.next h2 k2 hbl hbc)
                clear h2 k2 b1 b2 b3 hrd x0 x1 e0 e1 hi
                go_cut [15] from 17 to 212 (fun s15 wx => s15 = .int .u8 (nextL lev rr) ∧ RLoop w wq wx K be lev ov (s.st k lev ov c))
                case first =>
                  have e0 : w2.cell? ⟨be, 0, none⟩ = some (.int .u8 lev) := HL2.out.ent.cell (i := 0) (by omega)
                  have e1 : w2.cell? ⟨be, 1, none⟩ = some (.int .u8 ov) := HL2.out.ent.cell (i := 1) (by omega)
                  have x0 := HL2.out.rel.sees.w0
                  have hrd := HL2.out.rel.reads.since HL2.out.rel.since.drew
                  have hrc := rright_any K.l n HN.out hlen K.cap K.b K.off K.ao w2.drew hrd true (k + 1) K.l.length (by omega) (by rw [HN.out]; omega)
                  rw [HN.out] at x0
                  have HRC := Lib.hid hrc
                  clear hrd hrc
                  rcases HCC.out with rfl | rfl | rfl
                  · obtain rfl : rr = false := HR.out
                    as_aux_lemma =>
                      refine wp_region_still_tail 16 FM (by kernel_rfl) ?_
                      simp only [List.take_succ_cons, List.take_zero, List.drop_succ_cons, List.drop_zero]
                      iterate 7 still_step
                      iterate 7 ((with_reducible refine wpStill_skip ?_ ?_); (kernel_rfl); go_simp)
                      iterate 2 still_step
                      refine wpStill_nil ?_
                      change wpList _ _ _ _ _ w2.drew
                      go_wp2_with (first | (go_at_call 50; refine (next_any lev ov false w2.drew hl0 hl1).mono ?_; rintro e w3 ⟨rfl, hs3⟩))
                      go_meet
                      exact ⟨rfl, HL2.out.next (HL2.out.rel.drew.later hs3) ((Kep.refl K w2).drew.since hs3) hbl hbc⟩
                  · obtain rfl : rr = true := HR.out
                    as_aux_lemma =>
                      refine wp_region_still_tail 16 FM (by kernel_rfl) ?_
                      simp only [List.take_succ_cons, List.take_zero, List.drop_succ_cons, List.drop_zero]
                      iterate 4 still_step
                      iterate 11 ((with_reducible refine wpStill_skip ?_ ?_); (kernel_rfl); go_simp)
                      iterate 1 still_step
                      refine wpStill_nil ?_
                      change wpList _ _ _ _ _ w2.drew
                      go_wp2_with (first | (go_at_call 50; refine (next_any lev ov true w2.drew hl0 hl1).mono ?_; rintro e w3 ⟨rfl, hs3⟩))
                      go_meet
                      exact ⟨rfl, HL2.out.next (HL2.out.rel.drew.later hs3) ((Kep.refl K w2).drew.since hs3) hbl hbc⟩
                  · have hr' : rrw K.l true K.l.length (k + 1) 0 = rr := HR.out.symm
                    have hrc := HRC.out
                    rw [hr'] at hrc
                    have HRC2 := Lib.hid hrc
                    clear hr' hrc
                    as_aux_lemma =>
                      refine wp_region_still_tail 16 FM (by kernel_rfl) ?_
                      simp only [List.take_succ_cons, List.take_zero, List.drop_succ_cons, List.drop_zero]
                      iterate 13 still_step
                      refine wpStill_step (fun K hK => ?_)
                      go_simp
                      have hwr : IntKind.i64.wrap ((k : Int) + 1) = ((k + 1 : Nat) : Int) := IntWalk.i64_in _ (by omega)
                      refine ⟨.bool rr, by rw [hwr]; exact HRC2.out.mono (fun _ _ ⟨a, b⟩ => ⟨a, b.symm⟩), hK _ ?_⟩
                      clear hK K hwr
                      iterate 2 still_step
                      refine wpStill_nil ?_
                      change wpList _ _ _ _ _ w2.drew
                      go_wp2_with (first | (go_at_call 50; refine (next_any lev ov rr w2.drew hl0 hl1).mono ?_; rintro e w3 ⟨rfl, hs3⟩))
                      go_meet
                      exact ⟨rfl, HL2.out.next (HL2.out.rel.drew.later hs3) ((Kep.refl K w2).drew.since hs3) hbl hbc⟩
                case rest =>
                  obtain ⟨rfl, hL3⟩ := hcut
                  have HL3 := Lib.hid hL3
                  clear hL3 HL2
                  have hx0 : lev < nextL lev rr ∧ nextL lev rr ≤ lev + 2 := ⟨nextL_bd.1, nextL_bd.2.1⟩
                  generalize hx : nextL lev rr = x at *
                  have HX : Hid (nextL lev (isoRr K.l k) = x) := by show _ = _; rw [HRR2.out]; exact hx
                  obtain ⟨hx1, hx2⟩ := hx0
                  clear hx
                  by_cases hm : is + em = 0 ∧ x ≤ 125
                  · have hC := HIH.out g' (by omega) w wc (s.st k lev ov c) (k + 1) x 0 2 true HL3.out.rel (by omega) (by omega) (by omega) (by omega)
                    have hbd := rwi_bd K.l K.base g' (k + 1) x 0 2 true 0 0 (s.st k lev ov c) (by rw [HN.out]; omega)
                    obtain ⟨r, hr⟩ : ∃ r, rwi K.l K.base g' (k + 1) x 0 2 true 0 0 (s.st k lev ov c) = r := ⟨_, rfl⟩
                    have hE := HE.out
                    rw [rwi_I (r := r) hkl HC.out HI.out (by rw [HX.out]; exact hr) (by rw [HX.out]; exact hm), HN.out] at hE
                    rw [hr] at hC hbd
                    rw [HN.out] at hbd
                    obtain ⟨j, s4⟩ := r
                    obtain ⟨hb1, hb2⟩ := hbd
                    simp only at hb1 hb2 hE
                    have t1 : ((is : Int) + (em : Int) == 0) = true := by simp; omega
                    have t2 : decide (x ≤ 125) = true := by simp; omega
                    have HC4 := Lib.hid hC
                    have HM := Lib.hid hm
                    clear hr HE hC hm
                    by_cases hj : j < n
                    · have hjz : (j : Int) < (n : Int) := by omega
                      have hjk : j < K.l.length := by rw [HN.out]; exact hj
                      obtain ⟨cj, hcj⟩ : ∃ cj, K.l.getD j 0 = cj := ⟨_, rfl⟩
                      rw [hcj] at hE
                      by_cases hP : cj = 23
                      · rw [if_pos ⟨hj, hP⟩] at hE
                        subst hP
                        have HCJ := Lib.hid hcj
                        have HE2 := Lib.hid hE
                        clear hcj hE
                        as_aux_lemma =>
                          go_wp2_with (first | (go_at_call 39; refine HC4.out.mono ?_; rintro e w4 ⟨rfl, h4, k4⟩; have HL4 := Lib.hid (HL3.out.next h4 k4 hbl hbc); clear h4 k4; have x4 := HL4.out.rel.sees.w0; have r4 := (HL4.out.rel.sees.rd j hjk).1; rw [(HL4.out.rel.sees.rd j hjk).2, HN.out] at x4; rw [HCJ.out] at r4; have e4 : w4.cell? ⟨be, 0, none⟩ = some (.int .u8 lev) := HL4.out.ent.cell (i := 0) (by omega); have e5 : w4.cell? ⟨be, 1, none⟩ = some (.int .u8 ov) := HL4.out.ent.cell (i := 1) (by omega)) | (go_at_call 49; refine (rstands_any HL4.out.rel j hjk lev ov 23 HCJ.out).mono ?_; rintro e w5 ⟨rfl, h5, k5⟩))
                          go_roundg g'
                          case measure => go_light; omega
                          case rel => go_light; exact ⟨j + 1, is, em, g', _, rfl, by omega, by omega, by omega, by omega, by omega, by go_num, rfl, rfl, HL4.out.next h5 k5 hbl hbc, HE2⟩
                      · rw [if_neg (fun h => hP h.2)] at hE
                        have hPz : (cj == 23) = false := by simp [hP]
                        have HCJ := Lib.hid hcj
                        have HE2 := Lib.hid hE
                        clear hcj hE hP
                        as_aux_lemma =>
                          go_wp2_with (first | (go_at_call 39; refine HC4.out.mono ?_; rintro e w4 ⟨rfl, h4, k4⟩; have HL4 := Lib.hid (HL3.out.next h4 k4 hbl hbc); clear h4 k4; have x4 := HL4.out.rel.sees.w0; have r4 := (HL4.out.rel.sees.rd j hjk).1; rw [(HL4.out.rel.sees.rd j hjk).2, HN.out] at x4; rw [HCJ.out] at r4))
                          go_roundg g'
                          case measure => go_light; omega
                          case rel => go_light; exact ⟨j, is, em, g', _, rfl, by omega, by omega, by omega, by omega, by omega, rfl, rfl, rfl, HL4.out, HE2⟩
                    · have hjz : ¬ ((j : Int) < (n : Int)) := by omega
                      rw [if_neg (fun h => hj h.1)] at hE
                      have HE2 := Lib.hid hE
                      clear hE
                      as_aux_lemma =>
                        go_wp2_with (first | (go_at_call 39; refine HC4.out.mono ?_; rintro e w4 ⟨rfl, h4, k4⟩; have HL4 := Lib.hid (HL3.out.next h4 k4 hbl hbc); clear h4 k4; have x4 := HL4.out.rel.sees.w0; rw [HN.out] at x4))
                        go_roundg g'
                        case measure => go_light; omega
                        case rel => go_light; exact ⟨j, is, em, g', _, rfl, by omega, by omega, by omega, by omega, by omega, rfl, rfl, rfl, HL4.out, HE2⟩
                  · have hE := HE.out
                    rw [rwi_I2 hkl HC.out HI.out (by rw [HX.out]; exact hm)] at hE
                    have HE2 := Lib.hid hE
                    clear HE hE
                    by_cases hz : is + em = 0
                    · have t1 : ((is : Int) + (em : Int) == 0) = true := by simp; omega
                      have t2 : decide (x ≤ 125) = false := by simp; omega
                      clear hm hz
                      as_aux_lemma =>
                        go_wp2_with fail
                        go_roundg g'
                        case measure => go_light; omega
                        case rel => go_light; exact ⟨k + 1, is + 1, em, g', _, rfl, by omega, by omega, by omega, by omega, by omega, by go_num, by go_num, rfl, HL3.out, HE2⟩
                    · have t1 : ((is : Int) + (em : Int) == 0) = false := by simp; omega
                      clear hm hz
                      as_aux_lemma =>
                        go_wp2_with fail
                        go_roundg g'
                        case measure => go_light; omega
                        case rel => go_light; exact ⟨k + 1, is + 1, em, g', _, rfl, by omega, by omega, by omega, by omega, by omega, by go_num, by go_num, rfl, HL3.out, HE2⟩
              · have hi' : initB c = false := by simpa using hi
                clear hi
                by_cases hemb : 15 ≤ c ∧ c ≤ 18
                · have hcc : c = 15 ∨ c = 16 ∨ c = 17 ∨ c = 18 := by omega
                  obtain ⟨rr, hrr⟩ : ∃ r, embR c = r := ⟨_, rfl⟩
                  have HRR2 := Lib.hid hrr
                  have HI := Lib.hid hemb
                  have HI2 := Lib.hid hi'
                  have b0 : ∀ r, r = rr → nextL lev r = nextL lev rr := fun r e => by rw [e]
                  have HB0 := Lib.hid b0
                  clear hrr cB cP cF hi' hemb b0
                  rcases hcc with rfl | rfl | rfl | rfl
                  all_goals
                    go_upto_region 32 with (first | (go_at_call 32; refine (rInitiator_any _ _).mono ?_; rintro e w' ⟨rfl, rfl⟩))
                    go_cut [16] from 17 to 212 (fun s16 wx => s16 = .int .u8 (nextL lev rr) ∧ RLoop w wq wx K be lev ov s)
                    case first =>
                      as_aux_lemma =>
                        go_wp2_with (first | (go_at_call 50; refine (next_any lev ov _ _ hl0 hl1).mono ?_; rintro e w3 ⟨rfl, hs3⟩))
                        go_meet
                        exact ⟨congrArg (Value.int IntKind.u8) (HB0.out _ (by rw [← HRR2.out]; decide)), HL.out.next (HL.out.rel.later hs3) ((Kep.refl K wr).since hs3) hbl hbc⟩
                    case rest =>
                      obtain ⟨rfl, hL3⟩ := hcut
                      have HL3 := Lib.hid hL3
                      clear hL3 hrd x0 x1 e0 e1
                      have hx0 : lev < nextL lev rr ∧ nextL lev rr ≤ lev + 2 := ⟨nextL_bd.1, nextL_bd.2.1⟩
                      generalize hx : nextL lev rr = x at *
                      have HX : Hid (∀ c, embR c = rr → nextL lev (embR c) = x) := by show ∀ c, _; intro c hc; rw [hc]; exact hx
                      obtain ⟨hx1, hx2⟩ := hx0
                      clear hx
                      by_cases hm : is + em = 0 ∧ x ≤ 125
                      · have hC := fun ov' => HIH.out g' (by omega) w wc s (k + 1) x ov' 1 held HL3.out.rel (by omega) (by omega) (by omega) (by omega)
                        have hbd := fun ov' => rwi_bd K.l K.base g' (k + 1) x ov' 1 held 0 0 s (by rw [HN.out]; omega)
                        obtain ⟨o, ho⟩ : ∃ o, embO _ = o := ⟨_, congrArg embO HC.out⟩
                        have hC := hC o
                        have hbd := hbd o
                        obtain ⟨r, hr⟩ : ∃ r, rwi K.l K.base g' (k + 1) x o 1 held 0 0 s = r := ⟨_, rfl⟩
                        have hE := HE.out
                        rw [HC.out] at ho
                        rw [rwi_E (r := r) hkl HC.out HI.out (by rw [HX.out _ HRR2.out, ho]; exact hr) (by rw [HX.out _ HRR2.out]; exact hm), HN.out] at hE
                        rw [hr] at hC hbd
                        rw [HN.out] at hbd
                        obtain ⟨j, s4⟩ := r
                        obtain ⟨hb1, hb2⟩ := hbd
                        simp only at hb1 hb2 hE
                        have t1 : ((is : Int) + (em : Int) == 0) = true := by simp; omega
                        have t2 : decide (x ≤ 125) = true := by simp; omega
                        have HC4 := Lib.hid hC
                        have HO := Lib.hid ho
                        clear hr HE hC hm ho
                        by_cases hj : j < n
                        · have hjz : (j : Int) < (n : Int) := by omega
                          have hjk : j < K.l.length := by rw [HN.out]; exact hj
                          obtain ⟨cj, hcj⟩ : ∃ cj, K.l.getD j 0 = cj := ⟨_, rfl⟩
                          rw [hcj] at hE
                          by_cases hP : cj = 19
                          · rw [if_pos ⟨hj, hP⟩] at hE
                            subst hP
                            have HCJ := Lib.hid hcj
                            have HE2 := Lib.hid hE
                            clear hcj hE
                            as_aux_lemma =>
                              go_wp2_with (first | (go_at_call 51; refine (override_any _ _).mono ?_; rintro e w' ⟨rfl, rfl⟩; rw [HO.out]) | (go_at_call 39; refine HC4.out.mono ?_; rintro e w4 ⟨rfl, h4, k4⟩; have HL4 := Lib.hid (HL3.out.next h4 k4 hbl hbc); clear h4 k4; have x4 := HL4.out.rel.sees.w0; have r4 := (HL4.out.rel.sees.rd j hjk).1; rw [(HL4.out.rel.sees.rd j hjk).2, HN.out] at x4; rw [HCJ.out] at r4))
                              go_roundg g'
                              case measure => go_light; omega
                              case rel => go_light; exact ⟨j + 1, is, em, g', _, rfl, by omega, by omega, by omega, by omega, by omega, by go_num, rfl, rfl, HL4.out, HE2⟩
                          · rw [if_neg (fun h => hP h.2)] at hE
                            have hPz : (cj == 19) = false := by simp [hP]
                            have HCJ := Lib.hid hcj
                            have HE2 := Lib.hid hE
                            clear hcj hE hP
                            as_aux_lemma =>
                              go_wp2_with (first | (go_at_call 51; refine (override_any _ _).mono ?_; rintro e w' ⟨rfl, rfl⟩; rw [HO.out]) | (go_at_call 39; refine HC4.out.mono ?_; rintro e w4 ⟨rfl, h4, k4⟩; have HL4 := Lib.hid (HL3.out.next h4 k4 hbl hbc); clear h4 k4; have x4 := HL4.out.rel.sees.w0; have r4 := (HL4.out.rel.sees.rd j hjk).1; rw [(HL4.out.rel.sees.rd j hjk).2, HN.out] at x4; rw [HCJ.out] at r4))
                              go_roundg g'
                              case measure => go_light; omega
                              case rel => go_light; exact ⟨j, is, em, g', _, rfl, by omega, by omega, by omega, by omega, by omega, rfl, rfl, rfl, HL4.out, HE2⟩
                        · have hjz : ¬ ((j : Int) < (n : Int)) := by omega
                          rw [if_neg (fun h => hj h.1)] at hE
                          have HE2 := Lib.hid hE
                          clear hE
                          as_aux_lemma =>
                            go_wp2_with (first | (go_at_call 51; refine (override_any _ _).mono ?_; rintro e w' ⟨rfl, rfl⟩; rw [HO.out]) | (go_at_call 39; refine HC4.out.mono ?_; rintro e w4 ⟨rfl, h4, k4⟩; have HL4 := Lib.hid (HL3.out.next h4 k4 hbl hbc); clear h4 k4; have x4 := HL4.out.rel.sees.w0; rw [HN.out] at x4))
                            go_roundg g'
                            case measure => go_light; omega
                            case rel => go_light; exact ⟨j, is, em, g', _, rfl, by omega, by omega, by omega, by omega, by omega, rfl, rfl, rfl, HL4.out, HE2⟩
                      · have hE := HE.out
                        rw [rwi_E2 hkl HC.out HI.out (by rw [HX.out _ HRR2.out]; exact hm)] at hE
                        have HE2 := Lib.hid hE
                        clear HE hE
                        by_cases hi0 : is = 0
                        · have t3 : ((is : Int) == 0) = true := by simp [hi0]
                          have HIS := Lib.hid hi0
                          by_cases hz : em = 0
                          · have t1 : ((is : Int) + (em : Int) == 0) = true := by simp; omega
                            have t2 : decide (x ≤ 125) = false := by simp; omega
                            clear hm hz hi0
                            as_aux_lemma =>
                              go_wp2_with fail
                              go_roundg g'
                              case measure => go_light; omega
                              case rel => go_light; exact ⟨k + 1, is, (if is = 0 then em + 1 else em), g', _, rfl, by omega, by omega, (by split <;> omega), by omega, by omega, by go_num, rfl, (by rw [if_pos HIS.out]; go_num), HL3.out, HE2⟩
                          · have t1 : ((is : Int) + (em : Int) == 0) = false := by simp; omega
                            clear hm hz hi0
                            as_aux_lemma =>
                              go_wp2_with fail
                              go_roundg g'
                              case measure => go_light; omega
                              case rel => go_light; exact ⟨k + 1, is, (if is = 0 then em + 1 else em), g', _, rfl, by omega, by omega, (by split <;> omega), by omega, by omega, by go_num, rfl, (by rw [if_pos HIS.out]; go_num), HL3.out, HE2⟩
                        · have t1 : ((is : Int) + (em : Int) == 0) = false := by simp; omega
                          have t3 : ((is : Int) == 0) = false := by simp [hi0]
                          have HIS := Lib.hid hi0
                          clear hm hi0
                          as_aux_lemma =>
                            go_wp2_with fail
                            go_roundg g'
                            case measure => go_light; omega
                            case rel => go_light; exact ⟨k + 1, is, (if is = 0 then em + 1 else em), g', _, rfl, by omega, by omega, (by split <;> omega), by omega, by omega, by go_num, rfl, (by rw [if_neg HIS.out]), HL3.out, HE2⟩
                · have b1 : (c == 11) = false := by simp [cB]
                  have b2 : (c == 23) = false := by simp [cP]
                  have b3 : (c == 19) = false := by simp [cF]
                  have b4 : (c == 15) = false := by simp; omega
                  have b5 : (c == 16) = false := by simp; omega
                  have b6 : (c == 17) = false := by simp; omega
                  have b7 : (c == 18) = false := by simp; omega
                  by_cases cN : c = 10
                  · have hE := HE.out
                    rw [rwi_N hkl (by rw [HC.out]; exact cN)] at hE
                    have HE2 := Lib.hid hE
                    have b8 : (c != 10) = false := by simp [cN]
                    clear HE hE hemb cB cP cF cN
                    as_aux_lemma =>
                      go_wp2_with (go_at_call 32; refine (rInitiator_any _ _).mono ?_; rintro e w' ⟨rfl, rfl⟩)
                      go_roundg g'
                      case measure => go_light; omega
                      case rel => go_light; exact ⟨k + 1, is, em, g', s, rfl, by omega, by omega, by omega, by omega, by omega, by go_num, rfl, rfl, HL.out, HE2⟩
                  · have hE := HE.out
                    rw [rwi_O hkl HC.out cB cP (by omega) hi' cN] at hE
                    have HE2 := Lib.hid hE
                    have b8 : (c != 10) = true := by simp [cN]
                    clear HE hE hemb cB cP cF cN
                    as_aux_lemma =>
                      go_wp2_with (first | (go_at_call 32; refine (rInitiator_any _ _).mono ?_; rintro e w' ⟨rfl, rfl⟩) | (go_at_call 49; refine (rstands_any HL.out.rel k hkl lev ov c HC.out).mono ?_; rintro e w2 ⟨rfl, h2, k2⟩))
                      go_roundg g'
                      case measure => go_light; omega
                      case rel => go_light; exact ⟨k + 1, is, em, g', _, rfl, by omega, by omega, by omega, by omega, by omega, by go_num, rfl, rfl, HL.out.next h2 k2 hbl hbc, HE2⟩
    · have hkz : ¬ ((k : Int) < (n : Int)) := by omega
      have x0 := hL.rel.sees.w0
      rw [HN.out] at x0
      have hE := HE.out
      rw [rwi_out (by rw [HN.out]; exact hlt)] at hE
      have HD : Hid (R.1 = k ∧ R.2 = s) := by rw [← hE]; exact ⟨rfl, rfl⟩
      have HL := Lib.hid hL
      clear hE HE hL
      go_wp2_with fail
      go_ret
      exact ⟨ret_int (by rw [HD.out.1]), by rw [HD.out.2]; exact HL.out.rel, HL.out.kep⟩
end Go.Proofs.Ytkfjhannbnijkaa
