/- The law EmbedParagraphs, walked. -/
import Derived.Test.YtkfjhannbnijkaaLwA
import Derived.Test.YtkfjhannbnijkaaPlG
import Derived.Test.YtkfjhannbnijkaaL0
namespace Go.Proofs.Ytkfjhannbnijkaa
open Go.RowKit

/-- A row that is known is owned. -/
theorem own_row {w : World} {b n B : Nat} {t : TypeId} {k : IntKind} {f : Nat → Int} (h : w.rowIs b t n (fun i => .int k (f i))) (hB : B ≤ b) (hn : n ≤ maxLen) : w.ownsRow B t 1 (.slice (some ⟨b, 0, none⟩) n n) n (((List.range n).map f).map (Value.int k)) := by
  obtain ⟨c, h1, h2, h3⟩ := h
  refine ⟨by simp, Or.inr ⟨b, n, c, rfl, hB, h1, Nat.le_refl _, hn, by omega, ?_⟩⟩
  apply List.ext_getElem
  · simp; omega
  · intro i hi hi'
    simp at hi hi'
    have := h3 i (by omega)
    rw [Array.getElem?_eq_getElem (by omega)] at this
    simp only [List.getElem_take, List.getElem_map, List.getElem_range]
    simpa using this

theorem rowIs_grown {w w' : World} {row : Option Nat} (hg : w.grownBy w' row) {b n : Nat} {t : TypeId} {f : Nat → Value} (h : w.rowIs b t n f) (hne : some b ≠ row) : w'.rowIs b t n f := h.of_block (hg.block b h.lt hne)

/-- append(v, x...), where x is a row of numbers that is read; where the row then lies. -/
theorem wpList_append_read2 {P : Program} {w : World} {ops : Array Oper} {rest : List Oper} {o : Oper} {a : Act} {Q : Exit → Act → World → Prop} (hgd : o.guard = none) (s x : Operand) (t : TypeId)
    (ho : o.op = .call { callee := .builtin .append, args := #[s, x], argTypes := #[t, t] })
    (base : Nat) (e : TypeId) (i : TypeInfo) (z : Value) (bytes : Nat) (ht : P.underlying t = some (.slice e)) (hi : P.info? e = some i) (hz : i.zero = some z)
    (hsize : i.size = 1) (hby : i.bytes = bytes) (hzs : z.cells.size = 1)
    (v : Value) (n : Nat) (xs : List Value) (hs : a.eval s = v) (hown : w.ownsRow base e 1 v n xs)
    {k : IntKind} {ao : Option Addr} {b off c m : Nat} {l : List Int} (hR : Reads w k ao b off l) (hm : l.length = m) (hc : ao = none → c = 0) (hx : a.eval x = .slice ao m c)
    (h63 : n + m ≤ maxLen) (hbytes : (n + m) * bytes ≤ 140737488355328) (hbase : base ≤ w.heap.size)
    (h : ∀ v' w', w'.ownsRow base e 1 v' (n + m) (xs ++ l.map (Value.int k)) → w.grownBy w' v.ownBlock → (v'.ownBlock = v.ownBlock ∨ v'.ownBlock = some w.heap.size) → wpList P ops Q rest (a.put o.dst v') w') :
    wpList P ops Q (o :: rest) a w := by
  cases ao with
  | none =>
    have hl0 : l = [] := by
      cases l with
      | nil => rfl
      | cons y l => have := hR.spot (by simp); cases this
    subst hl0
    have hm0 : m = 0 := by simpa using hm.symm
    have hc0 := hc rfl
    subst hm0 hc0
    refine wpList_append_own_none hgd s x t ho base e i 1 ht hi v n xs hs hown hx ?_
    exact h v w (by simpa using hown) ⟨rfl, rfl, rfl, Nat.le_refl _, fun _ _ _ => rfl⟩ (Or.inl rfl)
  | some ad =>
    refine wpList_append_own_at w hgd s x t ho base e i z 1 bytes ht hi hz hsize hby hzs (by omega) v n xs hs hown ad m c (l.map (Value.int k)) hx (by simpa using hm) ?_ ?_ h63 hbytes hbase ?_
    · intro j u hj
      have hjl : j < l.length := by
        rcases Nat.lt_or_ge j l.length with h | h
        · exact h
        · rw [List.getElem?_eq_none (by simpa using h)] at hj; cases hj
      have hsp := hR.spot (by omega)
      injection hsp with hsp
      subst hsp
      have hcell := hR.cell j hjl
      rw [List.getElem?_map, List.getElem?_eq_getElem hjl] at hj
      simp only [Option.map_some, Option.some.injEq] at hj
      rw [Go.WideShapes.add_plain, hcell, ← hj, List.getD_eq_getElem?_getD, List.getElem?_eq_getElem hjl]
      rfl
    · intro u hu
      obtain ⟨y, _, rfl⟩ := List.mem_map.1 hu
      rfl
    · intro v' w' h1 h2 _ h4
      exact h v' w' h1 h2 h4

set_option maxRecDepth 100000 in
set_option maxHeartbeats 1000000 in
theorem law12_long (n m ca cb : Nat) (a1 a2 : Option Addr) (base : Int) (w : World) (h : 1000 < n ∨ 1000 < m) (hn : n ≤ maxLen) (hm : m ≤ maxLen) :
    Calls Try.prog 12 #[.slice a1 n ca, .slice a2 m cb, .int .u8 base] w (Since0 w (.bool true)) := by
  unfold maxLen at hn hm
  by_cases h1 : 1000 < n
  · have d1 : decide ((1000 : Int) < (n : Int)) = true := by simp; omega
    go_enter Try.func12, Try.ntmps12
    go_wp2_with (go_at_call 22; refine (works_any _).mono ?_; rintro e w' ⟨rfl, hs⟩)
    go_ret
    exact ⟨rfl, hs⟩
  · have d1 : decide ((1000 : Int) < (n : Int)) = false := by simp; omega
    have d2 : decide ((1000 : Int) < (m : Int)) = true := by simp; omega
    go_enter Try.func12, Try.ntmps12
    go_wp2_with (go_at_call 22; refine (works_any _).mono ?_; rintro e w' ⟨rfl, hs⟩)
    go_ret
    exact ⟨rfl, hs⟩

theorem plev_bd12 (l : List Int) {base : Int} (h : 0 ≤ base ∧ base ≤ 2) : 0 ≤ plev l base ∧ plev l base ≤ 1 := by
  unfold plev pbase
  by_cases e : base = 2
  · rw [if_pos e]; split <;> omega
  · rw [if_neg e]; omega

theorem valid_par {a b : List Int} (h : Valid (a ++ 11 :: b)) : Valid a ∧ Valid b := by
  refine ⟨fun i hi => ?_, fun i hi => ?_⟩
  · have := h i (by simp; omega)
    rw [List.getD_eq_getElem?_getD, List.getElem?_append_left hi] at this
    rw [List.getD_eq_getElem?_getD]
    exact this
  · have := h (a.length + 1 + i) (by simp; omega)
    rw [List.getD_eq_getElem?_getD, List.getElem?_append_right (by omega), show a.length + 1 + i - a.length = i + 1 by omega, List.getElem?_cons_succ] at this
    rw [List.getD_eq_getElem?_getD]
    exact this

set_option maxRecDepth 100000 in
set_option maxHeartbeats 4000000 in
theorem law12_any (A C : List Int) (n m : Nat) (hn : A.length = n) (hm : C.length = m) (hlen : n ≤ 1000 ∧ m ≤ 1000) (ca cb : Nat) (a1 a2 : Option Addr) (b1 o1 b2 o2 : Nat) (w : World) (r1 : Reads w .u8 a1 b1 o1 A) (r2 : Reads w .u8 a2 b2 o2 C)
    (h1 : a1 = none → ca = 0) (h2 : a2 = none → cb = 0) (base : Int) (hb : 0 ≤ base) :
    Calls Try.prog 12 #[.slice a1 n ca, .slice a2 m cb, .int .u8 base] w (Since0 w (.bool true)) := by
  obtain ⟨hln, hlm⟩ := hlen
  have d1 : decide ((1000 : Int) < (n : Int)) = false := by simp; omega
  have d2 : decide ((1000 : Int) < (m : Int)) = false := by simp; omega
  obtain ⟨i34, hi34, hz34, hz34b, hz34c⟩ := info_parts Try.info34
  obtain ⟨i5, hi5, hz5', hz5b, hz5c⟩ := info_parts Try.info5
  have H1 := Lib.hid h1
  have H2 := Lib.hid h2
  have HN := Lib.hid hn
  have HM := Lib.hid hm
  clear h1 h2
  go_enter Try.func12, Try.ntmps12
  go_upto_region 5 with (at_builtin; refine wpList_append_read2 rfl _ _ _ rfl w.heap.size 34 i34 _ 1 Try.underlying22 hi34 hz34 hz34b hz34c rfl _ 0 [] rfl (World.ownsRow_nil _ _ _ _) r1 HN.out H1.out rfl (by unfold maxLen; omega) (by omega) (Nat.le_refl _) ?_; intro vc w1 hc1 hg1 _)
  simp only [List.nil_append, Nat.zero_add] at hc1
  have hs1 : w.Since w.heap.size w1 := grown_since hg1 (fun r e => by cases e)
  clear hg1
  obtain ⟨va, vcp, rfl⟩ := own_form hc1
  have hsz1 := hs1.size
  go_upto_region 6 with (at_builtin; refine wpList_append_lies _ rfl _ _ _ rfl w.heap.size 34 i34 _ 1 1 Try.underlying22 hi34 hz34 hz34b hz34c rfl (by omega) (.slice va n vcp) _ _ rfl (hc1.alloc _) ⟨w1.heap.size, 0, none⟩ 1 1 [.int .u8 11] rfl rfl (World.news_of_block (cs := #[.int .u8 11]) (t := 34) (fr := (0, 0)) (heap_alloc_new w1 _)) (by simp [Value.oneCell']) (by omega) (by unfold maxLen; omega) (by omega) (by simp; omega) (w1.heap.size + 1) (by simp) ?_; intro gg capg w2 hc2 hg2 hat2 hlt2)
  have hs2 : w.Since w.heap.size w2 := (hs1.alloc hsz1 _).grown hg2 (by simp; omega) (fun r e => (hc1.lt r e).1)
  have hsz2 := hs2.size
  have r2' := Lib.hid (r2.since hs2)
  clear hc1 hg2 hat2 hlt2 hs1
  go_upto_region 7 with (at_builtin; refine wpList_append_read2 rfl _ _ _ rfl w.heap.size 34 i34 _ 1 Try.underlying22 hi34 hz34 hz34b hz34c rfl _ (n + 1) _ rfl hc2 r2'.out HM.out H2.out rfl (by unfold maxLen; omega) (by omega) hsz2 ?_; intro vl w3 hc3 hg3 _)
  have hs3 : w.Since w.heap.size w3 := hs2.grown hg3 hsz2 (fun r e => (hc2.lt r e).1)
  have hL : (A.map (Value.int .u8) ++ [Value.int .u8 11]) ++ C.map (Value.int .u8) = (A ++ 11 :: C).map (Value.int .u8) := by simp
  rw [hL] at hc3
  have hlen : (A ++ 11 :: C).length = n + 1 + m := by rw [List.length_append, List.length_cons, HN.out, HM.out]; omega
  obtain ⟨al, cl, bl, rfl, rL, -⟩ := own_readsK hc3 hlen
  have RL := Lib.hid rL
  have HS3 := Lib.hid hs3
  have HLEN := Lib.hid hlen
  have hsz3 := hs3.size
  have R1 := Lib.hid (r1.since hs3)
  have R2 := Lib.hid (r2.since hs3)
  clear hc2 hs2 hsz2 r2' hg3 hc3 hL rL hs3 hlen r1 r2 hsz1
  by_cases hv : Valid (A ++ 11 :: C) ∧ base ≤ 2
  · obtain ⟨hv, hb2⟩ := hv
    obtain ⟨hvA, hvC⟩ := valid_par hv
    obtain ⟨p0, p1⟩ := plev_bd12 (A ++ 11 :: C) ⟨hb, hb2⟩
    have HE := Lib.hid (levels_ok (A ++ 11 :: C) base (n + 1 + m) cl HLEN.out al bl 0 w3 RL.out (by omega) hv ⟨hb, hb2⟩)
    obtain ⟨q1, q2, q3⟩ := par_law A C (plev (A ++ 11 :: C) base)
    rw [HN.out] at q1 q2 q3
    rw [HM.out] at q3
    have hX := range_par _ _ _ _ n m (fun j hj => (q1 j hj).1) q2.1 (fun j hj => (q3 j hj).1)
    have hY := range_par _ _ _ _ n m (fun j hj => (q1 j hj).2) q2.2 (fun j hj => (q3 j hj).2)
    rw [← (range_LV (A ++ 11 :: C) _ (n + 1 + m)).1, ← (range_LV A _ n).1, ← (range_LV C _ m).1] at hX
    rw [← (range_LV (A ++ 11 :: C) _ (n + 1 + m)).2, ← (range_LV A _ n).2, ← (range_LV C _ m).2] at hY
    have hpp : ∀ l, plev l (plev (A ++ 11 :: C) base) = plev (A ++ 11 :: C) base := fun l => by rw [plev, if_neg (by omega)]
    have hEA := fun (w : World) (h : Reads w .u8 a1 b1 o1 A) => levels_ok A (plev (A ++ 11 :: C) base) n ca HN.out a1 b1 o1 w h (by omega) hvA ⟨p0, by omega⟩
    have hEC := fun (w : World) (h : Reads w .u8 a2 b2 o2 C) => levels_ok C (plev (A ++ 11 :: C) base) m cb HM.out a2 b2 o2 w h (by omega) hvC ⟨p0, by omega⟩
    rw [hpp A] at hEA
    rw [hpp C] at hEC
    generalize plev (A ++ 11 :: C) base = p at *
    generalize (lrun (A ++ 11 :: C) (mat (A ++ 11 :: C)) p (n + 1 + m)).lv = lv1 at *
    generalize (lrun (A ++ 11 :: C) (mat (A ++ 11 :: C)) p (n + 1 + m)).cl = cl1 at *
    generalize (lrun A (mat A) p n).lv = lv2 at *
    generalize (lrun A (mat A) p n).cl = cl2 at *
    generalize (lrun C (mat C) p m).lv = lv3 at *
    generalize (lrun C (mat C) p m).cl = cl3 at *
    have HX := Lib.hid hX
    have HY := Lib.hid hY
    have HEA := Lib.hid hEA
    have HEC := Lib.hid hEC
    have hppz : (p == p) = true := by simp
    clear q1 q2 q3 hX hY hpp hEA hEC hv hvA hvC
    go_upto_region 8 with (go_at_call 26; refine HE.out.mono ?_; rintro e w4 ⟨x1, y1, rfl, -, -, -, hx1, hy1, hs4⟩)
    have RA := Lib.hid (R1.out.since hs4)
    have RC := Lib.hid (R2.out.since hs4)
    have HS4 := Lib.hid (Since.then HS3.out hs4 hsz3)
    have hz4 := hs4.size
    have lx1 := hx1.lt
    have ly1 := hy1.lt
    have X1 := Lib.hid hx1
    have Y1 := Lib.hid hy1
    clear hs4 hx1 hy1 HE R1 R2 HS3
    go_upto_region 11 with (go_at_call 26; refine (HEA.out w4 RA.out).mono ?_; rintro e w5 ⟨x2, y2, rfl, gx2, gy2, ne2, hx2, hy2, hs5⟩)
    have RC5 := Lib.hid (RC.out.since hs5)
    have HS5 := Lib.hid (Since.then HS4.out hs5 (by omega))
    have hz5 := hs5.size
    have X15 := Lib.hid (X1.out.of_block (hs5.block _ lx1))
    have Y15 := Lib.hid (Y1.out.of_block (hs5.block _ ly1))
    have lx2 := hx2.lt
    have ly2 := hy2.lt
    have X2 := Lib.hid hx2
    have Y2 := Lib.hid hy2
    clear hs5 hx2 hy2 HEA RA RC HS4 X1 Y1
    go_upto_region 12 with (go_at_call 26; refine (HEC.out w5 RC5.out).mono ?_; rintro e w6 ⟨x3, y3, rfl, gx3, gy3, ne3, hx3, hy3, hs6⟩)
    have HS6 := Lib.hid (Since.then HS5.out hs6 (by omega))
    have hz6 := hs6.size
    have X16 := Lib.hid (X15.out.of_block (hs6.block _ (by omega)))
    have Y16 := Lib.hid (Y15.out.of_block (hs6.block _ (by omega)))
    have X26 := Lib.hid (X2.out.of_block (hs6.block _ lx2))
    have Y26 := Lib.hid (Y2.out.of_block (hs6.block _ ly2))
    have lx3 := hx3.lt
    have ly3 := hy3.lt
    have X3 := Lib.hid hx3
    have Y3 := Lib.hid hy3
    clear hs6 hx3 hy3 HEC RC5 HS5 X15 Y15 X2 Y2
    have hu0 := own_row X26.out (B := w.heap.size) (by omega) (by unfold maxLen; omega)
    have hv0 := own_row Y26.out (B := w.heap.size) (by omega) (by unfold maxLen; omega)
    have hzz := HS6.out.size
    clear X26 Y26
    go_upto_region 13 with (at_builtin; refine wpList_append_lies _ rfl _ _ _ rfl w.heap.size 5 i5 _ 1 1 Try.underlying23 hi5 hz5' hz5b hz5c rfl (by omega) (.slice (some ⟨x2, 0, none⟩) n n) n _ rfl (hu0.alloc _) ⟨w6.heap.size, 0, none⟩ 1 1 [.int .u8 p] rfl rfl (World.news_of_block (cs := #[.int .u8 p]) (t := 5) (fr := (0, 0)) (heap_alloc_new w6 _)) (by simp [Value.oneCell']) (by omega) (by unfold maxLen; omega) (by omega) (by simp; omega) (w6.heap.size + 1) (by simp) ?_; intro g7 cap7 w7 hu1 hg7 hat7 hlt7)
    have hz7 := hg7.size
    simp only [World.size_alloc] at hz7
    have hat7' : g7 = x2 ∨ g7 = w6.heap.size + 1 := by
      rcases hat7 with h | h
      · left; simp only [Value.ownBlock, Option.some.injEq] at h; exact h.symm
      · exact Or.inr h
    have hv1 := (hv0.alloc (.cells #[.int .u8 p] 5)).kept hg7 (Or.inr (by simp only [Value.ownBlock, ne_eq, Option.some.injEq]; exact fun e => ne2 e.symm))
    have X17 := Lib.hid (rowIs_grown hg7 (X16.out.alloc _) (by simp only [Value.ownBlock, ne_eq, Option.some.injEq]; omega))
    have Y17 := Lib.hid (rowIs_grown hg7 (Y16.out.alloc _) (by simp only [Value.ownBlock, ne_eq, Option.some.injEq]; omega))
    have X37 := Lib.hid (rowIs_grown hg7 (X3.out.alloc _) (by simp only [Value.ownBlock, ne_eq, Option.some.injEq]; omega))
    have Y37 := Lib.hid (rowIs_grown hg7 (Y3.out.alloc _) (by simp only [Value.ownBlock, ne_eq, Option.some.injEq]; omega))
    have HS7 := Lib.hid ((HS6.out.alloc hzz (.cells #[.int .u8 p] 5)).grown hg7 (by simp; omega) (fun r e => by simp only [Value.ownBlock, Option.some.injEq] at e; omega))
    clear hu0 hv0 hg7 hat7 X16 Y16 X3 Y3 HS6
    go_upto_region 14 with (at_builtin; refine wpList_append_lies _ rfl _ _ _ rfl w.heap.size 34 i34 _ 1 1 Try.underlying22 hi34 hz34 hz34b hz34c rfl (by omega) (.slice (some ⟨y2, 0, none⟩) n n) n _ rfl (hv1.alloc _) ⟨w7.heap.size, 0, none⟩ 1 1 [.int .u8 11] rfl rfl (World.news_of_block (cs := #[.int .u8 11]) (t := 34) (fr := (0, 0)) (heap_alloc_new w7 _)) (by simp [Value.oneCell']) (by omega) (by unfold maxLen; omega) (by omega) (by simp; omega) (w7.heap.size + 1) (by simp) ?_; intro g8 cap8 w8 hv2 hg8 hat8 hlt8)
    have hz8 := hg8.size
    simp only [World.size_alloc] at hz8
    have hat8' : g8 = y2 ∨ g8 = w7.heap.size + 1 := by
      rcases hat8 with h | h
      · left; simp only [Value.ownBlock, Option.some.injEq] at h; exact h.symm
      · exact Or.inr h
    have hu2 := (hu1.alloc (.cells #[.int .u8 11] 34)).kept hg8 (Or.inr (by simp only [Value.ownBlock, ne_eq, Option.some.injEq]; omega))
    have X18 := Lib.hid (rowIs_grown hg8 (X17.out.alloc _) (by simp only [Value.ownBlock, ne_eq, Option.some.injEq]; omega))
    have Y18 := Lib.hid (rowIs_grown hg8 (Y17.out.alloc _) (by simp only [Value.ownBlock, ne_eq, Option.some.injEq]; omega))
    have X38 := Lib.hid (rowIs_grown hg8 (X37.out.alloc _) (by simp only [Value.ownBlock, ne_eq, Option.some.injEq]; omega))
    have Y38 := Lib.hid (rowIs_grown hg8 (Y37.out.alloc _) (by simp only [Value.ownBlock, ne_eq, Option.some.injEq]; omega))
    have hzz7 := HS7.out.size
    have HS8 := Lib.hid ((HS7.out.alloc hzz7 (.cells #[.int .u8 11] 34)).grown hg8 (by simp; omega) (fun r e => by simp only [Value.ownBlock, Option.some.injEq] at e; omega))
    clear hu1 hv1 hg8 hat8 X17 Y17 X37 Y37 HS7
    go_upto_region 15 with (at_builtin; refine wpList_append_read2 rfl _ _ _ rfl w.heap.size 5 i5 _ 1 Try.underlying23 hi5 hz5' hz5b hz5c rfl (.slice (some ⟨g7, 0, none⟩) (n + 1) cap7) (n + 1) _ rfl hu2 (reads_row X38.out) (by simp) (fun e => by cases e) rfl (by unfold maxLen; omega) (by omega) (by omega) ?_; intro vu w9 hu3 hg9 hat9)
    have hz9 := hg9.size
    obtain ⟨au, cu, rfl⟩ := own_form hu3
    have hv3 := hv2.kept hg9 (Or.inr (by simp only [Value.ownBlock, ne_eq, Option.some.injEq]; omega))
    have X19 := Lib.hid (rowIs_grown hg9 X18.out (by simp only [Value.ownBlock, ne_eq, Option.some.injEq]; omega))
    have Y19 := Lib.hid (rowIs_grown hg9 Y18.out (by simp only [Value.ownBlock, ne_eq, Option.some.injEq]; omega))
    have Y39 := Lib.hid (rowIs_grown hg9 Y38.out (by simp only [Value.ownBlock, ne_eq, Option.some.injEq]; omega))
    have hzz8 := HS8.out.size
    have HS9 := Lib.hid (HS8.out.grown hg9 hzz8 (fun r e => by simp only [Value.ownBlock, Option.some.injEq] at e; omega))
    clear hu2 hv2 hg9 X18 Y18 X38 Y38 HS8
    go_upto_region 16 with (at_builtin; refine wpList_append_read2 rfl _ _ _ rfl w.heap.size 34 i34 _ 1 Try.underlying22 hi34 hz34 hz34b hz34c rfl (.slice (some ⟨g8, 0, none⟩) (n + 1) cap8) (n + 1) _ rfl hv3 (reads_row Y39.out) (by simp) (fun e => by cases e) rfl (by unfold maxLen; omega) (by omega) (by omega) ?_; intro vv w10 hv4 hg10 hat10)
    have hz10 := hg10.size
    have hu4 := hu3.kept hg10 (Or.inr (by
      rcases hat9 with h | h
      · rw [h]; simp only [Value.ownBlock, ne_eq, Option.some.injEq]; omega
      · rw [h]; simp only [Value.ownBlock, ne_eq, Option.some.injEq]; omega))
    have X1A := Lib.hid (rowIs_grown hg10 X19.out (by simp only [Value.ownBlock, ne_eq, Option.some.injEq]; omega))
    have Y1A := Lib.hid (rowIs_grown hg10 Y19.out (by simp only [Value.ownBlock, ne_eq, Option.some.injEq]; omega))
    have hzz9 := HS9.out.size
    have HSA := Lib.hid (HS9.out.grown hg10 hzz9 (fun r e => by simp only [Value.ownBlock, Option.some.injEq] at e; omega))
    have eu : ((List.range n).map lv2).map (Value.int .u8) ++ [Value.int .u8 p] ++ ((List.range m).map lv3).map (Value.int .u8) = ((List.range (n + 1 + m)).map lv1).map (Value.int .u8) := by rw [HX.out]; simp
    have ev : ((List.range n).map cl2).map (Value.int .u8) ++ [Value.int .u8 11] ++ ((List.range m).map cl3).map (Value.int .u8) = ((List.range (n + 1 + m)).map cl1).map (Value.int .u8) := by rw [HY.out]; simp
    rw [eu] at hu4
    rw [ev] at hv4
    obtain ⟨au', cu', bu, eu1, ru, -⟩ := own_readsK hu4 (by simp)
    injection eu1 with eu1 eu2 eu3
    subst eu1
    obtain ⟨av, cv, bv, rfl, rv, -⟩ := own_readsK hv4 (by simp)
    have RU := Lib.hid ru
    have RV := Lib.hid rv
    clear hu3 hv3 hg10 hat9 hat10 X19 Y19 Y39 HS9 eu ev hu4 hv4 ru rv eu2 eu3
    go_wp2_with (first
      | (go_at_call 27; refine (same_any _ _ (n + 1 + m) (n + 1 + m) _ _ _ _ (by simp) (by simp) (by omega) _ _ _ _ _ _ _ _ _ _ _ _ _ (reads_row X1A.out) (reads_row Y1A.out) RU.out RV.out).mono ?_; rintro e w11 ⟨rfl, q, hq⟩; have HQ := Lib.hid hq; clear hq)
      | (go_at_call 22; refine (works_any _).mono ?_; rintro e w' ⟨rfl, hs9⟩))
    go_ret
    refine ⟨rfl, ?_⟩
    have hs11 : w.Since w.heap.size w11 := by rw [HQ.out]; exact sinceN HSA.out q
    exact Since.then hs11 hs9 hs11.size
  · have hv' : ¬ Valid (A ++ 11 :: C) ∨ 2 < base := by
      by_cases h1 : Valid (A ++ 11 :: C)
      · exact Or.inr (by have h2 : ¬ base ≤ 2 := fun h2 => hv ⟨h1, h2⟩; omega)
      · exact Or.inl h1
    have HE := Lib.hid (levels_arg (A ++ 11 :: C) base (n + 1 + m) cl HLEN.out al bl 0 w3 RL.out (by omega) hv')
    clear hv hv'
    go_wp2_with (first | (go_at_call 26; refine HE.out.mono ?_; rintro e w4 ⟨rfl, rfl⟩) | (go_at_call 22; refine (works_any _).mono ?_; rintro e w' ⟨rfl, hs9⟩))
    go_ret
    exact ⟨rfl, Since.then HS3.out hs9 hsz3⟩
end Go.Proofs.Ytkfjhannbnijkaa
