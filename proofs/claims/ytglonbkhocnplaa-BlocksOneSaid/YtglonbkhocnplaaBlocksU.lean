/- The walk of BlocksOne. -/
import Derived.Test.YtglonbkhocnplaaBlocksV
import Derived.StillTailTactics
import Derived.Deep.RegionWith
namespace Go.Proofs.Ytglonbkhocnplaa
open Go.RowKit Spoor

theorem sorted_pair : ∀ {l : List Ce} {p : Option Ce}, sortedFrom p l = true → ∀ i j, i < j → j < l.length → aheadC (l.getD i Ce.zero) (l.getD j Ce.zero) = true
  | [], _, _, i, j, _, h => by simp at h
  | c :: l, p, hs, i, j, hij, hj => by
    simp only [sortedFrom, Bool.and_eq_true] at hs
    match i, j, hij, hj with
    | 0, j + 1, _, hj =>
      have : (c :: l).getD (j + 1) Ce.zero = l.getD j Ce.zero := by simp
      rw [this]
      exact sorted_all hs.2 _ (getD_mem (by simpa using hj))
    | i + 1, j + 1, hij, hj =>
      have h1 : (c :: l).getD (j + 1) Ce.zero = l.getD j Ce.zero := by simp
      have h2 : (c :: l).getD (i + 1) Ce.zero = l.getD i Ce.zero := by simp
      rw [h1, h2]
      exact sorted_pair hs.2 i j (by omega) (by simpa using hj)
def swapC (l : List Ce) (a b : Nat) : List Ce := (l.set a (l.getD b Ce.zero)).set b (l.getD a Ce.zero)
theorem swap_length (l : List Ce) (a b : Nat) : (swapC l a b).length = l.length := by simp [swapC]
theorem swap_same (l : List Ce) (a : Nat) (h : a < l.length) : swapC l a a = l := by
  unfold swapC
  have : l.getD a Ce.zero = l[a] := by simp [List.getD, h]
  rw [this, List.set_getElem_self, List.set_getElem_self]
theorem swap_at1 (l : List Ce) (a b : Nat) (ha : a < l.length) (hb : b < l.length) : (swapC l a b).getD a Ce.zero = l.getD b Ce.zero := by
  unfold swapC
  by_cases e : a = b
  · subst e; simp [List.getD, ha]
  · simp [List.getD, List.getElem?_set, ha, Ne.symm e]
theorem swap_at2 (l : List Ce) (a b : Nat) (hb : b < l.length) : (swapC l a b).getD b Ce.zero = l.getD a Ce.zero := by
  unfold swapC
  simp [List.getD, hb]
theorem swap_mem {l : List Ce} {a b : Nat} (ha : a < l.length) (hb : b < l.length) : ∀ c ∈ swapC l a b, c ∈ l := by
  intro c hc
  unfold swapC at hc
  rcases List.mem_or_eq_of_mem_set hc with hc | rfl
  · rcases List.mem_or_eq_of_mem_set hc with hc | rfl
    · exact hc
    · exact getD_mem hb
  · exact getD_mem ha
theorem swap_sorted {l : List Ce} (hs : sortedB l = true) {a b : Nat} (ha : a < l.length) (hb : b < l.length) : sortedB (swapC l a b) = decide (a = b) := by
  by_cases e : a = b
  · subst e
    rw [swap_same l a ha, hs]
    simp
  · rw [decide_eq_false e]
    cases h : sortedB (swapC l a b) with
    | false => rfl
    | true =>
      exfalso
      rcases Nat.lt_or_gt_of_ne e with hab | hab
      · have h1 := sorted_pair hs a b hab hb
        have h2 := sorted_pair h a b hab (by rw [swap_length]; exact hb)
        rw [swap_at1 l a b ha hb, swap_at2 l a b hb] at h2
        have := ahead_trans h1 h2
        rw [ahead_irrefl] at this
        cases this
      · have h1 := sorted_pair hs b a hab ha
        have h2 := sorted_pair h b a hab (by rw [swap_length]; exact ha)
        rw [swap_at1 l a b ha hb, swap_at2 l a b hb] at h2
        have := ahead_trans h1 h2
        rw [ahead_irrefl] at this
        cases this
/-- a block that holds the cells, and may be written -/
def RowW (g cap : Nat) (l : List Ce) (w : World) : Prop := ∃ cur : Array Value, w.heap[g]? = some (.cells cur 28 (0, 0)) ∧ cur.size = cap * 3 ∧ l.length ≤ cap ∧ ∀ i, i < l.length → ∀ j, j < 3 → cur[i * 3 + j]? = (ceRow (l.getD i Ce.zero))[j]?
theorem RowW.row {g cap : Nat} {l : List Ce} {w : World} (h : RowW g cap l w) : RowAt g 0 l w := by
  obtain ⟨cur, h1, h2, h3, h4⟩ := h
  refine ⟨(Array.getElem?_eq_some_iff.1 h1).1, fun i hi j v hv => ?_⟩
  have hj : j < 3 := by
    have := (List.getElem?_eq_some_iff.1 hv).1
    simpa [ceRow] using this
  rw [cell_of_row w g _ _ _ _ h1, Nat.zero_add, h4 i hi j hj]
  exact hv
theorem RowW.free {g cap : Nat} {l : List Ce} {w : World} (h : RowW g cap l w) (o : Nat) : w.frozen? ⟨g, o, none⟩ = false := by
  obtain ⟨cur, h1, _⟩ := h
  simp [World.frozen?, h1]
theorem RowW.put {g cap : Nat} {l : List Ce} {w : World} (h : RowW g cap l w) {k : Nat} (hk : k < l.length) (c : Ce) :
    RowW g cap (l.set k c) (((w.setCell ⟨g, k * 3, none⟩ (.string ⟨c.k.toArray⟩)).setCell ⟨g, k * 3 + 1, none⟩ (.int .i64 c.q)).setCell ⟨g, k * 3 + 2, none⟩ (.string ⟨c.v.toArray⟩)) := by
  obtain ⟨cur, h1, h2, h3, h4⟩ := h
  have a1 := heap_setCell_same w g (k * 3) _ _ (.string ⟨c.k.toArray⟩) h1
  have a2 := heap_setCell_same _ g (k * 3 + 1) _ _ (.int .i64 c.q) a1
  have a3 := heap_setCell_same _ g (k * 3 + 2) _ _ (.string ⟨c.v.toArray⟩) a2
  refine ⟨_, a3, by simpa using h2, by simpa using h3, fun i hi j hj => ?_⟩
  rw [List.length_set] at hi
  simp only [Array.getElem?_setIfInBounds, Array.size_setIfInBounds]
  by_cases e : i = k
  · subst e
    have hg : (l.set i c).getD i Ce.zero = c := by simp [List.getD, hi]
    rw [hg]
    rcases (by omega : j = 0 ∨ j = 1 ∨ j = 2) with rfl | rfl | rfl
    · rw [if_neg (by omega), if_neg (by omega), if_pos (by omega), if_pos (by omega)]; rfl
    · rw [if_neg (by omega), if_pos (by omega), if_pos (by omega)]; rfl
    · rw [if_pos (by omega), if_pos (by omega)]; rfl
  · have hg : (l.set k c).getD i Ce.zero = l.getD i Ce.zero := by simp [List.getD, List.getElem?_set, Ne.symm e]
    rw [hg, if_neg (by omega), if_neg (by omega), if_neg (by omega)]
    exact h4 i hi j hj
theorem rowW_own {w : World} {base : Nat} {v : Value} {l : List Ce} (h : w.ownsRow base 28 3 v l.length (rowOf l)) (hl : 0 < l.length) : ∃ g cap, v = .slice (some ⟨g, 0, none⟩) l.length cap ∧ base ≤ g ∧ l.length ≤ cap ∧ cap ≤ maxLen ∧ RowW g cap l w := by
  rcases h.2 with ⟨_, h0⟩ | ⟨g, cap, cur, rfl, hb, hg, hn, hm, hc, ht⟩
  · omega
  · refine ⟨g, cap, rfl, hb, hn, hm, cur, hg, hc, hn, fun i hi j hj => ?_⟩
    have h1 : (cur.toList.take (l.length * 3))[i * 3 + j]? = (ceRow (l.getD i Ce.zero))[j]? := by rw [ht]; exact rowOf_at l i j hi hj
    rw [List.getElem?_take, if_pos (by omega)] at h1
    simpa using h1
theorem rowAt_cells {b o : Nat} {l : List Ce} {w : World} (h : RowAt b o l w) : ∀ j u, (rowOf l)[j]? = some u → w.cell? ((⟨b, o, none⟩ : Addr).add j) = some u := by
  intro j u hj
  have hjl : j < l.length * 3 := by
    have := (List.getElem?_eq_some_iff.1 hj).1
    rwa [rowOf_length] at this
  have h1 : j = (j / 3) * 3 + j % 3 := by omega
  rw [Addr.add_mid]
  have hr := rowOf_at l (j / 3) (j % 3) (by omega) (by omega)
  rw [← h1, hj] at hr
  have := h.2 (j / 3) (by omega) (j % 3) u hr.symm
  rwa [show o + j / 3 * 3 + j % 3 = o + j by omega] at this
theorem store_ce {g cap : Nat} {l : List Ce} {w : World} (h : RowW g cap l w) {k : Nat} (hk : k < l.length) (c : Ce) :
    (Instr.storeAt 28 (.pointer (some ⟨g, k * 3, none⟩)) (ceVal c)).run Try.prog w = .ok () (((w.setCell ⟨g, k * 3, none⟩ (.string ⟨c.k.toArray⟩)).setCell ⟨g, k * 3 + 1, none⟩ (.int .i64 c.q)).setCell ⟨g, k * 3 + 2, none⟩ (.string ⟨c.v.toArray⟩)) := by
  obtain ⟨x0, x1, x2⟩ := h.row.cells hk
  simp only [Nat.zero_add] at x0 x1 x2
  have f0 := h.free (k * 3)
  have f1 := h.free (k * 3 + 1)
  have f2 := h.free (k * 3 + 2)
  unfold ceVal
  go_simp
theorem wpList_store_run {ops : Array Oper} {rest : List Oper} {op : Oper} {a : Act} {w w' : World} {Q : Exit → Act → World → Prop} (hgd : op.guard = none) (ty : TypeId) (x y : Operand) (ho : op.op = .store ty x y) (p v : Value) (hx : a.eval x = p) (hy : a.eval y = v)
    (hr : (Instr.storeAt ty p v).run Try.prog w = .ok () w') (h : wpList Try.prog ops Q rest (a.put op.dst undef) w') : wpList Try.prog ops Q (op :: rest) a w :=
  wpList_plain hgd fun _ hK => by
    unfold Oper.wp execOp
    simp only [ho, hx, hy, Sem.run_bind, hr, Result.andThen_ok, Sem.run_pure]
    exact hK _ _ h
theorem RowW.drewN {g cap : Nat} {l : List Ce} {w w' : World} (h : RowW g cap l w) (hb : Below w.heap.size w w') : RowW g cap l w' := by
  obtain ⟨cur, h1, h2⟩ := h
  exact ⟨cur, by rw [hb.block g (Array.getElem?_eq_some_iff.1 h1).1]; exact h1, h2⟩
theorem ahead_facts {p c : Ce} (h : aheadC p c = true) : (Op.bytesLess p.k c.k = true ∧ (p.k == c.k) = false) ∨ (Op.bytesLess p.k c.k = false ∧ (p.k == c.k) = true ∧ decide (p.q ≤ c.q) = false) := by
  unfold aheadC at h
  rcases bl_cases p.k c.k with ⟨h1, h2, h3, _⟩ | ⟨h1, h2, h3⟩ | ⟨h1, h2, h3, _⟩
  · exact .inl ⟨h1, h3⟩
  · rw [h1, h3, beq_self_eq_true, Bool.false_or, Bool.true_and, decide_eq_true_iff] at h
    exact .inr ⟨h1, by rw [h3]; simp, decide_eq_false (by omega)⟩
  · rw [h1, h3] at h; simp at h
set_option maxRecDepth 100000 in
set_option maxHeartbeats 16000000 in
theorem blocksOne_yes (w : World) (v : Value) (l : List Ce) (x y : Int) (hs : SlAt v l w) (hw : ∀ c ∈ l, WfC c) (hx0 : 0 ≤ x) (hx1 : x ≤ 255) (hy0 : 0 ≤ y) (hy1 : y ≤ 255) (hg : greatL l 200 = false) (hso : sortedB l = true) :
    Calls Try.prog 9 #[v, .int .u8 x, .int .u8 y] w fun e w' => e = .returned (.bool true) ∧ Below w.heap.size w w' := by
  have CDO := Lib.hid bdoes_true
  have cg := greatL_any v l 200 w hs hw (by omega)
  have hf := fits_great hg hw
  obtain ⟨hl200, _⟩ := great_yes hg
  rw [hg] at cg
  have CG := Lib.hid cg
  have cs := fun W (h : SlAt v l W) => sortedBl_any v l W h hf
  rw [hso] at cs
  have CS := Lib.hid cs
  have HF := Lib.hid hf
  have HSO := Lib.hid hso
  have HS0 := Lib.hid hs
  clear cg cs hf hso hg hs hw
  go_enter Try.func9, Try.ntmps9
  go_wp2_with fail
  refine CG.out.mono ?_
  rintro e w1 ⟨rfl, b1⟩
  have hs := HS0.out.later b1
  have B := b1
  clear b1
  go_wp2_with fail
  refine (CS.out _ hs).mono ?_
  rintro e w2 ⟨rfl, b2⟩
  have hs := hs.later b2
  have B := btB B b2
  clear b2
  obtain ⟨A, cap, rfl, h1, h2, h3⟩ := slAt_row hs
  unfold maxLen at h2
  have H3 := Lib.hid h3
  obtain ⟨n, hn⟩ : ∃ n, l.length = n := ⟨_, rfl⟩
  have HN := Lib.hid hn
  have HB := Lib.hid B
  rw [hn] at h1 hl200 ⊢
  clear h3 hs hn B
  go_wp2_with fail
  go_loopw [7] (fun i wr => ∃ k : Nat, k ≤ n ∧ i = .int .i64 k ∧ Below w2.heap.size w2 wr) (fun i _ => n - (intOf i).toNat)
  case atStart => exact ⟨0, by omega, rfl, Below.refl _ _⟩
  case round =>
    obtain ⟨k, hk, rfl, hb⟩ := hrel
    by_cases hlt : k < n
    · have hkl : k < l.length := by rw [HN.out]; exact hlt
      obtain ⟨b, o, rfl, hrow⟩ := H3.out (by rw [HN.out]; omega)
      have hrow := hrow.later hb hrow.1
      obtain ⟨z0, z1, z2⟩ := hrow.cells hkl
      have hlb := hrow.1
      have cc := fun W => checkC_any (l.getD k Ce.zero) W (getD_lt HF.out hkl)
      rw [show chkC (l.getD k Ce.zero) = 0 by unfold chkC; rw [sorted_may HSO.out _ (getD_mem hkl)]; rfl] at cc
      rcases Nat.eq_zero_or_pos k with hk0 | hk0
      · subst hk0
        simp only [Nat.zero_mul, Nat.add_zero] at z0 z1 z2
        clear hrow
        generalize l.getD 0 Ce.zero = c at *
        unfold ceVal at cc
        have CC := Lib.hid cc
        clear cc
        go_wp2_with fail
        refine wp_region_more (by kernel_rfl) (by kernel_rfl) ?_
        repeat (go_big_quiet_step (fail))
        go_big_quiet_step (exact Calls.more (CC.out _))
        repeat (go_big_quiet_step (fail))
        refine wpQuiet_nil ?_
        rintro _ ⟨ex, rfl⟩
        have b2 := World.below_more wr ex
        have hb := btB hb b2
        generalize wr.more ex = w3 at *
        clear b2 z0 z1 z2 hlb
        go_wp2_with fail
        go_roundw
        case rel => exact ⟨0 + 1, by omega, by go_num, hb⟩
        case measure => simp [intOf]; omega
      · obtain ⟨j, rfl⟩ : ∃ j, k = j + 1 := ⟨k - 1, by omega⟩
        obtain ⟨p0, p1, p2⟩ := hrow.cells (i := j) (by omega)
        have hah := ahead_facts (sorted_pair HSO.out j (j + 1) (by omega) hkl)
        clear hrow
        generalize l.getD (j + 1) Ce.zero = c at *
        generalize l.getD j Ce.zero = p at *
        unfold ceVal at cc
        have CC := Lib.hid cc
        clear cc
        rcases hah with ⟨a1, a2⟩ | ⟨a1, a2, a3⟩
        all_goals
          go_wp2_with fail
          refine wp_region_more (by kernel_rfl) (by kernel_rfl) ?_
          repeat (go_big_quiet_step (fail))
          go_big_quiet_step (exact Calls.more (CC.out _))
          repeat (go_big_quiet_step (fail))
          refine wpQuiet_nil ?_
          rintro _ ⟨ex, rfl⟩
          have b2 := World.below_more wr ex
          have hb := btB hb b2
          generalize wr.more ex = w3 at *
          clear b2 z0 z1 z2 p0 p1 p2 hlb
          go_wp2_with fail
          go_roundw
          case rel => exact ⟨j + 1 + 1, by omega, by go_num, hb⟩
          case measure => simp [intOf]; omega
    · obtain rfl : k = n := by omega
      have B := btB HB.out hb
      by_cases h2 : (k : Int) < 2
      · go_wp2_with fail
        refine (CDO.out _).mono ?_
        rintro e w5 ⟨rfl, b5⟩
        have B := btB B b5
        go_wp2_with fail
        go_ret
        exact ⟨rfl, B⟩
      · obtain ⟨b, o, rfl, hrow⟩ := H3.out (by rw [HN.out]; omega)
        have hrow := hrow.later hb hrow.1
        obtain ⟨i, hi, hil⟩ : ∃ i : Nat, x.tmod (k : Int) = (i : Int) ∧ i < k := by
          refine ⟨(x.tmod (k : Int)).toNat, ?_, ?_⟩
          · have := Int.tmod_nonneg (k : Int) hx0
            omega
          · have := Int.tmod_nonneg (k : Int) hx0
            have := Int.tmod_lt_of_pos x (show (0 : Int) < (k : Int) by omega)
            omega
        obtain ⟨j, hj, hjl⟩ : ∃ j : Nat, y.tmod (k : Int) = (j : Int) ∧ j < k := by
          refine ⟨(y.tmod (k : Int)).toNat, ?_, ?_⟩
          · have := Int.tmod_nonneg (k : Int) hy0
            omega
          · have := Int.tmod_nonneg (k : Int) hy0
            have := Int.tmod_lt_of_pos y (show (0 : Int) < (k : Int) by omega)
            omega
        have hz : ((k : Int) == 0) = false := by rw [beq_eq_false_iff_ne]; omega
        have HRW := Lib.hid hrow
        clear hrow
        go_wp2_with fail
        go_quiet (fail)
        obtain ⟨wq, hwq⟩ : ∃ wq, wr.drewN nq = wq := ⟨_, rfl⟩
        have bq : Below wr.heap.size wr wq := hwq ▸ below_drewN (Below.refl _ _) nq
        rw [hwq]
        clear hwq
        have B := btB B bq
        have hrow := HRW.out.later bq HRW.out.1
        have ba := (Below.refl wq.heap.size wq).alloc (Nat.le_refl _) (.cells #[] 28)
        have own0 : (wq.alloc (.cells #[] 28)).ownsRow w.heap.size 28 3 (.slice (some ⟨wq.heap.size, 0, none⟩) 0 0) 0 [] := World.ownsRow_made wq #[] 0 B.size (by unfold maxLen; omega) rfl
        have B := btB B ba
        have HC := Lib.hid (rowAt_cells (hrow.later ba hrow.1))
        obtain ⟨i0, hi0, hz0, hz1, hz2⟩ := info_parts info_ce
        have HRL : Hid ((rowOf l).length = k * 3) := Lib.hid (by rw [rowOf_length, HN.out])
        clear bq ba hrow
        go_wp2_with (at_builtin; refine wpList_append_own _ rfl (.tmp 91) (.tmp 92) 22 rfl w.heap.size 28 i0 (.agg #[.string ⟨#[]⟩, .int .i64 0, .string ⟨#[]⟩]) 3 40 Try.underlying22 hi0 hz0 hz1 hz2 rfl (by decide) _ 0 [] rfl own0 ⟨b, o, none⟩ k cap (rowOf l) rfl HRL.out HC.out (rowOf_one l) (by unfold maxLen; omega) (by omega) B.size ?_)
        intro v3 w3 own3 gr3 _
        have B := Below.grown B gr3 B.size (fun k hk => (own0.lt k hk).1)
        try simp only [Nat.zero_add, List.nil_append] at own3
        rw [← HN.out] at own3
        obtain ⟨g, cap3, rfl, hbg, hc3, hm3, hw3⟩ := rowW_own own3 (by have := HN.out; omega)
        rw [HN.out] at hc3 ⊢
        unfold maxLen at hm3
        clear own3 gr3 own0
        have hjl2 : j < l.length := by have := HN.out; omega
        have hil2 : i < l.length := by have := HN.out; omega
        go_wp2_with fail
        obtain ⟨x0, x1, x2⟩ := hw3.row.cells hjl2
        obtain ⟨y0, y1, y2⟩ := hw3.row.cells hil2
        simp only [Nat.zero_add] at x0 x1 x2 y0 y1 y2
        have f0 := hw3.free (i * 3)
        have f1 := hw3.free (i * 3 + 1)
        have f2 := hw3.free (i * 3 + 2)
        have g0 := hw3.free (j * 3)
        have g1 := hw3.free (j * 3 + 1)
        have g2 := hw3.free (j * 3 + 2)
        have HW3 := Lib.hid hw3
        clear hw3
        by_cases hij : i = j
        · subst hij
          have HCE : Hid (l.getD i Ce.zero = l.getD i Ce.zero) := Lib.hid rfl
          generalize hce : l.getD i Ce.zero = c at *
          have HCC := Lib.hid hce
          clear hce HCE
          have HSW : Hid (sortedB (swapC l i i) = true) := Lib.hid (by rw [swap_sorted HSO.out hil2 hil2]; simp)
          go_region_with fail
          all_goals
            have r2 := ((HW3.out.put hil2 c).put (k := i) (by rw [List.length_set]; exact hjl2) c).drewN ((Below.refl _ _).drew)
            have b2 := (below_set (below_set (below_set (below_set (below_set (below_set B hbg (i * 3) (.string ⟨c.k.toArray⟩)) hbg (i * 3 + 1) (.int .i64 c.q)) hbg (i * 3 + 2) (.string ⟨c.v.toArray⟩)) hbg (i * 3) (.string ⟨c.k.toArray⟩)) hbg (i * 3 + 1) (.int .i64 c.q)) hbg (i * 3 + 2) (.string ⟨c.v.toArray⟩)).drew
            generalize World.drew _ = W2 at *
            rw [← HCC.out] at r2
            have csw := sortedBl_any (.slice (some ⟨g, 0, none⟩) k cap3) _ W2 (r2.row.sl (n := k) (cap := cap3) (by rw [show ((l.set i _).set i _).length = l.length by simp]; exact HN.out) hc3 (by unfold maxLen; omega)) (fun c hc => HF.out c (swap_mem hil2 hjl2 c hc))
            rw [show (l.set i (l.getD i Ce.zero)).set i (l.getD i Ce.zero) = swapC l i i from rfl, HSW.out] at csw
            have CSW := Lib.hid csw
            clear csw r2 x0 x1 x2 y0 y1 y2 f0 f1 f2 g0 g1 g2
            go_wp2_with fail
            refine CSW.out.mono ?_
            rintro e w5 ⟨rfl, b5⟩
            have B := btB b2 b5
            go_wp2_with fail
            refine (CDO.out _).mono ?_
            rintro e w6 ⟨rfl, b6⟩
            have B := btB B b6
            go_wp2_with fail
            go_ret
            exact ⟨rfl, B⟩
        · have hnn : i ≠ j := hij
          have n0 : ¬ i * 3 = j * 3 := by omega
          have n1 : ¬ j * 3 = i * 3 := by omega
          have n2 : ¬ i * 3 = j * 3 + 1 := by omega
          have n3 : ¬ j * 3 + 1 = i * 3 := by omega
          have n4 : ¬ i * 3 = j * 3 + 2 := by omega
          have n5 : ¬ j * 3 + 2 = i * 3 := by omega
          have n6 : ¬ i * 3 + 1 = j * 3 := by omega
          have n7 : ¬ j * 3 = i * 3 + 1 := by omega
          have n8 : ¬ i * 3 + 1 = j * 3 + 1 := by omega
          have n9 : ¬ j * 3 + 1 = i * 3 + 1 := by omega
          have n10 : ¬ i * 3 + 1 = j * 3 + 2 := by omega
          have n11 : ¬ j * 3 + 2 = i * 3 + 1 := by omega
          have n12 : ¬ i * 3 + 2 = j * 3 := by omega
          have n13 : ¬ j * 3 = i * 3 + 2 := by omega
          have n14 : ¬ i * 3 + 2 = j * 3 + 1 := by omega
          have n15 : ¬ j * 3 + 1 = i * 3 + 2 := by omega
          have n16 : ¬ i * 3 + 2 = j * 3 + 2 := by omega
          have n17 : ¬ j * 3 + 2 = i * 3 + 2 := by omega
          generalize hce : l.getD i Ce.zero = c at *
          have HCC := Lib.hid hce
          clear hce
          generalize hde : l.getD j Ce.zero = d at *
          have HDD := Lib.hid hde
          have HNN := Lib.hid hnn
          clear hde hij hnn
          have HSW : Hid (sortedB (swapC l i j) = false) := Lib.hid (by rw [swap_sorted HSO.out hil2 hjl2, decide_eq_false HNN.out])
          have hijb : ((i : Int) == (j : Int)) = false := by rw [beq_eq_false_iff_ne]; have := HNN.out; omega
          go_region_with fail
          all_goals
            have r2 := ((HW3.out.put hil2 d).put (k := j) (by rw [List.length_set]; exact hjl2) c).drewN ((Below.refl _ _).drew)
            have b2 := (below_set (below_set (below_set (below_set (below_set (below_set B hbg (i * 3) (.string ⟨d.k.toArray⟩)) hbg (i * 3 + 1) (.int .i64 d.q)) hbg (i * 3 + 2) (.string ⟨d.v.toArray⟩)) hbg (j * 3) (.string ⟨c.k.toArray⟩)) hbg (j * 3 + 1) (.int .i64 c.q)) hbg (j * 3 + 2) (.string ⟨c.v.toArray⟩)).drew
            generalize World.drew _ = W2 at *
            rw [← HCC.out, ← HDD.out] at r2
            have csw := sortedBl_any (.slice (some ⟨g, 0, none⟩) k cap3) _ W2 (r2.row.sl (n := k) (cap := cap3) (by rw [show ((l.set i _).set j _).length = l.length by simp]; exact HN.out) hc3 (by unfold maxLen; omega)) (fun c hc => HF.out c (swap_mem hil2 hjl2 c hc))
            rw [show (l.set i (l.getD j Ce.zero)).set j (l.getD i Ce.zero) = swapC l i j from rfl, HSW.out] at csw
            have CSW := Lib.hid csw
            clear csw r2 x0 x1 x2 y0 y1 y2 f0 f1 f2 g0 g1 g2 n0 n1 n2 n3 n4 n5 n6 n7 n8 n9 n10 n11 n12 n13 n14 n15 n16 n17
            go_wp2_with fail
            refine CSW.out.mono ?_
            rintro e w5 ⟨rfl, b5⟩
            have B := btB b2 b5
            go_wp2_with fail
            refine (CDO.out _).mono ?_
            rintro e w6 ⟨rfl, b6⟩
            have B := btB B b6
            go_wp2_with fail
            go_ret
            exact ⟨rfl, B⟩
set_option maxHeartbeats 4000000 in
theorem blocksOne_law (w : World) (v : Value) (l : List Ce) (x y : Int) (hs : SlAt v l w) (hn : v = .slice none 0 0 ∨ ∃ ad n c, v = .slice (some ad) n c) (hw : ∀ c ∈ l, WfC c) (hx : (Lit.int IntKind.u8 x).wf = true) (hy : (Lit.int IntKind.u8 y).wf = true) :
    Calls Try.prog 9 #[v, .int .u8 x, .int .u8 y] w fun e w' => e = .returned (.bool true) ∧ Below w.heap.size w w' := by
  have hx2 : 0 ≤ x ∧ x ≤ 255 := by simpa [Lit.wf, IntKind.min, IntKind.max, IntKind.signed, IntKind.bits] using hx
  have hy2 : 0 ≤ y ∧ y ≤ 255 := by simpa [Lit.wf, IntKind.min, IntKind.max, IntKind.signed, IntKind.bits] using hy
  have CDO := Lib.hid bdoes_true
  have cg := greatL_any v l 200 w hs hw (by omega)
  cases hg : greatL l 200 with
  | true =>
    rw [hg] at cg
    have CG := Lib.hid cg
    clear cg hg hw hs hx hy hx2 hy2
    go_enter Try.func9, Try.ntmps9
    go_wp2_with fail
    refine CG.out.mono ?_
    rintro e w1 ⟨rfl, b1⟩
    go_wp2_with fail
    refine (CDO.out _).mono ?_
    rintro e w2 ⟨rfl, b2⟩
    go_wp2_with fail
    go_ret
    exact ⟨rfl, btB b1 b2⟩
  | false =>
    cases hso : sortedB l with
    | true => exact blocksOne_yes w v l x y hs hw hx2.1 hx2.2 hy2.1 hy2.2 hg hso
    | false =>
      have hf := fits_great hg hw
      rw [hg] at cg
      have CG := Lib.hid cg
      have cs := fun W (h : SlAt v l W) => sortedBl_any v l W h hf
      rw [hso] at cs
      have CS := Lib.hid cs
      have HS0 := Lib.hid hs
      clear cg cs hf hso hg hs hw hx hy hx2 hy2
      go_enter Try.func9, Try.ntmps9
      go_wp2_with fail
      refine CG.out.mono ?_
      rintro e w1 ⟨rfl, b1⟩
      have hs := HS0.out.later b1
      have B := b1
      clear b1
      go_wp2_with fail
      refine (CS.out _ hs).mono ?_
      rintro e w2 ⟨rfl, b2⟩
      have B := btB B b2
      go_wp2_with fail
      refine (CDO.out _).mono ?_
      rintro e w3 ⟨rfl, b3⟩
      have B := btB B b3
      go_wp2_with fail
      go_ret
      exact ⟨rfl, B⟩
end Go.Proofs.Ytglonbkhocnplaa
