/- TablesParts's walk. -/
import Derived.Test.YtanaoepakllohaaTabV
set_option linter.unusedSimpArgs false
set_option linter.unusedVariables false
namespace Go.Proofs.Ytanaoepakllohaa
set_option maxRecDepth 16000
open Go.RowKit Spoor
set_option linter.unusedVariables false

set_option maxRecDepth 100000 in
set_option maxHeartbeats 16000000 in
theorem tablesParts_yes (w : World) (v : Value) (l : List Ce) (a b c : List UInt8) (hs : SlAt v l w) (hw : ∀ c ∈ l, WfC c) (ha : ¬ (1000 : Int) < (a.length : Int)) (hb : ¬ (1000 : Int) < (b.length : Int)) (hc : ¬ (1000 : Int) < (c.length : Int)) (hg : greatL l 300 = false) :
    Calls Try.prog 9 #[v, .agg #[.string ⟨a.toArray⟩, .string ⟨b.toArray⟩, .string ⟨c.toArray⟩]] w fun e w' => e = .returned (.bool true) ∧ Below w.heap.size w w' := by
  have CDO := Lib.hid tdoes_true
  have cg := fun W (h : SlAt v l W) => greatL_any v l 300 W h hw (by omega)
  rw [hg] at cg
  have hf := fits_great hg hw
  have hlen := (great_yes hg).1
  have CG := Lib.hid cg
  have COP := Lib.hid (fun W (h : SlAt v l W) => opened_any v l W h hf (by omega))
  unfold OpenedEx at COP
  have f0 := decide_eq_false ha
  have f1 := decide_eq_false hb
  have f2 := decide_eq_false hc
  have nb := (Below.refl w.heap.size w).alloc (Nat.le_refl _) (.cells #[.string ⟨a.toArray⟩, .string ⟨b.toArray⟩, .string ⟨c.toArray⟩] 53)
  have hbx := heap_alloc_new w (.cells #[.string ⟨a.toArray⟩, .string ⟨b.toArray⟩, .string ⟨c.toArray⟩] 53)
  have hs1 := hs.later nb
  have hsz : (w.alloc (.cells #[.string ⟨a.toArray⟩, .string ⟨b.toArray⟩, .string ⟨c.toArray⟩] 53)).heap.size = w.heap.size + 1 := by simp
  obtain ⟨W0, hW0⟩ : ∃ W0, w.alloc (.cells #[.string ⟨a.toArray⟩, .string ⟨b.toArray⟩, .string ⟨c.toArray⟩] 53) = W0 := ⟨_, rfl⟩
  rw [hW0] at nb hbx hs1 hsz
  obtain ⟨A, cap, rfl, hc1, hc2, hrow⟩ := hs
  obtain ⟨n, hn⟩ : ∃ n, l.length = n := ⟨_, rfl⟩
  have HW0 := Lib.hid (fun W (hb : Below W0.heap.size W0 W) => And.intro (hs1.later hb) (And.intro ((hb.block w.heap.size (by omega)).trans hbx) (btB nb hb)))
  have HS1 := Lib.hid hs1
  have HN := Lib.hid hn
  rw [hn] at HS1 HW0 CG COP ⊢
  have HLEN := Lib.hid hlen
  have HK := Lib.hid (show a.length ≤ 140737488351232 ∧ (⟨a.toArray⟩ : ByteArray).size ≤ 140737488351232 from ⟨by omega, by rw [size_of]; omega⟩)
  clear cg hf hg hw nb hbx hs1 hsz hn hrow hc1 hc2 hlen ha hb hc
  go_enter Try.func9, Try.ntmps9
  go_wp2_with fail
  clear hW0
  refine (CG.out _ HS1.out).mono ?_
  rintro e w1 ⟨rfl, b1⟩
  have LAT1 := Lib.hid (fun W (hb : Below w1.heap.size w1 W) => HW0.out W (btB b1 hb))
  obtain ⟨X, hX⟩ : ∃ X, w.heap.size = X := ⟨_, rfl⟩
  have HX := Lib.hid hX
  rw [hX] at LAT1 ⊢
  have hx1 := (LAT1.out w1 (Below.refl _ _)).2.1
  have x0 : w1.cell? ⟨X, 0, none⟩ = some (.string ⟨a.toArray⟩) := by simp [World.cell?, hx1]
  have x1 : w1.cell? ⟨X, 1, none⟩ = some (.string ⟨b.toArray⟩) := by simp [World.cell?, hx1]
  have x2 : w1.cell? ⟨X, 2, none⟩ = some (.string ⟨c.toArray⟩) := by simp [World.cell?, hx1]
  clear hx1 b1 HW0 CG HS1 hX
  go_wp2_with fail
  clear x0 x1 x2
  refine (COP.out _ (LAT1.out _ (Below.refl _ _)).1).mono ?_
  rintro e w3 ⟨b3, (⟨-, rfl⟩ | ⟨hso, t, rfl, ht⟩)⟩
  · have LAT3 := Lib.hid (fun W (hb : Below w3.heap.size w3 W) => LAT1.out W (btB b3 hb))
    clear b3 LAT1 COP
    go_wp2_with fail
    refine (CDO.out _).mono ?_
    rintro e w4 ⟨rfl, b4⟩
    have hB := (LAT3.out _ b4).2.2
    go_wp2_with fail
    go_ret
    exact ⟨rfl, by rw [HX.out]; exact hB⟩
  have LAT3 := Lib.hid (fun W (hb : Below w3.heap.size w3 W) => And.intro (ht.later hb) (LAT1.out W (btB b3 hb)))
  clear b3 LAT1 COP ht
  have hlen := HLEN.out
  obtain ⟨f1', f2', f3', f4'⟩ := fours_facts hso (by omega)
  have ca := fun W (h : TabAt t (fours l) W) => allT_any t (fours l) W h f1' f2' f3' (by omega)
  have cgt := fun W (h : TabAt t (fours l) W) => getT_any t (fours l) a W h f1' f2' f3' (by omega) HK.out.1
  have cr := fun x y W (h : TabAt t (fours l) W) => rangeT_any t (fours l) x y W h f1' f2' f3' (by omega)
  rw [fours_flat] at ca cgt cr f1'
  obtain ⟨x, ob, hce, he1, he2⟩ := ceV_form (findC l a)
  rw [hce] at cgt
  have HCE := Lib.hid (And.intro he1 he2)
  have HRI := Lib.hid f1'
  have hcat := bytes_snoc a
  have CAB := Lib.hid (cr a b)
  have CBC := Lib.hid (cr b c)
  have CAC := Lib.hid (cr a c)
  have CH1 := Lib.hid (cr [] b)
  have CH2 := Lib.hid (cr b [])
  have CO := Lib.hid (cr a (a ++ [0]))
  have CA := Lib.hid ca
  have CT := Lib.hid cgt
  have cq := fun u z L W (h : SlAt u L W) (k : SlAt z L W) => sameCells_any u z L L W h k
  have HLN := Lib.hid (fun x y => show (rangeC l x y).length ≤ 300 by unfold rangeC; have := List.length_filter_le (within x y) l; omega)
  have cq1 := fun u z W (h : SlAt u l W) (k : SlAt z l W) => sameCells_any u z l l W h k
  rw [decide_eq_true rfl] at cq1
  have CQ := Lib.hid cq1
  have cq3 := fun u z W (h : SlAt u (rangeC l a c) W) (k : SlAt z (rangeC l a c) W) => sameCells_any u z _ _ W h k
  rw [decide_eq_true rfl] at cq3
  have CQ3 := Lib.hid cq3
  clear hso f1' f2' f3' f4' ca cgt cr hce he1 he2 cq cq1 cq3 hlen HLEN
  have LAT4 := Lib.hid (fun W (hb : Below w3.heap.size w3 W) => And.intro (LAT3.out W hb).1 (And.intro (LAT3.out W hb).2.1 (LAT3.out W hb).2.2.2))
  have LX := Lib.hid (fun W (hb : Below w3.heap.size w3 W) => show W.cell? ⟨X, 0, none⟩ = some (.string ⟨a.toArray⟩) ∧ W.cell? ⟨X, 1, none⟩ = some (.string ⟨b.toArray⟩) ∧ W.cell? ⟨X, 2, none⟩ = some (.string ⟨c.toArray⟩) from by have h := (LAT3.out W hb).2.2.1; simp [World.cell?, h])
  have HXL := Lib.hid (show X < w3.heap.size from (Array.getElem?_eq_some_iff.1 (LAT3.out w3 (Below.refl _ _)).2.2.1).1)
  clear LAT3
  obtain ⟨x0, x1, x2⟩ := LX.out w3 (Below.refl _ _)
  have hXl := HXL.out
  go_wp2_with fail
  refine wp_region_more (by kernel_rfl) (by kernel_rfl) ?_
  repeat (go_big_quiet_step (fail))
  refine wpQuiet_nil ?_
  rintro _ ⟨ex, rfl⟩
  have hb := World.below_more w3 ex
  clear x0 x1 x2 hXl LX HXL
  generalize w3.more ex = W at *
  have LAT5 := Lib.hid (fun W' (hb' : Below W.heap.size W W') => LAT4.out W' (btB hb hb'))
  clear LAT4 hb
  by_cases hC : (Op.bytesLess a b || a == b) = true ∧ (Op.bytesLess b c || b == c) = true ∧ b ≠ [] ∧ c ≠ []
  · obtain ⟨h1, h2, h3, h4⟩ := hC
    have e3 : (b != ([] : List UInt8)) = true := by simpa using h3
    have e4 : (c != ([] : List UInt8)) = true := by simpa using h4
    have e5 : (b == ([] : List UInt8)) = false := by simpa using h3
    have e6 : (c == ([] : List UInt8)) = false := by simpa using h4
    have g1 := h1
    have g2 := h2
    rw [bl_leq] at g1 g2
    have HJOIN := Lib.hid (range_join HRI.out (by simpa using g1) (by simpa using g2) h3 h4)
    clear g1 g2
    have HHALF := Lib.hid (range_halves HRI.out h3)
    clear h3 h4
    go_wp2_with fail
    refine (CAB.out _ (LAT5.out _ (Below.refl _ _)).1).mono ?_
    rintro e p8 ⟨bp8, vp8, rfl, own8⟩
    go_wp2_with fail
    refine (CBC.out _ (LAT5.out _ bp8).1).mono ?_
    rintro e q8 ⟨bq8, vq8, rfl, ownq8⟩
    obtain ⟨v8, wj, run8, own98, b98, -⟩ := run_append_slk (own_lat own8 bq8) (Nat.le_trans bp8.size bq8.size) (slAt_own ownq8) (by have := HLN.out a b; have := HLN.out b c; omega)
    have RUN := Lib.hid run8
    have HJ8 := Lib.hid own98
    have HB8 := Lib.hid ((btB bp8 bq8).trans b98)
    clear run8 own98 b98 own8 ownq8 bp8 bq8
    go_wp2_with (at_builtin; refine wpList_append_runE _ rfl _ _ 22 22 rfl _ _ rfl rfl RUN.out ?_)
    clear RUN
    rw [HJOIN.out] at HJ8
    refine (CAC.out _ (LAT5.out _ HB8.out).1).mono ?_
    rintro e w9 ⟨b9, v9, rfl, own9⟩
    have hsl8 := (slAt_own HJ8.out).later b9
    go_wp2_with fail
    refine (CQ3.out _ _ _ hsl8 (slAt_own own9)).mono ?_
    rintro e w10 ⟨rfl, b10⟩
    have LAT6 := Lib.hid (fun W (hb : Below w10.heap.size w10 W) => LAT5.out W (HB8.out.trans ((btBx b9 (btBx b10 hb)).mono HB8.out.size)))
    clear b10 b9 own9 hsl8 HJ8 HB8 LAT5 CAB CBC CAC CQ3 HJOIN
    go_wp2_with fail
    refine (CH1.out _ (LAT6.out _ (Below.refl _ _)).1).mono ?_
    rintro e p10 ⟨bp10, vp10, rfl, own10⟩
    go_wp2_with fail
    refine (CH2.out _ (LAT6.out _ bp10).1).mono ?_
    rintro e q10 ⟨bq10, vq10, rfl, ownq10⟩
    obtain ⟨v10, wj, run10, own910, b910, -⟩ := run_append_slk (own_lat own10 bq10) (Nat.le_trans bp10.size bq10.size) (slAt_own ownq10) (by have := HLN.out [] b; have := HLN.out b []; omega)
    have RUN := Lib.hid run10
    have HJ10 := Lib.hid own910
    have HB10 := Lib.hid ((btB bp10 bq10).trans b910)
    clear run10 own910 b910 own10 ownq10 bp10 bq10
    go_wp2_with (at_builtin; refine wpList_append_runG (by kernel_rfl) _ _ 22 22 rfl _ _ rfl rfl RUN.out ?_)
    clear RUN
    rw [show rangeC l [] b ++ rangeC l b [] = l from HHALF.out] at HJ10
    refine (CQ.out _ _ _ (slAt_own HJ10.out) (LAT6.out _ HB10.out).2.1).mono ?_
    rintro e w10 ⟨rfl, b10⟩
    have LAT10 := Lib.hid (fun W (hb : Below w10.heap.size w10 W) => LAT6.out W (HB10.out.trans ((btBx b10 hb).mono HB10.out.size)))
    clear b10 HJ10 HB10 LAT6 CH1 CH2 HHALF
    go_wp2_with fail
    refine (CT.out _ (LAT10.out _ (Below.refl _ _)).1).mono ?_
    rintro e w11 ⟨rfl, b11⟩
    have LAT11 := Lib.hid (fun W (hb : Below w11.heap.size w11 W) => LAT10.out W (btB b11 hb))
    clear b11 LAT10
    have nb6 := (Below.refl w11.heap.size w11).alloc (Nat.le_refl _) (boxC Ce.zero)
    have q6 := CeAt.boxed Ce.zero w11
    obtain ⟨c6, hc6⟩ : ∃ c6, w11.heap.size = c6 := ⟨_, rfl⟩
    have hcc6 : w11.heap.size ≤ c6 := by omega
    rw [hc6] at q6
    obtain ⟨v6, hv6⟩ : ∃ v6, w11.alloc (boxC Ce.zero) = v6 := ⟨_, rfl⟩
    have hvv6 : w11.alloc (.cells #[.string ⟨#[]⟩, .int .i64 0, .string ⟨#[]⟩] 36) = v6 := hv6
    rw [hv6] at nb6 q6
    obtain ⟨y0, y1, y2⟩ := q6.cell
    obtain ⟨z0, z1, z2⟩ := q6.frees
    unfold Ce.zero at y0 y1 y2
    dsimp only at y0 y1 y2
    have HQ6 := Lib.hid (q6.all nb6 hcc6 x)
    have hlt6 := q6.lt
    obtain ⟨hal, hal2⟩ := HK.out
    clear nb6 hv6 q6
    go_wp2_with fail
    clear hal hal2
    obtain ⟨qq6, bb6⟩ := HQ6.out
    generalize (((v6.setCell ⟨c6, 0, none⟩ (.string ⟨(x).k.toArray⟩)).setCell ⟨c6, 1, none⟩ (.int .i64 (x).q)).setCell ⟨c6, 2, none⟩ (.string ⟨(x).v.toArray⟩)) = w12 at *
    have LAT12 := Lib.hid (fun W (hb : Below w12.heap.size w12 W) => And.intro (qq6.later hb qq6.lt) (LAT11.out W (btB bb6 hb)))
    clear y0 y1 y2 z0 z1 z2 HQ6 hvv6 bb6 qq6 LAT11
    refine (CO.out _ (LAT12.out _ (Below.refl _ _)).2.1).mono ?_
    rintro e w13 ⟨b13, v12, rfl, own12⟩
    have LAT13 := Lib.hid (fun W (hb : Below w13.drew.heap.size w13.drew W) => LAT12.out W (btB b13 ((Below.drew (Below.refl w13.heap.size w13)).trans hb)))
    have S12 := slAt_own own12
    clear own12 b13 LAT12
    cases ob with
    | true =>
      have hfx := HCE.out.1 rfl
      obtain ⟨rest, hrest⟩ : ∃ rest, rangeC l a (a ++ [0]) = x :: rest := by
        have h := rangeC_one l a
        rw [hfx] at h
        cases hh : rangeC l a (a ++ [0]) with
        | nil => rw [hh] at h; cases h
        | cons y ys => rw [hh] at h; cases h; exact ⟨ys, rfl⟩
      have hxk : (x.k == a) = true := by rw [beq_iff_eq]; exact (find_some_key hfx).2
      rw [hrest] at S12
      obtain ⟨A12, cap12, rfl, h12, m12, r12⟩ := S12
      obtain ⟨b12, o12, rfl, row12⟩ := r12 (by simp)
      obtain ⟨n12, hn12⟩ : ∃ n12, (x :: rest).length = n12 := ⟨_, rfl⟩
      have hn0 : 0 < n12 := by rw [← hn12]; simp
      have hn0i : (0 : Int) < (n12 : Int) := by omega
      have LD := Lib.hid (fun W (hb : Below w13.drew.heap.size w13.drew W) => And.intro (show W.cell? ⟨b12, o12, none⟩ = some (.string ⟨x.k.toArray⟩) ∧ W.cell? ⟨b12, o12 + 1, none⟩ = some (.int .i64 x.q) ∧ W.cell? ⟨b12, o12 + 2, none⟩ = some (.string ⟨x.v.toArray⟩) from by have h := ((row12.later (Below.drew (Below.refl w13.heap.size w13)) row12.1).later hb row12.1).cells (i := 0) (by simp); simpa using h) (LAT13.out W hb).1.cell)
      have LAT := Lib.hid (fun W (hb : Below w13.drew.heap.size w13.drew W) => (LAT13.out W hb).2)
      rw [hn12] at h12 ⊢
      clear hrest hfx row12 r12 m12 h12 hn12 LAT13 HCE CO CT
      go_wp2_with fail
      as_aux_lemma =>
        refine (wpIn_wide (n := 5)).1 ?_
        refine wpIn_region_rel [[], [(0, some 103)], [(1, some 104)], [], [(2, some 105), (3, some 106)], [(4, some 107)], [(5, some 108)], [(5, some 108), (6, some 109)], [(5, some 108), (7, some 110)], [(8, some 111)], [(8, some 111), (9, some 112)], [(8, some 111), (10, some 113)], [(8, some 111)], [(8, some 111), (11, some 114), (12, some 115)], [(8, some 111), (13, some 116)], [(14, some 117)], [(14, some 117), (15, some 118)], [(14, some 117)], [(14, some 117), (16, some 119), (17, some 120)], [(8, some 111), (14, some 117), (18, some 121)], [(5, some 108), (8, some 111), (19, some 122)], [(5, some 108), (20, some 123)], [(21, some 124)], [(22, some 125)], [(22, some 125), (23, some 126)], [(22, some 125)], [(22, some 125), (24, some 127), (25, some 128)], [(22, some 125), (26, some 129)], [(27, some 130)], [(28, some 131)], [(28, some 131), (29, some 132)], [(30, some 133)]]
          [fun v _ => v = Value.slice (some ⟨b12, o12, none⟩) n12 cap12, fun v _ => v = Value.int .i64 n12, fun v _ => v = Value.bool true, fun v _ => v = Value.bool true, fun v _ => v = Value.bool true, fun v _ => v = Value.bool true, fun v _ => v = Value.bool true, fun v _ => v = Value.bool false, fun v _ => v = Value.bool false, fun v _ => v = Value.slice (some ⟨b12, o12, none⟩) n12 cap12, fun v _ => v = Value.pointer (some ⟨b12, o12, none⟩), fun v _ => v = Value.agg #[.string ⟨x.k.toArray⟩, .int .i64 x.q, .string ⟨x.v.toArray⟩], fun v _ => v = Value.agg #[.string ⟨x.k.toArray⟩, .int .i64 x.q, .string ⟨x.v.toArray⟩], fun v _ => v = Value.bool true, fun v _ => v = Value.bool true, fun v _ => v = Value.pointer (some ⟨c6, 0, none⟩), fun v _ => v = Value.string ⟨x.k.toArray⟩, fun v _ => v = Value.string ⟨a.toArray⟩, fun v _ => v = Value.bool true, fun v _ => v = Value.bool true, fun v _ => v = Value.bool true, fun v _ => v = Value.bool true, fun v _ => v = Value.bool true, fun v _ => v = Value.pointer (some ⟨t, 0, none⟩), fun v W => SlAt v l W, fun v _ => v = Value.slice A n cap, fun v _ => v = Value.bool true, fun v _ => v = Value.bool true, fun v _ => v = Value.bool true, fun v _ => v = Value.bool true, fun v _ => v = Value.bool true, fun v _ => v = Value.bool true]
          [(0, some 103), (1, some 104), (2, some 105), (3, some 106), (4, some 107), (5, some 108), (6, some 109), (7, some 110), (8, some 111), (9, some 112), (10, some 113), (11, some 114), (12, some 115), (13, some 116), (14, some 117), (15, some 118), (16, some 119), (17, some 120), (18, some 121), (19, some 122), (20, some 123), (21, some 124), (22, some 125), (23, some 126), (24, some 127), (25, some 128), (26, some 129), (27, some 130), (28, some 131), (29, some 132), (30, some 133), (31, some 4)] (by kernel_rfl) (by kernel_rfl) (by kernel_rfl) ⟨MonoR.is _, MonoR.is _, MonoR.is _, MonoR.is _, MonoR.is _, MonoR.is _, MonoR.is _, MonoR.is _, MonoR.is _, MonoR.is _, MonoR.is _, MonoR.is _, MonoR.is _, MonoR.is _, MonoR.is _, MonoR.is _, MonoR.is _, MonoR.is _, MonoR.is _, MonoR.is _, MonoR.is _, MonoR.is _, MonoR.is _, MonoR.is _, MonoR.sl _, MonoR.is _, MonoR.is _, MonoR.is _, MonoR.is _, MonoR.is _, MonoR.is _, MonoR.is _, trivial⟩ ?_ ?_
        · refine ⟨?_, ?_⟩
          · intro vs W hb hD K hK
            simp only [fillL, Act.put, List.setIfInBounds_toArray, List.set_cons_succ, List.set_cons_zero] at hK ⊢
            clear hD
            refine want_yes (by kernel_rfl) ?_
            go_simp
            exact hK _ _ _ rfl (Below.refl _ _) rfl
          refine ⟨?_, ?_⟩
          · intro vs W hb hD K hK
            have h0 : vs 0 = Value.slice (some ⟨b12, o12, none⟩) n12 cap12 := hD (0, some 103) List.mem_cons_self
            simp only [fillL, Act.put, List.setIfInBounds_toArray, List.set_cons_succ, List.set_cons_zero, h0] at hK ⊢
            clear hD h0
            refine want_yes (by kernel_rfl) ?_
            go_simp
            exact hK _ _ _ rfl (Below.refl _ _) rfl
          refine ⟨?_, ?_⟩
          · intro vs W hb hD K hK
            have h1 : vs 1 = Value.int .i64 n12 := hD (1, some 104) List.mem_cons_self
            simp only [fillL, Act.put, List.setIfInBounds_toArray, List.set_cons_succ, List.set_cons_zero, h1] at hK ⊢
            clear hD h1
            refine want_yes (by kernel_rfl) ?_
            go_simp
            exact hK _ _ _ rfl (Below.refl _ _) rfl
          refine ⟨?_, ?_⟩
          · intro vs W hb hD K hK
            simp only [fillL, Act.put, List.setIfInBounds_toArray, List.set_cons_succ, List.set_cons_zero] at hK ⊢
            clear hD
            refine want_yes (by kernel_rfl) ?_
            go_simp
            exact hK _ _ _ rfl (Below.refl _ _) rfl
          refine ⟨?_, ?_⟩
          · intro vs W hb hD K hK
            have h2 : vs 2 = Value.bool true := hD (2, some 105) List.mem_cons_self
            have h3 : vs 3 = Value.bool true := hD (3, some 106) (List.mem_cons_of_mem _ List.mem_cons_self)
            simp only [fillL, Act.put, List.setIfInBounds_toArray, List.set_cons_succ, List.set_cons_zero, h2, h3] at hK ⊢
            clear hD h2 h3
            refine want_yes (by kernel_rfl) ?_
            go_simp
            exact hK _ _ _ rfl (Below.refl _ _) rfl
          refine ⟨?_, ?_⟩
          · intro vs W hb hD K hK
            have h4 : vs 4 = Value.bool true := hD (4, some 107) List.mem_cons_self
            simp only [fillL, Act.put, List.setIfInBounds_toArray, List.set_cons_succ, List.set_cons_zero, h4] at hK ⊢
            clear hD h4
            refine want_yes (by kernel_rfl) ?_
            go_simp
            exact hK _ _ _ rfl (Below.refl _ _) rfl
          refine ⟨?_, ?_⟩
          · intro vs W hb hD K hK
            have h5 : vs 5 = Value.bool true := hD (5, some 108) List.mem_cons_self
            simp only [fillL, Act.put, List.setIfInBounds_toArray, List.set_cons_succ, List.set_cons_zero, h5] at hK ⊢
            clear hD h5
            refine want_yes (by kernel_rfl) ?_
            go_simp
            exact hK _ _ _ rfl (Below.refl _ _) rfl
          refine ⟨?_, ?_⟩
          · intro vs W hb hD K hK
            have h5 : vs 5 = Value.bool true := hD (5, some 108) List.mem_cons_self
            have h6 : vs 6 = Value.bool true := hD (6, some 109) (List.mem_cons_of_mem _ List.mem_cons_self)
            simp only [fillL, Act.put, List.setIfInBounds_toArray, List.set_cons_succ, List.set_cons_zero, h5, h6] at hK ⊢
            clear hD h5 h6
            refine want_yes (by kernel_rfl) ?_
            go_simp
            exact hK _ _ _ rfl (Below.refl _ _) rfl
          refine ⟨?_, ?_⟩
          · intro vs W hb hD K hK
            have h5 : vs 5 = Value.bool true := hD (5, some 108) List.mem_cons_self
            have h7 : vs 7 = Value.bool false := hD (7, some 110) (List.mem_cons_of_mem _ List.mem_cons_self)
            simp only [fillL, Act.put, List.setIfInBounds_toArray, List.set_cons_succ, List.set_cons_zero, h5, h7] at hK ⊢
            clear hD h5 h7
            refine want_yes (by kernel_rfl) ?_
            go_simp
            exact hK _ _ _ rfl (Below.refl _ _) rfl
          refine ⟨?_, ?_⟩
          · intro vs W hb hD K hK
            have h8 : vs 8 = Value.bool false := hD (8, some 111) List.mem_cons_self
            simp only [fillL, Act.put, List.setIfInBounds_toArray, List.set_cons_succ, List.set_cons_zero, h8] at hK ⊢
            clear hD h8
            refine want_yes (by kernel_rfl) ?_
            go_simp
            exact hK _ _ _ rfl (Below.refl _ _) rfl
          refine ⟨?_, ?_⟩
          · intro vs W hb hD K hK
            have h8 : vs 8 = Value.bool false := hD (8, some 111) List.mem_cons_self
            have h9 : vs 9 = Value.slice (some ⟨b12, o12, none⟩) n12 cap12 := hD (9, some 112) (List.mem_cons_of_mem _ List.mem_cons_self)
            simp only [fillL, Act.put, List.setIfInBounds_toArray, List.set_cons_succ, List.set_cons_zero, h8, h9] at hK ⊢
            clear hD h8 h9
            refine want_yes (by kernel_rfl) ?_
            go_simp
            exact hK _ _ _ rfl (Below.refl _ _) rfl
          refine ⟨?_, ?_⟩
          · intro vs W hb hD K hK
            have h8 : vs 8 = Value.bool false := hD (8, some 111) List.mem_cons_self
            have h10 : vs 10 = Value.pointer (some ⟨b12, o12, none⟩) := hD (10, some 113) (List.mem_cons_of_mem _ List.mem_cons_self)
            simp only [fillL, Act.put, List.setIfInBounds_toArray, List.set_cons_succ, List.set_cons_zero, h8, h10] at hK ⊢
            clear hD h8 h10
            refine want_yes (by kernel_rfl) ?_
            obtain ⟨⟨a0, a1, a2⟩, ⟨b0, b1, b2⟩⟩ := LD.out W hb
            go_simp
            exact hK _ _ _ rfl (Below.refl _ _) rfl
          refine ⟨?_, ?_⟩
          · intro vs W hb hD K hK
            have h8 : vs 8 = Value.bool false := hD (8, some 111) List.mem_cons_self
            simp only [fillL, Act.put, List.setIfInBounds_toArray, List.set_cons_succ, List.set_cons_zero, h8] at hK ⊢
            clear hD h8
            refine want_yes (by kernel_rfl) ?_
            obtain ⟨⟨a0, a1, a2⟩, ⟨b0, b1, b2⟩⟩ := LD.out W hb
            go_simp
            exact hK _ _ _ rfl (Below.refl _ _) rfl
          refine ⟨?_, ?_⟩
          · intro vs W hb hD K hK
            have h8 : vs 8 = Value.bool false := hD (8, some 111) List.mem_cons_self
            have h11 : vs 11 = Value.agg #[.string ⟨x.k.toArray⟩, .int .i64 x.q, .string ⟨x.v.toArray⟩] := hD (11, some 114) (List.mem_cons_of_mem _ List.mem_cons_self)
            have h12 : vs 12 = Value.agg #[.string ⟨x.k.toArray⟩, .int .i64 x.q, .string ⟨x.v.toArray⟩] := hD (12, some 115) (List.mem_cons_of_mem _ (List.mem_cons_of_mem _ List.mem_cons_self))
            simp only [fillL, Act.put, List.setIfInBounds_toArray, List.set_cons_succ, List.set_cons_zero, h8, h11, h12] at hK ⊢
            clear hD h8 h11 h12
            refine want_yes (by kernel_rfl) ?_
            have k1 : (x.k == x.k) = true := by simp
            have k2 : (x.v == x.v) = true := by simp
            go_simp
            exact hK _ _ _ rfl (Below.refl _ _) rfl
          refine ⟨?_, ?_⟩
          · intro vs W hb hD K hK
            have h8 : vs 8 = Value.bool false := hD (8, some 111) List.mem_cons_self
            have h13 : vs 13 = Value.bool true := hD (13, some 116) (List.mem_cons_of_mem _ List.mem_cons_self)
            simp only [fillL, Act.put, List.setIfInBounds_toArray, List.set_cons_succ, List.set_cons_zero, h8, h13] at hK ⊢
            clear hD h8 h13
            refine want_yes (by kernel_rfl) ?_
            go_simp
            exact hK _ _ _ rfl (Below.refl _ _) rfl
          refine ⟨?_, ?_⟩
          · intro vs W hb hD K hK
            have h14 : vs 14 = Value.bool true := hD (14, some 117) List.mem_cons_self
            simp only [fillL, Act.put, List.setIfInBounds_toArray, List.set_cons_succ, List.set_cons_zero, h14] at hK ⊢
            clear hD h14
            refine want_yes (by kernel_rfl) ?_
            go_simp
            exact hK _ _ _ rfl (Below.refl _ _) rfl
          refine ⟨?_, ?_⟩
          · intro vs W hb hD K hK
            have h14 : vs 14 = Value.bool true := hD (14, some 117) List.mem_cons_self
            have h15 : vs 15 = Value.pointer (some ⟨c6, 0, none⟩) := hD (15, some 118) (List.mem_cons_of_mem _ List.mem_cons_self)
            simp only [fillL, Act.put, List.setIfInBounds_toArray, List.set_cons_succ, List.set_cons_zero, h14, h15] at hK ⊢
            clear hD h14 h15
            refine want_yes (by kernel_rfl) ?_
            obtain ⟨⟨a0, a1, a2⟩, ⟨b0, b1, b2⟩⟩ := LD.out W hb
            go_simp
            exact hK _ _ _ rfl (Below.refl _ _) rfl
          refine ⟨?_, ?_⟩
          · intro vs W hb hD K hK
            have h14 : vs 14 = Value.bool true := hD (14, some 117) List.mem_cons_self
            simp only [fillL, Act.put, List.setIfInBounds_toArray, List.set_cons_succ, List.set_cons_zero, h14] at hK ⊢
            clear hD h14
            refine want_yes (by kernel_rfl) ?_
            go_simp
            exact hK _ _ _ rfl (Below.refl _ _) rfl
          refine ⟨?_, ?_⟩
          · intro vs W hb hD K hK
            have h14 : vs 14 = Value.bool true := hD (14, some 117) List.mem_cons_self
            have h16 : vs 16 = Value.string ⟨x.k.toArray⟩ := hD (16, some 119) (List.mem_cons_of_mem _ List.mem_cons_self)
            have h17 : vs 17 = Value.string ⟨a.toArray⟩ := hD (17, some 120) (List.mem_cons_of_mem _ (List.mem_cons_of_mem _ List.mem_cons_self))
            simp only [fillL, Act.put, List.setIfInBounds_toArray, List.set_cons_succ, List.set_cons_zero, h14, h16, h17] at hK ⊢
            clear hD h14 h16 h17
            refine want_yes (by kernel_rfl) ?_
            go_simp
            exact hK _ _ _ rfl (Below.refl _ _) rfl
          refine ⟨?_, ?_⟩
          · intro vs W hb hD K hK
            have h8 : vs 8 = Value.bool false := hD (8, some 111) List.mem_cons_self
            have h14 : vs 14 = Value.bool true := hD (14, some 117) (List.mem_cons_of_mem _ List.mem_cons_self)
            have h18 : vs 18 = Value.bool true := hD (18, some 121) (List.mem_cons_of_mem _ (List.mem_cons_of_mem _ List.mem_cons_self))
            simp only [fillL, Act.put, List.setIfInBounds_toArray, List.set_cons_succ, List.set_cons_zero, h8, h14, h18] at hK ⊢
            clear hD h8 h14 h18
            refine want_yes (by kernel_rfl) ?_
            go_simp
            exact hK _ _ _ rfl (Below.refl _ _) rfl
          refine ⟨?_, ?_⟩
          · intro vs W hb hD K hK
            have h5 : vs 5 = Value.bool true := hD (5, some 108) List.mem_cons_self
            have h8 : vs 8 = Value.bool false := hD (8, some 111) (List.mem_cons_of_mem _ List.mem_cons_self)
            have h19 : vs 19 = Value.bool true := hD (19, some 122) (List.mem_cons_of_mem _ (List.mem_cons_of_mem _ List.mem_cons_self))
            simp only [fillL, Act.put, List.setIfInBounds_toArray, List.set_cons_succ, List.set_cons_zero, h5, h8, h19] at hK ⊢
            clear hD h5 h8 h19
            refine want_yes (by kernel_rfl) ?_
            go_simp
            exact hK _ _ _ rfl (Below.refl _ _) rfl
          refine ⟨?_, ?_⟩
          · intro vs W hb hD K hK
            have h5 : vs 5 = Value.bool true := hD (5, some 108) List.mem_cons_self
            have h20 : vs 20 = Value.bool true := hD (20, some 123) (List.mem_cons_of_mem _ List.mem_cons_self)
            simp only [fillL, Act.put, List.setIfInBounds_toArray, List.set_cons_succ, List.set_cons_zero, h5, h20] at hK ⊢
            clear hD h5 h20
            refine want_yes (by kernel_rfl) ?_
            go_simp
            exact hK _ _ _ rfl (Below.refl _ _) rfl
          refine ⟨?_, ?_⟩
          · intro vs W hb hD K hK
            have h21 : vs 21 = Value.bool true := hD (21, some 124) List.mem_cons_self
            simp only [fillL, Act.put, List.setIfInBounds_toArray, List.set_cons_succ, List.set_cons_zero, h21] at hK ⊢
            clear hD h21
            refine want_yes (by kernel_rfl) ?_
            go_simp
            exact hK _ _ _ rfl (Below.refl _ _) rfl
          refine ⟨?_, ?_⟩
          · intro vs W hb hD K hK
            have h22 : vs 22 = Value.bool true := hD (22, some 125) List.mem_cons_self
            simp only [fillL, Act.put, List.setIfInBounds_toArray, List.set_cons_succ, List.set_cons_zero, h22] at hK ⊢
            clear hD h22
            refine want_yes (by kernel_rfl) ?_
            go_simp
            exact hK _ _ _ rfl (Below.refl _ _) rfl
          refine ⟨?_, ?_⟩
          · intro vs W hb hD K hK
            have h22 : vs 22 = Value.bool true := hD (22, some 125) List.mem_cons_self
            have h23 : vs 23 = Value.pointer (some ⟨t, 0, none⟩) := hD (23, some 126) (List.mem_cons_of_mem _ List.mem_cons_self)
            simp only [fillL, Act.put, List.setIfInBounds_toArray, List.set_cons_succ, List.set_cons_zero, h22, h23] at hK ⊢
            clear hD h22 h23
            refine want_yes (by kernel_rfl) ?_
            obtain ⟨ht, -⟩ := LAT.out W hb
            go_simp
            refine ⟨trivial, (callsIn_wide.2 (CA.out _ ht)).mono ?_⟩
            rintro e9 wb ⟨bb, v, rfl, own⟩
            exact hK _ _ _ rfl bb (slAt_own own)
          refine ⟨?_, ?_⟩
          · intro vs W hb hD K hK
            have h22 : vs 22 = Value.bool true := hD (22, some 125) List.mem_cons_self
            simp only [fillL, Act.put, List.setIfInBounds_toArray, List.set_cons_succ, List.set_cons_zero, h22] at hK ⊢
            clear hD h22
            refine want_yes (by kernel_rfl) ?_
            go_simp
            exact hK _ _ _ rfl (Below.refl _ _) rfl
          refine ⟨?_, ?_⟩
          · intro vs W hb hD K hK
            have h22 : vs 22 = Value.bool true := hD (22, some 125) List.mem_cons_self
            obtain ⟨x24, hx24⟩ : ∃ x, vs 24 = x := ⟨_, rfl⟩
            have h24 : (fun v W => SlAt v l W) (vs 24) W := hD (24, some 127) (List.mem_cons_of_mem _ List.mem_cons_self)
            rw [hx24] at h24
            have h25 : vs 25 = Value.slice A n cap := hD (25, some 128) (List.mem_cons_of_mem _ (List.mem_cons_of_mem _ List.mem_cons_self))
            simp only [fillL, Act.put, List.setIfInBounds_toArray, List.set_cons_succ, List.set_cons_zero, h22, hx24, h25] at hK ⊢
            clear hD h22 hx24 h25
            refine want_yes (by kernel_rfl) ?_
            obtain ⟨-, hl, -⟩ := LAT.out W hb
            go_simp
            refine ⟨trivial, (callsIn_wide.2 (CQ.out _ _ _ h24 hl)).mono ?_⟩
            rintro e9 wb ⟨rfl, bb⟩
            exact hK _ _ _ rfl bb rfl
          refine ⟨?_, ?_⟩
          · intro vs W hb hD K hK
            have h22 : vs 22 = Value.bool true := hD (22, some 125) List.mem_cons_self
            have h26 : vs 26 = Value.bool true := hD (26, some 129) (List.mem_cons_of_mem _ List.mem_cons_self)
            simp only [fillL, Act.put, List.setIfInBounds_toArray, List.set_cons_succ, List.set_cons_zero, h22, h26] at hK ⊢
            clear hD h22 h26
            refine want_yes (by kernel_rfl) ?_
            go_simp
            exact hK _ _ _ rfl (Below.refl _ _) rfl
          refine ⟨?_, ?_⟩
          · intro vs W hb hD K hK
            have h27 : vs 27 = Value.bool true := hD (27, some 130) List.mem_cons_self
            simp only [fillL, Act.put, List.setIfInBounds_toArray, List.set_cons_succ, List.set_cons_zero, h27] at hK ⊢
            clear hD h27
            refine want_yes (by kernel_rfl) ?_
            go_simp
            exact hK _ _ _ rfl (Below.refl _ _) rfl
          refine ⟨?_, ?_⟩
          · intro vs W hb hD K hK
            have h28 : vs 28 = Value.bool true := hD (28, some 131) List.mem_cons_self
            simp only [fillL, Act.put, List.setIfInBounds_toArray, List.set_cons_succ, List.set_cons_zero, h28] at hK ⊢
            clear hD h28
            refine want_yes (by kernel_rfl) ?_
            go_simp
            refine ⟨trivial, (callsIn_wide.2 (CDO.out _)).mono ?_⟩
            rintro e9 wb ⟨rfl, bb⟩
            exact hK _ _ _ rfl bb rfl
          refine ⟨?_, ?_⟩
          · intro vs W hb hD K hK
            have h28 : vs 28 = Value.bool true := hD (28, some 131) List.mem_cons_self
            have h29 : vs 29 = Value.bool true := hD (29, some 132) (List.mem_cons_of_mem _ List.mem_cons_self)
            simp only [fillL, Act.put, List.setIfInBounds_toArray, List.set_cons_succ, List.set_cons_zero, h28, h29] at hK ⊢
            clear hD h28 h29
            refine want_yes (by kernel_rfl) ?_
            go_simp
            exact hK _ _ _ rfl (Below.refl _ _) rfl
          refine ⟨?_, ?_⟩
          · intro vs W hb hD K hK
            have h30 : vs 30 = Value.bool true := hD (30, some 133) List.mem_cons_self
            simp only [fillL, Act.put, List.setIfInBounds_toArray, List.set_cons_succ, List.set_cons_zero, h30] at hK ⊢
            clear hD h30
            refine want_yes (by kernel_rfl) ?_
            go_simp
            exact hK _ _ _ rfl (Below.refl _ _) rfl
          trivial
        · intro vs W hb hF
          have h0 : vs 0 = Value.slice (some ⟨b12, o12, none⟩) n12 cap12 := hF 0 (by decide)
          have h1 : vs 1 = Value.int .i64 n12 := hF 1 (by decide)
          have h2 : vs 2 = Value.bool true := hF 2 (by decide)
          have h3 : vs 3 = Value.bool true := hF 3 (by decide)
          have h4 : vs 4 = Value.bool true := hF 4 (by decide)
          have h5 : vs 5 = Value.bool true := hF 5 (by decide)
          have h6 : vs 6 = Value.bool true := hF 6 (by decide)
          have h7 : vs 7 = Value.bool false := hF 7 (by decide)
          have h8 : vs 8 = Value.bool false := hF 8 (by decide)
          have h9 : vs 9 = Value.slice (some ⟨b12, o12, none⟩) n12 cap12 := hF 9 (by decide)
          have h10 : vs 10 = Value.pointer (some ⟨b12, o12, none⟩) := hF 10 (by decide)
          have h11 : vs 11 = Value.agg #[.string ⟨x.k.toArray⟩, .int .i64 x.q, .string ⟨x.v.toArray⟩] := hF 11 (by decide)
          have h12 : vs 12 = Value.agg #[.string ⟨x.k.toArray⟩, .int .i64 x.q, .string ⟨x.v.toArray⟩] := hF 12 (by decide)
          have h13 : vs 13 = Value.bool true := hF 13 (by decide)
          have h14 : vs 14 = Value.bool true := hF 14 (by decide)
          have h15 : vs 15 = Value.pointer (some ⟨c6, 0, none⟩) := hF 15 (by decide)
          have h16 : vs 16 = Value.string ⟨x.k.toArray⟩ := hF 16 (by decide)
          have h17 : vs 17 = Value.string ⟨a.toArray⟩ := hF 17 (by decide)
          have h18 : vs 18 = Value.bool true := hF 18 (by decide)
          have h19 : vs 19 = Value.bool true := hF 19 (by decide)
          have h20 : vs 20 = Value.bool true := hF 20 (by decide)
          have h21 : vs 21 = Value.bool true := hF 21 (by decide)
          have h22 : vs 22 = Value.bool true := hF 22 (by decide)
          have h23 : vs 23 = Value.pointer (some ⟨t, 0, none⟩) := hF 23 (by decide)
          obtain ⟨x24, hx24⟩ : ∃ x, vs 24 = x := ⟨_, rfl⟩
          have h24 : (fun v W => SlAt v l W) (vs 24) W := hF 24 (by decide)
          rw [hx24] at h24
          have h25 : vs 25 = Value.slice A n cap := hF 25 (by decide)
          have h26 : vs 26 = Value.bool true := hF 26 (by decide)
          have h27 : vs 27 = Value.bool true := hF 27 (by decide)
          have h28 : vs 28 = Value.bool true := hF 28 (by decide)
          have h29 : vs 29 = Value.bool true := hF 29 (by decide)
          have h30 : vs 30 = Value.bool true := hF 30 (by decide)
          have h31 : vs 31 = Value.bool true := hF 31 (by decide)
          simp only [fillL, Act.put, List.setIfInBounds_toArray, List.set_cons_succ, List.set_cons_zero, h0, h1, h2, h3, h4, h5, h6, h7, h8, h9, h10, h11, h12, h13, h14, h15, h16, h17, h18, h19, h20, h21, h22, h23, hx24, h25, h26, h27, h28, h29, h30, h31]
          clear hF h0 h1 h2 h3 h4 h5 h6 h7 h8 h9 h10 h11 h12 h13 h14 h15 h16 h17 h18 h19 h20 h21 h22 h23 hx24 h25 h26 h27 h28 h29 h30 h31
          obtain ⟨-, -, hB⟩ := LAT.out W hb
          clear LAT CA CQ CDO
          go_wp2_with fail
          go_ret
          exact ⟨rfl, by rw [HX.out]; exact hB⟩
    | false =>
      have hfx := (HCE.out.2 rfl).1
      have hrest : rangeC l a (a ++ [0]) = [] := by
        have h := rangeC_one l a
        rw [hfx] at h
        cases hh : rangeC l a (a ++ [0]) with
        | nil => rfl
        | cons y ys => rw [hh] at h; cases h
      rw [hrest] at S12
      obtain ⟨A12, cap12, rfl, -, -, -⟩ := S12
      have LAT := Lib.hid (fun W (hb : Below w13.drew.heap.size w13.drew W) => (LAT13.out W hb).2)
      rw [show ([] : List Ce).length = 0 from rfl]
      clear hrest hfx LAT13 HCE CO CT
      go_wp2_with fail
      as_aux_lemma =>
        refine (wpIn_wide (n := 5)).1 ?_
        refine wpIn_region_rel [[], [(0, some 103)], [(1, some 104)], [], [(2, some 105), (3, some 106)], [(4, some 107)], [(5, some 108)], [(5, some 108), (6, some 109)], [(5, some 108), (7, some 110)], [(8, some 111)], [(8, some 111), (9, some 112)], [(8, some 111), (10, some 113)], [(8, some 111)], [(8, some 111), (11, some 114), (12, some 115)], [(8, some 111), (13, some 116)], [(14, some 117)], [(14, some 117), (15, some 118)], [(14, some 117)], [(14, some 117), (16, some 119), (17, some 120)], [(8, some 111), (14, some 117), (18, some 121)], [(5, some 108), (8, some 111), (19, some 122)], [(5, some 108), (20, some 123)], [(21, some 124)], [(22, some 125)], [(22, some 125), (23, some 126)], [(22, some 125)], [(22, some 125), (24, some 127), (25, some 128)], [(22, some 125), (26, some 129)], [(27, some 130)], [(28, some 131)], [(28, some 131), (29, some 132)], [(30, some 133)]]
          [fun v _ => v = Value.slice A12 0 cap12, fun v _ => v = Value.int .i64 0, fun v _ => v = Value.bool false, fun v _ => v = Value.bool false, fun v _ => v = Value.bool true, fun v _ => v = Value.bool true, fun v _ => v = Value.bool false, fun v _ => v = Value.bool true, fun v _ => v = Value.bool true, fun v _ => v = undef, fun v _ => v = undef, fun v _ => v = undef, fun v _ => v = undef, fun v _ => v = undef, fun v _ => v = undef, fun v _ => v = undef, fun v _ => v = undef, fun v _ => v = undef, fun v _ => v = undef, fun v _ => v = undef, fun v _ => v = Value.bool true, fun v _ => v = Value.bool true, fun v _ => v = Value.bool true, fun v _ => v = Value.pointer (some ⟨t, 0, none⟩), fun v W => SlAt v l W, fun v _ => v = Value.slice A n cap, fun v _ => v = Value.bool true, fun v _ => v = Value.bool true, fun v _ => v = Value.bool true, fun v _ => v = Value.bool true, fun v _ => v = Value.bool true, fun v _ => v = Value.bool true]
          [(0, some 103), (1, some 104), (2, some 105), (3, some 106), (4, some 107), (5, some 108), (6, some 109), (7, some 110), (8, some 111), (9, some 112), (10, some 113), (11, some 114), (12, some 115), (13, some 116), (14, some 117), (15, some 118), (16, some 119), (17, some 120), (18, some 121), (19, some 122), (20, some 123), (21, some 124), (22, some 125), (23, some 126), (24, some 127), (25, some 128), (26, some 129), (27, some 130), (28, some 131), (29, some 132), (30, some 133), (31, some 4)] (by kernel_rfl) (by kernel_rfl) (by kernel_rfl) ⟨MonoR.is _, MonoR.is _, MonoR.is _, MonoR.is _, MonoR.is _, MonoR.is _, MonoR.is _, MonoR.is _, MonoR.is _, MonoR.is _, MonoR.is _, MonoR.is _, MonoR.is _, MonoR.is _, MonoR.is _, MonoR.is _, MonoR.is _, MonoR.is _, MonoR.is _, MonoR.is _, MonoR.is _, MonoR.is _, MonoR.is _, MonoR.is _, MonoR.sl _, MonoR.is _, MonoR.is _, MonoR.is _, MonoR.is _, MonoR.is _, MonoR.is _, MonoR.is _, trivial⟩ ?_ ?_
        · refine ⟨?_, ?_⟩
          · intro vs W hb hD K hK
            simp only [fillL, Act.put, List.setIfInBounds_toArray, List.set_cons_succ, List.set_cons_zero] at hK ⊢
            clear hD
            refine want_yes (by kernel_rfl) ?_
            go_simp
            exact hK _ _ _ rfl (Below.refl _ _) rfl
          refine ⟨?_, ?_⟩
          · intro vs W hb hD K hK
            have h0 : vs 0 = Value.slice A12 0 cap12 := hD (0, some 103) List.mem_cons_self
            simp only [fillL, Act.put, List.setIfInBounds_toArray, List.set_cons_succ, List.set_cons_zero, h0] at hK ⊢
            clear hD h0
            refine want_yes (by kernel_rfl) ?_
            go_simp
            exact hK _ _ _ rfl (Below.refl _ _) rfl
          refine ⟨?_, ?_⟩
          · intro vs W hb hD K hK
            have h1 : vs 1 = Value.int .i64 0 := hD (1, some 104) List.mem_cons_self
            simp only [fillL, Act.put, List.setIfInBounds_toArray, List.set_cons_succ, List.set_cons_zero, h1] at hK ⊢
            clear hD h1
            refine want_yes (by kernel_rfl) ?_
            go_simp
            exact hK _ _ _ rfl (Below.refl _ _) rfl
          refine ⟨?_, ?_⟩
          · intro vs W hb hD K hK
            simp only [fillL, Act.put, List.setIfInBounds_toArray, List.set_cons_succ, List.set_cons_zero] at hK ⊢
            clear hD
            refine want_yes (by kernel_rfl) ?_
            go_simp
            exact hK _ _ _ rfl (Below.refl _ _) rfl
          refine ⟨?_, ?_⟩
          · intro vs W hb hD K hK
            have h2 : vs 2 = Value.bool false := hD (2, some 105) List.mem_cons_self
            have h3 : vs 3 = Value.bool false := hD (3, some 106) (List.mem_cons_of_mem _ List.mem_cons_self)
            simp only [fillL, Act.put, List.setIfInBounds_toArray, List.set_cons_succ, List.set_cons_zero, h2, h3] at hK ⊢
            clear hD h2 h3
            refine want_yes (by kernel_rfl) ?_
            go_simp
            exact hK _ _ _ rfl (Below.refl _ _) rfl
          refine ⟨?_, ?_⟩
          · intro vs W hb hD K hK
            have h4 : vs 4 = Value.bool true := hD (4, some 107) List.mem_cons_self
            simp only [fillL, Act.put, List.setIfInBounds_toArray, List.set_cons_succ, List.set_cons_zero, h4] at hK ⊢
            clear hD h4
            refine want_yes (by kernel_rfl) ?_
            go_simp
            exact hK _ _ _ rfl (Below.refl _ _) rfl
          refine ⟨?_, ?_⟩
          · intro vs W hb hD K hK
            have h5 : vs 5 = Value.bool true := hD (5, some 108) List.mem_cons_self
            simp only [fillL, Act.put, List.setIfInBounds_toArray, List.set_cons_succ, List.set_cons_zero, h5] at hK ⊢
            clear hD h5
            refine want_yes (by kernel_rfl) ?_
            go_simp
            exact hK _ _ _ rfl (Below.refl _ _) rfl
          refine ⟨?_, ?_⟩
          · intro vs W hb hD K hK
            have h5 : vs 5 = Value.bool true := hD (5, some 108) List.mem_cons_self
            have h6 : vs 6 = Value.bool false := hD (6, some 109) (List.mem_cons_of_mem _ List.mem_cons_self)
            simp only [fillL, Act.put, List.setIfInBounds_toArray, List.set_cons_succ, List.set_cons_zero, h5, h6] at hK ⊢
            clear hD h5 h6
            refine want_yes (by kernel_rfl) ?_
            go_simp
            exact hK _ _ _ rfl (Below.refl _ _) rfl
          refine ⟨?_, ?_⟩
          · intro vs W hb hD K hK
            have h5 : vs 5 = Value.bool true := hD (5, some 108) List.mem_cons_self
            have h7 : vs 7 = Value.bool true := hD (7, some 110) (List.mem_cons_of_mem _ List.mem_cons_self)
            simp only [fillL, Act.put, List.setIfInBounds_toArray, List.set_cons_succ, List.set_cons_zero, h5, h7] at hK ⊢
            clear hD h5 h7
            refine want_yes (by kernel_rfl) ?_
            go_simp
            exact hK _ _ _ rfl (Below.refl _ _) rfl
          refine ⟨?_, ?_⟩
          · intro vs W hb hD K hK
            have h8 : vs 8 = Value.bool true := hD (8, some 111) List.mem_cons_self
            simp only [fillL, Act.put, List.setIfInBounds_toArray, List.set_cons_succ, List.set_cons_zero, h8] at hK ⊢
            clear hD h8
            refine want_no (Bool.eq_false_iff.1 (by kernel_rfl)) ⟨fun _ _ => trivial, ?_⟩
            exact hK _ _ _ rfl (Below.refl _ _) rfl
          refine ⟨?_, ?_⟩
          · intro vs W hb hD K hK
            have h8 : vs 8 = Value.bool true := hD (8, some 111) List.mem_cons_self
            have h9 : vs 9 = undef := hD (9, some 112) (List.mem_cons_of_mem _ List.mem_cons_self)
            simp only [fillL, Act.put, List.setIfInBounds_toArray, List.set_cons_succ, List.set_cons_zero, h8, h9] at hK ⊢
            clear hD h8 h9
            refine want_no (Bool.eq_false_iff.1 (by kernel_rfl)) ⟨fun _ _ => trivial, ?_⟩
            exact hK _ _ _ rfl (Below.refl _ _) rfl
          refine ⟨?_, ?_⟩
          · intro vs W hb hD K hK
            have h8 : vs 8 = Value.bool true := hD (8, some 111) List.mem_cons_self
            have h10 : vs 10 = undef := hD (10, some 113) (List.mem_cons_of_mem _ List.mem_cons_self)
            simp only [fillL, Act.put, List.setIfInBounds_toArray, List.set_cons_succ, List.set_cons_zero, h8, h10] at hK ⊢
            clear hD h8 h10
            refine want_no (Bool.eq_false_iff.1 (by kernel_rfl)) ⟨fun _ _ => trivial, ?_⟩
            exact hK _ _ _ rfl (Below.refl _ _) rfl
          refine ⟨?_, ?_⟩
          · intro vs W hb hD K hK
            have h8 : vs 8 = Value.bool true := hD (8, some 111) List.mem_cons_self
            simp only [fillL, Act.put, List.setIfInBounds_toArray, List.set_cons_succ, List.set_cons_zero, h8] at hK ⊢
            clear hD h8
            refine want_no (Bool.eq_false_iff.1 (by kernel_rfl)) ⟨fun _ _ => trivial, ?_⟩
            exact hK _ _ _ rfl (Below.refl _ _) rfl
          refine ⟨?_, ?_⟩
          · intro vs W hb hD K hK
            have h8 : vs 8 = Value.bool true := hD (8, some 111) List.mem_cons_self
            have h11 : vs 11 = undef := hD (11, some 114) (List.mem_cons_of_mem _ List.mem_cons_self)
            have h12 : vs 12 = undef := hD (12, some 115) (List.mem_cons_of_mem _ (List.mem_cons_of_mem _ List.mem_cons_self))
            simp only [fillL, Act.put, List.setIfInBounds_toArray, List.set_cons_succ, List.set_cons_zero, h8, h11, h12] at hK ⊢
            clear hD h8 h11 h12
            refine want_no (Bool.eq_false_iff.1 (by kernel_rfl)) ⟨fun _ _ => trivial, ?_⟩
            exact hK _ _ _ rfl (Below.refl _ _) rfl
          refine ⟨?_, ?_⟩
          · intro vs W hb hD K hK
            have h8 : vs 8 = Value.bool true := hD (8, some 111) List.mem_cons_self
            have h13 : vs 13 = undef := hD (13, some 116) (List.mem_cons_of_mem _ List.mem_cons_self)
            simp only [fillL, Act.put, List.setIfInBounds_toArray, List.set_cons_succ, List.set_cons_zero, h8, h13] at hK ⊢
            clear hD h8 h13
            refine want_no (Bool.eq_false_iff.1 (by kernel_rfl)) ⟨fun _ _ => trivial, ?_⟩
            exact hK _ _ _ rfl (Below.refl _ _) rfl
          refine ⟨?_, ?_⟩
          · intro vs W hb hD K hK
            have h14 : vs 14 = undef := hD (14, some 117) List.mem_cons_self
            simp only [fillL, Act.put, List.setIfInBounds_toArray, List.set_cons_succ, List.set_cons_zero, h14] at hK ⊢
            clear hD h14
            refine want_no (Bool.eq_false_iff.1 (by kernel_rfl)) ⟨fun _ _ => trivial, ?_⟩
            exact hK _ _ _ rfl (Below.refl _ _) rfl
          refine ⟨?_, ?_⟩
          · intro vs W hb hD K hK
            have h14 : vs 14 = undef := hD (14, some 117) List.mem_cons_self
            have h15 : vs 15 = undef := hD (15, some 118) (List.mem_cons_of_mem _ List.mem_cons_self)
            simp only [fillL, Act.put, List.setIfInBounds_toArray, List.set_cons_succ, List.set_cons_zero, h14, h15] at hK ⊢
            clear hD h14 h15
            refine want_no (Bool.eq_false_iff.1 (by kernel_rfl)) ⟨fun _ _ => trivial, ?_⟩
            exact hK _ _ _ rfl (Below.refl _ _) rfl
          refine ⟨?_, ?_⟩
          · intro vs W hb hD K hK
            have h14 : vs 14 = undef := hD (14, some 117) List.mem_cons_self
            simp only [fillL, Act.put, List.setIfInBounds_toArray, List.set_cons_succ, List.set_cons_zero, h14] at hK ⊢
            clear hD h14
            refine want_no (Bool.eq_false_iff.1 (by kernel_rfl)) ⟨fun _ _ => trivial, ?_⟩
            exact hK _ _ _ rfl (Below.refl _ _) rfl
          refine ⟨?_, ?_⟩
          · intro vs W hb hD K hK
            have h14 : vs 14 = undef := hD (14, some 117) List.mem_cons_self
            have h16 : vs 16 = undef := hD (16, some 119) (List.mem_cons_of_mem _ List.mem_cons_self)
            have h17 : vs 17 = undef := hD (17, some 120) (List.mem_cons_of_mem _ (List.mem_cons_of_mem _ List.mem_cons_self))
            simp only [fillL, Act.put, List.setIfInBounds_toArray, List.set_cons_succ, List.set_cons_zero, h14, h16, h17] at hK ⊢
            clear hD h14 h16 h17
            refine want_no (Bool.eq_false_iff.1 (by kernel_rfl)) ⟨fun _ _ => trivial, ?_⟩
            exact hK _ _ _ rfl (Below.refl _ _) rfl
          refine ⟨?_, ?_⟩
          · intro vs W hb hD K hK
            have h8 : vs 8 = Value.bool true := hD (8, some 111) List.mem_cons_self
            have h14 : vs 14 = undef := hD (14, some 117) (List.mem_cons_of_mem _ List.mem_cons_self)
            have h18 : vs 18 = undef := hD (18, some 121) (List.mem_cons_of_mem _ (List.mem_cons_of_mem _ List.mem_cons_self))
            simp only [fillL, Act.put, List.setIfInBounds_toArray, List.set_cons_succ, List.set_cons_zero, h8, h14, h18] at hK ⊢
            clear hD h8 h14 h18
            refine want_no (Bool.eq_false_iff.1 (by kernel_rfl)) ⟨fun _ _ => trivial, ?_⟩
            exact hK _ _ _ rfl (Below.refl _ _) rfl
          refine ⟨?_, ?_⟩
          · intro vs W hb hD K hK
            have h5 : vs 5 = Value.bool true := hD (5, some 108) List.mem_cons_self
            have h8 : vs 8 = Value.bool true := hD (8, some 111) (List.mem_cons_of_mem _ List.mem_cons_self)
            have h19 : vs 19 = undef := hD (19, some 122) (List.mem_cons_of_mem _ (List.mem_cons_of_mem _ List.mem_cons_self))
            simp only [fillL, Act.put, List.setIfInBounds_toArray, List.set_cons_succ, List.set_cons_zero, h5, h8, h19] at hK ⊢
            clear hD h5 h8 h19
            refine want_yes (by kernel_rfl) ?_
            go_simp
            exact hK _ _ _ rfl (Below.refl _ _) rfl
          refine ⟨?_, ?_⟩
          · intro vs W hb hD K hK
            have h5 : vs 5 = Value.bool true := hD (5, some 108) List.mem_cons_self
            have h20 : vs 20 = Value.bool true := hD (20, some 123) (List.mem_cons_of_mem _ List.mem_cons_self)
            simp only [fillL, Act.put, List.setIfInBounds_toArray, List.set_cons_succ, List.set_cons_zero, h5, h20] at hK ⊢
            clear hD h5 h20
            refine want_yes (by kernel_rfl) ?_
            go_simp
            exact hK _ _ _ rfl (Below.refl _ _) rfl
          refine ⟨?_, ?_⟩
          · intro vs W hb hD K hK
            have h21 : vs 21 = Value.bool true := hD (21, some 124) List.mem_cons_self
            simp only [fillL, Act.put, List.setIfInBounds_toArray, List.set_cons_succ, List.set_cons_zero, h21] at hK ⊢
            clear hD h21
            refine want_yes (by kernel_rfl) ?_
            go_simp
            exact hK _ _ _ rfl (Below.refl _ _) rfl
          refine ⟨?_, ?_⟩
          · intro vs W hb hD K hK
            have h22 : vs 22 = Value.bool true := hD (22, some 125) List.mem_cons_self
            simp only [fillL, Act.put, List.setIfInBounds_toArray, List.set_cons_succ, List.set_cons_zero, h22] at hK ⊢
            clear hD h22
            refine want_yes (by kernel_rfl) ?_
            go_simp
            exact hK _ _ _ rfl (Below.refl _ _) rfl
          refine ⟨?_, ?_⟩
          · intro vs W hb hD K hK
            have h22 : vs 22 = Value.bool true := hD (22, some 125) List.mem_cons_self
            have h23 : vs 23 = Value.pointer (some ⟨t, 0, none⟩) := hD (23, some 126) (List.mem_cons_of_mem _ List.mem_cons_self)
            simp only [fillL, Act.put, List.setIfInBounds_toArray, List.set_cons_succ, List.set_cons_zero, h22, h23] at hK ⊢
            clear hD h22 h23
            refine want_yes (by kernel_rfl) ?_
            obtain ⟨ht, -⟩ := LAT.out W hb
            go_simp
            refine ⟨trivial, (callsIn_wide.2 (CA.out _ ht)).mono ?_⟩
            rintro e9 wb ⟨bb, v, rfl, own⟩
            exact hK _ _ _ rfl bb (slAt_own own)
          refine ⟨?_, ?_⟩
          · intro vs W hb hD K hK
            have h22 : vs 22 = Value.bool true := hD (22, some 125) List.mem_cons_self
            simp only [fillL, Act.put, List.setIfInBounds_toArray, List.set_cons_succ, List.set_cons_zero, h22] at hK ⊢
            clear hD h22
            refine want_yes (by kernel_rfl) ?_
            go_simp
            exact hK _ _ _ rfl (Below.refl _ _) rfl
          refine ⟨?_, ?_⟩
          · intro vs W hb hD K hK
            have h22 : vs 22 = Value.bool true := hD (22, some 125) List.mem_cons_self
            obtain ⟨x24, hx24⟩ : ∃ x, vs 24 = x := ⟨_, rfl⟩
            have h24 : (fun v W => SlAt v l W) (vs 24) W := hD (24, some 127) (List.mem_cons_of_mem _ List.mem_cons_self)
            rw [hx24] at h24
            have h25 : vs 25 = Value.slice A n cap := hD (25, some 128) (List.mem_cons_of_mem _ (List.mem_cons_of_mem _ List.mem_cons_self))
            simp only [fillL, Act.put, List.setIfInBounds_toArray, List.set_cons_succ, List.set_cons_zero, h22, hx24, h25] at hK ⊢
            clear hD h22 hx24 h25
            refine want_yes (by kernel_rfl) ?_
            obtain ⟨-, hl, -⟩ := LAT.out W hb
            go_simp
            refine ⟨trivial, (callsIn_wide.2 (CQ.out _ _ _ h24 hl)).mono ?_⟩
            rintro e9 wb ⟨rfl, bb⟩
            exact hK _ _ _ rfl bb rfl
          refine ⟨?_, ?_⟩
          · intro vs W hb hD K hK
            have h22 : vs 22 = Value.bool true := hD (22, some 125) List.mem_cons_self
            have h26 : vs 26 = Value.bool true := hD (26, some 129) (List.mem_cons_of_mem _ List.mem_cons_self)
            simp only [fillL, Act.put, List.setIfInBounds_toArray, List.set_cons_succ, List.set_cons_zero, h22, h26] at hK ⊢
            clear hD h22 h26
            refine want_yes (by kernel_rfl) ?_
            go_simp
            exact hK _ _ _ rfl (Below.refl _ _) rfl
          refine ⟨?_, ?_⟩
          · intro vs W hb hD K hK
            have h27 : vs 27 = Value.bool true := hD (27, some 130) List.mem_cons_self
            simp only [fillL, Act.put, List.setIfInBounds_toArray, List.set_cons_succ, List.set_cons_zero, h27] at hK ⊢
            clear hD h27
            refine want_yes (by kernel_rfl) ?_
            go_simp
            exact hK _ _ _ rfl (Below.refl _ _) rfl
          refine ⟨?_, ?_⟩
          · intro vs W hb hD K hK
            have h28 : vs 28 = Value.bool true := hD (28, some 131) List.mem_cons_self
            simp only [fillL, Act.put, List.setIfInBounds_toArray, List.set_cons_succ, List.set_cons_zero, h28] at hK ⊢
            clear hD h28
            refine want_yes (by kernel_rfl) ?_
            go_simp
            refine ⟨trivial, (callsIn_wide.2 (CDO.out _)).mono ?_⟩
            rintro e9 wb ⟨rfl, bb⟩
            exact hK _ _ _ rfl bb rfl
          refine ⟨?_, ?_⟩
          · intro vs W hb hD K hK
            have h28 : vs 28 = Value.bool true := hD (28, some 131) List.mem_cons_self
            have h29 : vs 29 = Value.bool true := hD (29, some 132) (List.mem_cons_of_mem _ List.mem_cons_self)
            simp only [fillL, Act.put, List.setIfInBounds_toArray, List.set_cons_succ, List.set_cons_zero, h28, h29] at hK ⊢
            clear hD h28 h29
            refine want_yes (by kernel_rfl) ?_
            go_simp
            exact hK _ _ _ rfl (Below.refl _ _) rfl
          refine ⟨?_, ?_⟩
          · intro vs W hb hD K hK
            have h30 : vs 30 = Value.bool true := hD (30, some 133) List.mem_cons_self
            simp only [fillL, Act.put, List.setIfInBounds_toArray, List.set_cons_succ, List.set_cons_zero, h30] at hK ⊢
            clear hD h30
            refine want_yes (by kernel_rfl) ?_
            go_simp
            exact hK _ _ _ rfl (Below.refl _ _) rfl
          trivial
        · intro vs W hb hF
          have h0 : vs 0 = Value.slice A12 0 cap12 := hF 0 (by decide)
          have h1 : vs 1 = Value.int .i64 0 := hF 1 (by decide)
          have h2 : vs 2 = Value.bool false := hF 2 (by decide)
          have h3 : vs 3 = Value.bool false := hF 3 (by decide)
          have h4 : vs 4 = Value.bool true := hF 4 (by decide)
          have h5 : vs 5 = Value.bool true := hF 5 (by decide)
          have h6 : vs 6 = Value.bool false := hF 6 (by decide)
          have h7 : vs 7 = Value.bool true := hF 7 (by decide)
          have h8 : vs 8 = Value.bool true := hF 8 (by decide)
          have h9 : vs 9 = undef := hF 9 (by decide)
          have h10 : vs 10 = undef := hF 10 (by decide)
          have h11 : vs 11 = undef := hF 11 (by decide)
          have h12 : vs 12 = undef := hF 12 (by decide)
          have h13 : vs 13 = undef := hF 13 (by decide)
          have h14 : vs 14 = undef := hF 14 (by decide)
          have h15 : vs 15 = undef := hF 15 (by decide)
          have h16 : vs 16 = undef := hF 16 (by decide)
          have h17 : vs 17 = undef := hF 17 (by decide)
          have h18 : vs 18 = undef := hF 18 (by decide)
          have h19 : vs 19 = undef := hF 19 (by decide)
          have h20 : vs 20 = Value.bool true := hF 20 (by decide)
          have h21 : vs 21 = Value.bool true := hF 21 (by decide)
          have h22 : vs 22 = Value.bool true := hF 22 (by decide)
          have h23 : vs 23 = Value.pointer (some ⟨t, 0, none⟩) := hF 23 (by decide)
          obtain ⟨x24, hx24⟩ : ∃ x, vs 24 = x := ⟨_, rfl⟩
          have h24 : (fun v W => SlAt v l W) (vs 24) W := hF 24 (by decide)
          rw [hx24] at h24
          have h25 : vs 25 = Value.slice A n cap := hF 25 (by decide)
          have h26 : vs 26 = Value.bool true := hF 26 (by decide)
          have h27 : vs 27 = Value.bool true := hF 27 (by decide)
          have h28 : vs 28 = Value.bool true := hF 28 (by decide)
          have h29 : vs 29 = Value.bool true := hF 29 (by decide)
          have h30 : vs 30 = Value.bool true := hF 30 (by decide)
          have h31 : vs 31 = Value.bool true := hF 31 (by decide)
          simp only [fillL, Act.put, List.setIfInBounds_toArray, List.set_cons_succ, List.set_cons_zero, h0, h1, h2, h3, h4, h5, h6, h7, h8, h9, h10, h11, h12, h13, h14, h15, h16, h17, h18, h19, h20, h21, h22, h23, hx24, h25, h26, h27, h28, h29, h30, h31]
          clear hF h0 h1 h2 h3 h4 h5 h6 h7 h8 h9 h10 h11 h12 h13 h14 h15 h16 h17 h18 h19 h20 h21 h22 h23 hx24 h25 h26 h27 h28 h29 h30 h31
          obtain ⟨-, -, hB⟩ := LAT.out W hb
          clear LAT CA CQ CDO
          go_wp2_with fail
          go_ret
          exact ⟨rfl, by rw [HX.out]; exact hB⟩
  · have hcond : ∀ x y z u : Bool, (Op.bytesLess a b || a == b) = x → (Op.bytesLess b c || b == c) = y → (b == ([] : List UInt8)) = z → (c == ([] : List UInt8)) = u → (!x || !y || z || u) = true := by
      intro x y z u h1 h2 h3 h4
      have hz : z = false → b ≠ [] := fun hz => by rw [hz, beq_eq_false_iff_ne] at h3; exact h3
      have hu : u = false → c ≠ [] := fun hu => by rw [hu, beq_eq_false_iff_ne] at h4; exact h4
      cases x with
      | false => rfl
      | true =>
        cases y with
        | false => rfl
        | true =>
          cases z with
          | true => rfl
          | false =>
            cases u with
            | true => rfl
            | false => exact absurd ⟨h1, h2, hz rfl, hu rfl⟩ hC
    have HCO := Lib.hid hcond
    clear hcond hC
    by_cases hb0 : b = []
    · have e3 : (b != ([] : List UInt8)) = false := by rw [hb0]; rfl
      have e5 : (b == ([] : List UInt8)) = true := by rw [hb0]; rfl
      clear hb0
      go_upto_region 7 with fail
      go_cut [62] (fun v wx => v = .bool false ∧ wx = W)
      case first =>
        cases h1 : (Op.bytesLess a b || a == b) <;> cases h2 : (Op.bytesLess b c || b == c) <;> (go_wp2_with fail; go_meet; exact ⟨rfl, rfl⟩)
      obtain ⟨hcv, hwx⟩ := hcut
      subst hcv hwx
      go_wp2_with fail
      refine (CT.out _ (LAT5.out _ (Below.refl _ _)).1).mono ?_
      rintro e w11 ⟨rfl, b11⟩
      have LAT11 := Lib.hid (fun W (hb : Below w11.heap.size w11 W) => LAT5.out W (btB b11 hb))
      clear b11 LAT5
      have nb6 := (Below.refl w11.heap.size w11).alloc (Nat.le_refl _) (boxC Ce.zero)
      have q6 := CeAt.boxed Ce.zero w11
      obtain ⟨c6, hc6⟩ : ∃ c6, w11.heap.size = c6 := ⟨_, rfl⟩
      have hcc6 : w11.heap.size ≤ c6 := by omega
      rw [hc6] at q6
      obtain ⟨v6, hv6⟩ : ∃ v6, w11.alloc (boxC Ce.zero) = v6 := ⟨_, rfl⟩
      have hvv6 : w11.alloc (.cells #[.string ⟨#[]⟩, .int .i64 0, .string ⟨#[]⟩] 36) = v6 := hv6
      rw [hv6] at nb6 q6
      obtain ⟨y0, y1, y2⟩ := q6.cell
      obtain ⟨z0, z1, z2⟩ := q6.frees
      unfold Ce.zero at y0 y1 y2
      dsimp only at y0 y1 y2
      have HQ6 := Lib.hid (q6.all nb6 hcc6 x)
      have hlt6 := q6.lt
      obtain ⟨hal, hal2⟩ := HK.out
      clear nb6 hv6 q6
      go_wp2_with fail
      clear hal hal2
      obtain ⟨qq6, bb6⟩ := HQ6.out
      generalize (((v6.setCell ⟨c6, 0, none⟩ (.string ⟨(x).k.toArray⟩)).setCell ⟨c6, 1, none⟩ (.int .i64 (x).q)).setCell ⟨c6, 2, none⟩ (.string ⟨(x).v.toArray⟩)) = w12 at *
      have LAT12 := Lib.hid (fun W (hb : Below w12.heap.size w12 W) => And.intro (qq6.later hb qq6.lt) (LAT11.out W (btB bb6 hb)))
      clear y0 y1 y2 z0 z1 z2 HQ6 hvv6 bb6 qq6 LAT11
      refine (CO.out _ (LAT12.out _ (Below.refl _ _)).2.1).mono ?_
      rintro e w13 ⟨b13, v12, rfl, own12⟩
      have LAT13 := Lib.hid (fun W (hb : Below w13.drew.heap.size w13.drew W) => LAT12.out W (btB b13 ((Below.drew (Below.refl w13.heap.size w13)).trans hb)))
      have S12 := slAt_own own12
      clear own12 b13 LAT12
      cases ob with
      | true =>
        have hfx := HCE.out.1 rfl
        obtain ⟨rest, hrest⟩ : ∃ rest, rangeC l a (a ++ [0]) = x :: rest := by
          have h := rangeC_one l a
          rw [hfx] at h
          cases hh : rangeC l a (a ++ [0]) with
          | nil => rw [hh] at h; cases h
          | cons y ys => rw [hh] at h; cases h; exact ⟨ys, rfl⟩
        have hxk : (x.k == a) = true := by rw [beq_iff_eq]; exact (find_some_key hfx).2
        rw [hrest] at S12
        obtain ⟨A12, cap12, rfl, h12, m12, r12⟩ := S12
        obtain ⟨b12, o12, rfl, row12⟩ := r12 (by simp)
        obtain ⟨n12, hn12⟩ : ∃ n12, (x :: rest).length = n12 := ⟨_, rfl⟩
        have hn0 : 0 < n12 := by rw [← hn12]; simp
        have hn0i : (0 : Int) < (n12 : Int) := by omega
        have LD := Lib.hid (fun W (hb : Below w13.drew.heap.size w13.drew W) => And.intro (show W.cell? ⟨b12, o12, none⟩ = some (.string ⟨x.k.toArray⟩) ∧ W.cell? ⟨b12, o12 + 1, none⟩ = some (.int .i64 x.q) ∧ W.cell? ⟨b12, o12 + 2, none⟩ = some (.string ⟨x.v.toArray⟩) from by have h := ((row12.later (Below.drew (Below.refl w13.heap.size w13)) row12.1).later hb row12.1).cells (i := 0) (by simp); simpa using h) (LAT13.out W hb).1.cell)
        have LAT := Lib.hid (fun W (hb : Below w13.drew.heap.size w13.drew W) => (LAT13.out W hb).2)
        rw [hn12] at h12 ⊢
        clear hrest hfx row12 r12 m12 h12 hn12 LAT13 HCE CO CT
        go_wp2_with fail
        as_aux_lemma =>
          refine (wpIn_wide (n := 5)).1 ?_
          refine wpIn_region_rel [[], [(0, some 103)], [(1, some 104)], [], [(2, some 105), (3, some 106)], [(4, some 107)], [(5, some 108)], [(5, some 108), (6, some 109)], [(5, some 108), (7, some 110)], [(8, some 111)], [(8, some 111), (9, some 112)], [(8, some 111), (10, some 113)], [(8, some 111)], [(8, some 111), (11, some 114), (12, some 115)], [(8, some 111), (13, some 116)], [(14, some 117)], [(14, some 117), (15, some 118)], [(14, some 117)], [(14, some 117), (16, some 119), (17, some 120)], [(8, some 111), (14, some 117), (18, some 121)], [(5, some 108), (8, some 111), (19, some 122)], [(5, some 108), (20, some 123)], [(21, some 124)], [(22, some 125)], [(22, some 125), (23, some 126)], [(22, some 125)], [(22, some 125), (24, some 127), (25, some 128)], [(22, some 125), (26, some 129)], [(27, some 130)], [(28, some 131)], [(28, some 131), (29, some 132)], [(30, some 133)]]
            [fun v _ => v = Value.slice (some ⟨b12, o12, none⟩) n12 cap12, fun v _ => v = Value.int .i64 n12, fun v _ => v = Value.bool true, fun v _ => v = Value.bool true, fun v _ => v = Value.bool true, fun v _ => v = Value.bool true, fun v _ => v = Value.bool true, fun v _ => v = Value.bool false, fun v _ => v = Value.bool false, fun v _ => v = Value.slice (some ⟨b12, o12, none⟩) n12 cap12, fun v _ => v = Value.pointer (some ⟨b12, o12, none⟩), fun v _ => v = Value.agg #[.string ⟨x.k.toArray⟩, .int .i64 x.q, .string ⟨x.v.toArray⟩], fun v _ => v = Value.agg #[.string ⟨x.k.toArray⟩, .int .i64 x.q, .string ⟨x.v.toArray⟩], fun v _ => v = Value.bool true, fun v _ => v = Value.bool true, fun v _ => v = Value.pointer (some ⟨c6, 0, none⟩), fun v _ => v = Value.string ⟨x.k.toArray⟩, fun v _ => v = Value.string ⟨a.toArray⟩, fun v _ => v = Value.bool true, fun v _ => v = Value.bool true, fun v _ => v = Value.bool true, fun v _ => v = Value.bool true, fun v _ => v = Value.bool true, fun v _ => v = Value.pointer (some ⟨t, 0, none⟩), fun v W => SlAt v l W, fun v _ => v = Value.slice A n cap, fun v _ => v = Value.bool true, fun v _ => v = Value.bool true, fun v _ => v = Value.bool true, fun v _ => v = Value.bool true, fun v _ => v = Value.bool true, fun v _ => v = Value.bool true]
            [(0, some 103), (1, some 104), (2, some 105), (3, some 106), (4, some 107), (5, some 108), (6, some 109), (7, some 110), (8, some 111), (9, some 112), (10, some 113), (11, some 114), (12, some 115), (13, some 116), (14, some 117), (15, some 118), (16, some 119), (17, some 120), (18, some 121), (19, some 122), (20, some 123), (21, some 124), (22, some 125), (23, some 126), (24, some 127), (25, some 128), (26, some 129), (27, some 130), (28, some 131), (29, some 132), (30, some 133), (31, some 4)] (by kernel_rfl) (by kernel_rfl) (by kernel_rfl) ⟨MonoR.is _, MonoR.is _, MonoR.is _, MonoR.is _, MonoR.is _, MonoR.is _, MonoR.is _, MonoR.is _, MonoR.is _, MonoR.is _, MonoR.is _, MonoR.is _, MonoR.is _, MonoR.is _, MonoR.is _, MonoR.is _, MonoR.is _, MonoR.is _, MonoR.is _, MonoR.is _, MonoR.is _, MonoR.is _, MonoR.is _, MonoR.is _, MonoR.sl _, MonoR.is _, MonoR.is _, MonoR.is _, MonoR.is _, MonoR.is _, MonoR.is _, MonoR.is _, trivial⟩ ?_ ?_
          · refine ⟨?_, ?_⟩
            · intro vs W hb hD K hK
              simp only [fillL, Act.put, List.setIfInBounds_toArray, List.set_cons_succ, List.set_cons_zero] at hK ⊢
              clear hD
              refine want_yes (by kernel_rfl) ?_
              go_simp
              exact hK _ _ _ rfl (Below.refl _ _) rfl
            refine ⟨?_, ?_⟩
            · intro vs W hb hD K hK
              have h0 : vs 0 = Value.slice (some ⟨b12, o12, none⟩) n12 cap12 := hD (0, some 103) List.mem_cons_self
              simp only [fillL, Act.put, List.setIfInBounds_toArray, List.set_cons_succ, List.set_cons_zero, h0] at hK ⊢
              clear hD h0
              refine want_yes (by kernel_rfl) ?_
              go_simp
              exact hK _ _ _ rfl (Below.refl _ _) rfl
            refine ⟨?_, ?_⟩
            · intro vs W hb hD K hK
              have h1 : vs 1 = Value.int .i64 n12 := hD (1, some 104) List.mem_cons_self
              simp only [fillL, Act.put, List.setIfInBounds_toArray, List.set_cons_succ, List.set_cons_zero, h1] at hK ⊢
              clear hD h1
              refine want_yes (by kernel_rfl) ?_
              go_simp
              exact hK _ _ _ rfl (Below.refl _ _) rfl
            refine ⟨?_, ?_⟩
            · intro vs W hb hD K hK
              simp only [fillL, Act.put, List.setIfInBounds_toArray, List.set_cons_succ, List.set_cons_zero] at hK ⊢
              clear hD
              refine want_yes (by kernel_rfl) ?_
              go_simp
              exact hK _ _ _ rfl (Below.refl _ _) rfl
            refine ⟨?_, ?_⟩
            · intro vs W hb hD K hK
              have h2 : vs 2 = Value.bool true := hD (2, some 105) List.mem_cons_self
              have h3 : vs 3 = Value.bool true := hD (3, some 106) (List.mem_cons_of_mem _ List.mem_cons_self)
              simp only [fillL, Act.put, List.setIfInBounds_toArray, List.set_cons_succ, List.set_cons_zero, h2, h3] at hK ⊢
              clear hD h2 h3
              refine want_yes (by kernel_rfl) ?_
              go_simp
              exact hK _ _ _ rfl (Below.refl _ _) rfl
            refine ⟨?_, ?_⟩
            · intro vs W hb hD K hK
              have h4 : vs 4 = Value.bool true := hD (4, some 107) List.mem_cons_self
              simp only [fillL, Act.put, List.setIfInBounds_toArray, List.set_cons_succ, List.set_cons_zero, h4] at hK ⊢
              clear hD h4
              refine want_yes (by kernel_rfl) ?_
              go_simp
              exact hK _ _ _ rfl (Below.refl _ _) rfl
            refine ⟨?_, ?_⟩
            · intro vs W hb hD K hK
              have h5 : vs 5 = Value.bool true := hD (5, some 108) List.mem_cons_self
              simp only [fillL, Act.put, List.setIfInBounds_toArray, List.set_cons_succ, List.set_cons_zero, h5] at hK ⊢
              clear hD h5
              refine want_yes (by kernel_rfl) ?_
              go_simp
              exact hK _ _ _ rfl (Below.refl _ _) rfl
            refine ⟨?_, ?_⟩
            · intro vs W hb hD K hK
              have h5 : vs 5 = Value.bool true := hD (5, some 108) List.mem_cons_self
              have h6 : vs 6 = Value.bool true := hD (6, some 109) (List.mem_cons_of_mem _ List.mem_cons_self)
              simp only [fillL, Act.put, List.setIfInBounds_toArray, List.set_cons_succ, List.set_cons_zero, h5, h6] at hK ⊢
              clear hD h5 h6
              refine want_yes (by kernel_rfl) ?_
              go_simp
              exact hK _ _ _ rfl (Below.refl _ _) rfl
            refine ⟨?_, ?_⟩
            · intro vs W hb hD K hK
              have h5 : vs 5 = Value.bool true := hD (5, some 108) List.mem_cons_self
              have h7 : vs 7 = Value.bool false := hD (7, some 110) (List.mem_cons_of_mem _ List.mem_cons_self)
              simp only [fillL, Act.put, List.setIfInBounds_toArray, List.set_cons_succ, List.set_cons_zero, h5, h7] at hK ⊢
              clear hD h5 h7
              refine want_yes (by kernel_rfl) ?_
              go_simp
              exact hK _ _ _ rfl (Below.refl _ _) rfl
            refine ⟨?_, ?_⟩
            · intro vs W hb hD K hK
              have h8 : vs 8 = Value.bool false := hD (8, some 111) List.mem_cons_self
              simp only [fillL, Act.put, List.setIfInBounds_toArray, List.set_cons_succ, List.set_cons_zero, h8] at hK ⊢
              clear hD h8
              refine want_yes (by kernel_rfl) ?_
              go_simp
              exact hK _ _ _ rfl (Below.refl _ _) rfl
            refine ⟨?_, ?_⟩
            · intro vs W hb hD K hK
              have h8 : vs 8 = Value.bool false := hD (8, some 111) List.mem_cons_self
              have h9 : vs 9 = Value.slice (some ⟨b12, o12, none⟩) n12 cap12 := hD (9, some 112) (List.mem_cons_of_mem _ List.mem_cons_self)
              simp only [fillL, Act.put, List.setIfInBounds_toArray, List.set_cons_succ, List.set_cons_zero, h8, h9] at hK ⊢
              clear hD h8 h9
              refine want_yes (by kernel_rfl) ?_
              go_simp
              exact hK _ _ _ rfl (Below.refl _ _) rfl
            refine ⟨?_, ?_⟩
            · intro vs W hb hD K hK
              have h8 : vs 8 = Value.bool false := hD (8, some 111) List.mem_cons_self
              have h10 : vs 10 = Value.pointer (some ⟨b12, o12, none⟩) := hD (10, some 113) (List.mem_cons_of_mem _ List.mem_cons_self)
              simp only [fillL, Act.put, List.setIfInBounds_toArray, List.set_cons_succ, List.set_cons_zero, h8, h10] at hK ⊢
              clear hD h8 h10
              refine want_yes (by kernel_rfl) ?_
              obtain ⟨⟨a0, a1, a2⟩, ⟨b0, b1, b2⟩⟩ := LD.out W hb
              go_simp
              exact hK _ _ _ rfl (Below.refl _ _) rfl
            refine ⟨?_, ?_⟩
            · intro vs W hb hD K hK
              have h8 : vs 8 = Value.bool false := hD (8, some 111) List.mem_cons_self
              simp only [fillL, Act.put, List.setIfInBounds_toArray, List.set_cons_succ, List.set_cons_zero, h8] at hK ⊢
              clear hD h8
              refine want_yes (by kernel_rfl) ?_
              obtain ⟨⟨a0, a1, a2⟩, ⟨b0, b1, b2⟩⟩ := LD.out W hb
              go_simp
              exact hK _ _ _ rfl (Below.refl _ _) rfl
            refine ⟨?_, ?_⟩
            · intro vs W hb hD K hK
              have h8 : vs 8 = Value.bool false := hD (8, some 111) List.mem_cons_self
              have h11 : vs 11 = Value.agg #[.string ⟨x.k.toArray⟩, .int .i64 x.q, .string ⟨x.v.toArray⟩] := hD (11, some 114) (List.mem_cons_of_mem _ List.mem_cons_self)
              have h12 : vs 12 = Value.agg #[.string ⟨x.k.toArray⟩, .int .i64 x.q, .string ⟨x.v.toArray⟩] := hD (12, some 115) (List.mem_cons_of_mem _ (List.mem_cons_of_mem _ List.mem_cons_self))
              simp only [fillL, Act.put, List.setIfInBounds_toArray, List.set_cons_succ, List.set_cons_zero, h8, h11, h12] at hK ⊢
              clear hD h8 h11 h12
              refine want_yes (by kernel_rfl) ?_
              have k1 : (x.k == x.k) = true := by simp
              have k2 : (x.v == x.v) = true := by simp
              go_simp
              exact hK _ _ _ rfl (Below.refl _ _) rfl
            refine ⟨?_, ?_⟩
            · intro vs W hb hD K hK
              have h8 : vs 8 = Value.bool false := hD (8, some 111) List.mem_cons_self
              have h13 : vs 13 = Value.bool true := hD (13, some 116) (List.mem_cons_of_mem _ List.mem_cons_self)
              simp only [fillL, Act.put, List.setIfInBounds_toArray, List.set_cons_succ, List.set_cons_zero, h8, h13] at hK ⊢
              clear hD h8 h13
              refine want_yes (by kernel_rfl) ?_
              go_simp
              exact hK _ _ _ rfl (Below.refl _ _) rfl
            refine ⟨?_, ?_⟩
            · intro vs W hb hD K hK
              have h14 : vs 14 = Value.bool true := hD (14, some 117) List.mem_cons_self
              simp only [fillL, Act.put, List.setIfInBounds_toArray, List.set_cons_succ, List.set_cons_zero, h14] at hK ⊢
              clear hD h14
              refine want_yes (by kernel_rfl) ?_
              go_simp
              exact hK _ _ _ rfl (Below.refl _ _) rfl
            refine ⟨?_, ?_⟩
            · intro vs W hb hD K hK
              have h14 : vs 14 = Value.bool true := hD (14, some 117) List.mem_cons_self
              have h15 : vs 15 = Value.pointer (some ⟨c6, 0, none⟩) := hD (15, some 118) (List.mem_cons_of_mem _ List.mem_cons_self)
              simp only [fillL, Act.put, List.setIfInBounds_toArray, List.set_cons_succ, List.set_cons_zero, h14, h15] at hK ⊢
              clear hD h14 h15
              refine want_yes (by kernel_rfl) ?_
              obtain ⟨⟨a0, a1, a2⟩, ⟨b0, b1, b2⟩⟩ := LD.out W hb
              go_simp
              exact hK _ _ _ rfl (Below.refl _ _) rfl
            refine ⟨?_, ?_⟩
            · intro vs W hb hD K hK
              have h14 : vs 14 = Value.bool true := hD (14, some 117) List.mem_cons_self
              simp only [fillL, Act.put, List.setIfInBounds_toArray, List.set_cons_succ, List.set_cons_zero, h14] at hK ⊢
              clear hD h14
              refine want_yes (by kernel_rfl) ?_
              go_simp
              exact hK _ _ _ rfl (Below.refl _ _) rfl
            refine ⟨?_, ?_⟩
            · intro vs W hb hD K hK
              have h14 : vs 14 = Value.bool true := hD (14, some 117) List.mem_cons_self
              have h16 : vs 16 = Value.string ⟨x.k.toArray⟩ := hD (16, some 119) (List.mem_cons_of_mem _ List.mem_cons_self)
              have h17 : vs 17 = Value.string ⟨a.toArray⟩ := hD (17, some 120) (List.mem_cons_of_mem _ (List.mem_cons_of_mem _ List.mem_cons_self))
              simp only [fillL, Act.put, List.setIfInBounds_toArray, List.set_cons_succ, List.set_cons_zero, h14, h16, h17] at hK ⊢
              clear hD h14 h16 h17
              refine want_yes (by kernel_rfl) ?_
              go_simp
              exact hK _ _ _ rfl (Below.refl _ _) rfl
            refine ⟨?_, ?_⟩
            · intro vs W hb hD K hK
              have h8 : vs 8 = Value.bool false := hD (8, some 111) List.mem_cons_self
              have h14 : vs 14 = Value.bool true := hD (14, some 117) (List.mem_cons_of_mem _ List.mem_cons_self)
              have h18 : vs 18 = Value.bool true := hD (18, some 121) (List.mem_cons_of_mem _ (List.mem_cons_of_mem _ List.mem_cons_self))
              simp only [fillL, Act.put, List.setIfInBounds_toArray, List.set_cons_succ, List.set_cons_zero, h8, h14, h18] at hK ⊢
              clear hD h8 h14 h18
              refine want_yes (by kernel_rfl) ?_
              go_simp
              exact hK _ _ _ rfl (Below.refl _ _) rfl
            refine ⟨?_, ?_⟩
            · intro vs W hb hD K hK
              have h5 : vs 5 = Value.bool true := hD (5, some 108) List.mem_cons_self
              have h8 : vs 8 = Value.bool false := hD (8, some 111) (List.mem_cons_of_mem _ List.mem_cons_self)
              have h19 : vs 19 = Value.bool true := hD (19, some 122) (List.mem_cons_of_mem _ (List.mem_cons_of_mem _ List.mem_cons_self))
              simp only [fillL, Act.put, List.setIfInBounds_toArray, List.set_cons_succ, List.set_cons_zero, h5, h8, h19] at hK ⊢
              clear hD h5 h8 h19
              refine want_yes (by kernel_rfl) ?_
              go_simp
              exact hK _ _ _ rfl (Below.refl _ _) rfl
            refine ⟨?_, ?_⟩
            · intro vs W hb hD K hK
              have h5 : vs 5 = Value.bool true := hD (5, some 108) List.mem_cons_self
              have h20 : vs 20 = Value.bool true := hD (20, some 123) (List.mem_cons_of_mem _ List.mem_cons_self)
              simp only [fillL, Act.put, List.setIfInBounds_toArray, List.set_cons_succ, List.set_cons_zero, h5, h20] at hK ⊢
              clear hD h5 h20
              refine want_yes (by kernel_rfl) ?_
              go_simp
              exact hK _ _ _ rfl (Below.refl _ _) rfl
            refine ⟨?_, ?_⟩
            · intro vs W hb hD K hK
              have h21 : vs 21 = Value.bool true := hD (21, some 124) List.mem_cons_self
              simp only [fillL, Act.put, List.setIfInBounds_toArray, List.set_cons_succ, List.set_cons_zero, h21] at hK ⊢
              clear hD h21
              refine want_yes (by kernel_rfl) ?_
              go_simp
              exact hK _ _ _ rfl (Below.refl _ _) rfl
            refine ⟨?_, ?_⟩
            · intro vs W hb hD K hK
              have h22 : vs 22 = Value.bool true := hD (22, some 125) List.mem_cons_self
              simp only [fillL, Act.put, List.setIfInBounds_toArray, List.set_cons_succ, List.set_cons_zero, h22] at hK ⊢
              clear hD h22
              refine want_yes (by kernel_rfl) ?_
              go_simp
              exact hK _ _ _ rfl (Below.refl _ _) rfl
            refine ⟨?_, ?_⟩
            · intro vs W hb hD K hK
              have h22 : vs 22 = Value.bool true := hD (22, some 125) List.mem_cons_self
              have h23 : vs 23 = Value.pointer (some ⟨t, 0, none⟩) := hD (23, some 126) (List.mem_cons_of_mem _ List.mem_cons_self)
              simp only [fillL, Act.put, List.setIfInBounds_toArray, List.set_cons_succ, List.set_cons_zero, h22, h23] at hK ⊢
              clear hD h22 h23
              refine want_yes (by kernel_rfl) ?_
              obtain ⟨ht, -⟩ := LAT.out W hb
              go_simp
              refine ⟨trivial, (callsIn_wide.2 (CA.out _ ht)).mono ?_⟩
              rintro e9 wb ⟨bb, v, rfl, own⟩
              exact hK _ _ _ rfl bb (slAt_own own)
            refine ⟨?_, ?_⟩
            · intro vs W hb hD K hK
              have h22 : vs 22 = Value.bool true := hD (22, some 125) List.mem_cons_self
              simp only [fillL, Act.put, List.setIfInBounds_toArray, List.set_cons_succ, List.set_cons_zero, h22] at hK ⊢
              clear hD h22
              refine want_yes (by kernel_rfl) ?_
              go_simp
              exact hK _ _ _ rfl (Below.refl _ _) rfl
            refine ⟨?_, ?_⟩
            · intro vs W hb hD K hK
              have h22 : vs 22 = Value.bool true := hD (22, some 125) List.mem_cons_self
              obtain ⟨x24, hx24⟩ : ∃ x, vs 24 = x := ⟨_, rfl⟩
              have h24 : (fun v W => SlAt v l W) (vs 24) W := hD (24, some 127) (List.mem_cons_of_mem _ List.mem_cons_self)
              rw [hx24] at h24
              have h25 : vs 25 = Value.slice A n cap := hD (25, some 128) (List.mem_cons_of_mem _ (List.mem_cons_of_mem _ List.mem_cons_self))
              simp only [fillL, Act.put, List.setIfInBounds_toArray, List.set_cons_succ, List.set_cons_zero, h22, hx24, h25] at hK ⊢
              clear hD h22 hx24 h25
              refine want_yes (by kernel_rfl) ?_
              obtain ⟨-, hl, -⟩ := LAT.out W hb
              go_simp
              refine ⟨trivial, (callsIn_wide.2 (CQ.out _ _ _ h24 hl)).mono ?_⟩
              rintro e9 wb ⟨rfl, bb⟩
              exact hK _ _ _ rfl bb rfl
            refine ⟨?_, ?_⟩
            · intro vs W hb hD K hK
              have h22 : vs 22 = Value.bool true := hD (22, some 125) List.mem_cons_self
              have h26 : vs 26 = Value.bool true := hD (26, some 129) (List.mem_cons_of_mem _ List.mem_cons_self)
              simp only [fillL, Act.put, List.setIfInBounds_toArray, List.set_cons_succ, List.set_cons_zero, h22, h26] at hK ⊢
              clear hD h22 h26
              refine want_yes (by kernel_rfl) ?_
              go_simp
              exact hK _ _ _ rfl (Below.refl _ _) rfl
            refine ⟨?_, ?_⟩
            · intro vs W hb hD K hK
              have h27 : vs 27 = Value.bool true := hD (27, some 130) List.mem_cons_self
              simp only [fillL, Act.put, List.setIfInBounds_toArray, List.set_cons_succ, List.set_cons_zero, h27] at hK ⊢
              clear hD h27
              refine want_yes (by kernel_rfl) ?_
              go_simp
              exact hK _ _ _ rfl (Below.refl _ _) rfl
            refine ⟨?_, ?_⟩
            · intro vs W hb hD K hK
              have h28 : vs 28 = Value.bool true := hD (28, some 131) List.mem_cons_self
              simp only [fillL, Act.put, List.setIfInBounds_toArray, List.set_cons_succ, List.set_cons_zero, h28] at hK ⊢
              clear hD h28
              refine want_yes (by kernel_rfl) ?_
              go_simp
              refine ⟨trivial, (callsIn_wide.2 (CDO.out _)).mono ?_⟩
              rintro e9 wb ⟨rfl, bb⟩
              exact hK _ _ _ rfl bb rfl
            refine ⟨?_, ?_⟩
            · intro vs W hb hD K hK
              have h28 : vs 28 = Value.bool true := hD (28, some 131) List.mem_cons_self
              have h29 : vs 29 = Value.bool true := hD (29, some 132) (List.mem_cons_of_mem _ List.mem_cons_self)
              simp only [fillL, Act.put, List.setIfInBounds_toArray, List.set_cons_succ, List.set_cons_zero, h28, h29] at hK ⊢
              clear hD h28 h29
              refine want_yes (by kernel_rfl) ?_
              go_simp
              exact hK _ _ _ rfl (Below.refl _ _) rfl
            refine ⟨?_, ?_⟩
            · intro vs W hb hD K hK
              have h30 : vs 30 = Value.bool true := hD (30, some 133) List.mem_cons_self
              simp only [fillL, Act.put, List.setIfInBounds_toArray, List.set_cons_succ, List.set_cons_zero, h30] at hK ⊢
              clear hD h30
              refine want_yes (by kernel_rfl) ?_
              go_simp
              exact hK _ _ _ rfl (Below.refl _ _) rfl
            trivial
          · intro vs W hb hF
            have h0 : vs 0 = Value.slice (some ⟨b12, o12, none⟩) n12 cap12 := hF 0 (by decide)
            have h1 : vs 1 = Value.int .i64 n12 := hF 1 (by decide)
            have h2 : vs 2 = Value.bool true := hF 2 (by decide)
            have h3 : vs 3 = Value.bool true := hF 3 (by decide)
            have h4 : vs 4 = Value.bool true := hF 4 (by decide)
            have h5 : vs 5 = Value.bool true := hF 5 (by decide)
            have h6 : vs 6 = Value.bool true := hF 6 (by decide)
            have h7 : vs 7 = Value.bool false := hF 7 (by decide)
            have h8 : vs 8 = Value.bool false := hF 8 (by decide)
            have h9 : vs 9 = Value.slice (some ⟨b12, o12, none⟩) n12 cap12 := hF 9 (by decide)
            have h10 : vs 10 = Value.pointer (some ⟨b12, o12, none⟩) := hF 10 (by decide)
            have h11 : vs 11 = Value.agg #[.string ⟨x.k.toArray⟩, .int .i64 x.q, .string ⟨x.v.toArray⟩] := hF 11 (by decide)
            have h12 : vs 12 = Value.agg #[.string ⟨x.k.toArray⟩, .int .i64 x.q, .string ⟨x.v.toArray⟩] := hF 12 (by decide)
            have h13 : vs 13 = Value.bool true := hF 13 (by decide)
            have h14 : vs 14 = Value.bool true := hF 14 (by decide)
            have h15 : vs 15 = Value.pointer (some ⟨c6, 0, none⟩) := hF 15 (by decide)
            have h16 : vs 16 = Value.string ⟨x.k.toArray⟩ := hF 16 (by decide)
            have h17 : vs 17 = Value.string ⟨a.toArray⟩ := hF 17 (by decide)
            have h18 : vs 18 = Value.bool true := hF 18 (by decide)
            have h19 : vs 19 = Value.bool true := hF 19 (by decide)
            have h20 : vs 20 = Value.bool true := hF 20 (by decide)
            have h21 : vs 21 = Value.bool true := hF 21 (by decide)
            have h22 : vs 22 = Value.bool true := hF 22 (by decide)
            have h23 : vs 23 = Value.pointer (some ⟨t, 0, none⟩) := hF 23 (by decide)
            obtain ⟨x24, hx24⟩ : ∃ x, vs 24 = x := ⟨_, rfl⟩
            have h24 : (fun v W => SlAt v l W) (vs 24) W := hF 24 (by decide)
            rw [hx24] at h24
            have h25 : vs 25 = Value.slice A n cap := hF 25 (by decide)
            have h26 : vs 26 = Value.bool true := hF 26 (by decide)
            have h27 : vs 27 = Value.bool true := hF 27 (by decide)
            have h28 : vs 28 = Value.bool true := hF 28 (by decide)
            have h29 : vs 29 = Value.bool true := hF 29 (by decide)
            have h30 : vs 30 = Value.bool true := hF 30 (by decide)
            have h31 : vs 31 = Value.bool true := hF 31 (by decide)
            simp only [fillL, Act.put, List.setIfInBounds_toArray, List.set_cons_succ, List.set_cons_zero, h0, h1, h2, h3, h4, h5, h6, h7, h8, h9, h10, h11, h12, h13, h14, h15, h16, h17, h18, h19, h20, h21, h22, h23, hx24, h25, h26, h27, h28, h29, h30, h31]
            clear hF h0 h1 h2 h3 h4 h5 h6 h7 h8 h9 h10 h11 h12 h13 h14 h15 h16 h17 h18 h19 h20 h21 h22 h23 hx24 h25 h26 h27 h28 h29 h30 h31
            obtain ⟨-, -, hB⟩ := LAT.out W hb
            clear LAT CA CQ CDO
            go_wp2_with fail
            go_ret
            exact ⟨rfl, by rw [HX.out]; exact hB⟩
      | false =>
        have hfx := (HCE.out.2 rfl).1
        have hrest : rangeC l a (a ++ [0]) = [] := by
          have h := rangeC_one l a
          rw [hfx] at h
          cases hh : rangeC l a (a ++ [0]) with
          | nil => rfl
          | cons y ys => rw [hh] at h; cases h
        rw [hrest] at S12
        obtain ⟨A12, cap12, rfl, -, -, -⟩ := S12
        have LAT := Lib.hid (fun W (hb : Below w13.drew.heap.size w13.drew W) => (LAT13.out W hb).2)
        rw [show ([] : List Ce).length = 0 from rfl]
        clear hrest hfx LAT13 HCE CO CT
        go_wp2_with fail
        as_aux_lemma =>
          refine (wpIn_wide (n := 5)).1 ?_
          refine wpIn_region_rel [[], [(0, some 103)], [(1, some 104)], [], [(2, some 105), (3, some 106)], [(4, some 107)], [(5, some 108)], [(5, some 108), (6, some 109)], [(5, some 108), (7, some 110)], [(8, some 111)], [(8, some 111), (9, some 112)], [(8, some 111), (10, some 113)], [(8, some 111)], [(8, some 111), (11, some 114), (12, some 115)], [(8, some 111), (13, some 116)], [(14, some 117)], [(14, some 117), (15, some 118)], [(14, some 117)], [(14, some 117), (16, some 119), (17, some 120)], [(8, some 111), (14, some 117), (18, some 121)], [(5, some 108), (8, some 111), (19, some 122)], [(5, some 108), (20, some 123)], [(21, some 124)], [(22, some 125)], [(22, some 125), (23, some 126)], [(22, some 125)], [(22, some 125), (24, some 127), (25, some 128)], [(22, some 125), (26, some 129)], [(27, some 130)], [(28, some 131)], [(28, some 131), (29, some 132)], [(30, some 133)]]
            [fun v _ => v = Value.slice A12 0 cap12, fun v _ => v = Value.int .i64 0, fun v _ => v = Value.bool false, fun v _ => v = Value.bool false, fun v _ => v = Value.bool true, fun v _ => v = Value.bool true, fun v _ => v = Value.bool false, fun v _ => v = Value.bool true, fun v _ => v = Value.bool true, fun v _ => v = undef, fun v _ => v = undef, fun v _ => v = undef, fun v _ => v = undef, fun v _ => v = undef, fun v _ => v = undef, fun v _ => v = undef, fun v _ => v = undef, fun v _ => v = undef, fun v _ => v = undef, fun v _ => v = undef, fun v _ => v = Value.bool true, fun v _ => v = Value.bool true, fun v _ => v = Value.bool true, fun v _ => v = Value.pointer (some ⟨t, 0, none⟩), fun v W => SlAt v l W, fun v _ => v = Value.slice A n cap, fun v _ => v = Value.bool true, fun v _ => v = Value.bool true, fun v _ => v = Value.bool true, fun v _ => v = Value.bool true, fun v _ => v = Value.bool true, fun v _ => v = Value.bool true]
            [(0, some 103), (1, some 104), (2, some 105), (3, some 106), (4, some 107), (5, some 108), (6, some 109), (7, some 110), (8, some 111), (9, some 112), (10, some 113), (11, some 114), (12, some 115), (13, some 116), (14, some 117), (15, some 118), (16, some 119), (17, some 120), (18, some 121), (19, some 122), (20, some 123), (21, some 124), (22, some 125), (23, some 126), (24, some 127), (25, some 128), (26, some 129), (27, some 130), (28, some 131), (29, some 132), (30, some 133), (31, some 4)] (by kernel_rfl) (by kernel_rfl) (by kernel_rfl) ⟨MonoR.is _, MonoR.is _, MonoR.is _, MonoR.is _, MonoR.is _, MonoR.is _, MonoR.is _, MonoR.is _, MonoR.is _, MonoR.is _, MonoR.is _, MonoR.is _, MonoR.is _, MonoR.is _, MonoR.is _, MonoR.is _, MonoR.is _, MonoR.is _, MonoR.is _, MonoR.is _, MonoR.is _, MonoR.is _, MonoR.is _, MonoR.is _, MonoR.sl _, MonoR.is _, MonoR.is _, MonoR.is _, MonoR.is _, MonoR.is _, MonoR.is _, MonoR.is _, trivial⟩ ?_ ?_
          · refine ⟨?_, ?_⟩
            · intro vs W hb hD K hK
              simp only [fillL, Act.put, List.setIfInBounds_toArray, List.set_cons_succ, List.set_cons_zero] at hK ⊢
              clear hD
              refine want_yes (by kernel_rfl) ?_
              go_simp
              exact hK _ _ _ rfl (Below.refl _ _) rfl
            refine ⟨?_, ?_⟩
            · intro vs W hb hD K hK
              have h0 : vs 0 = Value.slice A12 0 cap12 := hD (0, some 103) List.mem_cons_self
              simp only [fillL, Act.put, List.setIfInBounds_toArray, List.set_cons_succ, List.set_cons_zero, h0] at hK ⊢
              clear hD h0
              refine want_yes (by kernel_rfl) ?_
              go_simp
              exact hK _ _ _ rfl (Below.refl _ _) rfl
            refine ⟨?_, ?_⟩
            · intro vs W hb hD K hK
              have h1 : vs 1 = Value.int .i64 0 := hD (1, some 104) List.mem_cons_self
              simp only [fillL, Act.put, List.setIfInBounds_toArray, List.set_cons_succ, List.set_cons_zero, h1] at hK ⊢
              clear hD h1
              refine want_yes (by kernel_rfl) ?_
              go_simp
              exact hK _ _ _ rfl (Below.refl _ _) rfl
            refine ⟨?_, ?_⟩
            · intro vs W hb hD K hK
              simp only [fillL, Act.put, List.setIfInBounds_toArray, List.set_cons_succ, List.set_cons_zero] at hK ⊢
              clear hD
              refine want_yes (by kernel_rfl) ?_
              go_simp
              exact hK _ _ _ rfl (Below.refl _ _) rfl
            refine ⟨?_, ?_⟩
            · intro vs W hb hD K hK
              have h2 : vs 2 = Value.bool false := hD (2, some 105) List.mem_cons_self
              have h3 : vs 3 = Value.bool false := hD (3, some 106) (List.mem_cons_of_mem _ List.mem_cons_self)
              simp only [fillL, Act.put, List.setIfInBounds_toArray, List.set_cons_succ, List.set_cons_zero, h2, h3] at hK ⊢
              clear hD h2 h3
              refine want_yes (by kernel_rfl) ?_
              go_simp
              exact hK _ _ _ rfl (Below.refl _ _) rfl
            refine ⟨?_, ?_⟩
            · intro vs W hb hD K hK
              have h4 : vs 4 = Value.bool true := hD (4, some 107) List.mem_cons_self
              simp only [fillL, Act.put, List.setIfInBounds_toArray, List.set_cons_succ, List.set_cons_zero, h4] at hK ⊢
              clear hD h4
              refine want_yes (by kernel_rfl) ?_
              go_simp
              exact hK _ _ _ rfl (Below.refl _ _) rfl
            refine ⟨?_, ?_⟩
            · intro vs W hb hD K hK
              have h5 : vs 5 = Value.bool true := hD (5, some 108) List.mem_cons_self
              simp only [fillL, Act.put, List.setIfInBounds_toArray, List.set_cons_succ, List.set_cons_zero, h5] at hK ⊢
              clear hD h5
              refine want_yes (by kernel_rfl) ?_
              go_simp
              exact hK _ _ _ rfl (Below.refl _ _) rfl
            refine ⟨?_, ?_⟩
            · intro vs W hb hD K hK
              have h5 : vs 5 = Value.bool true := hD (5, some 108) List.mem_cons_self
              have h6 : vs 6 = Value.bool false := hD (6, some 109) (List.mem_cons_of_mem _ List.mem_cons_self)
              simp only [fillL, Act.put, List.setIfInBounds_toArray, List.set_cons_succ, List.set_cons_zero, h5, h6] at hK ⊢
              clear hD h5 h6
              refine want_yes (by kernel_rfl) ?_
              go_simp
              exact hK _ _ _ rfl (Below.refl _ _) rfl
            refine ⟨?_, ?_⟩
            · intro vs W hb hD K hK
              have h5 : vs 5 = Value.bool true := hD (5, some 108) List.mem_cons_self
              have h7 : vs 7 = Value.bool true := hD (7, some 110) (List.mem_cons_of_mem _ List.mem_cons_self)
              simp only [fillL, Act.put, List.setIfInBounds_toArray, List.set_cons_succ, List.set_cons_zero, h5, h7] at hK ⊢
              clear hD h5 h7
              refine want_yes (by kernel_rfl) ?_
              go_simp
              exact hK _ _ _ rfl (Below.refl _ _) rfl
            refine ⟨?_, ?_⟩
            · intro vs W hb hD K hK
              have h8 : vs 8 = Value.bool true := hD (8, some 111) List.mem_cons_self
              simp only [fillL, Act.put, List.setIfInBounds_toArray, List.set_cons_succ, List.set_cons_zero, h8] at hK ⊢
              clear hD h8
              refine want_no (Bool.eq_false_iff.1 (by kernel_rfl)) ⟨fun _ _ => trivial, ?_⟩
              exact hK _ _ _ rfl (Below.refl _ _) rfl
            refine ⟨?_, ?_⟩
            · intro vs W hb hD K hK
              have h8 : vs 8 = Value.bool true := hD (8, some 111) List.mem_cons_self
              have h9 : vs 9 = undef := hD (9, some 112) (List.mem_cons_of_mem _ List.mem_cons_self)
              simp only [fillL, Act.put, List.setIfInBounds_toArray, List.set_cons_succ, List.set_cons_zero, h8, h9] at hK ⊢
              clear hD h8 h9
              refine want_no (Bool.eq_false_iff.1 (by kernel_rfl)) ⟨fun _ _ => trivial, ?_⟩
              exact hK _ _ _ rfl (Below.refl _ _) rfl
            refine ⟨?_, ?_⟩
            · intro vs W hb hD K hK
              have h8 : vs 8 = Value.bool true := hD (8, some 111) List.mem_cons_self
              have h10 : vs 10 = undef := hD (10, some 113) (List.mem_cons_of_mem _ List.mem_cons_self)
              simp only [fillL, Act.put, List.setIfInBounds_toArray, List.set_cons_succ, List.set_cons_zero, h8, h10] at hK ⊢
              clear hD h8 h10
              refine want_no (Bool.eq_false_iff.1 (by kernel_rfl)) ⟨fun _ _ => trivial, ?_⟩
              exact hK _ _ _ rfl (Below.refl _ _) rfl
            refine ⟨?_, ?_⟩
            · intro vs W hb hD K hK
              have h8 : vs 8 = Value.bool true := hD (8, some 111) List.mem_cons_self
              simp only [fillL, Act.put, List.setIfInBounds_toArray, List.set_cons_succ, List.set_cons_zero, h8] at hK ⊢
              clear hD h8
              refine want_no (Bool.eq_false_iff.1 (by kernel_rfl)) ⟨fun _ _ => trivial, ?_⟩
              exact hK _ _ _ rfl (Below.refl _ _) rfl
            refine ⟨?_, ?_⟩
            · intro vs W hb hD K hK
              have h8 : vs 8 = Value.bool true := hD (8, some 111) List.mem_cons_self
              have h11 : vs 11 = undef := hD (11, some 114) (List.mem_cons_of_mem _ List.mem_cons_self)
              have h12 : vs 12 = undef := hD (12, some 115) (List.mem_cons_of_mem _ (List.mem_cons_of_mem _ List.mem_cons_self))
              simp only [fillL, Act.put, List.setIfInBounds_toArray, List.set_cons_succ, List.set_cons_zero, h8, h11, h12] at hK ⊢
              clear hD h8 h11 h12
              refine want_no (Bool.eq_false_iff.1 (by kernel_rfl)) ⟨fun _ _ => trivial, ?_⟩
              exact hK _ _ _ rfl (Below.refl _ _) rfl
            refine ⟨?_, ?_⟩
            · intro vs W hb hD K hK
              have h8 : vs 8 = Value.bool true := hD (8, some 111) List.mem_cons_self
              have h13 : vs 13 = undef := hD (13, some 116) (List.mem_cons_of_mem _ List.mem_cons_self)
              simp only [fillL, Act.put, List.setIfInBounds_toArray, List.set_cons_succ, List.set_cons_zero, h8, h13] at hK ⊢
              clear hD h8 h13
              refine want_no (Bool.eq_false_iff.1 (by kernel_rfl)) ⟨fun _ _ => trivial, ?_⟩
              exact hK _ _ _ rfl (Below.refl _ _) rfl
            refine ⟨?_, ?_⟩
            · intro vs W hb hD K hK
              have h14 : vs 14 = undef := hD (14, some 117) List.mem_cons_self
              simp only [fillL, Act.put, List.setIfInBounds_toArray, List.set_cons_succ, List.set_cons_zero, h14] at hK ⊢
              clear hD h14
              refine want_no (Bool.eq_false_iff.1 (by kernel_rfl)) ⟨fun _ _ => trivial, ?_⟩
              exact hK _ _ _ rfl (Below.refl _ _) rfl
            refine ⟨?_, ?_⟩
            · intro vs W hb hD K hK
              have h14 : vs 14 = undef := hD (14, some 117) List.mem_cons_self
              have h15 : vs 15 = undef := hD (15, some 118) (List.mem_cons_of_mem _ List.mem_cons_self)
              simp only [fillL, Act.put, List.setIfInBounds_toArray, List.set_cons_succ, List.set_cons_zero, h14, h15] at hK ⊢
              clear hD h14 h15
              refine want_no (Bool.eq_false_iff.1 (by kernel_rfl)) ⟨fun _ _ => trivial, ?_⟩
              exact hK _ _ _ rfl (Below.refl _ _) rfl
            refine ⟨?_, ?_⟩
            · intro vs W hb hD K hK
              have h14 : vs 14 = undef := hD (14, some 117) List.mem_cons_self
              simp only [fillL, Act.put, List.setIfInBounds_toArray, List.set_cons_succ, List.set_cons_zero, h14] at hK ⊢
              clear hD h14
              refine want_no (Bool.eq_false_iff.1 (by kernel_rfl)) ⟨fun _ _ => trivial, ?_⟩
              exact hK _ _ _ rfl (Below.refl _ _) rfl
            refine ⟨?_, ?_⟩
            · intro vs W hb hD K hK
              have h14 : vs 14 = undef := hD (14, some 117) List.mem_cons_self
              have h16 : vs 16 = undef := hD (16, some 119) (List.mem_cons_of_mem _ List.mem_cons_self)
              have h17 : vs 17 = undef := hD (17, some 120) (List.mem_cons_of_mem _ (List.mem_cons_of_mem _ List.mem_cons_self))
              simp only [fillL, Act.put, List.setIfInBounds_toArray, List.set_cons_succ, List.set_cons_zero, h14, h16, h17] at hK ⊢
              clear hD h14 h16 h17
              refine want_no (Bool.eq_false_iff.1 (by kernel_rfl)) ⟨fun _ _ => trivial, ?_⟩
              exact hK _ _ _ rfl (Below.refl _ _) rfl
            refine ⟨?_, ?_⟩
            · intro vs W hb hD K hK
              have h8 : vs 8 = Value.bool true := hD (8, some 111) List.mem_cons_self
              have h14 : vs 14 = undef := hD (14, some 117) (List.mem_cons_of_mem _ List.mem_cons_self)
              have h18 : vs 18 = undef := hD (18, some 121) (List.mem_cons_of_mem _ (List.mem_cons_of_mem _ List.mem_cons_self))
              simp only [fillL, Act.put, List.setIfInBounds_toArray, List.set_cons_succ, List.set_cons_zero, h8, h14, h18] at hK ⊢
              clear hD h8 h14 h18
              refine want_no (Bool.eq_false_iff.1 (by kernel_rfl)) ⟨fun _ _ => trivial, ?_⟩
              exact hK _ _ _ rfl (Below.refl _ _) rfl
            refine ⟨?_, ?_⟩
            · intro vs W hb hD K hK
              have h5 : vs 5 = Value.bool true := hD (5, some 108) List.mem_cons_self
              have h8 : vs 8 = Value.bool true := hD (8, some 111) (List.mem_cons_of_mem _ List.mem_cons_self)
              have h19 : vs 19 = undef := hD (19, some 122) (List.mem_cons_of_mem _ (List.mem_cons_of_mem _ List.mem_cons_self))
              simp only [fillL, Act.put, List.setIfInBounds_toArray, List.set_cons_succ, List.set_cons_zero, h5, h8, h19] at hK ⊢
              clear hD h5 h8 h19
              refine want_yes (by kernel_rfl) ?_
              go_simp
              exact hK _ _ _ rfl (Below.refl _ _) rfl
            refine ⟨?_, ?_⟩
            · intro vs W hb hD K hK
              have h5 : vs 5 = Value.bool true := hD (5, some 108) List.mem_cons_self
              have h20 : vs 20 = Value.bool true := hD (20, some 123) (List.mem_cons_of_mem _ List.mem_cons_self)
              simp only [fillL, Act.put, List.setIfInBounds_toArray, List.set_cons_succ, List.set_cons_zero, h5, h20] at hK ⊢
              clear hD h5 h20
              refine want_yes (by kernel_rfl) ?_
              go_simp
              exact hK _ _ _ rfl (Below.refl _ _) rfl
            refine ⟨?_, ?_⟩
            · intro vs W hb hD K hK
              have h21 : vs 21 = Value.bool true := hD (21, some 124) List.mem_cons_self
              simp only [fillL, Act.put, List.setIfInBounds_toArray, List.set_cons_succ, List.set_cons_zero, h21] at hK ⊢
              clear hD h21
              refine want_yes (by kernel_rfl) ?_
              go_simp
              exact hK _ _ _ rfl (Below.refl _ _) rfl
            refine ⟨?_, ?_⟩
            · intro vs W hb hD K hK
              have h22 : vs 22 = Value.bool true := hD (22, some 125) List.mem_cons_self
              simp only [fillL, Act.put, List.setIfInBounds_toArray, List.set_cons_succ, List.set_cons_zero, h22] at hK ⊢
              clear hD h22
              refine want_yes (by kernel_rfl) ?_
              go_simp
              exact hK _ _ _ rfl (Below.refl _ _) rfl
            refine ⟨?_, ?_⟩
            · intro vs W hb hD K hK
              have h22 : vs 22 = Value.bool true := hD (22, some 125) List.mem_cons_self
              have h23 : vs 23 = Value.pointer (some ⟨t, 0, none⟩) := hD (23, some 126) (List.mem_cons_of_mem _ List.mem_cons_self)
              simp only [fillL, Act.put, List.setIfInBounds_toArray, List.set_cons_succ, List.set_cons_zero, h22, h23] at hK ⊢
              clear hD h22 h23
              refine want_yes (by kernel_rfl) ?_
              obtain ⟨ht, -⟩ := LAT.out W hb
              go_simp
              refine ⟨trivial, (callsIn_wide.2 (CA.out _ ht)).mono ?_⟩
              rintro e9 wb ⟨bb, v, rfl, own⟩
              exact hK _ _ _ rfl bb (slAt_own own)
            refine ⟨?_, ?_⟩
            · intro vs W hb hD K hK
              have h22 : vs 22 = Value.bool true := hD (22, some 125) List.mem_cons_self
              simp only [fillL, Act.put, List.setIfInBounds_toArray, List.set_cons_succ, List.set_cons_zero, h22] at hK ⊢
              clear hD h22
              refine want_yes (by kernel_rfl) ?_
              go_simp
              exact hK _ _ _ rfl (Below.refl _ _) rfl
            refine ⟨?_, ?_⟩
            · intro vs W hb hD K hK
              have h22 : vs 22 = Value.bool true := hD (22, some 125) List.mem_cons_self
              obtain ⟨x24, hx24⟩ : ∃ x, vs 24 = x := ⟨_, rfl⟩
              have h24 : (fun v W => SlAt v l W) (vs 24) W := hD (24, some 127) (List.mem_cons_of_mem _ List.mem_cons_self)
              rw [hx24] at h24
              have h25 : vs 25 = Value.slice A n cap := hD (25, some 128) (List.mem_cons_of_mem _ (List.mem_cons_of_mem _ List.mem_cons_self))
              simp only [fillL, Act.put, List.setIfInBounds_toArray, List.set_cons_succ, List.set_cons_zero, h22, hx24, h25] at hK ⊢
              clear hD h22 hx24 h25
              refine want_yes (by kernel_rfl) ?_
              obtain ⟨-, hl, -⟩ := LAT.out W hb
              go_simp
              refine ⟨trivial, (callsIn_wide.2 (CQ.out _ _ _ h24 hl)).mono ?_⟩
              rintro e9 wb ⟨rfl, bb⟩
              exact hK _ _ _ rfl bb rfl
            refine ⟨?_, ?_⟩
            · intro vs W hb hD K hK
              have h22 : vs 22 = Value.bool true := hD (22, some 125) List.mem_cons_self
              have h26 : vs 26 = Value.bool true := hD (26, some 129) (List.mem_cons_of_mem _ List.mem_cons_self)
              simp only [fillL, Act.put, List.setIfInBounds_toArray, List.set_cons_succ, List.set_cons_zero, h22, h26] at hK ⊢
              clear hD h22 h26
              refine want_yes (by kernel_rfl) ?_
              go_simp
              exact hK _ _ _ rfl (Below.refl _ _) rfl
            refine ⟨?_, ?_⟩
            · intro vs W hb hD K hK
              have h27 : vs 27 = Value.bool true := hD (27, some 130) List.mem_cons_self
              simp only [fillL, Act.put, List.setIfInBounds_toArray, List.set_cons_succ, List.set_cons_zero, h27] at hK ⊢
              clear hD h27
              refine want_yes (by kernel_rfl) ?_
              go_simp
              exact hK _ _ _ rfl (Below.refl _ _) rfl
            refine ⟨?_, ?_⟩
            · intro vs W hb hD K hK
              have h28 : vs 28 = Value.bool true := hD (28, some 131) List.mem_cons_self
              simp only [fillL, Act.put, List.setIfInBounds_toArray, List.set_cons_succ, List.set_cons_zero, h28] at hK ⊢
              clear hD h28
              refine want_yes (by kernel_rfl) ?_
              go_simp
              refine ⟨trivial, (callsIn_wide.2 (CDO.out _)).mono ?_⟩
              rintro e9 wb ⟨rfl, bb⟩
              exact hK _ _ _ rfl bb rfl
            refine ⟨?_, ?_⟩
            · intro vs W hb hD K hK
              have h28 : vs 28 = Value.bool true := hD (28, some 131) List.mem_cons_self
              have h29 : vs 29 = Value.bool true := hD (29, some 132) (List.mem_cons_of_mem _ List.mem_cons_self)
              simp only [fillL, Act.put, List.setIfInBounds_toArray, List.set_cons_succ, List.set_cons_zero, h28, h29] at hK ⊢
              clear hD h28 h29
              refine want_yes (by kernel_rfl) ?_
              go_simp
              exact hK _ _ _ rfl (Below.refl _ _) rfl
            refine ⟨?_, ?_⟩
            · intro vs W hb hD K hK
              have h30 : vs 30 = Value.bool true := hD (30, some 133) List.mem_cons_self
              simp only [fillL, Act.put, List.setIfInBounds_toArray, List.set_cons_succ, List.set_cons_zero, h30] at hK ⊢
              clear hD h30
              refine want_yes (by kernel_rfl) ?_
              go_simp
              exact hK _ _ _ rfl (Below.refl _ _) rfl
            trivial
          · intro vs W hb hF
            have h0 : vs 0 = Value.slice A12 0 cap12 := hF 0 (by decide)
            have h1 : vs 1 = Value.int .i64 0 := hF 1 (by decide)
            have h2 : vs 2 = Value.bool false := hF 2 (by decide)
            have h3 : vs 3 = Value.bool false := hF 3 (by decide)
            have h4 : vs 4 = Value.bool true := hF 4 (by decide)
            have h5 : vs 5 = Value.bool true := hF 5 (by decide)
            have h6 : vs 6 = Value.bool false := hF 6 (by decide)
            have h7 : vs 7 = Value.bool true := hF 7 (by decide)
            have h8 : vs 8 = Value.bool true := hF 8 (by decide)
            have h9 : vs 9 = undef := hF 9 (by decide)
            have h10 : vs 10 = undef := hF 10 (by decide)
            have h11 : vs 11 = undef := hF 11 (by decide)
            have h12 : vs 12 = undef := hF 12 (by decide)
            have h13 : vs 13 = undef := hF 13 (by decide)
            have h14 : vs 14 = undef := hF 14 (by decide)
            have h15 : vs 15 = undef := hF 15 (by decide)
            have h16 : vs 16 = undef := hF 16 (by decide)
            have h17 : vs 17 = undef := hF 17 (by decide)
            have h18 : vs 18 = undef := hF 18 (by decide)
            have h19 : vs 19 = undef := hF 19 (by decide)
            have h20 : vs 20 = Value.bool true := hF 20 (by decide)
            have h21 : vs 21 = Value.bool true := hF 21 (by decide)
            have h22 : vs 22 = Value.bool true := hF 22 (by decide)
            have h23 : vs 23 = Value.pointer (some ⟨t, 0, none⟩) := hF 23 (by decide)
            obtain ⟨x24, hx24⟩ : ∃ x, vs 24 = x := ⟨_, rfl⟩
            have h24 : (fun v W => SlAt v l W) (vs 24) W := hF 24 (by decide)
            rw [hx24] at h24
            have h25 : vs 25 = Value.slice A n cap := hF 25 (by decide)
            have h26 : vs 26 = Value.bool true := hF 26 (by decide)
            have h27 : vs 27 = Value.bool true := hF 27 (by decide)
            have h28 : vs 28 = Value.bool true := hF 28 (by decide)
            have h29 : vs 29 = Value.bool true := hF 29 (by decide)
            have h30 : vs 30 = Value.bool true := hF 30 (by decide)
            have h31 : vs 31 = Value.bool true := hF 31 (by decide)
            simp only [fillL, Act.put, List.setIfInBounds_toArray, List.set_cons_succ, List.set_cons_zero, h0, h1, h2, h3, h4, h5, h6, h7, h8, h9, h10, h11, h12, h13, h14, h15, h16, h17, h18, h19, h20, h21, h22, h23, hx24, h25, h26, h27, h28, h29, h30, h31]
            clear hF h0 h1 h2 h3 h4 h5 h6 h7 h8 h9 h10 h11 h12 h13 h14 h15 h16 h17 h18 h19 h20 h21 h22 h23 hx24 h25 h26 h27 h28 h29 h30 h31
            obtain ⟨-, -, hB⟩ := LAT.out W hb
            clear LAT CA CQ CDO
            go_wp2_with fail
            go_ret
            exact ⟨rfl, by rw [HX.out]; exact hB⟩
    · have e3 : (b != ([] : List UInt8)) = true := by simpa using hb0
      have e5 : (b == ([] : List UInt8)) = false := by simpa using hb0
      have HHALF := Lib.hid (range_halves HRI.out hb0)
      clear hb0
      go_upto_region 7 with fail
      go_cut [62] (fun v wx => v = .bool false ∧ wx = W)
      case first =>
        cases h1 : (Op.bytesLess a b || a == b) <;> cases h2 : (Op.bytesLess b c || b == c) <;> cases h4 : (c == ([] : List UInt8)) <;>
          first
          | (exfalso; have := HCO.out _ _ _ _ h1 h2 e5 h4; simp at this; done)
          | (have h4' : (c != ([] : List UInt8)) = !(c == ([] : List UInt8)) := rfl
             rw [h4] at h4'
             go_wp2_with fail
             go_meet
             exact ⟨rfl, rfl⟩)
      obtain ⟨hcv, hwx⟩ := hcut
      subst hcv hwx
      go_wp2_with fail
      refine (CH1.out _ (LAT5.out _ (Below.refl _ _)).1).mono ?_
      rintro e p10 ⟨bp10, vp10, rfl, own10⟩
      go_wp2_with fail
      refine (CH2.out _ (LAT5.out _ bp10).1).mono ?_
      rintro e q10 ⟨bq10, vq10, rfl, ownq10⟩
      obtain ⟨v10, wj, run10, own910, b910, -⟩ := run_append_slk (own_lat own10 bq10) (Nat.le_trans bp10.size bq10.size) (slAt_own ownq10) (by have := HLN.out [] b; have := HLN.out b []; omega)
      have RUN := Lib.hid run10
      have HJ10 := Lib.hid own910
      have HB10 := Lib.hid ((btB bp10 bq10).trans b910)
      clear run10 own910 b910 own10 ownq10 bp10 bq10
      go_wp2_with (at_builtin; refine wpList_append_runG (by kernel_rfl) _ _ 22 22 rfl _ _ rfl rfl RUN.out ?_)
      clear RUN
      rw [show rangeC l [] b ++ rangeC l b [] = l from HHALF.out] at HJ10
      refine (CQ.out _ _ _ (slAt_own HJ10.out) (LAT5.out _ HB10.out).2.1).mono ?_
      rintro e w10 ⟨rfl, b10⟩
      have LAT10 := Lib.hid (fun W (hb : Below w10.heap.size w10 W) => LAT5.out W (HB10.out.trans ((btBx b10 hb).mono HB10.out.size)))
      clear b10 HJ10 HB10 LAT5 CH1 CH2 HHALF
      go_wp2_with fail
      refine (CT.out _ (LAT10.out _ (Below.refl _ _)).1).mono ?_
      rintro e w11 ⟨rfl, b11⟩
      have LAT11 := Lib.hid (fun W (hb : Below w11.heap.size w11 W) => LAT10.out W (btB b11 hb))
      clear b11 LAT10
      have nb6 := (Below.refl w11.heap.size w11).alloc (Nat.le_refl _) (boxC Ce.zero)
      have q6 := CeAt.boxed Ce.zero w11
      obtain ⟨c6, hc6⟩ : ∃ c6, w11.heap.size = c6 := ⟨_, rfl⟩
      have hcc6 : w11.heap.size ≤ c6 := by omega
      rw [hc6] at q6
      obtain ⟨v6, hv6⟩ : ∃ v6, w11.alloc (boxC Ce.zero) = v6 := ⟨_, rfl⟩
      have hvv6 : w11.alloc (.cells #[.string ⟨#[]⟩, .int .i64 0, .string ⟨#[]⟩] 36) = v6 := hv6
      rw [hv6] at nb6 q6
      obtain ⟨y0, y1, y2⟩ := q6.cell
      obtain ⟨z0, z1, z2⟩ := q6.frees
      unfold Ce.zero at y0 y1 y2
      dsimp only at y0 y1 y2
      have HQ6 := Lib.hid (q6.all nb6 hcc6 x)
      have hlt6 := q6.lt
      obtain ⟨hal, hal2⟩ := HK.out
      clear nb6 hv6 q6
      go_wp2_with fail
      clear hal hal2
      obtain ⟨qq6, bb6⟩ := HQ6.out
      generalize (((v6.setCell ⟨c6, 0, none⟩ (.string ⟨(x).k.toArray⟩)).setCell ⟨c6, 1, none⟩ (.int .i64 (x).q)).setCell ⟨c6, 2, none⟩ (.string ⟨(x).v.toArray⟩)) = w12 at *
      have LAT12 := Lib.hid (fun W (hb : Below w12.heap.size w12 W) => And.intro (qq6.later hb qq6.lt) (LAT11.out W (btB bb6 hb)))
      clear y0 y1 y2 z0 z1 z2 HQ6 hvv6 bb6 qq6 LAT11
      refine (CO.out _ (LAT12.out _ (Below.refl _ _)).2.1).mono ?_
      rintro e w13 ⟨b13, v12, rfl, own12⟩
      have LAT13 := Lib.hid (fun W (hb : Below w13.drew.heap.size w13.drew W) => LAT12.out W (btB b13 ((Below.drew (Below.refl w13.heap.size w13)).trans hb)))
      have S12 := slAt_own own12
      clear own12 b13 LAT12
      cases ob with
      | true =>
        have hfx := HCE.out.1 rfl
        obtain ⟨rest, hrest⟩ : ∃ rest, rangeC l a (a ++ [0]) = x :: rest := by
          have h := rangeC_one l a
          rw [hfx] at h
          cases hh : rangeC l a (a ++ [0]) with
          | nil => rw [hh] at h; cases h
          | cons y ys => rw [hh] at h; cases h; exact ⟨ys, rfl⟩
        have hxk : (x.k == a) = true := by rw [beq_iff_eq]; exact (find_some_key hfx).2
        rw [hrest] at S12
        obtain ⟨A12, cap12, rfl, h12, m12, r12⟩ := S12
        obtain ⟨b12, o12, rfl, row12⟩ := r12 (by simp)
        obtain ⟨n12, hn12⟩ : ∃ n12, (x :: rest).length = n12 := ⟨_, rfl⟩
        have hn0 : 0 < n12 := by rw [← hn12]; simp
        have hn0i : (0 : Int) < (n12 : Int) := by omega
        have LD := Lib.hid (fun W (hb : Below w13.drew.heap.size w13.drew W) => And.intro (show W.cell? ⟨b12, o12, none⟩ = some (.string ⟨x.k.toArray⟩) ∧ W.cell? ⟨b12, o12 + 1, none⟩ = some (.int .i64 x.q) ∧ W.cell? ⟨b12, o12 + 2, none⟩ = some (.string ⟨x.v.toArray⟩) from by have h := ((row12.later (Below.drew (Below.refl w13.heap.size w13)) row12.1).later hb row12.1).cells (i := 0) (by simp); simpa using h) (LAT13.out W hb).1.cell)
        have LAT := Lib.hid (fun W (hb : Below w13.drew.heap.size w13.drew W) => (LAT13.out W hb).2)
        rw [hn12] at h12 ⊢
        clear hrest hfx row12 r12 m12 h12 hn12 LAT13 HCE CO CT
        go_wp2_with fail
        as_aux_lemma =>
          refine (wpIn_wide (n := 5)).1 ?_
          refine wpIn_region_rel [[], [(0, some 103)], [(1, some 104)], [], [(2, some 105), (3, some 106)], [(4, some 107)], [(5, some 108)], [(5, some 108), (6, some 109)], [(5, some 108), (7, some 110)], [(8, some 111)], [(8, some 111), (9, some 112)], [(8, some 111), (10, some 113)], [(8, some 111)], [(8, some 111), (11, some 114), (12, some 115)], [(8, some 111), (13, some 116)], [(14, some 117)], [(14, some 117), (15, some 118)], [(14, some 117)], [(14, some 117), (16, some 119), (17, some 120)], [(8, some 111), (14, some 117), (18, some 121)], [(5, some 108), (8, some 111), (19, some 122)], [(5, some 108), (20, some 123)], [(21, some 124)], [(22, some 125)], [(22, some 125), (23, some 126)], [(22, some 125)], [(22, some 125), (24, some 127), (25, some 128)], [(22, some 125), (26, some 129)], [(27, some 130)], [(28, some 131)], [(28, some 131), (29, some 132)], [(30, some 133)]]
            [fun v _ => v = Value.slice (some ⟨b12, o12, none⟩) n12 cap12, fun v _ => v = Value.int .i64 n12, fun v _ => v = Value.bool true, fun v _ => v = Value.bool true, fun v _ => v = Value.bool true, fun v _ => v = Value.bool true, fun v _ => v = Value.bool true, fun v _ => v = Value.bool false, fun v _ => v = Value.bool false, fun v _ => v = Value.slice (some ⟨b12, o12, none⟩) n12 cap12, fun v _ => v = Value.pointer (some ⟨b12, o12, none⟩), fun v _ => v = Value.agg #[.string ⟨x.k.toArray⟩, .int .i64 x.q, .string ⟨x.v.toArray⟩], fun v _ => v = Value.agg #[.string ⟨x.k.toArray⟩, .int .i64 x.q, .string ⟨x.v.toArray⟩], fun v _ => v = Value.bool true, fun v _ => v = Value.bool true, fun v _ => v = Value.pointer (some ⟨c6, 0, none⟩), fun v _ => v = Value.string ⟨x.k.toArray⟩, fun v _ => v = Value.string ⟨a.toArray⟩, fun v _ => v = Value.bool true, fun v _ => v = Value.bool true, fun v _ => v = Value.bool true, fun v _ => v = Value.bool true, fun v _ => v = Value.bool true, fun v _ => v = Value.pointer (some ⟨t, 0, none⟩), fun v W => SlAt v l W, fun v _ => v = Value.slice A n cap, fun v _ => v = Value.bool true, fun v _ => v = Value.bool true, fun v _ => v = Value.bool true, fun v _ => v = Value.bool true, fun v _ => v = Value.bool true, fun v _ => v = Value.bool true]
            [(0, some 103), (1, some 104), (2, some 105), (3, some 106), (4, some 107), (5, some 108), (6, some 109), (7, some 110), (8, some 111), (9, some 112), (10, some 113), (11, some 114), (12, some 115), (13, some 116), (14, some 117), (15, some 118), (16, some 119), (17, some 120), (18, some 121), (19, some 122), (20, some 123), (21, some 124), (22, some 125), (23, some 126), (24, some 127), (25, some 128), (26, some 129), (27, some 130), (28, some 131), (29, some 132), (30, some 133), (31, some 4)] (by kernel_rfl) (by kernel_rfl) (by kernel_rfl) ⟨MonoR.is _, MonoR.is _, MonoR.is _, MonoR.is _, MonoR.is _, MonoR.is _, MonoR.is _, MonoR.is _, MonoR.is _, MonoR.is _, MonoR.is _, MonoR.is _, MonoR.is _, MonoR.is _, MonoR.is _, MonoR.is _, MonoR.is _, MonoR.is _, MonoR.is _, MonoR.is _, MonoR.is _, MonoR.is _, MonoR.is _, MonoR.is _, MonoR.sl _, MonoR.is _, MonoR.is _, MonoR.is _, MonoR.is _, MonoR.is _, MonoR.is _, MonoR.is _, trivial⟩ ?_ ?_
          · refine ⟨?_, ?_⟩
            · intro vs W hb hD K hK
              simp only [fillL, Act.put, List.setIfInBounds_toArray, List.set_cons_succ, List.set_cons_zero] at hK ⊢
              clear hD
              refine want_yes (by kernel_rfl) ?_
              go_simp
              exact hK _ _ _ rfl (Below.refl _ _) rfl
            refine ⟨?_, ?_⟩
            · intro vs W hb hD K hK
              have h0 : vs 0 = Value.slice (some ⟨b12, o12, none⟩) n12 cap12 := hD (0, some 103) List.mem_cons_self
              simp only [fillL, Act.put, List.setIfInBounds_toArray, List.set_cons_succ, List.set_cons_zero, h0] at hK ⊢
              clear hD h0
              refine want_yes (by kernel_rfl) ?_
              go_simp
              exact hK _ _ _ rfl (Below.refl _ _) rfl
            refine ⟨?_, ?_⟩
            · intro vs W hb hD K hK
              have h1 : vs 1 = Value.int .i64 n12 := hD (1, some 104) List.mem_cons_self
              simp only [fillL, Act.put, List.setIfInBounds_toArray, List.set_cons_succ, List.set_cons_zero, h1] at hK ⊢
              clear hD h1
              refine want_yes (by kernel_rfl) ?_
              go_simp
              exact hK _ _ _ rfl (Below.refl _ _) rfl
            refine ⟨?_, ?_⟩
            · intro vs W hb hD K hK
              simp only [fillL, Act.put, List.setIfInBounds_toArray, List.set_cons_succ, List.set_cons_zero] at hK ⊢
              clear hD
              refine want_yes (by kernel_rfl) ?_
              go_simp
              exact hK _ _ _ rfl (Below.refl _ _) rfl
            refine ⟨?_, ?_⟩
            · intro vs W hb hD K hK
              have h2 : vs 2 = Value.bool true := hD (2, some 105) List.mem_cons_self
              have h3 : vs 3 = Value.bool true := hD (3, some 106) (List.mem_cons_of_mem _ List.mem_cons_self)
              simp only [fillL, Act.put, List.setIfInBounds_toArray, List.set_cons_succ, List.set_cons_zero, h2, h3] at hK ⊢
              clear hD h2 h3
              refine want_yes (by kernel_rfl) ?_
              go_simp
              exact hK _ _ _ rfl (Below.refl _ _) rfl
            refine ⟨?_, ?_⟩
            · intro vs W hb hD K hK
              have h4 : vs 4 = Value.bool true := hD (4, some 107) List.mem_cons_self
              simp only [fillL, Act.put, List.setIfInBounds_toArray, List.set_cons_succ, List.set_cons_zero, h4] at hK ⊢
              clear hD h4
              refine want_yes (by kernel_rfl) ?_
              go_simp
              exact hK _ _ _ rfl (Below.refl _ _) rfl
            refine ⟨?_, ?_⟩
            · intro vs W hb hD K hK
              have h5 : vs 5 = Value.bool true := hD (5, some 108) List.mem_cons_self
              simp only [fillL, Act.put, List.setIfInBounds_toArray, List.set_cons_succ, List.set_cons_zero, h5] at hK ⊢
              clear hD h5
              refine want_yes (by kernel_rfl) ?_
              go_simp
              exact hK _ _ _ rfl (Below.refl _ _) rfl
            refine ⟨?_, ?_⟩
            · intro vs W hb hD K hK
              have h5 : vs 5 = Value.bool true := hD (5, some 108) List.mem_cons_self
              have h6 : vs 6 = Value.bool true := hD (6, some 109) (List.mem_cons_of_mem _ List.mem_cons_self)
              simp only [fillL, Act.put, List.setIfInBounds_toArray, List.set_cons_succ, List.set_cons_zero, h5, h6] at hK ⊢
              clear hD h5 h6
              refine want_yes (by kernel_rfl) ?_
              go_simp
              exact hK _ _ _ rfl (Below.refl _ _) rfl
            refine ⟨?_, ?_⟩
            · intro vs W hb hD K hK
              have h5 : vs 5 = Value.bool true := hD (5, some 108) List.mem_cons_self
              have h7 : vs 7 = Value.bool false := hD (7, some 110) (List.mem_cons_of_mem _ List.mem_cons_self)
              simp only [fillL, Act.put, List.setIfInBounds_toArray, List.set_cons_succ, List.set_cons_zero, h5, h7] at hK ⊢
              clear hD h5 h7
              refine want_yes (by kernel_rfl) ?_
              go_simp
              exact hK _ _ _ rfl (Below.refl _ _) rfl
            refine ⟨?_, ?_⟩
            · intro vs W hb hD K hK
              have h8 : vs 8 = Value.bool false := hD (8, some 111) List.mem_cons_self
              simp only [fillL, Act.put, List.setIfInBounds_toArray, List.set_cons_succ, List.set_cons_zero, h8] at hK ⊢
              clear hD h8
              refine want_yes (by kernel_rfl) ?_
              go_simp
              exact hK _ _ _ rfl (Below.refl _ _) rfl
            refine ⟨?_, ?_⟩
            · intro vs W hb hD K hK
              have h8 : vs 8 = Value.bool false := hD (8, some 111) List.mem_cons_self
              have h9 : vs 9 = Value.slice (some ⟨b12, o12, none⟩) n12 cap12 := hD (9, some 112) (List.mem_cons_of_mem _ List.mem_cons_self)
              simp only [fillL, Act.put, List.setIfInBounds_toArray, List.set_cons_succ, List.set_cons_zero, h8, h9] at hK ⊢
              clear hD h8 h9
              refine want_yes (by kernel_rfl) ?_
              go_simp
              exact hK _ _ _ rfl (Below.refl _ _) rfl
            refine ⟨?_, ?_⟩
            · intro vs W hb hD K hK
              have h8 : vs 8 = Value.bool false := hD (8, some 111) List.mem_cons_self
              have h10 : vs 10 = Value.pointer (some ⟨b12, o12, none⟩) := hD (10, some 113) (List.mem_cons_of_mem _ List.mem_cons_self)
              simp only [fillL, Act.put, List.setIfInBounds_toArray, List.set_cons_succ, List.set_cons_zero, h8, h10] at hK ⊢
              clear hD h8 h10
              refine want_yes (by kernel_rfl) ?_
              obtain ⟨⟨a0, a1, a2⟩, ⟨b0, b1, b2⟩⟩ := LD.out W hb
              go_simp
              exact hK _ _ _ rfl (Below.refl _ _) rfl
            refine ⟨?_, ?_⟩
            · intro vs W hb hD K hK
              have h8 : vs 8 = Value.bool false := hD (8, some 111) List.mem_cons_self
              simp only [fillL, Act.put, List.setIfInBounds_toArray, List.set_cons_succ, List.set_cons_zero, h8] at hK ⊢
              clear hD h8
              refine want_yes (by kernel_rfl) ?_
              obtain ⟨⟨a0, a1, a2⟩, ⟨b0, b1, b2⟩⟩ := LD.out W hb
              go_simp
              exact hK _ _ _ rfl (Below.refl _ _) rfl
            refine ⟨?_, ?_⟩
            · intro vs W hb hD K hK
              have h8 : vs 8 = Value.bool false := hD (8, some 111) List.mem_cons_self
              have h11 : vs 11 = Value.agg #[.string ⟨x.k.toArray⟩, .int .i64 x.q, .string ⟨x.v.toArray⟩] := hD (11, some 114) (List.mem_cons_of_mem _ List.mem_cons_self)
              have h12 : vs 12 = Value.agg #[.string ⟨x.k.toArray⟩, .int .i64 x.q, .string ⟨x.v.toArray⟩] := hD (12, some 115) (List.mem_cons_of_mem _ (List.mem_cons_of_mem _ List.mem_cons_self))
              simp only [fillL, Act.put, List.setIfInBounds_toArray, List.set_cons_succ, List.set_cons_zero, h8, h11, h12] at hK ⊢
              clear hD h8 h11 h12
              refine want_yes (by kernel_rfl) ?_
              have k1 : (x.k == x.k) = true := by simp
              have k2 : (x.v == x.v) = true := by simp
              go_simp
              exact hK _ _ _ rfl (Below.refl _ _) rfl
            refine ⟨?_, ?_⟩
            · intro vs W hb hD K hK
              have h8 : vs 8 = Value.bool false := hD (8, some 111) List.mem_cons_self
              have h13 : vs 13 = Value.bool true := hD (13, some 116) (List.mem_cons_of_mem _ List.mem_cons_self)
              simp only [fillL, Act.put, List.setIfInBounds_toArray, List.set_cons_succ, List.set_cons_zero, h8, h13] at hK ⊢
              clear hD h8 h13
              refine want_yes (by kernel_rfl) ?_
              go_simp
              exact hK _ _ _ rfl (Below.refl _ _) rfl
            refine ⟨?_, ?_⟩
            · intro vs W hb hD K hK
              have h14 : vs 14 = Value.bool true := hD (14, some 117) List.mem_cons_self
              simp only [fillL, Act.put, List.setIfInBounds_toArray, List.set_cons_succ, List.set_cons_zero, h14] at hK ⊢
              clear hD h14
              refine want_yes (by kernel_rfl) ?_
              go_simp
              exact hK _ _ _ rfl (Below.refl _ _) rfl
            refine ⟨?_, ?_⟩
            · intro vs W hb hD K hK
              have h14 : vs 14 = Value.bool true := hD (14, some 117) List.mem_cons_self
              have h15 : vs 15 = Value.pointer (some ⟨c6, 0, none⟩) := hD (15, some 118) (List.mem_cons_of_mem _ List.mem_cons_self)
              simp only [fillL, Act.put, List.setIfInBounds_toArray, List.set_cons_succ, List.set_cons_zero, h14, h15] at hK ⊢
              clear hD h14 h15
              refine want_yes (by kernel_rfl) ?_
              obtain ⟨⟨a0, a1, a2⟩, ⟨b0, b1, b2⟩⟩ := LD.out W hb
              go_simp
              exact hK _ _ _ rfl (Below.refl _ _) rfl
            refine ⟨?_, ?_⟩
            · intro vs W hb hD K hK
              have h14 : vs 14 = Value.bool true := hD (14, some 117) List.mem_cons_self
              simp only [fillL, Act.put, List.setIfInBounds_toArray, List.set_cons_succ, List.set_cons_zero, h14] at hK ⊢
              clear hD h14
              refine want_yes (by kernel_rfl) ?_
              go_simp
              exact hK _ _ _ rfl (Below.refl _ _) rfl
            refine ⟨?_, ?_⟩
            · intro vs W hb hD K hK
              have h14 : vs 14 = Value.bool true := hD (14, some 117) List.mem_cons_self
              have h16 : vs 16 = Value.string ⟨x.k.toArray⟩ := hD (16, some 119) (List.mem_cons_of_mem _ List.mem_cons_self)
              have h17 : vs 17 = Value.string ⟨a.toArray⟩ := hD (17, some 120) (List.mem_cons_of_mem _ (List.mem_cons_of_mem _ List.mem_cons_self))
              simp only [fillL, Act.put, List.setIfInBounds_toArray, List.set_cons_succ, List.set_cons_zero, h14, h16, h17] at hK ⊢
              clear hD h14 h16 h17
              refine want_yes (by kernel_rfl) ?_
              go_simp
              exact hK _ _ _ rfl (Below.refl _ _) rfl
            refine ⟨?_, ?_⟩
            · intro vs W hb hD K hK
              have h8 : vs 8 = Value.bool false := hD (8, some 111) List.mem_cons_self
              have h14 : vs 14 = Value.bool true := hD (14, some 117) (List.mem_cons_of_mem _ List.mem_cons_self)
              have h18 : vs 18 = Value.bool true := hD (18, some 121) (List.mem_cons_of_mem _ (List.mem_cons_of_mem _ List.mem_cons_self))
              simp only [fillL, Act.put, List.setIfInBounds_toArray, List.set_cons_succ, List.set_cons_zero, h8, h14, h18] at hK ⊢
              clear hD h8 h14 h18
              refine want_yes (by kernel_rfl) ?_
              go_simp
              exact hK _ _ _ rfl (Below.refl _ _) rfl
            refine ⟨?_, ?_⟩
            · intro vs W hb hD K hK
              have h5 : vs 5 = Value.bool true := hD (5, some 108) List.mem_cons_self
              have h8 : vs 8 = Value.bool false := hD (8, some 111) (List.mem_cons_of_mem _ List.mem_cons_self)
              have h19 : vs 19 = Value.bool true := hD (19, some 122) (List.mem_cons_of_mem _ (List.mem_cons_of_mem _ List.mem_cons_self))
              simp only [fillL, Act.put, List.setIfInBounds_toArray, List.set_cons_succ, List.set_cons_zero, h5, h8, h19] at hK ⊢
              clear hD h5 h8 h19
              refine want_yes (by kernel_rfl) ?_
              go_simp
              exact hK _ _ _ rfl (Below.refl _ _) rfl
            refine ⟨?_, ?_⟩
            · intro vs W hb hD K hK
              have h5 : vs 5 = Value.bool true := hD (5, some 108) List.mem_cons_self
              have h20 : vs 20 = Value.bool true := hD (20, some 123) (List.mem_cons_of_mem _ List.mem_cons_self)
              simp only [fillL, Act.put, List.setIfInBounds_toArray, List.set_cons_succ, List.set_cons_zero, h5, h20] at hK ⊢
              clear hD h5 h20
              refine want_yes (by kernel_rfl) ?_
              go_simp
              exact hK _ _ _ rfl (Below.refl _ _) rfl
            refine ⟨?_, ?_⟩
            · intro vs W hb hD K hK
              have h21 : vs 21 = Value.bool true := hD (21, some 124) List.mem_cons_self
              simp only [fillL, Act.put, List.setIfInBounds_toArray, List.set_cons_succ, List.set_cons_zero, h21] at hK ⊢
              clear hD h21
              refine want_yes (by kernel_rfl) ?_
              go_simp
              exact hK _ _ _ rfl (Below.refl _ _) rfl
            refine ⟨?_, ?_⟩
            · intro vs W hb hD K hK
              have h22 : vs 22 = Value.bool true := hD (22, some 125) List.mem_cons_self
              simp only [fillL, Act.put, List.setIfInBounds_toArray, List.set_cons_succ, List.set_cons_zero, h22] at hK ⊢
              clear hD h22
              refine want_yes (by kernel_rfl) ?_
              go_simp
              exact hK _ _ _ rfl (Below.refl _ _) rfl
            refine ⟨?_, ?_⟩
            · intro vs W hb hD K hK
              have h22 : vs 22 = Value.bool true := hD (22, some 125) List.mem_cons_self
              have h23 : vs 23 = Value.pointer (some ⟨t, 0, none⟩) := hD (23, some 126) (List.mem_cons_of_mem _ List.mem_cons_self)
              simp only [fillL, Act.put, List.setIfInBounds_toArray, List.set_cons_succ, List.set_cons_zero, h22, h23] at hK ⊢
              clear hD h22 h23
              refine want_yes (by kernel_rfl) ?_
              obtain ⟨ht, -⟩ := LAT.out W hb
              go_simp
              refine ⟨trivial, (callsIn_wide.2 (CA.out _ ht)).mono ?_⟩
              rintro e9 wb ⟨bb, v, rfl, own⟩
              exact hK _ _ _ rfl bb (slAt_own own)
            refine ⟨?_, ?_⟩
            · intro vs W hb hD K hK
              have h22 : vs 22 = Value.bool true := hD (22, some 125) List.mem_cons_self
              simp only [fillL, Act.put, List.setIfInBounds_toArray, List.set_cons_succ, List.set_cons_zero, h22] at hK ⊢
              clear hD h22
              refine want_yes (by kernel_rfl) ?_
              go_simp
              exact hK _ _ _ rfl (Below.refl _ _) rfl
            refine ⟨?_, ?_⟩
            · intro vs W hb hD K hK
              have h22 : vs 22 = Value.bool true := hD (22, some 125) List.mem_cons_self
              obtain ⟨x24, hx24⟩ : ∃ x, vs 24 = x := ⟨_, rfl⟩
              have h24 : (fun v W => SlAt v l W) (vs 24) W := hD (24, some 127) (List.mem_cons_of_mem _ List.mem_cons_self)
              rw [hx24] at h24
              have h25 : vs 25 = Value.slice A n cap := hD (25, some 128) (List.mem_cons_of_mem _ (List.mem_cons_of_mem _ List.mem_cons_self))
              simp only [fillL, Act.put, List.setIfInBounds_toArray, List.set_cons_succ, List.set_cons_zero, h22, hx24, h25] at hK ⊢
              clear hD h22 hx24 h25
              refine want_yes (by kernel_rfl) ?_
              obtain ⟨-, hl, -⟩ := LAT.out W hb
              go_simp
              refine ⟨trivial, (callsIn_wide.2 (CQ.out _ _ _ h24 hl)).mono ?_⟩
              rintro e9 wb ⟨rfl, bb⟩
              exact hK _ _ _ rfl bb rfl
            refine ⟨?_, ?_⟩
            · intro vs W hb hD K hK
              have h22 : vs 22 = Value.bool true := hD (22, some 125) List.mem_cons_self
              have h26 : vs 26 = Value.bool true := hD (26, some 129) (List.mem_cons_of_mem _ List.mem_cons_self)
              simp only [fillL, Act.put, List.setIfInBounds_toArray, List.set_cons_succ, List.set_cons_zero, h22, h26] at hK ⊢
              clear hD h22 h26
              refine want_yes (by kernel_rfl) ?_
              go_simp
              exact hK _ _ _ rfl (Below.refl _ _) rfl
            refine ⟨?_, ?_⟩
            · intro vs W hb hD K hK
              have h27 : vs 27 = Value.bool true := hD (27, some 130) List.mem_cons_self
              simp only [fillL, Act.put, List.setIfInBounds_toArray, List.set_cons_succ, List.set_cons_zero, h27] at hK ⊢
              clear hD h27
              refine want_yes (by kernel_rfl) ?_
              go_simp
              exact hK _ _ _ rfl (Below.refl _ _) rfl
            refine ⟨?_, ?_⟩
            · intro vs W hb hD K hK
              have h28 : vs 28 = Value.bool true := hD (28, some 131) List.mem_cons_self
              simp only [fillL, Act.put, List.setIfInBounds_toArray, List.set_cons_succ, List.set_cons_zero, h28] at hK ⊢
              clear hD h28
              refine want_yes (by kernel_rfl) ?_
              go_simp
              refine ⟨trivial, (callsIn_wide.2 (CDO.out _)).mono ?_⟩
              rintro e9 wb ⟨rfl, bb⟩
              exact hK _ _ _ rfl bb rfl
            refine ⟨?_, ?_⟩
            · intro vs W hb hD K hK
              have h28 : vs 28 = Value.bool true := hD (28, some 131) List.mem_cons_self
              have h29 : vs 29 = Value.bool true := hD (29, some 132) (List.mem_cons_of_mem _ List.mem_cons_self)
              simp only [fillL, Act.put, List.setIfInBounds_toArray, List.set_cons_succ, List.set_cons_zero, h28, h29] at hK ⊢
              clear hD h28 h29
              refine want_yes (by kernel_rfl) ?_
              go_simp
              exact hK _ _ _ rfl (Below.refl _ _) rfl
            refine ⟨?_, ?_⟩
            · intro vs W hb hD K hK
              have h30 : vs 30 = Value.bool true := hD (30, some 133) List.mem_cons_self
              simp only [fillL, Act.put, List.setIfInBounds_toArray, List.set_cons_succ, List.set_cons_zero, h30] at hK ⊢
              clear hD h30
              refine want_yes (by kernel_rfl) ?_
              go_simp
              exact hK _ _ _ rfl (Below.refl _ _) rfl
            trivial
          · intro vs W hb hF
            have h0 : vs 0 = Value.slice (some ⟨b12, o12, none⟩) n12 cap12 := hF 0 (by decide)
            have h1 : vs 1 = Value.int .i64 n12 := hF 1 (by decide)
            have h2 : vs 2 = Value.bool true := hF 2 (by decide)
            have h3 : vs 3 = Value.bool true := hF 3 (by decide)
            have h4 : vs 4 = Value.bool true := hF 4 (by decide)
            have h5 : vs 5 = Value.bool true := hF 5 (by decide)
            have h6 : vs 6 = Value.bool true := hF 6 (by decide)
            have h7 : vs 7 = Value.bool false := hF 7 (by decide)
            have h8 : vs 8 = Value.bool false := hF 8 (by decide)
            have h9 : vs 9 = Value.slice (some ⟨b12, o12, none⟩) n12 cap12 := hF 9 (by decide)
            have h10 : vs 10 = Value.pointer (some ⟨b12, o12, none⟩) := hF 10 (by decide)
            have h11 : vs 11 = Value.agg #[.string ⟨x.k.toArray⟩, .int .i64 x.q, .string ⟨x.v.toArray⟩] := hF 11 (by decide)
            have h12 : vs 12 = Value.agg #[.string ⟨x.k.toArray⟩, .int .i64 x.q, .string ⟨x.v.toArray⟩] := hF 12 (by decide)
            have h13 : vs 13 = Value.bool true := hF 13 (by decide)
            have h14 : vs 14 = Value.bool true := hF 14 (by decide)
            have h15 : vs 15 = Value.pointer (some ⟨c6, 0, none⟩) := hF 15 (by decide)
            have h16 : vs 16 = Value.string ⟨x.k.toArray⟩ := hF 16 (by decide)
            have h17 : vs 17 = Value.string ⟨a.toArray⟩ := hF 17 (by decide)
            have h18 : vs 18 = Value.bool true := hF 18 (by decide)
            have h19 : vs 19 = Value.bool true := hF 19 (by decide)
            have h20 : vs 20 = Value.bool true := hF 20 (by decide)
            have h21 : vs 21 = Value.bool true := hF 21 (by decide)
            have h22 : vs 22 = Value.bool true := hF 22 (by decide)
            have h23 : vs 23 = Value.pointer (some ⟨t, 0, none⟩) := hF 23 (by decide)
            obtain ⟨x24, hx24⟩ : ∃ x, vs 24 = x := ⟨_, rfl⟩
            have h24 : (fun v W => SlAt v l W) (vs 24) W := hF 24 (by decide)
            rw [hx24] at h24
            have h25 : vs 25 = Value.slice A n cap := hF 25 (by decide)
            have h26 : vs 26 = Value.bool true := hF 26 (by decide)
            have h27 : vs 27 = Value.bool true := hF 27 (by decide)
            have h28 : vs 28 = Value.bool true := hF 28 (by decide)
            have h29 : vs 29 = Value.bool true := hF 29 (by decide)
            have h30 : vs 30 = Value.bool true := hF 30 (by decide)
            have h31 : vs 31 = Value.bool true := hF 31 (by decide)
            simp only [fillL, Act.put, List.setIfInBounds_toArray, List.set_cons_succ, List.set_cons_zero, h0, h1, h2, h3, h4, h5, h6, h7, h8, h9, h10, h11, h12, h13, h14, h15, h16, h17, h18, h19, h20, h21, h22, h23, hx24, h25, h26, h27, h28, h29, h30, h31]
            clear hF h0 h1 h2 h3 h4 h5 h6 h7 h8 h9 h10 h11 h12 h13 h14 h15 h16 h17 h18 h19 h20 h21 h22 h23 hx24 h25 h26 h27 h28 h29 h30 h31
            obtain ⟨-, -, hB⟩ := LAT.out W hb
            clear LAT CA CQ CDO
            go_wp2_with fail
            go_ret
            exact ⟨rfl, by rw [HX.out]; exact hB⟩
      | false =>
        have hfx := (HCE.out.2 rfl).1
        have hrest : rangeC l a (a ++ [0]) = [] := by
          have h := rangeC_one l a
          rw [hfx] at h
          cases hh : rangeC l a (a ++ [0]) with
          | nil => rfl
          | cons y ys => rw [hh] at h; cases h
        rw [hrest] at S12
        obtain ⟨A12, cap12, rfl, -, -, -⟩ := S12
        have LAT := Lib.hid (fun W (hb : Below w13.drew.heap.size w13.drew W) => (LAT13.out W hb).2)
        rw [show ([] : List Ce).length = 0 from rfl]
        clear hrest hfx LAT13 HCE CO CT
        go_wp2_with fail
        as_aux_lemma =>
          refine (wpIn_wide (n := 5)).1 ?_
          refine wpIn_region_rel [[], [(0, some 103)], [(1, some 104)], [], [(2, some 105), (3, some 106)], [(4, some 107)], [(5, some 108)], [(5, some 108), (6, some 109)], [(5, some 108), (7, some 110)], [(8, some 111)], [(8, some 111), (9, some 112)], [(8, some 111), (10, some 113)], [(8, some 111)], [(8, some 111), (11, some 114), (12, some 115)], [(8, some 111), (13, some 116)], [(14, some 117)], [(14, some 117), (15, some 118)], [(14, some 117)], [(14, some 117), (16, some 119), (17, some 120)], [(8, some 111), (14, some 117), (18, some 121)], [(5, some 108), (8, some 111), (19, some 122)], [(5, some 108), (20, some 123)], [(21, some 124)], [(22, some 125)], [(22, some 125), (23, some 126)], [(22, some 125)], [(22, some 125), (24, some 127), (25, some 128)], [(22, some 125), (26, some 129)], [(27, some 130)], [(28, some 131)], [(28, some 131), (29, some 132)], [(30, some 133)]]
            [fun v _ => v = Value.slice A12 0 cap12, fun v _ => v = Value.int .i64 0, fun v _ => v = Value.bool false, fun v _ => v = Value.bool false, fun v _ => v = Value.bool true, fun v _ => v = Value.bool true, fun v _ => v = Value.bool false, fun v _ => v = Value.bool true, fun v _ => v = Value.bool true, fun v _ => v = undef, fun v _ => v = undef, fun v _ => v = undef, fun v _ => v = undef, fun v _ => v = undef, fun v _ => v = undef, fun v _ => v = undef, fun v _ => v = undef, fun v _ => v = undef, fun v _ => v = undef, fun v _ => v = undef, fun v _ => v = Value.bool true, fun v _ => v = Value.bool true, fun v _ => v = Value.bool true, fun v _ => v = Value.pointer (some ⟨t, 0, none⟩), fun v W => SlAt v l W, fun v _ => v = Value.slice A n cap, fun v _ => v = Value.bool true, fun v _ => v = Value.bool true, fun v _ => v = Value.bool true, fun v _ => v = Value.bool true, fun v _ => v = Value.bool true, fun v _ => v = Value.bool true]
            [(0, some 103), (1, some 104), (2, some 105), (3, some 106), (4, some 107), (5, some 108), (6, some 109), (7, some 110), (8, some 111), (9, some 112), (10, some 113), (11, some 114), (12, some 115), (13, some 116), (14, some 117), (15, some 118), (16, some 119), (17, some 120), (18, some 121), (19, some 122), (20, some 123), (21, some 124), (22, some 125), (23, some 126), (24, some 127), (25, some 128), (26, some 129), (27, some 130), (28, some 131), (29, some 132), (30, some 133), (31, some 4)] (by kernel_rfl) (by kernel_rfl) (by kernel_rfl) ⟨MonoR.is _, MonoR.is _, MonoR.is _, MonoR.is _, MonoR.is _, MonoR.is _, MonoR.is _, MonoR.is _, MonoR.is _, MonoR.is _, MonoR.is _, MonoR.is _, MonoR.is _, MonoR.is _, MonoR.is _, MonoR.is _, MonoR.is _, MonoR.is _, MonoR.is _, MonoR.is _, MonoR.is _, MonoR.is _, MonoR.is _, MonoR.is _, MonoR.sl _, MonoR.is _, MonoR.is _, MonoR.is _, MonoR.is _, MonoR.is _, MonoR.is _, MonoR.is _, trivial⟩ ?_ ?_
          · refine ⟨?_, ?_⟩
            · intro vs W hb hD K hK
              simp only [fillL, Act.put, List.setIfInBounds_toArray, List.set_cons_succ, List.set_cons_zero] at hK ⊢
              clear hD
              refine want_yes (by kernel_rfl) ?_
              go_simp
              exact hK _ _ _ rfl (Below.refl _ _) rfl
            refine ⟨?_, ?_⟩
            · intro vs W hb hD K hK
              have h0 : vs 0 = Value.slice A12 0 cap12 := hD (0, some 103) List.mem_cons_self
              simp only [fillL, Act.put, List.setIfInBounds_toArray, List.set_cons_succ, List.set_cons_zero, h0] at hK ⊢
              clear hD h0
              refine want_yes (by kernel_rfl) ?_
              go_simp
              exact hK _ _ _ rfl (Below.refl _ _) rfl
            refine ⟨?_, ?_⟩
            · intro vs W hb hD K hK
              have h1 : vs 1 = Value.int .i64 0 := hD (1, some 104) List.mem_cons_self
              simp only [fillL, Act.put, List.setIfInBounds_toArray, List.set_cons_succ, List.set_cons_zero, h1] at hK ⊢
              clear hD h1
              refine want_yes (by kernel_rfl) ?_
              go_simp
              exact hK _ _ _ rfl (Below.refl _ _) rfl
            refine ⟨?_, ?_⟩
            · intro vs W hb hD K hK
              simp only [fillL, Act.put, List.setIfInBounds_toArray, List.set_cons_succ, List.set_cons_zero] at hK ⊢
              clear hD
              refine want_yes (by kernel_rfl) ?_
              go_simp
              exact hK _ _ _ rfl (Below.refl _ _) rfl
            refine ⟨?_, ?_⟩
            · intro vs W hb hD K hK
              have h2 : vs 2 = Value.bool false := hD (2, some 105) List.mem_cons_self
              have h3 : vs 3 = Value.bool false := hD (3, some 106) (List.mem_cons_of_mem _ List.mem_cons_self)
              simp only [fillL, Act.put, List.setIfInBounds_toArray, List.set_cons_succ, List.set_cons_zero, h2, h3] at hK ⊢
              clear hD h2 h3
              refine want_yes (by kernel_rfl) ?_
              go_simp
              exact hK _ _ _ rfl (Below.refl _ _) rfl
            refine ⟨?_, ?_⟩
            · intro vs W hb hD K hK
              have h4 : vs 4 = Value.bool true := hD (4, some 107) List.mem_cons_self
              simp only [fillL, Act.put, List.setIfInBounds_toArray, List.set_cons_succ, List.set_cons_zero, h4] at hK ⊢
              clear hD h4
              refine want_yes (by kernel_rfl) ?_
              go_simp
              exact hK _ _ _ rfl (Below.refl _ _) rfl
            refine ⟨?_, ?_⟩
            · intro vs W hb hD K hK
              have h5 : vs 5 = Value.bool true := hD (5, some 108) List.mem_cons_self
              simp only [fillL, Act.put, List.setIfInBounds_toArray, List.set_cons_succ, List.set_cons_zero, h5] at hK ⊢
              clear hD h5
              refine want_yes (by kernel_rfl) ?_
              go_simp
              exact hK _ _ _ rfl (Below.refl _ _) rfl
            refine ⟨?_, ?_⟩
            · intro vs W hb hD K hK
              have h5 : vs 5 = Value.bool true := hD (5, some 108) List.mem_cons_self
              have h6 : vs 6 = Value.bool false := hD (6, some 109) (List.mem_cons_of_mem _ List.mem_cons_self)
              simp only [fillL, Act.put, List.setIfInBounds_toArray, List.set_cons_succ, List.set_cons_zero, h5, h6] at hK ⊢
              clear hD h5 h6
              refine want_yes (by kernel_rfl) ?_
              go_simp
              exact hK _ _ _ rfl (Below.refl _ _) rfl
            refine ⟨?_, ?_⟩
            · intro vs W hb hD K hK
              have h5 : vs 5 = Value.bool true := hD (5, some 108) List.mem_cons_self
              have h7 : vs 7 = Value.bool true := hD (7, some 110) (List.mem_cons_of_mem _ List.mem_cons_self)
              simp only [fillL, Act.put, List.setIfInBounds_toArray, List.set_cons_succ, List.set_cons_zero, h5, h7] at hK ⊢
              clear hD h5 h7
              refine want_yes (by kernel_rfl) ?_
              go_simp
              exact hK _ _ _ rfl (Below.refl _ _) rfl
            refine ⟨?_, ?_⟩
            · intro vs W hb hD K hK
              have h8 : vs 8 = Value.bool true := hD (8, some 111) List.mem_cons_self
              simp only [fillL, Act.put, List.setIfInBounds_toArray, List.set_cons_succ, List.set_cons_zero, h8] at hK ⊢
              clear hD h8
              refine want_no (Bool.eq_false_iff.1 (by kernel_rfl)) ⟨fun _ _ => trivial, ?_⟩
              exact hK _ _ _ rfl (Below.refl _ _) rfl
            refine ⟨?_, ?_⟩
            · intro vs W hb hD K hK
              have h8 : vs 8 = Value.bool true := hD (8, some 111) List.mem_cons_self
              have h9 : vs 9 = undef := hD (9, some 112) (List.mem_cons_of_mem _ List.mem_cons_self)
              simp only [fillL, Act.put, List.setIfInBounds_toArray, List.set_cons_succ, List.set_cons_zero, h8, h9] at hK ⊢
              clear hD h8 h9
              refine want_no (Bool.eq_false_iff.1 (by kernel_rfl)) ⟨fun _ _ => trivial, ?_⟩
              exact hK _ _ _ rfl (Below.refl _ _) rfl
            refine ⟨?_, ?_⟩
            · intro vs W hb hD K hK
              have h8 : vs 8 = Value.bool true := hD (8, some 111) List.mem_cons_self
              have h10 : vs 10 = undef := hD (10, some 113) (List.mem_cons_of_mem _ List.mem_cons_self)
              simp only [fillL, Act.put, List.setIfInBounds_toArray, List.set_cons_succ, List.set_cons_zero, h8, h10] at hK ⊢
              clear hD h8 h10
              refine want_no (Bool.eq_false_iff.1 (by kernel_rfl)) ⟨fun _ _ => trivial, ?_⟩
              exact hK _ _ _ rfl (Below.refl _ _) rfl
            refine ⟨?_, ?_⟩
            · intro vs W hb hD K hK
              have h8 : vs 8 = Value.bool true := hD (8, some 111) List.mem_cons_self
              simp only [fillL, Act.put, List.setIfInBounds_toArray, List.set_cons_succ, List.set_cons_zero, h8] at hK ⊢
              clear hD h8
              refine want_no (Bool.eq_false_iff.1 (by kernel_rfl)) ⟨fun _ _ => trivial, ?_⟩
              exact hK _ _ _ rfl (Below.refl _ _) rfl
            refine ⟨?_, ?_⟩
            · intro vs W hb hD K hK
              have h8 : vs 8 = Value.bool true := hD (8, some 111) List.mem_cons_self
              have h11 : vs 11 = undef := hD (11, some 114) (List.mem_cons_of_mem _ List.mem_cons_self)
              have h12 : vs 12 = undef := hD (12, some 115) (List.mem_cons_of_mem _ (List.mem_cons_of_mem _ List.mem_cons_self))
              simp only [fillL, Act.put, List.setIfInBounds_toArray, List.set_cons_succ, List.set_cons_zero, h8, h11, h12] at hK ⊢
              clear hD h8 h11 h12
              refine want_no (Bool.eq_false_iff.1 (by kernel_rfl)) ⟨fun _ _ => trivial, ?_⟩
              exact hK _ _ _ rfl (Below.refl _ _) rfl
            refine ⟨?_, ?_⟩
            · intro vs W hb hD K hK
              have h8 : vs 8 = Value.bool true := hD (8, some 111) List.mem_cons_self
              have h13 : vs 13 = undef := hD (13, some 116) (List.mem_cons_of_mem _ List.mem_cons_self)
              simp only [fillL, Act.put, List.setIfInBounds_toArray, List.set_cons_succ, List.set_cons_zero, h8, h13] at hK ⊢
              clear hD h8 h13
              refine want_no (Bool.eq_false_iff.1 (by kernel_rfl)) ⟨fun _ _ => trivial, ?_⟩
              exact hK _ _ _ rfl (Below.refl _ _) rfl
            refine ⟨?_, ?_⟩
            · intro vs W hb hD K hK
              have h14 : vs 14 = undef := hD (14, some 117) List.mem_cons_self
              simp only [fillL, Act.put, List.setIfInBounds_toArray, List.set_cons_succ, List.set_cons_zero, h14] at hK ⊢
              clear hD h14
              refine want_no (Bool.eq_false_iff.1 (by kernel_rfl)) ⟨fun _ _ => trivial, ?_⟩
              exact hK _ _ _ rfl (Below.refl _ _) rfl
            refine ⟨?_, ?_⟩
            · intro vs W hb hD K hK
              have h14 : vs 14 = undef := hD (14, some 117) List.mem_cons_self
              have h15 : vs 15 = undef := hD (15, some 118) (List.mem_cons_of_mem _ List.mem_cons_self)
              simp only [fillL, Act.put, List.setIfInBounds_toArray, List.set_cons_succ, List.set_cons_zero, h14, h15] at hK ⊢
              clear hD h14 h15
              refine want_no (Bool.eq_false_iff.1 (by kernel_rfl)) ⟨fun _ _ => trivial, ?_⟩
              exact hK _ _ _ rfl (Below.refl _ _) rfl
            refine ⟨?_, ?_⟩
            · intro vs W hb hD K hK
              have h14 : vs 14 = undef := hD (14, some 117) List.mem_cons_self
              simp only [fillL, Act.put, List.setIfInBounds_toArray, List.set_cons_succ, List.set_cons_zero, h14] at hK ⊢
              clear hD h14
              refine want_no (Bool.eq_false_iff.1 (by kernel_rfl)) ⟨fun _ _ => trivial, ?_⟩
              exact hK _ _ _ rfl (Below.refl _ _) rfl
            refine ⟨?_, ?_⟩
            · intro vs W hb hD K hK
              have h14 : vs 14 = undef := hD (14, some 117) List.mem_cons_self
              have h16 : vs 16 = undef := hD (16, some 119) (List.mem_cons_of_mem _ List.mem_cons_self)
              have h17 : vs 17 = undef := hD (17, some 120) (List.mem_cons_of_mem _ (List.mem_cons_of_mem _ List.mem_cons_self))
              simp only [fillL, Act.put, List.setIfInBounds_toArray, List.set_cons_succ, List.set_cons_zero, h14, h16, h17] at hK ⊢
              clear hD h14 h16 h17
              refine want_no (Bool.eq_false_iff.1 (by kernel_rfl)) ⟨fun _ _ => trivial, ?_⟩
              exact hK _ _ _ rfl (Below.refl _ _) rfl
            refine ⟨?_, ?_⟩
            · intro vs W hb hD K hK
              have h8 : vs 8 = Value.bool true := hD (8, some 111) List.mem_cons_self
              have h14 : vs 14 = undef := hD (14, some 117) (List.mem_cons_of_mem _ List.mem_cons_self)
              have h18 : vs 18 = undef := hD (18, some 121) (List.mem_cons_of_mem _ (List.mem_cons_of_mem _ List.mem_cons_self))
              simp only [fillL, Act.put, List.setIfInBounds_toArray, List.set_cons_succ, List.set_cons_zero, h8, h14, h18] at hK ⊢
              clear hD h8 h14 h18
              refine want_no (Bool.eq_false_iff.1 (by kernel_rfl)) ⟨fun _ _ => trivial, ?_⟩
              exact hK _ _ _ rfl (Below.refl _ _) rfl
            refine ⟨?_, ?_⟩
            · intro vs W hb hD K hK
              have h5 : vs 5 = Value.bool true := hD (5, some 108) List.mem_cons_self
              have h8 : vs 8 = Value.bool true := hD (8, some 111) (List.mem_cons_of_mem _ List.mem_cons_self)
              have h19 : vs 19 = undef := hD (19, some 122) (List.mem_cons_of_mem _ (List.mem_cons_of_mem _ List.mem_cons_self))
              simp only [fillL, Act.put, List.setIfInBounds_toArray, List.set_cons_succ, List.set_cons_zero, h5, h8, h19] at hK ⊢
              clear hD h5 h8 h19
              refine want_yes (by kernel_rfl) ?_
              go_simp
              exact hK _ _ _ rfl (Below.refl _ _) rfl
            refine ⟨?_, ?_⟩
            · intro vs W hb hD K hK
              have h5 : vs 5 = Value.bool true := hD (5, some 108) List.mem_cons_self
              have h20 : vs 20 = Value.bool true := hD (20, some 123) (List.mem_cons_of_mem _ List.mem_cons_self)
              simp only [fillL, Act.put, List.setIfInBounds_toArray, List.set_cons_succ, List.set_cons_zero, h5, h20] at hK ⊢
              clear hD h5 h20
              refine want_yes (by kernel_rfl) ?_
              go_simp
              exact hK _ _ _ rfl (Below.refl _ _) rfl
            refine ⟨?_, ?_⟩
            · intro vs W hb hD K hK
              have h21 : vs 21 = Value.bool true := hD (21, some 124) List.mem_cons_self
              simp only [fillL, Act.put, List.setIfInBounds_toArray, List.set_cons_succ, List.set_cons_zero, h21] at hK ⊢
              clear hD h21
              refine want_yes (by kernel_rfl) ?_
              go_simp
              exact hK _ _ _ rfl (Below.refl _ _) rfl
            refine ⟨?_, ?_⟩
            · intro vs W hb hD K hK
              have h22 : vs 22 = Value.bool true := hD (22, some 125) List.mem_cons_self
              simp only [fillL, Act.put, List.setIfInBounds_toArray, List.set_cons_succ, List.set_cons_zero, h22] at hK ⊢
              clear hD h22
              refine want_yes (by kernel_rfl) ?_
              go_simp
              exact hK _ _ _ rfl (Below.refl _ _) rfl
            refine ⟨?_, ?_⟩
            · intro vs W hb hD K hK
              have h22 : vs 22 = Value.bool true := hD (22, some 125) List.mem_cons_self
              have h23 : vs 23 = Value.pointer (some ⟨t, 0, none⟩) := hD (23, some 126) (List.mem_cons_of_mem _ List.mem_cons_self)
              simp only [fillL, Act.put, List.setIfInBounds_toArray, List.set_cons_succ, List.set_cons_zero, h22, h23] at hK ⊢
              clear hD h22 h23
              refine want_yes (by kernel_rfl) ?_
              obtain ⟨ht, -⟩ := LAT.out W hb
              go_simp
              refine ⟨trivial, (callsIn_wide.2 (CA.out _ ht)).mono ?_⟩
              rintro e9 wb ⟨bb, v, rfl, own⟩
              exact hK _ _ _ rfl bb (slAt_own own)
            refine ⟨?_, ?_⟩
            · intro vs W hb hD K hK
              have h22 : vs 22 = Value.bool true := hD (22, some 125) List.mem_cons_self
              simp only [fillL, Act.put, List.setIfInBounds_toArray, List.set_cons_succ, List.set_cons_zero, h22] at hK ⊢
              clear hD h22
              refine want_yes (by kernel_rfl) ?_
              go_simp
              exact hK _ _ _ rfl (Below.refl _ _) rfl
            refine ⟨?_, ?_⟩
            · intro vs W hb hD K hK
              have h22 : vs 22 = Value.bool true := hD (22, some 125) List.mem_cons_self
              obtain ⟨x24, hx24⟩ : ∃ x, vs 24 = x := ⟨_, rfl⟩
              have h24 : (fun v W => SlAt v l W) (vs 24) W := hD (24, some 127) (List.mem_cons_of_mem _ List.mem_cons_self)
              rw [hx24] at h24
              have h25 : vs 25 = Value.slice A n cap := hD (25, some 128) (List.mem_cons_of_mem _ (List.mem_cons_of_mem _ List.mem_cons_self))
              simp only [fillL, Act.put, List.setIfInBounds_toArray, List.set_cons_succ, List.set_cons_zero, h22, hx24, h25] at hK ⊢
              clear hD h22 hx24 h25
              refine want_yes (by kernel_rfl) ?_
              obtain ⟨-, hl, -⟩ := LAT.out W hb
              go_simp
              refine ⟨trivial, (callsIn_wide.2 (CQ.out _ _ _ h24 hl)).mono ?_⟩
              rintro e9 wb ⟨rfl, bb⟩
              exact hK _ _ _ rfl bb rfl
            refine ⟨?_, ?_⟩
            · intro vs W hb hD K hK
              have h22 : vs 22 = Value.bool true := hD (22, some 125) List.mem_cons_self
              have h26 : vs 26 = Value.bool true := hD (26, some 129) (List.mem_cons_of_mem _ List.mem_cons_self)
              simp only [fillL, Act.put, List.setIfInBounds_toArray, List.set_cons_succ, List.set_cons_zero, h22, h26] at hK ⊢
              clear hD h22 h26
              refine want_yes (by kernel_rfl) ?_
              go_simp
              exact hK _ _ _ rfl (Below.refl _ _) rfl
            refine ⟨?_, ?_⟩
            · intro vs W hb hD K hK
              have h27 : vs 27 = Value.bool true := hD (27, some 130) List.mem_cons_self
              simp only [fillL, Act.put, List.setIfInBounds_toArray, List.set_cons_succ, List.set_cons_zero, h27] at hK ⊢
              clear hD h27
              refine want_yes (by kernel_rfl) ?_
              go_simp
              exact hK _ _ _ rfl (Below.refl _ _) rfl
            refine ⟨?_, ?_⟩
            · intro vs W hb hD K hK
              have h28 : vs 28 = Value.bool true := hD (28, some 131) List.mem_cons_self
              simp only [fillL, Act.put, List.setIfInBounds_toArray, List.set_cons_succ, List.set_cons_zero, h28] at hK ⊢
              clear hD h28
              refine want_yes (by kernel_rfl) ?_
              go_simp
              refine ⟨trivial, (callsIn_wide.2 (CDO.out _)).mono ?_⟩
              rintro e9 wb ⟨rfl, bb⟩
              exact hK _ _ _ rfl bb rfl
            refine ⟨?_, ?_⟩
            · intro vs W hb hD K hK
              have h28 : vs 28 = Value.bool true := hD (28, some 131) List.mem_cons_self
              have h29 : vs 29 = Value.bool true := hD (29, some 132) (List.mem_cons_of_mem _ List.mem_cons_self)
              simp only [fillL, Act.put, List.setIfInBounds_toArray, List.set_cons_succ, List.set_cons_zero, h28, h29] at hK ⊢
              clear hD h28 h29
              refine want_yes (by kernel_rfl) ?_
              go_simp
              exact hK _ _ _ rfl (Below.refl _ _) rfl
            refine ⟨?_, ?_⟩
            · intro vs W hb hD K hK
              have h30 : vs 30 = Value.bool true := hD (30, some 133) List.mem_cons_self
              simp only [fillL, Act.put, List.setIfInBounds_toArray, List.set_cons_succ, List.set_cons_zero, h30] at hK ⊢
              clear hD h30
              refine want_yes (by kernel_rfl) ?_
              go_simp
              exact hK _ _ _ rfl (Below.refl _ _) rfl
            trivial
          · intro vs W hb hF
            have h0 : vs 0 = Value.slice A12 0 cap12 := hF 0 (by decide)
            have h1 : vs 1 = Value.int .i64 0 := hF 1 (by decide)
            have h2 : vs 2 = Value.bool false := hF 2 (by decide)
            have h3 : vs 3 = Value.bool false := hF 3 (by decide)
            have h4 : vs 4 = Value.bool true := hF 4 (by decide)
            have h5 : vs 5 = Value.bool true := hF 5 (by decide)
            have h6 : vs 6 = Value.bool false := hF 6 (by decide)
            have h7 : vs 7 = Value.bool true := hF 7 (by decide)
            have h8 : vs 8 = Value.bool true := hF 8 (by decide)
            have h9 : vs 9 = undef := hF 9 (by decide)
            have h10 : vs 10 = undef := hF 10 (by decide)
            have h11 : vs 11 = undef := hF 11 (by decide)
            have h12 : vs 12 = undef := hF 12 (by decide)
            have h13 : vs 13 = undef := hF 13 (by decide)
            have h14 : vs 14 = undef := hF 14 (by decide)
            have h15 : vs 15 = undef := hF 15 (by decide)
            have h16 : vs 16 = undef := hF 16 (by decide)
            have h17 : vs 17 = undef := hF 17 (by decide)
            have h18 : vs 18 = undef := hF 18 (by decide)
            have h19 : vs 19 = undef := hF 19 (by decide)
            have h20 : vs 20 = Value.bool true := hF 20 (by decide)
            have h21 : vs 21 = Value.bool true := hF 21 (by decide)
            have h22 : vs 22 = Value.bool true := hF 22 (by decide)
            have h23 : vs 23 = Value.pointer (some ⟨t, 0, none⟩) := hF 23 (by decide)
            obtain ⟨x24, hx24⟩ : ∃ x, vs 24 = x := ⟨_, rfl⟩
            have h24 : (fun v W => SlAt v l W) (vs 24) W := hF 24 (by decide)
            rw [hx24] at h24
            have h25 : vs 25 = Value.slice A n cap := hF 25 (by decide)
            have h26 : vs 26 = Value.bool true := hF 26 (by decide)
            have h27 : vs 27 = Value.bool true := hF 27 (by decide)
            have h28 : vs 28 = Value.bool true := hF 28 (by decide)
            have h29 : vs 29 = Value.bool true := hF 29 (by decide)
            have h30 : vs 30 = Value.bool true := hF 30 (by decide)
            have h31 : vs 31 = Value.bool true := hF 31 (by decide)
            simp only [fillL, Act.put, List.setIfInBounds_toArray, List.set_cons_succ, List.set_cons_zero, h0, h1, h2, h3, h4, h5, h6, h7, h8, h9, h10, h11, h12, h13, h14, h15, h16, h17, h18, h19, h20, h21, h22, h23, hx24, h25, h26, h27, h28, h29, h30, h31]
            clear hF h0 h1 h2 h3 h4 h5 h6 h7 h8 h9 h10 h11 h12 h13 h14 h15 h16 h17 h18 h19 h20 h21 h22 h23 hx24 h25 h26 h27 h28 h29 h30 h31
            obtain ⟨-, -, hB⟩ := LAT.out W hb
            clear LAT CA CQ CDO
            go_wp2_with fail
            go_ret
            exact ⟨rfl, by rw [HX.out]; exact hB⟩
theorem tablesParts_law (w : World) (v : Value) (l : List Ce) (a b c : List UInt8) (hs : SlAt v l w) (hn : v = .slice none 0 0 ∨ ∃ ad n c, v = .slice (some ad) n c) (hw : ∀ c ∈ l, WfC c) :
    Calls Try.prog 9 #[v, .agg #[.string ⟨a.toArray⟩, .string ⟨b.toArray⟩, .string ⟨c.toArray⟩]] w fun e w' => e = .returned (.bool true) ∧ Below w.heap.size w w' := by
  by_cases hall : greatL l 300 = false ∧ ¬ (1000 : Int) < (a.length : Int) ∧ ¬ (1000 : Int) < (b.length : Int) ∧ ¬ (1000 : Int) < (c.length : Int)
  · exact tablesParts_yes w v l a b c hs hw hall.2.1 hall.2.2.1 hall.2.2.2 hall.1
  · have cg := fun W (h : SlAt v l W) => greatL_any v l 300 W h hw (by omega)
    have nb := (Below.refl w.heap.size w).alloc (Nat.le_refl _) (.cells #[.string ⟨a.toArray⟩, .string ⟨b.toArray⟩, .string ⟨c.toArray⟩] 53)
    have hbx := heap_alloc_new w (.cells #[.string ⟨a.toArray⟩, .string ⟨b.toArray⟩, .string ⟨c.toArray⟩] 53)
    have CG := Lib.hid (cg _ (hs.later nb))
    have HB0 := Lib.hid nb
    have HBX := Lib.hid hbx
    have HSZ := Lib.hid (show (w.alloc (.cells #[.string ⟨a.toArray⟩, .string ⟨b.toArray⟩, .string ⟨c.toArray⟩] 53)).heap.size = w.heap.size + 1 by simp)
    obtain ⟨W0, hW0⟩ : ∃ W0, w.alloc (.cells #[.string ⟨a.toArray⟩, .string ⟨b.toArray⟩, .string ⟨c.toArray⟩] 53) = W0 := ⟨_, rfl⟩
    rw [hW0] at HB0 HBX CG HSZ
    have HA := Lib.hid hall
    clear cg hw hs nb hbx hn hall
    go_enter Try.func9, Try.ntmps9
    go_wp2_with fail
    clear hW0
    refine CG.out.mono ?_
    rintro e w1 ⟨rfl, b1⟩
    clear CG
    obtain ⟨X, hX⟩ : ∃ X, w.heap.size = X := ⟨_, rfl⟩
    have HX := Lib.hid hX
    rw [hX] at HBX HSZ ⊢
    have hb1 := (b1.block X (by have := HSZ.out; omega)).trans HBX.out
    have x0 : w1.cell? ⟨X, 0, none⟩ = some (.string ⟨a.toArray⟩) := by simp [World.cell?, hb1]
    have x1 : w1.cell? ⟨X, 1, none⟩ = some (.string ⟨b.toArray⟩) := by simp [World.cell?, hb1]
    have x2 : w1.cell? ⟨X, 2, none⟩ = some (.string ⟨c.toArray⟩) := by simp [World.cell?, hb1]
    have HB1 := Lib.hid (show Below X w w1 from by have h := HB0.out.trans (b1.mono (by have := HSZ.out; have := HX.out; omega)); rwa [hX] at h)
    clear hb1 b1 hX HBX HSZ HB0
    have hgo : ∀ g f1 f2 f3 : Bool, greatL l 300 = g → decide ((1000 : Int) < (a.length : Int)) = f1 → decide ((1000 : Int) < (b.length : Int)) = f2 → decide ((1000 : Int) < (c.length : Int)) = f3 → (g || f1 || f2 || f3) = true := by
      intro g f1 f2 f3 h0 h1 h2 h3
      have := HA.out
      cases g <;> cases f1 <;> cases f2 <;> cases f3 <;> simp_all
    have HGO := Lib.hid hgo
    clear hgo HA
    obtain ⟨g, hg⟩ : ∃ g, greatL l 300 = g := ⟨_, rfl⟩
    have HG := Lib.hid hg
    rw [hg]
    clear hg
    cases h1 : decide ((1000 : Int) < (a.length : Int)) <;> cases h2 : decide ((1000 : Int) < (b.length : Int)) <;> cases h3 : decide ((1000 : Int) < (c.length : Int)) <;> cases g <;>
      first
      | (exfalso; have := HGO.out _ _ _ _ HG.out h1 h2 h3; simp at this; done)
      | (go_wp2_with fail
         go_ret
         exact ⟨rfl, by rw [HX.out]; exact HB1.out⟩)
end Go.Proofs.Ytanaoepakllohaa
