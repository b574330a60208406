/- TablesAsk's walk. -/
import Derived.Test.YtanaoepakllohaaTabV
set_option linter.unusedSimpArgs false
set_option linter.unusedVariables false
namespace Go.Proofs.Ytanaoepakllohaa
set_option maxRecDepth 16000
open Go.RowKit Spoor
set_option linter.unusedVariables false

set_option maxRecDepth 100000 in
set_option maxHeartbeats 16000000 in
theorem tablesAsk_yes (w : World) (v : Value) (l : List Ce) (key e0 e1 : List UInt8) (hs : SlAt v l w) (hw : ∀ c ∈ l, WfC c) (hk : ¬ (1000 : Int) < (key.length : Int)) (hk0 : ¬ (1000 : Int) < (e0.length : Int)) (hk1 : ¬ (1000 : Int) < (e1.length : Int)) (hg : greatL l 300 = false) :
    Calls Try.prog 4 #[v, .string ⟨key.toArray⟩, .agg #[.string ⟨e0.toArray⟩, .string ⟨e1.toArray⟩]] w fun e w' => e = .returned (.bool true) ∧ Below w.heap.size w w' := by
  have CDO := Lib.hid tdoes_true
  have cg := fun W (h : SlAt v l W) => greatL_any v l 300 W h hw (by omega)
  rw [hg] at cg
  have hf := fits_great hg hw
  have hlen := (great_yes hg).1
  have hq := fits_q hf
  have CG := Lib.hid cg
  have ce := fun W (h : SlAt v l W) => buildT_any v l W h hf (by omega)
  have f0 := decide_eq_false hk
  have f1 := decide_eq_false hk0
  have f2 := decide_eq_false hk1
  have nb := (Below.refl w.heap.size w).alloc (Nat.le_refl _) (.cells #[.string ⟨e0.toArray⟩, .string ⟨e1.toArray⟩] 31)
  have hbx := heap_alloc_new w (.cells #[.string ⟨e0.toArray⟩, .string ⟨e1.toArray⟩] 31)
  have hs1 := hs.later nb
  have hsz : (w.alloc (.cells #[.string ⟨e0.toArray⟩, .string ⟨e1.toArray⟩] 31)).heap.size = w.heap.size + 1 := by simp
  obtain ⟨W0, hW0⟩ : ∃ W0, w.alloc (.cells #[.string ⟨e0.toArray⟩, .string ⟨e1.toArray⟩] 31) = W0 := ⟨_, rfl⟩
  rw [hW0] at nb hbx hs1 hsz
  obtain ⟨A, cap, rfl, hc1, hc2, hrow⟩ := hs
  obtain ⟨n, hn⟩ : ∃ n, l.length = n := ⟨_, rfl⟩
  have HW0 := Lib.hid (fun W (hb : Below W0.heap.size W0 W) => And.intro (hs1.later hb) (And.intro ((hb.block w.heap.size (by omega)).trans hbx) (btB nb hb)))
  have HS1 := Lib.hid hs1
  have HN := Lib.hid hn
  rw [hn] at HS1 HW0 CG ce ⊢
  obtain ⟨S, q, hbv, hcase⟩ := buildV_eq l
  rw [hbv] at ce
  have CE := Lib.hid ce
  have HC := Lib.hid hcase
  have HQ := Lib.hid hq
  have HLEN := Lib.hid hlen
  have HK := Lib.hid (show key.length ≤ 140737488351232 by omega)
  clear cg hf hg hw nb hbx hs1 hsz hn hrow hc1 hc2 ce hbv hcase hq hlen
  go_enter Try.func4, Try.ntmps4
  go_wp2_with fail
  clear hW0
  refine (CG.out _ HS1.out).mono ?_
  rintro e w1 ⟨rfl, b1⟩
  have LAT1 := Lib.hid (fun W (hb : Below w1.heap.size w1 W) => HW0.out W (btB b1 hb))
  obtain ⟨X, hX⟩ : ∃ X, w.heap.size = X := ⟨_, rfl⟩
  have HX := Lib.hid hX
  rw [hX] at LAT1 ⊢
  have hx1 := (LAT1.out w1 (Below.refl _ _)).2.1
  have x0 : w1.cell? ⟨X, 0, none⟩ = some (.string ⟨e0.toArray⟩) := by simp [World.cell?, hx1]
  have x1 : w1.cell? ⟨X, 1, none⟩ = some (.string ⟨e1.toArray⟩) := by simp [World.cell?, hx1]
  clear hx1 b1 HW0 CG HS1 hX
  go_wp2_with fail
  clear x0 x1
  refine (CE.out _ (LAT1.out _ (Below.refl _ _)).1).mono ?_
  rintro e w2 ⟨rfl, b2⟩
  have LAT2 := Lib.hid (fun W (hb : Below w2.heap.size w2 W) => LAT1.out W (btB b2 hb))
  clear b2 CE LAT1
  rcases HC.out with ⟨rfl, hso, -, rfl⟩ | ⟨hq0, -, -⟩
  rotate_left
  · have hqb : (q == 0) = false := by rw [beq_eq_false_iff_ne]; exact hq0
    clear HC HQ
    go_wp2_with fail
    refine (CDO.out _).mono ?_
    rintro e w3 ⟨rfl, b3⟩
    have hB := (LAT2.out _ b3).2.2
    go_wp2_with fail
    go_ret
    exact ⟨rfl, by rw [HX.out]; exact hB⟩
  have hlen := HLEN.out
  have hln := (table_len hso HQ.out (by omega)).2.2
  have c1 := fun W => openT_some (open_build hso (by omega) HQ.out) W (by omega)
  obtain ⟨f1', f2', f3', f4'⟩ := fours_facts hso (by omega)
  have cl := fun t W (h : TabAt t (fours l) W) => lenT_any t (fours l) W h (by omega) (by omega)
  have cgt := fun t W (h : TabAt t (fours l) W) => getT_any t (fours l) key W h f1' f2' f3' (by omega) HK.out
  have cr := fun t W (h : TabAt t (fours l) W) => rangeS_any t (fours l) e0 e1 W h f1' f2' f3' f4'
  rw [fours_flat] at cl cgt cr
  have cf := fun W (h : SlAt (.slice A n cap) l W) => refRangeS_any (.slice A n cap) l e0 e1 W h (by omega)
  have cgr := fun W (h : SlAt (.slice A n cap) l W) => refGetT_any (.slice A n cap) l key W h (by omega)
  have cq := fun a b W (h : SlAt a (rangeC l e0 e1) W) (k : SlAt b (rangeC l e0 e1) W) => sameCells_any a b _ _ W h k
  rw [decide_eq_true rfl] at cq
  obtain ⟨x, ob, hce, -, -⟩ := ceV_form (findC l key)
  rw [hce] at cgt cgr
  rw [HN.out] at cl
  obtain ⟨TS, hTS⟩ : ∃ TS, tableB l = TS := ⟨_, rfl⟩
  rw [hTS] at c1 ⊢
  have C1 := Lib.hid c1
  have CL := Lib.hid cl
  have CT := Lib.hid cgt
  have CR := Lib.hid cr
  have CF := Lib.hid cf
  have CV := Lib.hid cgr
  have CQ := Lib.hid cq
  clear HC hso HQ hlen hln c1 f1' f2' f3' f4' cl cgt cr cf cgr cq hce hTS HLEN HK
  go_wp2_with fail
  refine (C1.out _).mono ?_
  rintro e w4 ⟨b4, t, rfl, ht⟩
  have LAT4 := Lib.hid (fun W (hb : Below w4.heap.size w4 W) => And.intro (ht.later hb) (LAT2.out W (btB b4 hb)))
  clear b4 ht LAT2 C1
  go_wp2_with fail
  refine (CT.out _ _ (LAT4.out _ (Below.refl _ _)).1).mono ?_
  rintro e w5 ⟨rfl, b5⟩
  have LAT5 := Lib.hid (fun W (hb : Below w5.heap.size w5 W) => LAT4.out W (btB b5 hb))
  clear b5 LAT4 CT
  have nb6 := (Below.refl w5.heap.size w5).alloc (Nat.le_refl _) (boxC Ce.zero)
  have q6 := CeAt.boxed Ce.zero w5
  obtain ⟨c6, hc6⟩ : ∃ c6, w5.heap.size = c6 := ⟨_, rfl⟩
  have hcc6 : w5.heap.size ≤ c6 := by omega
  rw [hc6] at q6
  obtain ⟨v6, hv6⟩ : ∃ v6, w5.alloc (boxC Ce.zero) = v6 := ⟨_, rfl⟩
  have hvv6 : w5.alloc (.cells #[.string ⟨#[]⟩, .int .i64 0, .string ⟨#[]⟩] 36) = v6 := hv6
  rw [hv6] at nb6 q6
  obtain ⟨y0, y1, y2⟩ := q6.cell
  obtain ⟨z0, z1, z2⟩ := q6.frees
  unfold Ce.zero at y0 y1 y2
  dsimp only at y0 y1 y2
  have HQ6 := Lib.hid (q6.all nb6 hcc6 x)
  have hlt6 := q6.lt
  clear nb6 hv6 q6
  go_wp2_with fail
  obtain ⟨qq6, bb6⟩ := HQ6.out
  generalize (((v6.setCell ⟨c6, 0, none⟩ (.string ⟨(x).k.toArray⟩)).setCell ⟨c6, 1, none⟩ (.int .i64 (x).q)).setCell ⟨c6, 2, none⟩ (.string ⟨(x).v.toArray⟩)) = w6 at *
  have LAT6 := Lib.hid (fun W (hb : Below w6.heap.size w6 W) => And.intro (qq6.later hb qq6.lt) (LAT5.out W (btB bb6 hb)))
  clear y0 y1 y2 z0 z1 z2 HQ6 hvv6 bb6 qq6 LAT5
  refine (CV.out _ (LAT6.out _ (Below.refl _ _)).2.2.1).mono ?_
  rintro e w7 ⟨rfl, b7⟩
  have LAT7 := Lib.hid (fun W (hb : Below w7.heap.size w7 W) => LAT6.out W (btB b7 hb))
  clear b7 LAT6 CV
  have nb7 := (Below.refl w7.heap.size w7).alloc (Nat.le_refl _) (boxC Ce.zero)
  have q7 := CeAt.boxed Ce.zero w7
  obtain ⟨c7, hc7⟩ : ∃ c7, w7.heap.size = c7 := ⟨_, rfl⟩
  have hcc7 : w7.heap.size ≤ c7 := by omega
  rw [hc7] at q7
  obtain ⟨v7, hv7⟩ : ∃ v7, w7.alloc (boxC Ce.zero) = v7 := ⟨_, rfl⟩
  have hvv7 : w7.alloc (.cells #[.string ⟨#[]⟩, .int .i64 0, .string ⟨#[]⟩] 36) = v7 := hv7
  rw [hv7] at nb7 q7
  obtain ⟨y0, y1, y2⟩ := q7.cell
  obtain ⟨z0, z1, z2⟩ := q7.frees
  unfold Ce.zero at y0 y1 y2
  dsimp only at y0 y1 y2
  have HQ7 := Lib.hid (q7.all nb7 hcc7 x)
  have hlt7 := q7.lt
  clear nb7 hv7 q7
  go_wp2_with fail
  obtain ⟨qq7, bb7⟩ := HQ7.out
  generalize (((v7.setCell ⟨c7, 0, none⟩ (.string ⟨(x).k.toArray⟩)).setCell ⟨c7, 1, none⟩ (.int .i64 (x).q)).setCell ⟨c7, 2, none⟩ (.string ⟨(x).v.toArray⟩)) = w8 at *
  have LAT8 := Lib.hid (fun W (hb : Below w8.heap.size w8 W) => And.intro (qq7.later hb qq7.lt) (LAT7.out W (btB bb7 hb)))
  clear y0 y1 y2 z0 z1 z2 HQ7 hvv7 bb7 qq7 LAT7
  have LAT := Lib.hid (fun W (hb : Below w8.drew.heap.size w8.drew W) => LAT8.out W ((Below.drew (Below.refl w8.heap.size w8)).trans hb))
  have LD := Lib.hid (fun W (hb : Below w8.drew.heap.size w8.drew W) => And.intro (LAT.out W hb).2.1.cell (And.intro (LAT.out W hb).1.cell (And.intro (show W.cell? ⟨X, 0, none⟩ = some (.string ⟨e0.toArray⟩) by have h := (LAT.out W hb).2.2.2.2.1; simp [World.cell?, h]) (show W.cell? ⟨X, 1, none⟩ = some (.string ⟨e1.toArray⟩) by have h := (LAT.out W hb).2.2.2.2.1; simp [World.cell?, h]))))
  clear LAT8
  refine (wpIn_wide (n := 5)).1 ?_
  refine wpIn_region_rel [[], [(0, some 59)], [(1, some 60)], [(2, some 61)], [(2, some 61)], [(2, some 61), (3, some 62), (4, some 63)], [(2, some 61), (5, some 64)], [(6, some 65)], [(7, some 66)], [(7, some 66)], [(7, some 66), (8, some 67), (9, some 68)], [(7, some 66), (10, some 69)], [(11, some 70)], [(12, some 71)], [(12, some 71), (13, some 72)], [(12, some 71)], [(12, some 71), (15, some 74)], [(12, some 71), (14, some 73), (16, some 75)], [(12, some 71), (17, some 76)], [(18, some 77)], [(19, some 78)], [(19, some 78)], [(19, some 78), (21, some 80)], [(19, some 78)], [(19, some 78), (23, some 82)], [(19, some 78), (20, some 79), (22, some 81), (24, some 83)], [(19, some 78)], [(19, some 78)], [(19, some 78), (27, some 86)], [(19, some 78)], [(19, some 78), (29, some 88)], [(19, some 78), (26, some 85), (28, some 87), (30, some 89)], [(19, some 78), (25, some 84), (31, some 90)], [(19, some 78), (32, some 91)], [(33, some 92)], [(34, some 93)], [(34, some 93), (35, some 94)], [(36, some 95)]]
    [fun v _ => v = Value.int .i64 0, fun v _ => v = Value.bool true, fun v _ => v = Value.bool true, fun v _ => v = Value.agg #[.string ⟨x.k.toArray⟩, .int .i64 x.q, .string ⟨x.v.toArray⟩], fun v _ => v = Value.agg #[.string ⟨x.k.toArray⟩, .int .i64 x.q, .string ⟨x.v.toArray⟩], fun v _ => v = Value.bool true, fun v _ => v = Value.bool true, fun v _ => v = Value.bool true, fun v _ => v = Value.bool ob, fun v _ => v = Value.bool ob, fun v _ => v = Value.bool true, fun v _ => v = Value.bool true, fun v _ => v = Value.bool true, fun v _ => v = Value.pointer (some ⟨t, 0, none⟩), fun v _ => v = Value.int .i64 n, fun v _ => v = Value.slice A n cap, fun v _ => v = Value.int .i64 n, fun v _ => v = Value.bool true, fun v _ => v = Value.bool true, fun v _ => v = Value.bool true, fun v _ => v = Value.pointer (some ⟨t, 0, none⟩), fun v _ => v = Value.pointer (some ⟨X, 0, none⟩), fun v _ => v = Value.string ⟨e0.toArray⟩, fun v _ => v = Value.pointer (some ⟨X, 1, none⟩), fun v _ => v = Value.string ⟨e1.toArray⟩, fun v W => SlAt v (rangeC l e0 e1) W, fun v _ => v = Value.slice A n cap, fun v _ => v = Value.pointer (some ⟨X, 0, none⟩), fun v _ => v = Value.string ⟨e0.toArray⟩, fun v _ => v = Value.pointer (some ⟨X, 1, none⟩), fun v _ => v = Value.string ⟨e1.toArray⟩, fun v W => SlAt v (rangeC l e0 e1) W, fun v _ => v = Value.bool true, fun v _ => v = Value.bool true, fun v _ => v = Value.bool true, fun v _ => v = Value.bool true, fun v _ => v = Value.bool true, fun v _ => v = Value.bool true]
    [(0, some 59), (1, some 60), (2, some 61), (3, some 62), (4, some 63), (5, some 64), (6, some 65), (7, some 66), (8, some 67), (9, some 68), (10, some 69), (11, some 70), (12, some 71), (13, some 72), (14, some 73), (15, some 74), (16, some 75), (17, some 76), (18, some 77), (19, some 78), (20, some 79), (21, some 80), (22, some 81), (23, some 82), (24, some 83), (25, some 84), (26, some 85), (27, some 86), (28, some 87), (29, some 88), (30, some 89), (31, some 90), (32, some 91), (33, some 92), (34, some 93), (35, some 94), (36, some 95), (37, some 6)] (by kernel_rfl) (by kernel_rfl) (by kernel_rfl) ⟨MonoR.is _, MonoR.is _, MonoR.is _, MonoR.is _, MonoR.is _, MonoR.is _, MonoR.is _, MonoR.is _, MonoR.is _, MonoR.is _, MonoR.is _, MonoR.is _, MonoR.is _, MonoR.is _, MonoR.is _, MonoR.is _, MonoR.is _, MonoR.is _, MonoR.is _, MonoR.is _, MonoR.is _, MonoR.is _, MonoR.is _, MonoR.is _, MonoR.is _, MonoR.sl _, MonoR.is _, MonoR.is _, MonoR.is _, MonoR.is _, MonoR.is _, MonoR.sl _, MonoR.is _, MonoR.is _, MonoR.is _, MonoR.is _, MonoR.is _, MonoR.is _, trivial⟩ ?_ ?_
  · refine ⟨?_, ?_⟩
    · intro vs W hb hD K hK
      simp only [fillL, Act.put, List.setIfInBounds_toArray, List.set_cons_succ, List.set_cons_zero] at hK ⊢
      clear hD
      refine want_yes (by kernel_rfl) ?_
      go_simp
      exact hK _ _ _ rfl (Below.refl _ _) rfl
    refine ⟨?_, ?_⟩
    · intro vs W hb hD K hK
      have h0 : vs 0 = Value.int .i64 0 := hD (0, some 59) List.mem_cons_self
      simp only [fillL, Act.put, List.setIfInBounds_toArray, List.set_cons_succ, List.set_cons_zero, h0] at hK ⊢
      clear hD h0
      refine want_yes (by kernel_rfl) ?_
      go_simp
      exact hK _ _ _ rfl (Below.refl _ _) rfl
    refine ⟨?_, ?_⟩
    · intro vs W hb hD K hK
      have h1 : vs 1 = Value.bool true := hD (1, some 60) List.mem_cons_self
      simp only [fillL, Act.put, List.setIfInBounds_toArray, List.set_cons_succ, List.set_cons_zero, h1] at hK ⊢
      clear hD h1
      refine want_yes (by kernel_rfl) ?_
      go_simp
      exact hK _ _ _ rfl (Below.refl _ _) rfl
    refine ⟨?_, ?_⟩
    · intro vs W hb hD K hK
      have h2 : vs 2 = Value.bool true := hD (2, some 61) List.mem_cons_self
      simp only [fillL, Act.put, List.setIfInBounds_toArray, List.set_cons_succ, List.set_cons_zero, h2] at hK ⊢
      clear hD h2
      refine want_yes (by kernel_rfl) ?_
      obtain ⟨⟨a0, a1, a2⟩, ⟨b0, b1, b2⟩, x0, x1⟩ := LD.out W hb
      go_simp
      exact hK _ _ _ rfl (Below.refl _ _) rfl
    refine ⟨?_, ?_⟩
    · intro vs W hb hD K hK
      have h2 : vs 2 = Value.bool true := hD (2, some 61) List.mem_cons_self
      simp only [fillL, Act.put, List.setIfInBounds_toArray, List.set_cons_succ, List.set_cons_zero, h2] at hK ⊢
      clear hD h2
      refine want_yes (by kernel_rfl) ?_
      obtain ⟨⟨a0, a1, a2⟩, ⟨b0, b1, b2⟩, x0, x1⟩ := LD.out W hb
      go_simp
      exact hK _ _ _ rfl (Below.refl _ _) rfl
    refine ⟨?_, ?_⟩
    · intro vs W hb hD K hK
      have h2 : vs 2 = Value.bool true := hD (2, some 61) List.mem_cons_self
      have h3 : vs 3 = Value.agg #[.string ⟨x.k.toArray⟩, .int .i64 x.q, .string ⟨x.v.toArray⟩] := hD (3, some 62) (List.mem_cons_of_mem _ List.mem_cons_self)
      have h4 : vs 4 = Value.agg #[.string ⟨x.k.toArray⟩, .int .i64 x.q, .string ⟨x.v.toArray⟩] := hD (4, some 63) (List.mem_cons_of_mem _ (List.mem_cons_of_mem _ List.mem_cons_self))
      simp only [fillL, Act.put, List.setIfInBounds_toArray, List.set_cons_succ, List.set_cons_zero, h2, h3, h4] at hK ⊢
      clear hD h2 h3 h4
      refine want_yes (by kernel_rfl) ?_
      have k1 : (x.k == x.k) = true := by simp
      have k2 : (x.v == x.v) = true := by simp
      go_simp
      exact hK _ _ _ rfl (Below.refl _ _) rfl
    refine ⟨?_, ?_⟩
    · intro vs W hb hD K hK
      have h2 : vs 2 = Value.bool true := hD (2, some 61) List.mem_cons_self
      have h5 : vs 5 = Value.bool true := hD (5, some 64) (List.mem_cons_of_mem _ List.mem_cons_self)
      simp only [fillL, Act.put, List.setIfInBounds_toArray, List.set_cons_succ, List.set_cons_zero, h2, h5] at hK ⊢
      clear hD h2 h5
      refine want_yes (by kernel_rfl) ?_
      go_simp
      exact hK _ _ _ rfl (Below.refl _ _) rfl
    refine ⟨?_, ?_⟩
    · intro vs W hb hD K hK
      have h6 : vs 6 = Value.bool true := hD (6, some 65) List.mem_cons_self
      simp only [fillL, Act.put, List.setIfInBounds_toArray, List.set_cons_succ, List.set_cons_zero, h6] at hK ⊢
      clear hD h6
      refine want_yes (by kernel_rfl) ?_
      go_simp
      exact hK _ _ _ rfl (Below.refl _ _) rfl
    refine ⟨?_, ?_⟩
    · intro vs W hb hD K hK
      have h7 : vs 7 = Value.bool true := hD (7, some 66) List.mem_cons_self
      simp only [fillL, Act.put, List.setIfInBounds_toArray, List.set_cons_succ, List.set_cons_zero, h7] at hK ⊢
      clear hD h7
      refine want_yes (by kernel_rfl) ?_
      go_simp
      exact hK _ _ _ rfl (Below.refl _ _) rfl
    refine ⟨?_, ?_⟩
    · intro vs W hb hD K hK
      have h7 : vs 7 = Value.bool true := hD (7, some 66) List.mem_cons_self
      simp only [fillL, Act.put, List.setIfInBounds_toArray, List.set_cons_succ, List.set_cons_zero, h7] at hK ⊢
      clear hD h7
      refine want_yes (by kernel_rfl) ?_
      go_simp
      exact hK _ _ _ rfl (Below.refl _ _) rfl
    refine ⟨?_, ?_⟩
    · intro vs W hb hD K hK
      have h7 : vs 7 = Value.bool true := hD (7, some 66) List.mem_cons_self
      have h8 : vs 8 = Value.bool ob := hD (8, some 67) (List.mem_cons_of_mem _ List.mem_cons_self)
      have h9 : vs 9 = Value.bool ob := hD (9, some 68) (List.mem_cons_of_mem _ (List.mem_cons_of_mem _ List.mem_cons_self))
      simp only [fillL, Act.put, List.setIfInBounds_toArray, List.set_cons_succ, List.set_cons_zero, h7, h8, h9] at hK ⊢
      clear hD h7 h8 h9
      refine want_yes (by kernel_rfl) ?_
      have k3 : (ob == ob) = true := by simp
      go_simp
      exact hK _ _ _ rfl (Below.refl _ _) rfl
    refine ⟨?_, ?_⟩
    · intro vs W hb hD K hK
      have h7 : vs 7 = Value.bool true := hD (7, some 66) List.mem_cons_self
      have h10 : vs 10 = Value.bool true := hD (10, some 69) (List.mem_cons_of_mem _ List.mem_cons_self)
      simp only [fillL, Act.put, List.setIfInBounds_toArray, List.set_cons_succ, List.set_cons_zero, h7, h10] at hK ⊢
      clear hD h7 h10
      refine want_yes (by kernel_rfl) ?_
      go_simp
      exact hK _ _ _ rfl (Below.refl _ _) rfl
    refine ⟨?_, ?_⟩
    · intro vs W hb hD K hK
      have h11 : vs 11 = Value.bool true := hD (11, some 70) List.mem_cons_self
      simp only [fillL, Act.put, List.setIfInBounds_toArray, List.set_cons_succ, List.set_cons_zero, h11] at hK ⊢
      clear hD h11
      refine want_yes (by kernel_rfl) ?_
      go_simp
      exact hK _ _ _ rfl (Below.refl _ _) rfl
    refine ⟨?_, ?_⟩
    · intro vs W hb hD K hK
      have h12 : vs 12 = Value.bool true := hD (12, some 71) List.mem_cons_self
      simp only [fillL, Act.put, List.setIfInBounds_toArray, List.set_cons_succ, List.set_cons_zero, h12] at hK ⊢
      clear hD h12
      refine want_yes (by kernel_rfl) ?_
      go_simp
      exact hK _ _ _ rfl (Below.refl _ _) rfl
    refine ⟨?_, ?_⟩
    · intro vs W hb hD K hK
      have h12 : vs 12 = Value.bool true := hD (12, some 71) List.mem_cons_self
      have h13 : vs 13 = Value.pointer (some ⟨t, 0, none⟩) := hD (13, some 72) (List.mem_cons_of_mem _ List.mem_cons_self)
      simp only [fillL, Act.put, List.setIfInBounds_toArray, List.set_cons_succ, List.set_cons_zero, h12, h13] at hK ⊢
      clear hD h12 h13
      refine want_yes (by kernel_rfl) ?_
      obtain ⟨-, -, ht, -, -, -⟩ := LAT.out W hb
      go_simp
      refine ⟨trivial, (callsIn_wide.2 (CL.out _ _ ht)).mono ?_⟩
      rintro e9 wb ⟨rfl, bb⟩
      exact hK _ _ _ rfl bb rfl
    refine ⟨?_, ?_⟩
    · intro vs W hb hD K hK
      have h12 : vs 12 = Value.bool true := hD (12, some 71) List.mem_cons_self
      simp only [fillL, Act.put, List.setIfInBounds_toArray, List.set_cons_succ, List.set_cons_zero, h12] at hK ⊢
      clear hD h12
      refine want_yes (by kernel_rfl) ?_
      go_simp
      exact hK _ _ _ rfl (Below.refl _ _) rfl
    refine ⟨?_, ?_⟩
    · intro vs W hb hD K hK
      have h12 : vs 12 = Value.bool true := hD (12, some 71) List.mem_cons_self
      have h15 : vs 15 = Value.slice A n cap := hD (15, some 74) (List.mem_cons_of_mem _ List.mem_cons_self)
      simp only [fillL, Act.put, List.setIfInBounds_toArray, List.set_cons_succ, List.set_cons_zero, h12, h15] at hK ⊢
      clear hD h12 h15
      refine want_yes (by kernel_rfl) ?_
      go_simp
      exact hK _ _ _ rfl (Below.refl _ _) rfl
    refine ⟨?_, ?_⟩
    · intro vs W hb hD K hK
      have h12 : vs 12 = Value.bool true := hD (12, some 71) List.mem_cons_self
      have h14 : vs 14 = Value.int .i64 n := hD (14, some 73) (List.mem_cons_of_mem _ List.mem_cons_self)
      have h16 : vs 16 = Value.int .i64 n := hD (16, some 75) (List.mem_cons_of_mem _ (List.mem_cons_of_mem _ List.mem_cons_self))
      simp only [fillL, Act.put, List.setIfInBounds_toArray, List.set_cons_succ, List.set_cons_zero, h12, h14, h16] at hK ⊢
      clear hD h12 h14 h16
      refine want_yes (by kernel_rfl) ?_
      have k4 : ((n : Int) == n) = true := by simp
      go_simp
      exact hK _ _ _ rfl (Below.refl _ _) rfl
    refine ⟨?_, ?_⟩
    · intro vs W hb hD K hK
      have h12 : vs 12 = Value.bool true := hD (12, some 71) List.mem_cons_self
      have h17 : vs 17 = Value.bool true := hD (17, some 76) (List.mem_cons_of_mem _ List.mem_cons_self)
      simp only [fillL, Act.put, List.setIfInBounds_toArray, List.set_cons_succ, List.set_cons_zero, h12, h17] at hK ⊢
      clear hD h12 h17
      refine want_yes (by kernel_rfl) ?_
      go_simp
      exact hK _ _ _ rfl (Below.refl _ _) rfl
    refine ⟨?_, ?_⟩
    · intro vs W hb hD K hK
      have h18 : vs 18 = Value.bool true := hD (18, some 77) List.mem_cons_self
      simp only [fillL, Act.put, List.setIfInBounds_toArray, List.set_cons_succ, List.set_cons_zero, h18] at hK ⊢
      clear hD h18
      refine want_yes (by kernel_rfl) ?_
      go_simp
      exact hK _ _ _ rfl (Below.refl _ _) rfl
    refine ⟨?_, ?_⟩
    · intro vs W hb hD K hK
      have h19 : vs 19 = Value.bool true := hD (19, some 78) List.mem_cons_self
      simp only [fillL, Act.put, List.setIfInBounds_toArray, List.set_cons_succ, List.set_cons_zero, h19] at hK ⊢
      clear hD h19
      refine want_yes (by kernel_rfl) ?_
      go_simp
      exact hK _ _ _ rfl (Below.refl _ _) rfl
    refine ⟨?_, ?_⟩
    · intro vs W hb hD K hK
      have h19 : vs 19 = Value.bool true := hD (19, some 78) List.mem_cons_self
      simp only [fillL, Act.put, List.setIfInBounds_toArray, List.set_cons_succ, List.set_cons_zero, h19] at hK ⊢
      clear hD h19
      refine want_yes (by kernel_rfl) ?_
      go_simp
      exact hK _ _ _ rfl (Below.refl _ _) rfl
    refine ⟨?_, ?_⟩
    · intro vs W hb hD K hK
      have h19 : vs 19 = Value.bool true := hD (19, some 78) List.mem_cons_self
      have h21 : vs 21 = Value.pointer (some ⟨X, 0, none⟩) := hD (21, some 80) (List.mem_cons_of_mem _ List.mem_cons_self)
      simp only [fillL, Act.put, List.setIfInBounds_toArray, List.set_cons_succ, List.set_cons_zero, h19, h21] at hK ⊢
      clear hD h19 h21
      refine want_yes (by kernel_rfl) ?_
      obtain ⟨⟨a0, a1, a2⟩, ⟨b0, b1, b2⟩, x0, x1⟩ := LD.out W hb
      go_simp
      exact hK _ _ _ rfl (Below.refl _ _) rfl
    refine ⟨?_, ?_⟩
    · intro vs W hb hD K hK
      have h19 : vs 19 = Value.bool true := hD (19, some 78) List.mem_cons_self
      simp only [fillL, Act.put, List.setIfInBounds_toArray, List.set_cons_succ, List.set_cons_zero, h19] at hK ⊢
      clear hD h19
      refine want_yes (by kernel_rfl) ?_
      go_simp
      exact hK _ _ _ rfl (Below.refl _ _) rfl
    refine ⟨?_, ?_⟩
    · intro vs W hb hD K hK
      have h19 : vs 19 = Value.bool true := hD (19, some 78) List.mem_cons_self
      have h23 : vs 23 = Value.pointer (some ⟨X, 1, none⟩) := hD (23, some 82) (List.mem_cons_of_mem _ List.mem_cons_self)
      simp only [fillL, Act.put, List.setIfInBounds_toArray, List.set_cons_succ, List.set_cons_zero, h19, h23] at hK ⊢
      clear hD h19 h23
      refine want_yes (by kernel_rfl) ?_
      obtain ⟨⟨a0, a1, a2⟩, ⟨b0, b1, b2⟩, x0, x1⟩ := LD.out W hb
      go_simp
      exact hK _ _ _ rfl (Below.refl _ _) rfl
    refine ⟨?_, ?_⟩
    · intro vs W hb hD K hK
      have h19 : vs 19 = Value.bool true := hD (19, some 78) List.mem_cons_self
      have h20 : vs 20 = Value.pointer (some ⟨t, 0, none⟩) := hD (20, some 79) (List.mem_cons_of_mem _ List.mem_cons_self)
      have h22 : vs 22 = Value.string ⟨e0.toArray⟩ := hD (22, some 81) (List.mem_cons_of_mem _ (List.mem_cons_of_mem _ List.mem_cons_self))
      have h24 : vs 24 = Value.string ⟨e1.toArray⟩ := hD (24, some 83) (List.mem_cons_of_mem _ (List.mem_cons_of_mem _ (List.mem_cons_of_mem _ List.mem_cons_self)))
      simp only [fillL, Act.put, List.setIfInBounds_toArray, List.set_cons_succ, List.set_cons_zero, h19, h20, h22, h24] at hK ⊢
      clear hD h19 h20 h22 h24
      refine want_yes (by kernel_rfl) ?_
      obtain ⟨-, -, ht, -, -, -⟩ := LAT.out W hb
      go_simp
      refine ⟨trivial, (callsIn_wide.2 (CR.out _ _ ht)).mono ?_⟩
      rintro e9 wb ⟨bb, v, rfl, sl⟩
      exact hK _ _ _ rfl bb sl
    refine ⟨?_, ?_⟩
    · intro vs W hb hD K hK
      have h19 : vs 19 = Value.bool true := hD (19, some 78) List.mem_cons_self
      simp only [fillL, Act.put, List.setIfInBounds_toArray, List.set_cons_succ, List.set_cons_zero, h19] at hK ⊢
      clear hD h19
      refine want_yes (by kernel_rfl) ?_
      go_simp
      exact hK _ _ _ rfl (Below.refl _ _) rfl
    refine ⟨?_, ?_⟩
    · intro vs W hb hD K hK
      have h19 : vs 19 = Value.bool true := hD (19, some 78) List.mem_cons_self
      simp only [fillL, Act.put, List.setIfInBounds_toArray, List.set_cons_succ, List.set_cons_zero, h19] at hK ⊢
      clear hD h19
      refine want_yes (by kernel_rfl) ?_
      go_simp
      exact hK _ _ _ rfl (Below.refl _ _) rfl
    refine ⟨?_, ?_⟩
    · intro vs W hb hD K hK
      have h19 : vs 19 = Value.bool true := hD (19, some 78) List.mem_cons_self
      have h27 : vs 27 = Value.pointer (some ⟨X, 0, none⟩) := hD (27, some 86) (List.mem_cons_of_mem _ List.mem_cons_self)
      simp only [fillL, Act.put, List.setIfInBounds_toArray, List.set_cons_succ, List.set_cons_zero, h19, h27] at hK ⊢
      clear hD h19 h27
      refine want_yes (by kernel_rfl) ?_
      obtain ⟨⟨a0, a1, a2⟩, ⟨b0, b1, b2⟩, x0, x1⟩ := LD.out W hb
      go_simp
      exact hK _ _ _ rfl (Below.refl _ _) rfl
    refine ⟨?_, ?_⟩
    · intro vs W hb hD K hK
      have h19 : vs 19 = Value.bool true := hD (19, some 78) List.mem_cons_self
      simp only [fillL, Act.put, List.setIfInBounds_toArray, List.set_cons_succ, List.set_cons_zero, h19] at hK ⊢
      clear hD h19
      refine want_yes (by kernel_rfl) ?_
      go_simp
      exact hK _ _ _ rfl (Below.refl _ _) rfl
    refine ⟨?_, ?_⟩
    · intro vs W hb hD K hK
      have h19 : vs 19 = Value.bool true := hD (19, some 78) List.mem_cons_self
      have h29 : vs 29 = Value.pointer (some ⟨X, 1, none⟩) := hD (29, some 88) (List.mem_cons_of_mem _ List.mem_cons_self)
      simp only [fillL, Act.put, List.setIfInBounds_toArray, List.set_cons_succ, List.set_cons_zero, h19, h29] at hK ⊢
      clear hD h19 h29
      refine want_yes (by kernel_rfl) ?_
      obtain ⟨⟨a0, a1, a2⟩, ⟨b0, b1, b2⟩, x0, x1⟩ := LD.out W hb
      go_simp
      exact hK _ _ _ rfl (Below.refl _ _) rfl
    refine ⟨?_, ?_⟩
    · intro vs W hb hD K hK
      have h19 : vs 19 = Value.bool true := hD (19, some 78) List.mem_cons_self
      have h26 : vs 26 = Value.slice A n cap := hD (26, some 85) (List.mem_cons_of_mem _ List.mem_cons_self)
      have h28 : vs 28 = Value.string ⟨e0.toArray⟩ := hD (28, some 87) (List.mem_cons_of_mem _ (List.mem_cons_of_mem _ List.mem_cons_self))
      have h30 : vs 30 = Value.string ⟨e1.toArray⟩ := hD (30, some 89) (List.mem_cons_of_mem _ (List.mem_cons_of_mem _ (List.mem_cons_of_mem _ List.mem_cons_self)))
      simp only [fillL, Act.put, List.setIfInBounds_toArray, List.set_cons_succ, List.set_cons_zero, h19, h26, h28, h30] at hK ⊢
      clear hD h19 h26 h28 h30
      refine want_yes (by kernel_rfl) ?_
      obtain ⟨-, -, -, hl, -, -⟩ := LAT.out W hb
      go_simp
      refine ⟨trivial, (callsIn_wide.2 (CF.out _ hl)).mono ?_⟩
      rintro e9 wb ⟨bb, v, rfl, sl⟩
      exact hK _ _ _ rfl bb sl
    refine ⟨?_, ?_⟩
    · intro vs W hb hD K hK
      have h19 : vs 19 = Value.bool true := hD (19, some 78) List.mem_cons_self
      obtain ⟨x25, hx25⟩ : ∃ x, vs 25 = x := ⟨_, rfl⟩
      have h25 : (fun v W => SlAt v (rangeC l e0 e1) W) (vs 25) W := hD (25, some 84) (List.mem_cons_of_mem _ List.mem_cons_self)
      rw [hx25] at h25
      obtain ⟨x31, hx31⟩ : ∃ x, vs 31 = x := ⟨_, rfl⟩
      have h31 : (fun v W => SlAt v (rangeC l e0 e1) W) (vs 31) W := hD (31, some 90) (List.mem_cons_of_mem _ (List.mem_cons_of_mem _ List.mem_cons_self))
      rw [hx31] at h31
      simp only [fillL, Act.put, List.setIfInBounds_toArray, List.set_cons_succ, List.set_cons_zero, h19, hx25, hx31] at hK ⊢
      clear hD h19 hx25 hx31
      refine want_yes (by kernel_rfl) ?_
      go_simp
      refine ⟨trivial, (callsIn_wide.2 (CQ.out _ _ _ h25 h31)).mono ?_⟩
      rintro e9 wb ⟨rfl, bb⟩
      exact hK _ _ _ rfl bb rfl
    refine ⟨?_, ?_⟩
    · intro vs W hb hD K hK
      have h19 : vs 19 = Value.bool true := hD (19, some 78) List.mem_cons_self
      have h32 : vs 32 = Value.bool true := hD (32, some 91) (List.mem_cons_of_mem _ List.mem_cons_self)
      simp only [fillL, Act.put, List.setIfInBounds_toArray, List.set_cons_succ, List.set_cons_zero, h19, h32] at hK ⊢
      clear hD h19 h32
      refine want_yes (by kernel_rfl) ?_
      go_simp
      exact hK _ _ _ rfl (Below.refl _ _) rfl
    refine ⟨?_, ?_⟩
    · intro vs W hb hD K hK
      have h33 : vs 33 = Value.bool true := hD (33, some 92) List.mem_cons_self
      simp only [fillL, Act.put, List.setIfInBounds_toArray, List.set_cons_succ, List.set_cons_zero, h33] at hK ⊢
      clear hD h33
      refine want_yes (by kernel_rfl) ?_
      go_simp
      exact hK _ _ _ rfl (Below.refl _ _) rfl
    refine ⟨?_, ?_⟩
    · intro vs W hb hD K hK
      have h34 : vs 34 = Value.bool true := hD (34, some 93) List.mem_cons_self
      simp only [fillL, Act.put, List.setIfInBounds_toArray, List.set_cons_succ, List.set_cons_zero, h34] at hK ⊢
      clear hD h34
      refine want_yes (by kernel_rfl) ?_
      go_simp
      refine ⟨trivial, (callsIn_wide.2 (CDO.out _)).mono ?_⟩
      rintro e9 wb ⟨rfl, bb⟩
      exact hK _ _ _ rfl bb rfl
    refine ⟨?_, ?_⟩
    · intro vs W hb hD K hK
      have h34 : vs 34 = Value.bool true := hD (34, some 93) List.mem_cons_self
      have h35 : vs 35 = Value.bool true := hD (35, some 94) (List.mem_cons_of_mem _ List.mem_cons_self)
      simp only [fillL, Act.put, List.setIfInBounds_toArray, List.set_cons_succ, List.set_cons_zero, h34, h35] at hK ⊢
      clear hD h34 h35
      refine want_yes (by kernel_rfl) ?_
      go_simp
      exact hK _ _ _ rfl (Below.refl _ _) rfl
    refine ⟨?_, ?_⟩
    · intro vs W hb hD K hK
      have h36 : vs 36 = Value.bool true := hD (36, some 95) List.mem_cons_self
      simp only [fillL, Act.put, List.setIfInBounds_toArray, List.set_cons_succ, List.set_cons_zero, h36] at hK ⊢
      clear hD h36
      refine want_yes (by kernel_rfl) ?_
      go_simp
      exact hK _ _ _ rfl (Below.refl _ _) rfl
    trivial
  · intro vs W hb hF
    have h0 : vs 0 = Value.int .i64 0 := hF 0 (by decide)
    have h1 : vs 1 = Value.bool true := hF 1 (by decide)
    have h2 : vs 2 = Value.bool true := hF 2 (by decide)
    have h3 : vs 3 = Value.agg #[.string ⟨x.k.toArray⟩, .int .i64 x.q, .string ⟨x.v.toArray⟩] := hF 3 (by decide)
    have h4 : vs 4 = Value.agg #[.string ⟨x.k.toArray⟩, .int .i64 x.q, .string ⟨x.v.toArray⟩] := hF 4 (by decide)
    have h5 : vs 5 = Value.bool true := hF 5 (by decide)
    have h6 : vs 6 = Value.bool true := hF 6 (by decide)
    have h7 : vs 7 = Value.bool true := hF 7 (by decide)
    have h8 : vs 8 = Value.bool ob := hF 8 (by decide)
    have h9 : vs 9 = Value.bool ob := hF 9 (by decide)
    have h10 : vs 10 = Value.bool true := hF 10 (by decide)
    have h11 : vs 11 = Value.bool true := hF 11 (by decide)
    have h12 : vs 12 = Value.bool true := hF 12 (by decide)
    have h13 : vs 13 = Value.pointer (some ⟨t, 0, none⟩) := hF 13 (by decide)
    have h14 : vs 14 = Value.int .i64 n := hF 14 (by decide)
    have h15 : vs 15 = Value.slice A n cap := hF 15 (by decide)
    have h16 : vs 16 = Value.int .i64 n := hF 16 (by decide)
    have h17 : vs 17 = Value.bool true := hF 17 (by decide)
    have h18 : vs 18 = Value.bool true := hF 18 (by decide)
    have h19 : vs 19 = Value.bool true := hF 19 (by decide)
    have h20 : vs 20 = Value.pointer (some ⟨t, 0, none⟩) := hF 20 (by decide)
    have h21 : vs 21 = Value.pointer (some ⟨X, 0, none⟩) := hF 21 (by decide)
    have h22 : vs 22 = Value.string ⟨e0.toArray⟩ := hF 22 (by decide)
    have h23 : vs 23 = Value.pointer (some ⟨X, 1, none⟩) := hF 23 (by decide)
    have h24 : vs 24 = Value.string ⟨e1.toArray⟩ := hF 24 (by decide)
    obtain ⟨x25, hx25⟩ : ∃ x, vs 25 = x := ⟨_, rfl⟩
    have h25 : (fun v W => SlAt v (rangeC l e0 e1) W) (vs 25) W := hF 25 (by decide)
    rw [hx25] at h25
    have h26 : vs 26 = Value.slice A n cap := hF 26 (by decide)
    have h27 : vs 27 = Value.pointer (some ⟨X, 0, none⟩) := hF 27 (by decide)
    have h28 : vs 28 = Value.string ⟨e0.toArray⟩ := hF 28 (by decide)
    have h29 : vs 29 = Value.pointer (some ⟨X, 1, none⟩) := hF 29 (by decide)
    have h30 : vs 30 = Value.string ⟨e1.toArray⟩ := hF 30 (by decide)
    obtain ⟨x31, hx31⟩ : ∃ x, vs 31 = x := ⟨_, rfl⟩
    have h31 : (fun v W => SlAt v (rangeC l e0 e1) W) (vs 31) W := hF 31 (by decide)
    rw [hx31] at h31
    have h32 : vs 32 = Value.bool true := hF 32 (by decide)
    have h33 : vs 33 = Value.bool true := hF 33 (by decide)
    have h34 : vs 34 = Value.bool true := hF 34 (by decide)
    have h35 : vs 35 = Value.bool true := hF 35 (by decide)
    have h36 : vs 36 = Value.bool true := hF 36 (by decide)
    have h37 : vs 37 = Value.bool true := hF 37 (by decide)
    simp only [fillL, Act.put, List.setIfInBounds_toArray, List.set_cons_succ, List.set_cons_zero, h0, h1, h2, h3, h4, h5, h6, h7, h8, h9, h10, h11, h12, h13, h14, h15, h16, h17, h18, h19, h20, h21, h22, h23, h24, hx25, h26, h27, h28, h29, h30, hx31, h32, h33, h34, h35, h36, h37]
    clear hF h0 h1 h2 h3 h4 h5 h6 h7 h8 h9 h10 h11 h12 h13 h14 h15 h16 h17 h18 h19 h20 h21 h22 h23 h24 hx25 h26 h27 h28 h29 h30 hx31 h32 h33 h34 h35 h36 h37
    obtain ⟨-, -, -, -, -, hB⟩ := LAT.out W hb
    clear LAT LD CL CR CF CQ CDO
    go_wp2_with fail
    go_ret
    exact ⟨rfl, by rw [HX.out]; exact hB⟩
theorem tablesAsk_law (w : World) (v : Value) (l : List Ce) (key : ByteArray) (e0 e1 : List UInt8) (hs : SlAt v l w) (hn : v = .slice none 0 0 ∨ ∃ ad n c, v = .slice (some ad) n c) (hw : ∀ c ∈ l, WfC c) (hkk : key.size ≤ 140737488351232) :
    Calls Try.prog 4 #[v, .string key, .agg #[.string ⟨e0.toArray⟩, .string ⟨e1.toArray⟩]] w fun e w' => e = .returned (.bool true) ∧ Below w.heap.size w w' := by
  have es : key = ⟨key.data.toList.toArray⟩ := by cases key; simp
  rw [es] at hkk ⊢
  have hkl : key.data.toList.length ≤ 140737488351232 := hkk
  generalize key.data.toList = key at *
  clear es hkk
  by_cases hall : greatL l 300 = false ∧ ¬ (1000 : Int) < (key.length : Int) ∧ ¬ (1000 : Int) < (e0.length : Int) ∧ ¬ (1000 : Int) < (e1.length : Int)
  · exact tablesAsk_yes w v l key e0 e1 hs hw hall.2.1 hall.2.2.1 hall.2.2.2 hall.1
  · have cg := fun W (h : SlAt v l W) => greatL_any v l 300 W h hw (by omega)
    have nb := (Below.refl w.heap.size w).alloc (Nat.le_refl _) (.cells #[.string ⟨e0.toArray⟩, .string ⟨e1.toArray⟩] 31)
    have hbx := heap_alloc_new w (.cells #[.string ⟨e0.toArray⟩, .string ⟨e1.toArray⟩] 31)
    have CG := Lib.hid (cg _ (hs.later nb))
    have HB0 := Lib.hid nb
    have HBX := Lib.hid hbx
    have HSZ := Lib.hid (show (w.alloc (.cells #[.string ⟨e0.toArray⟩, .string ⟨e1.toArray⟩] 31)).heap.size = w.heap.size + 1 by simp)
    obtain ⟨W0, hW0⟩ : ∃ W0, w.alloc (.cells #[.string ⟨e0.toArray⟩, .string ⟨e1.toArray⟩] 31) = W0 := ⟨_, rfl⟩
    rw [hW0] at HB0 HBX CG HSZ
    have HA := Lib.hid hall
    clear cg hw hs nb hbx hn hkl hall
    go_enter Try.func4, Try.ntmps4
    go_wp2_with fail
    clear hW0
    refine CG.out.mono ?_
    rintro e w1 ⟨rfl, b1⟩
    clear CG
    obtain ⟨X, hX⟩ : ∃ X, w.heap.size = X := ⟨_, rfl⟩
    have HX := Lib.hid hX
    rw [hX] at HBX HSZ ⊢
    have hb1 := (b1.block X (by have := HSZ.out; omega)).trans HBX.out
    have x0 : w1.cell? ⟨X, 0, none⟩ = some (.string ⟨e0.toArray⟩) := by simp [World.cell?, hb1]
    have x1 : w1.cell? ⟨X, 1, none⟩ = some (.string ⟨e1.toArray⟩) := by simp [World.cell?, hb1]
    have HB1 := Lib.hid (show Below X w w1 from by have h := HB0.out.trans (b1.mono (by have := HSZ.out; have := HX.out; omega)); rwa [hX] at h)
    clear hb1 b1 hX HBX HSZ HB0
    have hgo : ∀ g f1 f2 f3 : Bool, greatL l 300 = g → decide ((1000 : Int) < (key.length : Int)) = f1 → decide ((1000 : Int) < (e0.length : Int)) = f2 → decide ((1000 : Int) < (e1.length : Int)) = f3 → (g || f1 || f2 || f3) = true := by
      intro g f1 f2 f3 h0 h1 h2 h3
      have := HA.out
      cases g <;> cases f1 <;> cases f2 <;> cases f3 <;> simp_all
    have HGO := Lib.hid hgo
    clear hgo HA
    obtain ⟨g, hg⟩ : ∃ g, greatL l 300 = g := ⟨_, rfl⟩
    have HG := Lib.hid hg
    rw [hg]
    clear hg
    cases h1 : decide ((1000 : Int) < (key.length : Int)) <;> cases h2 : decide ((1000 : Int) < (e0.length : Int)) <;> cases h3 : decide ((1000 : Int) < (e1.length : Int)) <;> cases g <;>
      first
      | (exfalso; have := HGO.out _ _ _ _ HG.out h1 h2 h3; simp at this; done)
      | (go_wp2_with fail
         go_ret
         exact ⟨rfl, by rw [HX.out]; exact HB1.out⟩)
end Go.Proofs.Ytanaoepakllohaa
