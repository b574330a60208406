/- The laws' lives. -/
import Derived.Test.YtoglloafpnopaaaGreatTlI
set_option linter.unusedSimpArgs false
set_option linter.unusedVariables false
namespace Go.Proofs.YtoglloafpnopaaaGreat
set_option maxRecDepth 16000
open Go.RowKit Spoor
def lvM : List Ce := [⟨[97], 5, []⟩]
def lvT : List Ce := [⟨[97], 3, []⟩, ⟨[98], 2, []⟩, ⟨[122], 1, []⟩]
theorem lv1 : putsC [] lvM = lvM := by decide
theorem lv2 : [lvT].map (putsC []) = [lvT] := by decide
theorem lv3 : getT [] [109] [lvM, lvT] [97] = some ⟨[97], 5, []⟩ := by decide
theorem lv4 : getT [] [109] [lvM, lvT] [98] = some ⟨[98], 2, []⟩ := by decide
theorem lv5 : getT [] [109] [lvM, lvT] [122] = none := by decide
theorem lv6 : tabR [] [109] [lvM, lvT] [] [] = [⟨[97], 5, []⟩, ⟨[98], 2, []⟩] := by decide
theorem lv7 : tabR [] [109] ([] :: [lvT]) [] [] = [⟨[97], 3, []⟩, ⟨[98], 2, []⟩] := by decide
theorem lv_fits (c : Ce) (h : c.k.length ≤ 10 ∧ c.v.length ≤ 10 ∧ c.q ≤ 10) : FitsC c := ⟨by omega, by omega, by omega⟩
theorem lv_ok : DataOk lvM [lvT] := by
 refine ⟨⟨by decide, fun c hc => lv_fits c ?_⟩, by decide, fun l hl => ?_⟩
 · simp [lvM] at hc; subst hc; decide
 · simp at hl
   subst hl
   refine ⟨by decide, fun c hc => lv_fits c ?_⟩
   simp [lvT] at hc
   rcases hc with rfl | rfl | rfl <;> decide
theorem lv_rows : ∀ r ∈ [lvM, lvT], RowOk r := fun r hr => by
 simp at hr
 rcases hr with rfl | rfl
 · exact ⟨by decide, lv_ok.1.2, by decide⟩
 · exact ⟨by decide, (lv_ok.2.2 lvT (by simp)).2, by decide⟩
set_option maxRecDepth 100000 in
set_option maxHeartbeats 4000000 in
theorem lives_true (w : World) : Calls Tryz.prog 10 #[] w fun e w' => e = .returned (.bool true) ∧ Below w.heap.size w w' := by
 have s1 := new_sl lvM w (by decide)
 have nb1 := (Below.refl w.heap.size w).alloc (Nat.le_refl _) (.cells (rowOf lvM).toArray 38)
 obtain ⟨W1, hW1⟩ : ∃ W1, w.alloc (.cells (rowOf lvM).toArray 38) = W1 := ⟨_, rfl⟩
 rw [hW1] at s1 nb1
 have o2 : (W1.alloc (.cells (rowOf lvT).toArray 38)).ownsRow W1.heap.size 38 3 (.slice (some ⟨W1.heap.size, 0, none⟩) 3 3) lvT.length (rowOf lvT) := World.ownsRow_lit W1 (rowOf lvT).toArray 3 (Nat.le_refl _) (by unfold maxLen; omega) rfl
 have nb2 := (Below.refl W1.heap.size W1).alloc (Nat.le_refl _) (.cells (rowOf lvT).toArray 38)
 obtain ⟨W2, hW2⟩ : ∃ W2, W1.alloc (.cells (rowOf lvT).toArray 38) = W2 := ⟨_, rfl⟩
 rw [hW2] at o2 nb2
 have g3 := RowsGat.one (w0 := W2) (base := 0) (Nat.zero_le _) (slC_own o2)
 have nb3 := (Below.refl W2.heap.size W2).alloc (Nat.le_refl _) (.cells #[.slice (some ⟨W1.heap.size, 0, none⟩) 3 3] 22)
 obtain ⟨W3, hW3⟩ : ∃ W3, W2.alloc (.cells #[.slice (some ⟨W1.heap.size, 0, none⟩) 3 3] 22) = W3 := ⟨_, rfl⟩
 rw [hW3] at g3 nb3
 have B3 := btP (btP nb1 nb2) nb3
 have CM := Lib.hid (made_any [] [109] _ _ _ _ _ _ lvM [lvT] W3 (((s1.later nb2).later nb3)) g3.rows lv_ok)
 rw [lv1, lv2] at CM
 have HB := Lib.hid B3
 replace hW1 : w.alloc (.cells #[.string ⟨#[97]⟩, .int .i64 5, .string ⟨#[]⟩] 38) = W1 := hW1
 replace hW2 : W1.alloc (.cells #[.string ⟨#[97]⟩, .int .i64 3, .string ⟨#[]⟩, .string ⟨#[98]⟩, .int .i64 2, .string ⟨#[]⟩, .string ⟨#[122]⟩, .int .i64 1, .string ⟨#[]⟩] 38) = W2 := hW2
 unfold dataVal tabVal rvVal at CM
 clear s1 nb1 o2 nb2 g3 nb3 B3
 go_enter Tryz.func10, Tryz.ntmps10
 go_wp2_with fail
 refine CM.out.mono ?_
 rintro e w4 ⟨p, fs, A, n, c, A2, n2, c2, rfl, hM, hT, hR, b4⟩
 have HN := Lib.hid (show n ≤ 10 by have : n = 1 := hT.1.symm; omega)
 obtain ⟨b1, hb1⟩ : ∃ b1, w4.heap.size = b1 := ⟨_, rfl⟩
 obtain ⟨W5, hW5, h5, nb5, sz5, y0, y1, y2, y3, yf0, yf1, yf2, yf3⟩ := new_tab w4 b1 hb1
 obtain ⟨W6, hW6, h6, nb6, sz6, z0, z1, z2, zf0, zf1, zf2⟩ := new_ref W5 (b1 + 1) sz5
 have h56 := (nb6.block b1 (by omega)).trans h5
 have y60 : W6.cell? ⟨b1, 0, none⟩ = some (.string ⟨#[]⟩) := by rw [cell_of_row W6 b1 _ _ _ _ h56]; rfl
 have y61 : W6.cell? ⟨b1, 1, none⟩ = some (.string ⟨#[]⟩) := by rw [cell_of_row W6 b1 _ _ _ _ h56]; rfl
 have y62 : W6.cell? ⟨b1, 2, none⟩ = some (.pointer none) := by rw [cell_of_row W6 b1 _ _ _ _ h56]; rfl
 have y63 : W6.cell? ⟨b1, 3, none⟩ = some (.slice none 0 0) := by rw [cell_of_row W6 b1 _ _ _ _ h56]; rfl
 have y6f : ∀ j, W6.frozen? ⟨b1, j, none⟩ = false := fun j => by simp [World.frozen?, h56]
 have q6 := set4 (a' := .string ⟨#[]⟩) (b' := .string ⟨#[109]⟩) (c' := .pointer (some ⟨p, 0, none⟩)) (d' := .slice A n c) h56
 have k6 : ∀ k, k ≠ b1 → ((((W6.setCell ⟨b1, 0, none⟩ (.string ⟨#[]⟩)).setCell ⟨b1, 1, none⟩ (.string ⟨#[109]⟩)).setCell ⟨b1, 2, none⟩ (.pointer (some ⟨p, 0, none⟩))).setCell ⟨b1, 3, none⟩ (.slice A n c)).heap[k]? = W6.heap[k]? := fun k hk =>
  (Below.heap_setCell _ ⟨b1, 3, none⟩ _ k hk).trans ((Below.heap_setCell _ ⟨b1, 2, none⟩ _ k hk).trans ((Below.heap_setCell _ ⟨b1, 1, none⟩ _ k hk).trans (Below.heap_setCell _ ⟨b1, 0, none⟩ _ k hk)))
 have B6 : Below w4.heap.size w4 ((((W6.setCell ⟨b1, 0, none⟩ (.string ⟨#[]⟩)).setCell ⟨b1, 1, none⟩ (.string ⟨#[109]⟩)).setCell ⟨b1, 2, none⟩ (.pointer (some ⟨p, 0, none⟩))).setCell ⟨b1, 3, none⟩ (.slice A n c)) := below_set (below_set (below_set (below_set (nb5.trans (nb6.mono (by omega))) (by omega) 0 _) (by omega) 1 _) (by omega) 2 _) (by omega) 3 _
 obtain ⟨W7, hW7⟩ : ∃ W7, ((((W6.setCell ⟨b1, 0, none⟩ (.string ⟨#[]⟩)).setCell ⟨b1, 1, none⟩ (.string ⟨#[109]⟩)).setCell ⟨b1, 2, none⟩ (.pointer (some ⟨p, 0, none⟩))).setCell ⟨b1, 3, none⟩ (.slice A n c)) = W7 := ⟨_, rfl⟩
 rw [hW7] at q6 k6 B6
 have l7 := (k6 (b1 + 1) (by omega)).trans h6
 have r0 : W7.cell? ⟨b1 + 1, 0, none⟩ = some (.string ⟨#[]⟩) := by rw [cell_of_row W7 _ _ _ _ _ l7]; rfl
 have r1 : W7.cell? ⟨b1 + 1, 1, none⟩ = some (.string ⟨#[]⟩) := by rw [cell_of_row W7 _ _ _ _ _ l7]; rfl
 have r2 : W7.cell? ⟨b1 + 1, 2, none⟩ = some (.slice none 0 0) := by rw [cell_of_row W7 _ _ _ _ _ l7]; rfl
 have rf : ∀ j, W7.frozen? ⟨b1 + 1, j, none⟩ = false := fun j => by simp [World.frozen?, l7]
 obtain ⟨W8, hW8⟩ : ∃ W8, ((W7.setCell ⟨b1 + 1, 0, none⟩ (.string ⟨#[]⟩)).setCell ⟨b1 + 1, 1, none⟩ (.string ⟨#[109]⟩)).setCell ⟨b1 + 1, 2, none⟩ (.slice A2 n2 c2) = W8 := ⟨_, rfl⟩
 have h8 : W8.heap[b1]? = W7.heap[b1]? := by rw [← hW8]; exact (Below.heap_setCell _ ⟨b1 + 1, 2, none⟩ _ b1 (by show b1 ≠ b1 + 1; omega)).trans ((Below.heap_setCell _ ⟨b1 + 1, 1, none⟩ _ b1 (by show b1 ≠ b1 + 1; omega)).trans (Below.heap_setCell _ ⟨b1 + 1, 0, none⟩ _ b1 (by show b1 ≠ b1 + 1; omega)))
 have B8 : Below w4.heap.size w4 W8 := by rw [← hW8]; exact below_set (below_set (below_set B6 (by omega) 0 _) (by omega) 1 _) (by omega) 2 _
 have q8 := h8.trans q6
 have t0 : W8.cell? ⟨b1, 0, none⟩ = some (.string ⟨#[]⟩) := by rw [cell_of_row W8 b1 _ _ _ _ q8]; rfl
 have t1 : W8.cell? ⟨b1, 1, none⟩ = some (.string ⟨#[109]⟩) := by rw [cell_of_row W8 b1 _ _ _ _ q8]; rfl
 have t2 : W8.cell? ⟨b1, 2, none⟩ = some (.pointer (some ⟨p, 0, none⟩)) := by rw [cell_of_row W8 b1 _ _ _ _ q8]; rfl
 have t3 : W8.cell? ⟨b1, 3, none⟩ = some (.slice A n c) := by rw [cell_of_row W8 b1 _ _ _ _ q8]; rfl
 have mT := hT.later B8
 have mM : MemPtr (some ⟨p, 0, none⟩) lvM W8 := .inr ⟨p, fs, rfl, hM.later B8⟩
 have B := btP HB.out (btP b4 B8)
 have G : ∀ (key : List UInt8), key.length ≤ 10 → ∀ W, Below W8.heap.size W8 W → Calls Tryz.prog 20 #[tabVal [] [109] (some ⟨p, 0, none⟩) A n c, .string ⟨key.toArray⟩] W fun e w' => e = .returned (ceV (getT [] [109] [lvM, lvT] key)) ∧ Below W.heap.size W w' := fun key hk W hb =>
  tabGet [] [109] key (some ⟨p, 0, none⟩) A n c lvM [lvT] W (mM.later hb) (mT.later hb) HN.out lv_rows (by omega)
 have GR : ∀ W, Below W8.heap.size W8 W → Calls Tryz.prog 19 #[tabVal [] [109] (some ⟨p, 0, none⟩) A n c, .string ⟨([] : List UInt8).toArray⟩, .string ⟨([] : List UInt8).toArray⟩] W fun e w' => Below W.heap.size W w' ∧ ∃ u, e = .returned (.tuple #[u, .int .i64 0]) ∧ SlAt u [⟨[97], 5, []⟩, ⟨[98], 2, []⟩] w' := fun W hb =>
  (tabRange [] [109] [] [] (some ⟨p, 0, none⟩) A n c lvM [lvT] W (mM.later hb) (mT.later hb) HN.out lv_rows).mono fun e w' ⟨h1, u, h2, h3⟩ => ⟨h1, u, h2, by rw [← lv6]; exact slAt_own h3⟩
 have GM : ∀ W, Below W8.heap.size W8 W → Calls Tryz.prog 13 #[tabVal [] [109] (some ⟨p, 0, none⟩) A n c, Value.nilFunc] W fun e w' => Below W.heap.size W w' ∧ ∃ u, e = .returned (.tuple #[u, .int .i64 0]) ∧ SlAt u [⟨[97], 3, []⟩, ⟨[98], 2, []⟩] w' := fun W hb =>
  (tabMergeNil [] [109] (some ⟨p, 0, none⟩) A n c [lvT] W (mT.later hb) HN.out fun r hr => lv_rows r (List.mem_cons_of_mem _ hr)).mono fun e w' ⟨h1, u, h2, h3⟩ => ⟨h1, u, h2, by rw [← lv7]; exact slAt_own h3⟩
 unfold tabVal at G GR GM
 have G1 := G [97] (by decide) W8 (Below.refl _ _)
 rw [lv3] at G1
 have CG1 := Lib.hid G1
 have HG := Lib.hid (And.intro G (And.intro GR (And.intro GM B)))
 simp only [ceV, ceVal] at CG1
 clear G G1 GR GM B mT mM hT hM hR b4 B8 h8 q6 k6 B6 l7 h6 h5 h56 nb5 nb6
 go_wp2_with fail
 refine CG1.out.mono ?_
 rintro e v1 ⟨rfl, bv1⟩
 obtain ⟨g1, hg1⟩ : ∃ g1, v1.heap.size = g1 := ⟨_, rfl⟩
 obtain ⟨u1, hu1, hz1, nz1, x10, x11, x12, f10, f11, f12⟩ := new_cell v1 g1 hg1
 have hs1 := set3 (a' := .string ⟨#[97]⟩) (b' := .int .i64 5) (c' := .string ⟨#[]⟩) hz1
 have nn1 : Below W8.heap.size W8 (((u1.setCell ⟨g1, 0, none⟩ (.string ⟨#[97]⟩)).setCell ⟨g1, 1, none⟩ (.int .i64 5)).setCell ⟨g1, 2, none⟩ (.string ⟨#[]⟩)) := bv1.trans ((below_set (below_set (below_set nz1 (by omega) 0 _) (by omega) 1 _) (by omega) 2 _).mono bv1.size)
 obtain ⟨V1, hV1⟩ : ∃ V1, ((u1.setCell ⟨g1, 0, none⟩ (.string ⟨#[97]⟩)).setCell ⟨g1, 1, none⟩ (.int .i64 5)).setCell ⟨g1, 2, none⟩ (.string ⟨#[]⟩) = V1 := ⟨_, rfl⟩
 rw [hV1] at hs1 nn1
 have hbq1 := (nn1.block b1 (Go.ltA q8)).trans q8
 have t10 : V1.cell? ⟨b1, 0, none⟩ = some (.string ⟨#[]⟩) := by rw [cell_of_row V1 b1 _ _ _ _ hbq1]; rfl
 have t11 : V1.cell? ⟨b1, 1, none⟩ = some (.string ⟨#[109]⟩) := by rw [cell_of_row V1 b1 _ _ _ _ hbq1]; rfl
 have t12 : V1.cell? ⟨b1, 2, none⟩ = some (.pointer (some ⟨p, 0, none⟩)) := by rw [cell_of_row V1 b1 _ _ _ _ hbq1]; rfl
 have t13 : V1.cell? ⟨b1, 3, none⟩ = some (.slice A n c) := by rw [cell_of_row V1 b1 _ _ _ _ hbq1]; rfl
 have G2 := HG.out.1 [98] (by decide) V1 nn1
 rw [lv4] at G2
 have CG2 := Lib.hid G2
 simp only [ceV, ceVal] at CG2
 have HS1 := Lib.hid hs1
 clear G2 hs1 hz1 nz1 bv1 CG1 y60 y61 y62 y63 y6f y0 y1 y2 y3 yf0 yf1 yf2 yf3 z0 z1 z2 zf0 zf1 zf2 r0 r1 r2 rf hW5 hW6 hW7 hW8
 go_wp2_with fail
 refine CG2.out.mono ?_
 rintro e v2 ⟨rfl, bv2⟩
 obtain ⟨g2, hg2⟩ : ∃ g2, v2.heap.size = g2 := ⟨_, rfl⟩
 obtain ⟨u2, hu2, hz2, nz2, x20, x21, x22, f20, f21, f22⟩ := new_cell v2 g2 hg2
 have hs2 := set3 (a' := .string ⟨#[98]⟩) (b' := .int .i64 2) (c' := .string ⟨#[]⟩) hz2
 have nn2 : Below V1.heap.size V1 (((u2.setCell ⟨g2, 0, none⟩ (.string ⟨#[98]⟩)).setCell ⟨g2, 1, none⟩ (.int .i64 2)).setCell ⟨g2, 2, none⟩ (.string ⟨#[]⟩)) := bv2.trans ((below_set (below_set (below_set nz2 (by omega) 0 _) (by omega) 1 _) (by omega) 2 _).mono bv2.size)
 obtain ⟨V2, hV2⟩ : ∃ V2, ((u2.setCell ⟨g2, 0, none⟩ (.string ⟨#[98]⟩)).setCell ⟨g2, 1, none⟩ (.int .i64 2)).setCell ⟨g2, 2, none⟩ (.string ⟨#[]⟩) = V2 := ⟨_, rfl⟩
 rw [hV2] at hs2 nn2
 have hb2 := (nn2.block b1 (Go.ltA hbq1)).trans hbq1
 have t20 : V2.cell? ⟨b1, 0, none⟩ = some (.string ⟨#[]⟩) := by rw [cell_of_row V2 b1 _ _ _ _ hb2]; rfl
 have t21 : V2.cell? ⟨b1, 1, none⟩ = some (.string ⟨#[109]⟩) := by rw [cell_of_row V2 b1 _ _ _ _ hb2]; rfl
 have t22 : V2.cell? ⟨b1, 2, none⟩ = some (.pointer (some ⟨p, 0, none⟩)) := by rw [cell_of_row V2 b1 _ _ _ _ hb2]; rfl
 have t23 : V2.cell? ⟨b1, 3, none⟩ = some (.slice A n c) := by rw [cell_of_row V2 b1 _ _ _ _ hb2]; rfl
 have NN2 := nn1.trans (nn2.mono nn1.size)
 have G3 := HG.out.1 [122] (by decide) V2 NN2
 rw [lv5] at G3
 have CG3 := Lib.hid G3
 simp only [ceV, ceVal, Ce.zero] at CG3
 have HS2 := Lib.hid hs2
 clear G3 hs2 hz2 nz2 bv2 CG2
 go_wp2_with fail
 refine CG3.out.mono ?_
 rintro e v3 ⟨rfl, bv3⟩
 obtain ⟨g3, hg3⟩ : ∃ g3, v3.heap.size = g3 := ⟨_, rfl⟩
 obtain ⟨u3, hu3, hz3, nz3, x30, x31, x32, f30, f31, f32⟩ := new_cell v3 g3 hg3
 have hs3 := set3 (a' := .string ⟨#[]⟩) (b' := .int .i64 0) (c' := .string ⟨#[]⟩) hz3
 have nn3 : Below V2.heap.size V2 (((u3.setCell ⟨g3, 0, none⟩ (.string ⟨#[]⟩)).setCell ⟨g3, 1, none⟩ (.int .i64 0)).setCell ⟨g3, 2, none⟩ (.string ⟨#[]⟩)) := bv3.trans ((below_set (below_set (below_set nz3 (by omega) 0 _) (by omega) 1 _) (by omega) 2 _).mono bv3.size)
 obtain ⟨V3, hV3⟩ : ∃ V3, ((u3.setCell ⟨g3, 0, none⟩ (.string ⟨#[]⟩)).setCell ⟨g3, 1, none⟩ (.int .i64 0)).setCell ⟨g3, 2, none⟩ (.string ⟨#[]⟩) = V3 := ⟨_, rfl⟩
 rw [hV3] at hs3 nn3
 have hb3 := (nn3.block b1 (Go.ltA hb2)).trans hb2
 have t30 : V3.cell? ⟨b1, 0, none⟩ = some (.string ⟨#[]⟩) := by rw [cell_of_row V3 b1 _ _ _ _ hb3]; rfl
 have t31 : V3.cell? ⟨b1, 1, none⟩ = some (.string ⟨#[109]⟩) := by rw [cell_of_row V3 b1 _ _ _ _ hb3]; rfl
 have t32 : V3.cell? ⟨b1, 2, none⟩ = some (.pointer (some ⟨p, 0, none⟩)) := by rw [cell_of_row V3 b1 _ _ _ _ hb3]; rfl
 have t33 : V3.cell? ⟨b1, 3, none⟩ = some (.slice A n c) := by rw [cell_of_row V3 b1 _ _ _ _ hb3]; rfl
 have NN3 := NN2.trans (nn3.mono NN2.size)
 have CR := Lib.hid (HG.out.2.1 V3 NN3)
 clear hs3 hz3 nz3 bv3 CG3
 go_wp2_with fail
 refine CR.out.mono ?_
 rintro e V4 ⟨b4, ur, rfl, sr⟩
 have NN4 := NN3.trans (b4.mono NN3.size)
 have CMM := Lib.hid (HG.out.2.2.1 V4 NN4)
 have hb4 := (b4.block b1 (Go.ltA hb3)).trans hb3
 have t40 : V4.cell? ⟨b1, 0, none⟩ = some (.string ⟨#[]⟩) := by rw [cell_of_row V4 b1 _ _ _ _ hb4]; rfl
 have t41 : V4.cell? ⟨b1, 1, none⟩ = some (.string ⟨#[109]⟩) := by rw [cell_of_row V4 b1 _ _ _ _ hb4]; rfl
 have t42 : V4.cell? ⟨b1, 2, none⟩ = some (.pointer (some ⟨p, 0, none⟩)) := by rw [cell_of_row V4 b1 _ _ _ _ hb4]; rfl
 have t43 : V4.cell? ⟨b1, 3, none⟩ = some (.slice A n c) := by rw [cell_of_row V4 b1 _ _ _ _ hb4]; rfl
 have HS4 := Lib.hid (And.intro sr (And.intro b4 NN4))
 obtain ⟨Ar, cr, rfl, hr1, hr2, -⟩ := id sr
 clear sr b4 CR
 go_wp2_with fail
 refine CMM.out.mono ?_
 rintro e V5 ⟨b5, um, rfl, sm⟩
 have B5 := nn3.trans ((HS4.out.2.1.trans (b5.mono HS4.out.2.1.size)).mono nn3.size)
 have k1 := ((nn2.trans (B5.mono nn2.size)).block g1 (Go.ltA HS1.out)).trans HS1.out
 have k2 := (B5.block g2 (Go.ltA HS2.out)).trans HS2.out
 have k11 : V5.cell? ⟨g1, 1, none⟩ = some (.int .i64 5) := by rw [cell_of_row V5 g1 _ _ _ _ k1]; rfl
 have k21 : V5.cell? ⟨g2, 1, none⟩ = some (.int .i64 2) := by rw [cell_of_row V5 g2 _ _ _ _ k2]; rfl
 obtain ⟨A', c', e1, -, -, hrow⟩ := HS4.out.1.later b5
 simp only [Value.slice.injEq] at e1
 obtain ⟨rfl, -, -⟩ := e1
 obtain ⟨bb, o, rfl, row⟩ := hrow (by simp)
 have zr := (row.cells (i := 0) (by simp)).2.1
 obtain ⟨A'', c'', rfl, hm1, hm2, hrow2⟩ := sm
 obtain ⟨bb2, o2, rfl, row2⟩ := hrow2 (by simp)
 have zm := (row2.cells (i := 0) (by simp)).2.1
 simp only [Nat.zero_mul, Nat.add_zero, List.getD_cons_zero] at zr zm
 have HB5 := Lib.hid (btP HG.out.2.2.2 (HS4.out.2.2.trans (b5.mono HS4.out.2.2.size)))
 clear hrow row hrow2 row2 b5 B5 k1 k2 nn1 nn2 nn3 NN2 NN3 NN4
 go_wp2_with fail
 go_ret
 exact ⟨rfl, HB5.out⟩
end Go.Proofs.YtoglloafpnopaaaGreat
