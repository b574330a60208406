/- Build, the document's. A table, in memory: the block from which a key may lie on. What is asked of a table: Range, Get, All, Len. Get of a table. -/
import Derived.Test.YtoglloafpnopaaaGreatTabH
set_option linter.unusedSimpArgs false
set_option linter.unusedVariables false
namespace Go.Proofs.YtoglloafpnopaaaGreat
set_option maxRecDepth 16000
open Go.RowKit Spoor
def TabAt (t : Nat) (gs : List (List Ce)) (w : World) : Prop := ∃ v, w.heap[t]? = some (.cells #[v] 92 (0, 0)) ∧ BksAt 0 v gs w
theorem TabAt.later {t : Nat} {gs : List (List Ce)} {w w' : World} (h : TabAt t gs w) (hb : Below w.heap.size w w') : TabAt t gs w' := by
 obtain ⟨v, h1, h2⟩ := h
 exact ⟨v, (hb.block t (Go.ltA h1)).trans h1, h2.later hb⟩
theorem TabAt.cell {t : Nat} {gs : List (List Ce)} {w : World} (h : TabAt t gs w) : ∃ A cap, w.cell? ⟨t, 0, none⟩ = some (.slice A gs.length cap) ∧ t < w.heap.size ∧ gs.length ≤ cap ∧ cap ≤ maxLen ∧ (gs.length = 0 → (A = none ∧ cap = 0) ∨ ∃ g, A = some ⟨g, 0, none⟩) ∧ (0 < gs.length → ∃ g, A = some ⟨g, 0, none⟩ ∧ g < w.heap.size ∧ ∀ i, i < gs.length →
 w.cell? ⟨g, i * 2, none⟩ = some (.string ⟨(keyG (gs.getD i [])).toArray⟩) ∧ ∃ s, w.cell? ⟨g, i * 2 + 1, none⟩ = some s ∧ SlAt s (gs.getD i []) w) := by
 obtain ⟨v, h1, A, cap, rfl, h2, h3, hz, h4⟩ := h
 refine ⟨A, cap, by simp [World.cell?, h1], (Go.ltA h1), h2, h3, hz, fun h0 => ?_⟩
 obtain ⟨g, e, -, hg, hc⟩ := h4 h0
 exact ⟨g, e, hg, fun i hi => by obtain ⟨c1, s, b, c2, -, c4⟩ := hc i hi; exact ⟨c1, s, c2, c4.sl⟩⟩
theorem behindAt_any (t : Nat) (gs : List (List Ce)) (key : List UInt8) (k : Nat) (w : World) (h : TabAt t gs w) (hk : k < gs.length) :
 Calls Tryz.prog 97 #[.agg #[.pointer (some ⟨t, 0, none⟩), .string ⟨key.toArray⟩], .int .i64 k] w fun e w' => e = .returned (.bool (!Op.bytesLess (keyG (gs.getD k [])) key)) ∧ Below w.heap.size w w' := by
 obtain ⟨A, cap, c0, ht, hc1, hc2, -, hrow⟩ := h.cell
 obtain ⟨g, rfl, hg, hcells⟩ := hrow (by omega)
 obtain ⟨c1, -, -⟩ := hcells k hk
 obtain ⟨n, hn⟩ : ∃ n, gs.length = n := ⟨_, rfl⟩
 rw [hn] at c0 hk hc1
 have nb := (Below.refl w.heap.size w).alloc (Nat.le_refl _) (.cells #[.pointer (some ⟨t, 0, none⟩), .string ⟨key.toArray⟩] 168)
 have c0' := (nb.cell (p := ⟨t, 0, none⟩) ht).trans c0
 have c1' := (nb.cell (p := ⟨g, k * 2, none⟩) hg).trans c1
 have hc3 : cap ≤ 9223372036854775807 := by unfold maxLen at hc2; omega
 have y0 : (w.alloc (.cells #[.pointer (some ⟨t, 0, none⟩), .string ⟨key.toArray⟩] 168)).cell? ⟨w.heap.size, 0, none⟩ = some (.pointer (some ⟨t, 0, none⟩)) := by rw [World.cell?_alloc_at _ _ _ _ (by simp)]; rfl
 have y1 : (w.alloc (.cells #[.pointer (some ⟨t, 0, none⟩), .string ⟨key.toArray⟩] 168)).cell? ⟨w.heap.size, 1, none⟩ = some (.string ⟨key.toArray⟩) := by rw [World.cell?_alloc_at _ _ _ _ (by simp)]; rfl
 have NB := Lib.hid nb
 clear nb c0 c1 hcells hrow hc2 h hn
 go_enter Tryz.func97, Tryz.ntmps97
 go_wp2_with fail
 generalize w.alloc _ = w1 at *
 go_quiet (fail)
 go_wp2_with fail
 go_ret
 exact ⟨ret1 rfl, _root_.Go.below_drewN NB.out _⟩
def headsG (gs : List (List Ce)) : List Ce := gs.map fun g => g.headD Ce.zero
theorem heads_sub : ∀ {gs : List (List Ce)}, (∀ g ∈ gs, g ≠ []) → (headsG gs).Sublist gs.flatten
 | [], _ => List.Sublist.refl _
 | g :: gs, h => by
   obtain ⟨c, l, rfl, -⟩ := keyG_head (h g (by simp))
   have ih := heads_sub (gs := gs) (fun x hx => h x (by simp [hx]))
   rw [List.flatten_cons]
   show (c :: headsG gs).Sublist (c :: l ++ gs.flatten)
   exact List.Sublist.cons_cons c (ih.trans (List.sublist_append_right l gs.flatten))
def posG (gs : List (List Ce)) (key : List UInt8) : Nat := keyPos (headsG gs) key
theorem posG_facts {gs : List (List Ce)} (hr : Rise gs.flatten) (hne : ∀ g ∈ gs, g ≠ []) (key : List UInt8) : posG gs key ≤ gs.length ∧ (∀ i, i < posG gs key → Op.bytesLess (keyG (gs.getD i [])) key = true) ∧ ∀ i, posG gs key ≤ i → i < gs.length → Op.bytesLess (keyG (gs.getD i [])) key = false := by
 have hl : (headsG gs).length = gs.length := by simp [headsG]
 have h1 := keyPos_le (headsG gs) key
 have h2 := keyPos_facts key (show Rise (headsG gs) from hr.sublist (heads_sub hne))
 have e : ∀ i, i < gs.length → ((headsG gs).getD i Ce.zero).k = keyG (gs.getD i []) := fun i hi => by simp [headsG, keyG, List.getD, hi]
 unfold posG
 refine ⟨by omega, fun i hi => ?_, fun i hi hi2 => ?_⟩
 · rw [← e i (by omega)]
   exact h2.1 i hi
 · rw [← e i hi2]
   exact h2.2 i hi (by omega)
set_option maxRecDepth 100000 in
theorem searchT_any (t : Nat) (gs : List (List Ce)) (key : List UInt8) (w : World) (h : TabAt t gs w) (hr : Rise gs.flatten) (hne : ∀ g ∈ gs, g ≠ []) (hbig : gs.length ≤ 1000000) :
 Calls Tryz.prog 96 #[.int .i64 gs.length, .func (.func 97) #[.agg #[.pointer (some ⟨t, 0, none⟩), .string ⟨key.toArray⟩]] #[]] w fun e w' => e = .returned (.int .i64 (posG gs key)) ∧ Below w.heap.size w w' := by
 obtain ⟨f1, f2, f3⟩ := posG_facts hr hne key
 have H := Lib.hid h
 obtain ⟨p, hp⟩ : ∃ p, posG gs key = p := ⟨_, rfl⟩
 rw [hp] at f1 f2 f3 ⊢
 have F2 := Lib.hid f2
 have F3 := Lib.hid f3
 obtain ⟨n, hn⟩ : ∃ n, gs.length = n := ⟨_, rfl⟩
 have HN := Lib.hid hn
 rw [hn] at f1 hbig ⊢
 clear h hr hne f2 f3 hp hn
 go_enter Tryz.func96, Tryz.ntmps96
 go_wp2_with fail
 go_loopw [5, 6] (fun i j wr => ∃ (a z : Nat), i = .int .i64 a ∧ j = .int .i64 z ∧ a ≤ p ∧ p ≤ z ∧ z ≤ n ∧ Below w.heap.size w wr) (fun i j _ => (intOf j).toNat - (intOf i).toNat)
 case atStart => exact ⟨0, n, rfl, rfl, by omega, f1, Nat.le_refl _, Below.refl _ _⟩
 case round =>
  obtain ⟨a, z, rfl, rfl, ha, hz, hzn, hb⟩ := hrel
  by_cases hlt : a < z
  · go_upto_region 4 with fail
    obtain ⟨h, hh⟩ : ∃ h : Nat, ((a : Int) + z) / 2 = h := ⟨((a + z) / 2 : Nat), by omega⟩
    have h3 : a ≤ h := by omega
    have h4 : h < z := by omega
    rw [hh]
    clear hh
    have cc := behindAt_any t gs key h wr (H.out.later hb) (by rw [HN.out]; omega)
    by_cases hht : h < p
    · have hr := F2.out h hht
      rw [hr] at cc
      have CC := Lib.hid cc
      clear cc hr
      go_wp2_with fail
      refine CC.out.mono ?_
      rintro e w2 ⟨rfl, b2⟩
      have B := btP hb b2
      clear CC
      go_wp2_with fail
      go_roundw
      case rel => exact ⟨h + 1, z, by go_num, rfl, by omega, by omega, by omega, B⟩
      case measure => simp [intOf]; omega
    · have hr := F3.out h (by omega) (by rw [HN.out]; omega)
      rw [hr] at cc
      have CC := Lib.hid cc
      clear cc hr
      go_wp2_with fail
      refine CC.out.mono ?_
      rintro e w2 ⟨rfl, b2⟩
      have B := btP hb b2
      clear CC
      go_wp2_with fail
      go_roundw
      case rel => exact ⟨a, h, rfl, rfl, by omega, by omega, by omega, B⟩
      case measure => simp [intOf]; omega
  · obtain rfl : a = p := by omega
    obtain rfl : z = a := by omega
    go_wp2_with fail
    go_ret
    exact ⟨rfl, hb⟩
theorem fromT_any (t : Nat) (gs : List (List Ce)) (key : List UInt8) (w : World) (h : TabAt t gs w) (hr : Rise gs.flatten) (hne : ∀ g ∈ gs, g ≠ []) (hbig : gs.length ≤ 1000000) :
 Calls Tryz.prog 77 #[.pointer (some ⟨t, 0, none⟩), .string ⟨key.toArray⟩] w fun e w' => e = .returned (.int .i64 (posG gs key - 1 : Nat)) ∧ Below w.heap.size w w' := by
 have sc := searchT_any t gs key w h hr hne hbig
 obtain ⟨A, cap, c0, ht, hc1, hc2, -, -⟩ := h.cell
 have f1 := (posG_facts hr hne key).1
 obtain ⟨p, hp⟩ : ∃ p, posG gs key = p := ⟨_, rfl⟩
 rw [hp] at sc f1 ⊢
 obtain ⟨n, hn⟩ : ∃ n, gs.length = n := ⟨_, rfl⟩
 rw [hn] at sc c0 f1 hbig
 have SC := Lib.hid sc
 have hm : max ((p : Int) - 1) 0 = ((p - 1 : Nat) : Int) := by omega
 have hm2 : (if (p : Int) - 1 < 0 then (0 : Int) else (p : Int) - 1) = ((p - 1 : Nat) : Int) := by split <;> omega
 have hw : IntKind.i64.wrap ((p : Int) - 1) = (p : Int) - 1 := by rw [IntKind.wrap_i64]; omega
 generalize ((p - 1 : Nat) : Int) = q at *
 clear sc hr hne h hc2 hp hn
 go_enter Tryz.func77, Tryz.ntmps77
 go_wp2_with fail
 refine SC.out.mono ?_
 rintro e w1 ⟨rfl, b1⟩
 go_wp2_with fail
 go_ret
 exact ⟨rfl, b1⟩
theorem sl_cut {b o cap n a z : Nat} {l : List Ce} {w : World} (h : RowAt b o l w) (hn : l.length = n) (haz : a ≤ z) (hz : z ≤ n) (hc : n ≤ cap) (hcm : cap ≤ maxLen) : SlAt (.slice (some ⟨b, o + a * 3, none⟩) (z - a) (cap - a)) ((l.drop a).take (z - a)) w := by
 have hp := h.part a (z - a) (by omega)
 have hl : ((l.drop a).take (z - a)).length = z - a := by rw [List.length_take, List.length_drop]; omega
 exact ⟨_, cap - a, by rw [hl], by rw [hl]; omega, Nat.le_trans (Nat.sub_le _ _) hcm, fun _ => ⟨b, _, rfl, hp⟩⟩
theorem flat_rise {gs : List (List Ce)} (h : Rise gs.flatten) {k : Nat} (hk : k < gs.length) : Rise (gs.getD k []) := by
 rw [flat_at hk] at h
 exact (rise_app.1 (rise_app.1 h).2.1).1
theorem flat_len {gs : List (List Ce)} {k : Nat} (hk : k < gs.length) : (gs.getD k []).length ≤ gs.flatten.length := by
 conv => rhs; rw [flat_at hk]
 simp only [List.length_append]
 omega
theorem flat_take (gs : List (List Ce)) {k : Nat} (hk : k < gs.length) (x y : List UInt8) : rangeC (gs.take (k + 1)).flatten x y = rangeC (gs.take k).flatten x y ++ rangeC (gs.getD k []) x y := by
 rw [take_gs gs k hk, List.flatten_append, rangeC_app]
 simp
theorem range_short (gs : List (List Ce)) (k : Nat) (x y : List UInt8) : (rangeC (gs.take k).flatten x y).length ≤ gs.flatten.length := by
 have h1 := List.length_filter_le (within x y) (gs.take k).flatten
 have h2 : (gs.take k).flatten.length ≤ gs.flatten.length := by
  conv => rhs; rw [← List.take_append_drop k gs, List.flatten_append, List.length_append]
  omega
 unfold rangeC
 omega
set_option maxRecDepth 100000 in
set_option maxHeartbeats 8000000 in
theorem rangeT_any (t : Nat) (gs : List (List Ce)) (x y : List UInt8) (w : World) (h : TabAt t gs w) (hr : Rise gs.flatten) (hne : ∀ g ∈ gs, g ≠ []) (hbig : gs.length ≤ 100000) (hbig2 : gs.flatten.length ≤ 100000) :
 Calls Tryz.prog 50 #[.pointer (some ⟨t, 0, none⟩), .string ⟨x.toArray⟩, .string ⟨y.toArray⟩] w fun e w' => Below w.heap.size w w' ∧ ∃ v, e = .returned v ∧ w'.ownsRow w.heap.size 38 3 v (rangeC gs.flatten x y).length (rowOf (rangeC gs.flatten x y)) := by
 obtain ⟨A, cap, c0, ht, hc1, hc2, hz, hrow⟩ := h.cell
 have HT := Lib.hid h
 have HR := Lib.hid hr
 have HNE := Lib.hid hne
 have HB := Lib.hid hbig
 have HB2 := Lib.hid hbig2
 have pf := posG_facts hr hne x
 have hc3 : cap ≤ 9223372036854775807 := by unfold maxLen at hc2; omega
 by_cases h0 : gs.length = 0
 · have hg0 : gs = [] := List.eq_nil_of_length_eq_zero h0
   subst hg0
   have hp0 : posG [] x = 0 := rfl
   have HF := Lib.hid (show posG ([] : List (List Ce)) x - 1 = 0 from rfl)
   have hrn : rangeC ([] : List (List Ce)).flatten x y = [] := rfl
   rw [hrn]
   obtain ⟨vt, hvt⟩ : ∃ vt, (Value.slice A ([] : List (List Ce)).length cap) = vt := ⟨_, rfl⟩
   rw [hvt] at c0
   dsimp only [List.length_nil] at hvt hc1
   clear h hr hne hbig hbig2 pf hrow hrn hp0 h0 hc2
   rcases hz rfl with ⟨rfl, rfl⟩ | ⟨g, rfl⟩
   · clear hz
     go_enter Tryz.func50, Tryz.ntmps50
     go_wp2_with fail
     refine (wpIn_wide (n := 5)).1 ?_
     refine wpIn_region_lit_late (fun W' => W'.cell? ⟨t, 0, none⟩ = some vt) (fun _ => false) (k := 10) (listed := #[false, false, false, false, false, false, false, false, false, false]) (by kernel_rfl) (by kernel_rfl) (by kernel_rfl) ?_
     have bz := Below.drew (Below.refl w.heap.size w)
     have hS : w.drew.cell? ⟨t, 0, none⟩ = some vt := c0
     have fc := fromT_any t [] x w.drew (HT.out.later bz) HR.out HNE.out (by have := HB.out; omega)
     have FC := Lib.hid fc
     have HBZ := Lib.hid bz
     clear fc bz
     obtain ⟨wz, hwz⟩ : ∃ wz, w.drew = wz := ⟨_, rfl⟩
     rw [hwz] at hS FC HBZ ⊢
     clear hwz
     subst hvt
     refine AnyS.yes 0 14 ?_ rfl rfl (by kernel_rfl) (fun _ _ _ _ _ => id) hS (fun _ => rfl) ?_ ?_; rotate_left; intro w' hw'; go_simp; with_reducible rfl; simp only [zP,zS,zC,zZ]
     refine AnyS.yes 1 15 ?_ rfl rfl (by kernel_rfl) (fun _ _ _ _ _ => id) hS (fun _ => rfl) ?_ ?_; rotate_left; intro w' hw'; go_simp; with_reducible rfl; simp only [zP,zS,zC,zZ]
     refine AnyS.yes 2 16 ?_ rfl rfl (by kernel_rfl) (fun _ _ _ _ _ => id) hS (fun _ => rfl) ?_ ?_; rotate_left; intro w' hw'; go_simp; with_reducible rfl; simp only [zP,zS,zC,zZ]
     refine AnyS.yes 3 17 ?_ rfl rfl (by kernel_rfl) (fun _ _ _ _ _ => id) hS (fun _ => rfl) ?_ ?_; rotate_left; intro w' hw'; go_simp; with_reducible rfl; simp only [zP,zS,zC,zZ]
     refine AnyS.yes 4 18 ?_ rfl rfl (by kernel_rfl) (fun _ _ _ _ _ => id) hS (fun _ => rfl) ?_ ?_; rotate_left; intro w' hw'; go_simp; with_reducible rfl; simp only [zP,zS,zC,zZ]
     refine AnyS.yes 5 19 ?_ rfl rfl (by kernel_rfl) (fun _ _ _ _ _ => id) hS (fun _ => rfl) ?_ ?_; rotate_left; intro w' hw'; go_simp; with_reducible rfl; simp only [zP,zS,zC,zZ]
     refine AnyS.yes 9 23 ?_ rfl rfl (by kernel_rfl) (fun _ _ _ _ _ => id) hS (fun _ => rfl) ?_ ?_; rotate_left; intro w' hw'; go_simp; with_reducible rfl; simp only [zP,zS,zC,zZ]
     clear hS
     refine AnyS.next (i := 6) rfl (by kernel_rfl) (by kernel_rfl) fun K' hK' => ?_
     refine want_yes (by kernel_rfl) ?_
     go_simp
     refine ⟨trivial, (callsIn_wide.2 FC.out).mono ?_⟩
     rintro e wa ⟨rfl, ba⟩
     have HBA := Lib.hid (btP HBZ.out ba)
     have hS : wa.cell? ⟨t, 0, none⟩ = some _ := (HBA.out.cell (p := ⟨t, 0, none⟩) ht).trans c0
     refine hK' _ _ (fun _ => hS) ?_
     clear hK' K' FC ba HBZ
     simp only [zP,zN,zS,zC,zZ]
     try rw [HF.out]
     refine AnyS.yes 7 21 ?_ rfl rfl (by kernel_rfl) (fun _ _ _ _ _ => id) hS (fun _ => rfl) ?_ ?_; rotate_left; intro w' hw'; go_simp; with_reducible rfl; simp only [zP,zS,zC,zZ]
     refine AnyS.yes 8 22 ?_ rfl rfl (by kernel_rfl) (fun _ _ _ _ _ => id) hS (fun _ => rfl) ?_ ?_; rotate_left; intro w' hw'; go_simp; with_reducible rfl; simp only [zP,zS,zC,zZ]
     refine AnyS.done (by kernel_rfl) ?_ _
     clear hS
     go_wp2_with fail
     go_loopw [7, 23] (fun ov i wr => ov = .slice none 0 0 ∧ i = .int .i64 0 ∧ Below w.heap.size w wr) (fun _ i _ => 0)
     case atStart => exact ⟨rfl, rfl, HBA.out⟩
     case round =>
      obtain ⟨rfl, rfl, B⟩ := hrel
      go_wp2_with fail
      go_ret
      exact ⟨B, _, rfl, by simpa [rowOf] using World.ownsRow_nil _ _ _ _⟩
   · clear hz
     go_enter Tryz.func50, Tryz.ntmps50
     go_wp2_with fail
     refine (wpIn_wide (n := 5)).1 ?_
     refine wpIn_region_lit_late (fun W' => W'.cell? ⟨t, 0, none⟩ = some vt) (fun _ => false) (k := 10) (listed := #[false, false, false, false, false, false, false, false, false, false]) (by kernel_rfl) (by kernel_rfl) (by kernel_rfl) ?_
     have bz := Below.drew (Below.refl w.heap.size w)
     have hS : w.drew.cell? ⟨t, 0, none⟩ = some vt := c0
     have fc := fromT_any t [] x w.drew (HT.out.later bz) HR.out HNE.out (by have := HB.out; omega)
     have FC := Lib.hid fc
     have HBZ := Lib.hid bz
     clear fc bz
     obtain ⟨wz, hwz⟩ : ∃ wz, w.drew = wz := ⟨_, rfl⟩
     rw [hwz] at hS FC HBZ ⊢
     clear hwz
     subst hvt
     refine AnyS.yes 0 14 ?_ rfl rfl (by kernel_rfl) (fun _ _ _ _ _ => id) hS (fun _ => rfl) ?_ ?_; rotate_left; intro w' hw'; go_simp; with_reducible rfl; simp only [zP,zS,zC,zZ]
     refine AnyS.yes 1 15 ?_ rfl rfl (by kernel_rfl) (fun _ _ _ _ _ => id) hS (fun _ => rfl) ?_ ?_; rotate_left; intro w' hw'; go_simp; with_reducible rfl; simp only [zP,zS,zC,zZ]
     refine AnyS.yes 2 16 ?_ rfl rfl (by kernel_rfl) (fun _ _ _ _ _ => id) hS (fun _ => rfl) ?_ ?_; rotate_left; intro w' hw'; go_simp; with_reducible rfl; simp only [zP,zS,zC,zZ]
     refine AnyS.yes 3 17 ?_ rfl rfl (by kernel_rfl) (fun _ _ _ _ _ => id) hS (fun _ => rfl) ?_ ?_; rotate_left; intro w' hw'; go_simp; with_reducible rfl; simp only [zP,zS,zC,zZ]
     refine AnyS.yes 4 18 ?_ rfl rfl (by kernel_rfl) (fun _ _ _ _ _ => id) hS (fun _ => rfl) ?_ ?_; rotate_left; intro w' hw'; go_simp; with_reducible rfl; simp only [zP,zS,zC,zZ]
     refine AnyS.yes 5 19 ?_ rfl rfl (by kernel_rfl) (fun _ _ _ _ _ => id) hS (fun _ => rfl) ?_ ?_; rotate_left; intro w' hw'; go_simp; with_reducible rfl; simp only [zP,zS,zC,zZ]
     refine AnyS.yes 9 23 ?_ rfl rfl (by kernel_rfl) (fun _ _ _ _ _ => id) hS (fun _ => rfl) ?_ ?_; rotate_left; intro w' hw'; go_simp; with_reducible rfl; simp only [zP,zS,zC,zZ]
     clear hS
     refine AnyS.next (i := 6) rfl (by kernel_rfl) (by kernel_rfl) fun K' hK' => ?_
     refine want_yes (by kernel_rfl) ?_
     go_simp
     refine ⟨trivial, (callsIn_wide.2 FC.out).mono ?_⟩
     rintro e wa ⟨rfl, ba⟩
     have HBA := Lib.hid (btP HBZ.out ba)
     have hS : wa.cell? ⟨t, 0, none⟩ = some _ := (HBA.out.cell (p := ⟨t, 0, none⟩) ht).trans c0
     refine hK' _ _ (fun _ => hS) ?_
     clear hK' K' FC ba HBZ
     simp only [zP,zN,zS,zC,zZ]
     try rw [HF.out]
     refine AnyS.yes 7 21 ?_ rfl rfl (by kernel_rfl) (fun _ _ _ _ _ => id) hS (fun _ => rfl) ?_ ?_; rotate_left; intro w' hw'; go_simp; with_reducible rfl; simp only [zP,zS,zC,zZ]
     refine AnyS.yes 8 22 ?_ rfl rfl (by kernel_rfl) (fun _ _ _ _ _ => id) hS (fun _ => rfl) ?_ ?_; rotate_left; intro w' hw'; go_simp; with_reducible rfl; simp only [zP,zS,zC,zZ]
     refine AnyS.done (by kernel_rfl) ?_ _
     clear hS
     go_wp2_with fail
     go_loopw [7, 23] (fun ov i wr => ov = .slice none 0 0 ∧ i = .int .i64 0 ∧ Below w.heap.size w wr) (fun _ i _ => 0)
     case atStart => exact ⟨rfl, rfl, HBA.out⟩
     case round =>
      obtain ⟨rfl, rfl, B⟩ := hrel
      go_wp2_with fail
      go_ret
      exact ⟨B, _, rfl, by simpa [rowOf] using World.ownsRow_nil _ _ _ _⟩
 · obtain ⟨g, rfl, hg, hcells⟩ := hrow (by omega)
   obtain ⟨f, hf⟩ : ∃ f, posG gs x - 1 = f := ⟨_, rfl⟩
   have HF := Lib.hid hf
   have hfn : f < gs.length := by have := pf.1; omega
   have hst : rangeC (gs.take f).flatten x y = [] := by
    refine range_start hr hne ?_
    rcases Nat.eq_zero_or_pos f with h1 | h1
    · exact .inl h1
    · exact .inr ⟨hfn, pf.2.1 f (by omega)⟩
   have HST := Lib.hid hst
   have HC := Lib.hid (fun W' (hb : Below w.heap.size w W') (i : Nat) (hi : i < gs.length) => show W'.cell? ⟨g, f * 2 + (i - f) * 2, none⟩ = W'.cell? ⟨g, f * 2 + (i - f) * 2, none⟩ from rfl)
   have hcc := fun W' (hb : Below w.heap.size w W') (k : Nat) (hk : f + k < gs.length) => show W'.cell? ⟨g, f * 2 + k * 2, none⟩ = some (.string ⟨(keyG (gs.getD (f + k) [])).toArray⟩) ∧ ∃ s, W'.cell? ⟨g, f * 2 + k * 2 + 1, none⟩ = some s ∧ SlAt s (gs.getD (f + k) []) W' from by
    obtain ⟨a1, s, a2, a3⟩ := hcells (f + k) hk
    rw [show (f + k) * 2 = f * 2 + k * 2 by omega] at a1 a2
    exact ⟨(hb.cell (p := ⟨g, f * 2 + k * 2, none⟩) hg).trans a1, s, (hb.cell (p := ⟨g, f * 2 + k * 2 + 1, none⟩) hg).trans a2, a3.later hb⟩
   have HCC := Lib.hid hcc
   obtain ⟨n, hn⟩ : ∃ n, gs.length = n := ⟨_, rfl⟩
   have HN := Lib.hid hn
   rw [hn] at c0 hc1 hfn
   obtain ⟨vt, hvt⟩ : ∃ vt, (Value.slice (some ⟨g, 0, none⟩) n cap) = vt := ⟨_, rfl⟩
   rw [hvt] at c0
   have hs1 : ¬ (cap = f) := by omega
   have hs2 : f ≤ cap := by omega
   have hs3 : f ≤ n := by omega
   clear h hr hne hbig hbig2 pf hrow hz hc2 hcells hcc hst hf hn h0 HC
   go_enter Tryz.func50, Tryz.ntmps50
   go_wp2_with fail
   refine (wpIn_wide (n := 5)).1 ?_
   refine wpIn_region_lit_late (fun W' => W'.cell? ⟨t, 0, none⟩ = some vt) (fun _ => false) (k := 10) (listed := #[false, false, false, false, false, false, false, false, false, false]) (by kernel_rfl) (by kernel_rfl) (by kernel_rfl) ?_
   have bz := Below.drew (Below.refl w.heap.size w)
   have hS : w.drew.cell? ⟨t, 0, none⟩ = some vt := c0
   have fc := fromT_any t gs x w.drew (HT.out.later bz) HR.out HNE.out (by have := HB.out; omega)
   have FC := Lib.hid fc
   have HBZ := Lib.hid bz
   clear fc bz
   obtain ⟨wz, hwz⟩ : ∃ wz, w.drew = wz := ⟨_, rfl⟩
   rw [hwz] at hS FC HBZ ⊢
   clear hwz
   subst hvt
   refine AnyS.yes 0 14 ?_ rfl rfl (by kernel_rfl) (fun _ _ _ _ _ => id) hS (fun _ => rfl) ?_ ?_; rotate_left; intro w' hw'; go_simp; with_reducible rfl; simp only [zP,zS,zC,zZ]
   refine AnyS.yes 1 15 ?_ rfl rfl (by kernel_rfl) (fun _ _ _ _ _ => id) hS (fun _ => rfl) ?_ ?_; rotate_left; intro w' hw'; go_simp; with_reducible rfl; simp only [zP,zS,zC,zZ]
   refine AnyS.yes 2 16 ?_ rfl rfl (by kernel_rfl) (fun _ _ _ _ _ => id) hS (fun _ => rfl) ?_ ?_; rotate_left; intro w' hw'; go_simp; with_reducible rfl; simp only [zP,zS,zC,zZ]
   refine AnyS.yes 3 17 ?_ rfl rfl (by kernel_rfl) (fun _ _ _ _ _ => id) hS (fun _ => rfl) ?_ ?_; rotate_left; intro w' hw'; go_simp; with_reducible rfl; simp only [zP,zS,zC,zZ]
   refine AnyS.yes 4 18 ?_ rfl rfl (by kernel_rfl) (fun _ _ _ _ _ => id) hS (fun _ => rfl) ?_ ?_; rotate_left; intro w' hw'; go_simp; with_reducible rfl; simp only [zP,zS,zC,zZ]
   refine AnyS.yes 5 19 ?_ rfl rfl (by kernel_rfl) (fun _ _ _ _ _ => id) hS (fun _ => rfl) ?_ ?_; rotate_left; intro w' hw'; go_simp; with_reducible rfl; simp only [zP,zS,zC,zZ]
   refine AnyS.yes 9 23 ?_ rfl rfl (by kernel_rfl) (fun _ _ _ _ _ => id) hS (fun _ => rfl) ?_ ?_; rotate_left; intro w' hw'; go_simp; with_reducible rfl; simp only [zP,zS,zC,zZ]
   clear hS
   refine AnyS.next (i := 6) rfl (by kernel_rfl) (by kernel_rfl) fun K' hK' => ?_
   refine want_yes (by kernel_rfl) ?_
   go_simp
   refine ⟨trivial, (callsIn_wide.2 FC.out).mono ?_⟩
   rintro e wa ⟨rfl, ba⟩
   have HBA := Lib.hid (btP HBZ.out ba)
   have hS : wa.cell? ⟨t, 0, none⟩ = some _ := (HBA.out.cell (p := ⟨t, 0, none⟩) ht).trans c0
   refine hK' _ _ (fun _ => hS) ?_
   clear hK' K' FC ba HBZ
   simp only [zP,zN,zS,zC,zZ]
   try rw [HF.out]
   refine AnyS.yes 7 21 ?_ rfl rfl (by kernel_rfl) (fun _ _ _ _ _ => id) hS (fun _ => rfl) ?_ ?_; rotate_left; intro w' hw'; go_simp; with_reducible rfl; simp only [zP,zS,zC,zZ]
   refine AnyS.yes 8 22 ?_ rfl rfl (by kernel_rfl) (fun _ _ _ _ _ => id) hS (fun _ => rfl) ?_ ?_; rotate_left; intro w' hw'; go_simp; with_reducible rfl; simp only [zP,zS,zC,zZ]
   refine AnyS.done (by kernel_rfl) ?_ _
   clear hS
   go_wp2_with fail
   go_loopw [7, 23] (fun ov i wr => ∃ k : Nat, i = .int .i64 k ∧ f + k ≤ n ∧ Hid (wr.ownsRow w.heap.size 38 3 ov (rangeC (gs.take (f + k)).flatten x y).length (rowOf (rangeC (gs.take (f + k)).flatten x y))) ∧ Below w.heap.size w wr) (fun _ i _ => n - (intOf i).toNat)
   case atStart => exact ⟨0, rfl, by omega, Lib.hid (by rw [Nat.add_zero, HST.out]; exact World.ownsRow_nil _ _ _ _), HBA.out⟩
   case round =>
    obtain ⟨k, rfl, hk, HO, B⟩ := hrel
    clear HBA
    by_cases hlt : f + k < n
    · have hkl : f + k < gs.length := by rw [HN.out]; exact hlt
      obtain ⟨c1, s, c2, hsl⟩ := HCC.out wr B k hkl
      have hrg := flat_rise HR.out hkl
      have hgl := flat_len hkl
      have hgne := HNE.out _ (getD_mem' hkl)
      have hnext := flat_take gs hkl x y
      have hstop := fun hy hh => range_stop (x := x) HR.out HNE.out hkl (y := y) hy hh
      have hsh := range_short gs (f + k + 1) x y
      have hsh0 := range_short gs (f + k) x y
      have hb2 := HB2.out
      obtain ⟨q, hq⟩ : ∃ q, gs.getD (f + k) [] = q := ⟨_, rfl⟩
      rw [hq] at c1 hsl hrg hgl hgne hnext hstop
      have nb := (Below.refl wr.heap.size wr).alloc (Nat.le_refl _) (.cells #[.string ⟨(keyG q).toArray⟩, s] 84)
      have HNB := Lib.hid (And.intro nb (btP B nb))
      have HSL := Lib.hid hsl
      have HRG := Lib.hid hrg
      have HGL := Lib.hid (And.intro (show q.length ≤ 100000 by omega) (And.intro hsh (And.intro hsh0 hb2)))
      have HNX := Lib.hid hnext
      have HSP := Lib.hid hstop
      have q0 : 0 < q.length := List.length_pos_iff.2 hgne
      obtain ⟨sA, sc, rfl, hq1, hq2, hq3⟩ := id hsl
      obtain ⟨sb, so, rfl, hqr⟩ := hq3 q0
      have HQR := Lib.hid (And.intro hqr hq2)
      obtain ⟨qn, hqn⟩ : ∃ qn, q.length = qn := ⟨_, rfl⟩
      have HQN := Lib.hid hqn
      rw [hqn] at c2 hq1 HSL HNB
      have hq4 : sc ≤ 9223372036854775807 := by unfold maxLen at hq2; omega
      clear hsl hrg hgl hgne hnext hstop hsh hsh0 hb2 hq nb hq3 hqr hq2 hkl q0 hqn
      have hlt2 : k < n - f := by omega
      cases hy : decide (y = []) with
      | true =>
        obtain rfl : y = [] := by simpa using hy
        have sx := stretch_any _ q x [] _ (HSL.out.later HNB.out.1) HRG.out (by have := HGL.out.1; omega)
        obtain ⟨p1, p2, p3⟩ := endPos_facts x [] HRG.out
        obtain ⟨a, ha⟩ : ∃ a, keyPos q x = a := ⟨_, rfl⟩
        obtain ⟨z, hz⟩ : ∃ z, endPos q x [] = z := ⟨_, rfl⟩
        rw [ha, hz] at sx p3
        rw [ha, hz] at p1
        rw [hz, HQN.out] at p2
        have SX := Lib.hid sx
        have HP3 := Lib.hid p3
        clear sx p3 ha hz
        go_wp2_with fail
        refine SX.out.mono ?_
        rintro e w1 ⟨rfl, b1⟩
        have y1 : w1.cell? ⟨wr.heap.size, 1, none⟩ = some (.slice (some ⟨sb, so, none⟩) qn sc) := by
         have h1 := (b1.block wr.heap.size (by simp)).trans (heap_alloc_new wr (.cells #[.string ⟨(keyG q).toArray⟩, .slice (some ⟨sb, so, none⟩) qn sc] 84))
         simp [World.cell?, h1]
        have HB1 := Lib.hid (And.intro (HNB.out.1.trans (b1.mono HNB.out.1.size)) (btP HNB.out.2 b1))
        clear b1 SX
        by_cases hac : a < sc
        · have hac1 : ¬ (sc = a) := by omega
          have hac2 : a ≤ sc := by omega
          have hac3 : z ≤ sc := by omega
          obtain ⟨v', w', run, own, b2⟩ := run_append_sl (own_lat HO.out HB1.out.1) HB1.out.2.size (sl_cut (HQR.out.1.later HB1.out.1 HQR.out.1.1) HQN.out p1 p2 hq1 HQR.out.2) (by rw [← HP3.out]; have h5 := HGL.out.2.1; rw [HNX.out, List.length_append] at h5; have := HGL.out.2.2.2; omega)
          rw [← HP3.out, ← HNX.out] at own
          have RUN := Lib.hid run
          have HF2 := Lib.hid (And.intro own (HB1.out.2.trans b2))
          clear run own b2 HO
          go_wp2_with (at_builtin; refine wpList_append_runE _ rfl _ _ 22 22 rfl _ _ rfl rfl RUN.out ?_)
          go_roundw
          case rel => exact ⟨k + 1, by go_num, by omega, Lib.hid HF2.out.1, HF2.out.2⟩
          case measure => simp [intOf]; omega
        · obtain rfl : a = sc := by omega
          obtain rfl : z = a := by omega
          have hzz : z - z = 0 := Nat.sub_self z
          have hemp : rangeC q x [] = [] := by rw [HP3.out, hzz]; rfl
          have hsl0 : SlAt (.slice (some ⟨sb, so, none⟩) 0 0) [] w1 := ⟨_, 0, rfl, Nat.le_refl _, by unfold maxLen; omega, fun h => absurd h (by simp)⟩
          obtain ⟨v', w', run, own, b2⟩ := run_append_sl (own_lat HO.out HB1.out.1) HB1.out.2.size hsl0 (by have := HGL.out.2.2.1; have := HGL.out.2.2.2; simp only [List.length_nil]; omega)
          rw [← hemp, ← HNX.out] at own
          have RUN := Lib.hid run
          have HF2 := Lib.hid (And.intro own (HB1.out.2.trans b2))
          clear run own b2 HO hemp hsl0
          go_wp2_with (at_builtin; refine wpList_append_runE _ rfl _ _ 22 22 rfl _ _ rfl rfl RUN.out ?_)
          go_roundw
          case rel => exact ⟨k + 1, by go_num, by omega, Lib.hid HF2.out.1, HF2.out.2⟩
          case measure => simp [intOf]; omega
      | false =>
        have e1 : (y == ([] : List UInt8)) = false := by rw [beq_eq_false_iff_ne]; simpa using hy
        cases hb : Op.bytesLess (keyG q) y with
        | false =>
          have hO : (wr.alloc (.cells #[.string ⟨(keyG q).toArray⟩, .slice (some ⟨sb, so, none⟩) qn sc] 84)).ownsRow w.heap.size 38 3 u7 (rangeC gs.flatten x y).length (rowOf (rangeC gs.flatten x y)) := by
           have h := own_lat HO.out HNB.out.1
           rwa [HSP.out (by simpa using hy) hb] at h
          have HO2 := Lib.hid hO
          clear HO hO
          go_wp2_with fail
          go_ret
          exact ⟨HNB.out.2, u7, rfl, HO2.out⟩
        | true =>
          have sx := stretch_any _ q x y _ (HSL.out.later HNB.out.1) HRG.out (by have := HGL.out.1; omega)
          obtain ⟨p1, p2, p3⟩ := endPos_facts x y HRG.out
          obtain ⟨a, ha⟩ : ∃ a, keyPos q x = a := ⟨_, rfl⟩
          obtain ⟨z, hz⟩ : ∃ z, endPos q x y = z := ⟨_, rfl⟩
          rw [ha, hz] at sx p3
          rw [ha, hz] at p1
          rw [hz, HQN.out] at p2
          have SX := Lib.hid sx
          have HP3 := Lib.hid p3
          clear sx p3 ha hz
          go_wp2_with fail
          refine SX.out.mono ?_
          rintro e w1 ⟨rfl, b1⟩
          have y1 : w1.cell? ⟨wr.heap.size, 1, none⟩ = some (.slice (some ⟨sb, so, none⟩) qn sc) := by
           have h1 := (b1.block wr.heap.size (by simp)).trans (heap_alloc_new wr (.cells #[.string ⟨(keyG q).toArray⟩, .slice (some ⟨sb, so, none⟩) qn sc] 84))
           simp [World.cell?, h1]
          have HB1 := Lib.hid (And.intro (HNB.out.1.trans (b1.mono HNB.out.1.size)) (btP HNB.out.2 b1))
          clear b1 SX
          by_cases hac : a < sc
          · have hac1 : ¬ (sc = a) := by omega
            have hac2 : a ≤ sc := by omega
            have hac3 : z ≤ sc := by omega
            obtain ⟨v', w', run, own, b2⟩ := run_append_sl (own_lat HO.out HB1.out.1) HB1.out.2.size (sl_cut (HQR.out.1.later HB1.out.1 HQR.out.1.1) HQN.out p1 p2 hq1 HQR.out.2) (by rw [← HP3.out]; have h5 := HGL.out.2.1; rw [HNX.out, List.length_append] at h5; have := HGL.out.2.2.2; omega)
            rw [← HP3.out, ← HNX.out] at own
            have RUN := Lib.hid run
            have HF2 := Lib.hid (And.intro own (HB1.out.2.trans b2))
            clear run own b2 HO
            go_wp2_with (at_builtin; refine wpList_append_runE _ rfl _ _ 22 22 rfl _ _ rfl rfl RUN.out ?_)
            go_roundw
            case rel => exact ⟨k + 1, by go_num, by omega, Lib.hid HF2.out.1, HF2.out.2⟩
            case measure => simp [intOf]; omega
          · obtain rfl : a = sc := by omega
            obtain rfl : z = a := by omega
            have hzz : z - z = 0 := Nat.sub_self z
            have hemp : rangeC q x y = [] := by rw [HP3.out, hzz]; rfl
            have hsl0 : SlAt (.slice (some ⟨sb, so, none⟩) 0 0) [] w1 := ⟨_, 0, rfl, Nat.le_refl _, by unfold maxLen; omega, fun h => absurd h (by simp)⟩
            obtain ⟨v', w', run, own, b2⟩ := run_append_sl (own_lat HO.out HB1.out.1) HB1.out.2.size hsl0 (by have := HGL.out.2.2.1; have := HGL.out.2.2.2; simp only [List.length_nil]; omega)
            rw [← hemp, ← HNX.out] at own
            have RUN := Lib.hid run
            have HF2 := Lib.hid (And.intro own (HB1.out.2.trans b2))
            clear run own b2 HO hemp hsl0
            go_wp2_with (at_builtin; refine wpList_append_runE _ rfl _ _ 22 22 rfl _ _ rfl rfl RUN.out ?_)
            go_roundw
            case rel => exact ⟨k + 1, by go_num, by omega, Lib.hid HF2.out.1, HF2.out.2⟩
            case measure => simp [intOf]; omega
    · have hlt2 : ¬ (k < n - f) := by omega
      have hO : wr.ownsRow w.heap.size 38 3 u7 (rangeC gs.flatten x y).length (rowOf (rangeC gs.flatten x y)) := by
       have h := HO.out
       rwa [List.take_of_length_le (by rw [HN.out]; omega)] at h
      have HO2 := Lib.hid hO
      clear HO hO
      go_wp2_with fail
      go_ret
      exact ⟨B, u7, rfl, HO2.out⟩
theorem rangeNil_any (x y : List UInt8) (W : World) : Calls Tryz.prog 50 #[.pointer none, .string ⟨x.toArray⟩, .string ⟨y.toArray⟩] W fun e w' => e = .returned (.slice none 0 0) ∧ Below W.heap.size W w' := by
 go_enter Tryz.func50, Tryz.ntmps50
 go_wp2_with fail
 go_ret
 exact ⟨rfl, Below.refl _ _⟩
theorem flat_count (gs : List (List Ce)) {k : Nat} (hk : k < gs.length) : (gs.take (k + 1)).flatten.length = (gs.take k).flatten.length + (gs.getD k []).length := by
 rw [take_gs gs k hk, List.flatten_append, List.length_append]
 simp
theorem flat_short (gs : List (List Ce)) (k : Nat) : (gs.take k).flatten.length ≤ gs.flatten.length := by
 conv => rhs; rw [← List.take_append_drop k gs, List.flatten_append, List.length_append]
 omega
set_option maxRecDepth 100000 in
set_option maxHeartbeats 4000000 in
theorem lenT_any (t : Nat) (gs : List (List Ce)) (w : World) (h : TabAt t gs w) (hbig : gs.length ≤ 1000000) (hbig2 : gs.flatten.length ≤ 1000000) :
 Calls Tryz.prog 47 #[.pointer (some ⟨t, 0, none⟩)] w fun e w' => e = .returned (.int .i64 gs.flatten.length) ∧ Below w.heap.size w w' := by
 obtain ⟨A, cap, c0, ht, hc1, hc2, hz, hrow⟩ := h.cell
 have hc3 : cap ≤ 9223372036854775807 := by unfold maxLen at hc2; omega
 have HFL := Lib.hid (fun k => flat_short gs k)
 have HB2 := Lib.hid hbig2
 obtain ⟨n, hn⟩ : ∃ n, gs.length = n := ⟨_, rfl⟩
 have HN := Lib.hid hn
 have HR := Lib.hid hrow
 rw [hn] at c0 hc1 hbig
 clear h hz hrow hc2 hn hbig2
 go_enter Tryz.func47, Tryz.ntmps47
 go_wp2_with fail
 go_loopw [3, 13] (fun m i wr => ∃ k : Nat, i = .int .i64 k ∧ k ≤ n ∧ m = .int .i64 (gs.take k).flatten.length ∧ Below w.heap.size w wr) (fun _ i _ => n - (intOf i).toNat)
 case atStart => exact ⟨0, rfl, by omega, rfl, Below.refl _ _⟩
 case round =>
  obtain ⟨k, rfl, hk, rfl, B⟩ := hrel
  by_cases hlt : k < n
  · have hkl : k < gs.length := by rw [HN.out]; exact hlt
    obtain ⟨g, rfl, hg, hcells⟩ := HR.out (by rw [HN.out]; omega)
    obtain ⟨c1, s, c2, hsl⟩ := hcells k hkl
    obtain ⟨sA, sc, rfl, hq1, hq2, -⟩ := hsl
    have c1 := (B.cell (p := ⟨g, k * 2, none⟩) hg).trans c1
    have c2 := (B.cell (p := ⟨g, k * 2 + 1, none⟩) hg).trans c2
    have hcnt := flat_count gs hkl
    have hs1 := HFL.out k
    have hs2 := HFL.out (k + 1)
    have hbb := HB2.out
    obtain ⟨q, hq⟩ : ∃ q, gs.getD k [] = q := ⟨_, rfl⟩
    rw [hq] at c1 c2 hcnt hq1
    obtain ⟨qn, hqn⟩ : ∃ qn, q.length = qn := ⟨_, rfl⟩
    rw [hqn] at c2 hcnt hq1
    have HC := Lib.hid hcnt
    obtain ⟨m, hm⟩ : ∃ m, (gs.take k).flatten.length = m := ⟨_, rfl⟩
    rw [hm] at HC hs1 ⊢
    have hmq : m + qn ≤ 1000000 := by have := HC.out; omega
    have nb := btP B ((Below.refl wr.heap.size wr).alloc (Nat.le_refl _) (.cells #[.string ⟨(keyG q).toArray⟩, .slice sA qn sc] 84))
    have NB := Lib.hid nb
    clear hcells hcnt hs1 hs2 hbb hq hqn hm hkl nb B hq2
    go_wp2_with fail
    go_roundw
    case rel => exact ⟨k + 1, by go_num, by omega, by rw [HC.out]; go_num, NB.out⟩
    case measure => simp [intOf]; omega
  · obtain rfl : k = n := by omega
    have hT : gs.take k = gs := List.take_of_length_le (by rw [HN.out]; exact Nat.le_refl _)
    rw [hT]
    go_wp2_with fail
    go_ret
    exact ⟨rfl, B⟩
set_option maxHeartbeats 4000000 in
theorem getR_any (pv : Value) (R : List Ce) (key : List UInt8) (w : World) (hk : key.length ≤ 140737488351232)
 (cc : ∀ W, Below w.heap.size w W → Calls Tryz.prog 50 #[pv, .string ⟨key.toArray⟩, .string (⟨key.toArray⟩ ++ ⟨#[0]⟩)] W fun e w' => Below W.heap.size W w' ∧ ∃ v, e = .returned v ∧ w'.ownsRow W.heap.size 38 3 v R.length (rowOf R)) :
 Calls Tryz.prog 54 #[pv, .string ⟨key.toArray⟩] w fun e w' => e = .returned (ceV R.head?) ∧ Below w.heap.size w w' := by
 have b1 := (Below.refl w.heap.size w).alloc (Nat.le_refl _) (boxC Ce.zero)
 have q1 := CeAt.boxed Ce.zero w
 unfold boxC at b1 q1
 simp only [Ce.zero] at b1 q1
 have q1 : CeAt w.heap.size Ce.zero (w.alloc (.cells #[.string ⟨#[]⟩, .int .i64 0, .string ⟨#[]⟩] 38)) := q1
 have CC := Lib.hid (cc _ b1)
 have hk2 : (⟨key.toArray⟩ : ByteArray).size ≤ 140737488351232 := by show key.toArray.size ≤ _; simpa using hk
 cases hf : R.head? with
 | none =>
   have hR : R = [] := List.head?_eq_none_iff.1 hf
   subst hR
   unfold ceV ceVal
   clear cc hf
   go_enter Tryz.func54, Tryz.ntmps54
   go_wp2_with fail
   refine CC.out.mono ?_
   rintro e w1 ⟨hb, v, rfl, own⟩
   have q2 := q1.later hb q1.lt
   have B := btP b1 hb
   obtain ⟨vA, vc, rfl⟩ := own_slice own
   have lt2 := q2.lt
   have HB := Lib.hid B
   obtain ⟨y0, y1, y2⟩ := q2.cell
   obtain ⟨z0, z1, z2⟩ := q2.frees
   clear own CC q1 b1 hb B
   go_wp2_with fail
   obtain ⟨q3, b3⟩ := q2.all HB.out (Nat.le_refl _) Ce.zero
   unfold Ce.zero at q3 b3
   generalize ((World.setCell _ _ _).setCell _ _).setCell _ _ = w9 at *
   clear y0 y1 y2 z0 z1 z2
   obtain ⟨y0, y1, y2⟩ := q3.cell
   refine bodyPost_ret (v := .tuple #[.agg #[.string ⟨#[]⟩, .int .i64 0, .string ⟨#[]⟩], .bool false]) (by simp [results, Tryz.results54, go_sem, *]) rfl ⟨?_, b3⟩
   rfl
 | some c =>
   have hR0 : 0 < R.length := by cases R with | nil => simp at hf | cons x R => simp
   have hR1 : R.getD 0 Ce.zero = c := by cases R with | nil => simp at hf | cons x R => simpa using hf
   have HR0 := Lib.hid hR0
   have HR1 := Lib.hid hR1
   unfold ceV ceVal
   clear cc hf hR0 hR1
   go_enter Tryz.func54, Tryz.ntmps54
   go_wp2_with fail
   refine CC.out.mono ?_
   rintro e w1 ⟨hb, v, rfl, own⟩
   have q2 := q1.later hb q1.lt
   have B := btP b1 hb
   obtain ⟨A, cap, rfl, h1, h2, h3⟩ := slAt_own own
   unfold maxLen at h2
   obtain ⟨b, o, rfl, hrow⟩ := h3 HR0.out
   have hcs := hrow.cells HR0.out
   rw [HR1.out] at hcs
   obtain ⟨x0, x1, x2⟩ := hcs
   simp only [Nat.zero_mul, Nat.add_zero] at x0 x1 x2
   have hr0 := HR0.out
   obtain ⟨n, hn⟩ : ∃ n, R.length = n := ⟨_, rfl⟩
   rw [hn] at hr0 h1 ⊢
   have lt2 := q2.lt
   have HB := Lib.hid B
   obtain ⟨y0, y1, y2⟩ := q2.cell
   obtain ⟨z0, z1, z2⟩ := q2.frees
   clear own CC q1 b1 hb B hn h3 hrow
   go_wp2_with fail
   obtain ⟨q3, b3⟩ := q2.all HB.out (Nat.le_refl _) c
   generalize ((World.setCell _ _ _).setCell _ _).setCell _ _ = w9 at *
   clear y0 y1 y2 z0 z1 z2
   obtain ⟨y0, y1, y2⟩ := q3.cell
   refine bodyPost_ret (v := .tuple #[.agg #[.string ⟨c.k.toArray⟩, .int .i64 c.q, .string ⟨c.v.toArray⟩], .bool true]) (by simp [results, Tryz.results54, go_sem, *]) rfl ⟨?_, b3⟩
   rfl
theorem getT_any (t : Nat) (gs : List (List Ce)) (key : List UInt8) (w : World) (h : TabAt t gs w) (hr : Rise gs.flatten) (hne : ∀ g ∈ gs, g ≠ []) (hbig : gs.length ≤ 100000) (hbig2 : gs.flatten.length ≤ 100000) (hk : key.length ≤ 140737488351232) :
 Calls Tryz.prog 54 #[.pointer (some ⟨t, 0, none⟩), .string ⟨key.toArray⟩] w fun e w' => e = .returned (ceV (findC gs.flatten key)) ∧ Below w.heap.size w w' := by
 rw [← rangeC_one]
 refine getR_any _ _ key w hk fun W hb => ?_
 rw [bytes_snoc]
 exact rangeT_any t gs key (key ++ [0]) W (h.later hb) hr hne hbig hbig2
theorem getNil_any (key : List UInt8) (w : World) (hk : key.length ≤ 140737488351232) :
 Calls Tryz.prog 54 #[.pointer none, .string ⟨key.toArray⟩] w fun e w' => e = .returned (ceV none) ∧ Below w.heap.size w w' := by
 refine getR_any _ [] key w hk fun W hb => ?_
 rw [bytes_snoc]
 refine (rangeNil_any key (key ++ [0]) W).mono ?_
 rintro e w' ⟨rfl, b⟩
 exact ⟨b, _, rfl, by simpa [rowOf] using World.ownsRow_nil _ _ _ _⟩
end Go.Proofs.YtoglloafpnopaaaGreat
