/- What is asked of a table: Range, Get, All, Len. -/
import Derived.Test.YtanaoepakllohaaTabJ
set_option linter.unusedSimpArgs false
set_option linter.unusedVariables false
namespace Go.Proofs.Ytanaoepakllohaa
set_option maxRecDepth 16000
open Go.RowKit Spoor
set_option linter.unusedVariables false

theorem sl_cut {b o cap n a z : Nat} {l : List Ce} {w : World} (h : RowAt b o l w) (hn : l.length = n) (haz : a ≤ z) (hz : z ≤ n) (hc : n ≤ cap) (hcm : cap ≤ maxLen) : SlAt (.slice (some ⟨b, o + a * 3, none⟩) (z - a) (cap - a)) ((l.drop a).take (z - a)) w := by
  have hp := h.part a (z - a) (by omega)
  have hl : ((l.drop a).take (z - a)).length = z - a := by rw [List.length_take, List.length_drop]; omega
  exact ⟨_, cap - a, by rw [hl], by rw [hl]; omega, Nat.le_trans (Nat.sub_le _ _) hcm, fun _ => ⟨b, _, rfl, hp⟩⟩
theorem flat_rise {gs : List (List Ce)} (h : Rise gs.flatten) {k : Nat} (hk : k < gs.length) : Rise (gs.getD k []) := by
  rw [flat_at hk] at h
  exact (rise_app.1 (rise_app.1 h).2.1).1
theorem flat_len {gs : List (List Ce)} {k : Nat} (hk : k < gs.length) : (gs.getD k []).length ≤ gs.flatten.length := by
  conv => rhs; rw [flat_at hk]
  simp only [List.length_append]
  omega
theorem flat_take (gs : List (List Ce)) {k : Nat} (hk : k < gs.length) (x y : List UInt8) : rangeC (gs.take (k + 1)).flatten x y = rangeC (gs.take k).flatten x y ++ rangeC (gs.getD k []) x y := by
  rw [take_gs gs k hk, List.flatten_append, rangeC_app]
  simp
theorem range_short (gs : List (List Ce)) (k : Nat) (x y : List UInt8) : (rangeC (gs.take k).flatten x y).length ≤ gs.flatten.length := by
  have h1 := List.length_filter_le (within x y) (gs.take k).flatten
  have h2 : (gs.take k).flatten.length ≤ gs.flatten.length := by
    conv => rhs; rw [← List.take_append_drop k gs, List.flatten_append, List.length_append]
    omega
  unfold rangeC
  omega
set_option maxRecDepth 100000 in
set_option maxHeartbeats 8000000 in
theorem rangeT_any (t : Nat) (gs : List (List Ce)) (x y : List UInt8) (w : World) (h : TabAt t gs w) (hr : Rise gs.flatten) (hne : ∀ g ∈ gs, g ≠ []) (hbig : gs.length ≤ 100000) (hbig2 : gs.flatten.length ≤ 100000) :
    Calls Try.prog 22 #[.pointer (some ⟨t, 0, none⟩), .string ⟨x.toArray⟩, .string ⟨y.toArray⟩] w fun e w' => Below w.heap.size w w' ∧ ∃ v, e = .returned v ∧ w'.ownsRow w.heap.size 36 3 v (rangeC gs.flatten x y).length (rowOf (rangeC gs.flatten x y)) := by
  obtain ⟨A, cap, c0, ht, hc1, hc2, hz, hrow⟩ := h.cell
  have HT := Lib.hid h
  have HR := Lib.hid hr
  have HNE := Lib.hid hne
  have HB := Lib.hid hbig
  have HB2 := Lib.hid hbig2
  have pf := posG_facts hr hne x
  have hc3 : cap ≤ 9223372036854775807 := by unfold maxLen at hc2; omega
  by_cases h0 : gs.length = 0
  · have hg0 : gs = [] := List.eq_nil_of_length_eq_zero h0
    subst hg0
    have hp0 : posG [] x = 0 := rfl
    have HF := Lib.hid (show posG ([] : List (List Ce)) x - 1 = 0 from rfl)
    have hrn : rangeC ([] : List (List Ce)).flatten x y = [] := rfl
    rw [hrn]
    obtain ⟨vt, hvt⟩ : ∃ vt, (Value.slice A ([] : List (List Ce)).length cap) = vt := ⟨_, rfl⟩
    rw [hvt] at c0
    dsimp only [List.length_nil] at hvt hc1
    clear h hr hne hbig hbig2 pf hrow hrn hp0 h0 hc2
    rcases hz rfl with ⟨rfl, rfl⟩ | ⟨g, rfl⟩
    · clear hz
      go_enter Try.func22, Try.ntmps22
      go_wp2_with fail
      refine (wpIn_wide (n := 5)).1 ?_
      refine wpIn_region_lit_late (fun W' => W'.cell? ⟨t, 0, none⟩ = some vt) (fun _ => false) (k := 10) (listed := #[false, false, false, false, false, false, false, false, false, false]) (by kernel_rfl) (by kernel_rfl) (by kernel_rfl) ?_
      have bz := Below.drew (Below.refl w.heap.size w)
      have hS : w.drew.cell? ⟨t, 0, none⟩ = some vt := c0
      have fc := fromT_any t [] x w.drew (HT.out.later bz) HR.out HNE.out (by have := HB.out; omega)
      have FC := Lib.hid fc
      have HBZ := Lib.hid bz
      clear fc bz
      obtain ⟨wz, hwz⟩ : ∃ wz, w.drew = wz := ⟨_, rfl⟩
      rw [hwz] at hS FC HBZ ⊢
      clear hwz
      subst hvt
      refine AnyS.get (i := 0) (some 14) ?_ rfl rfl (by kernel_rfl) (by kernel_rfl) (by kernel_rfl) (by kernel_rfl) (fun _ _ _ h => h) (Reads.yes (by kernel_rfl) ?_ (fun _ => rfl)) hS ?_
      rotate_left
      · intro w' hw'
        go_simp
        with_reducible rfl
      simp only [Act.put, List.setIfInBounds_toArray, List.set_cons_succ, List.set_cons_zero]
      refine AnyS.get (i := 1) (some 15) ?_ rfl rfl (by kernel_rfl) (by kernel_rfl) (by kernel_rfl) (by kernel_rfl) (fun _ _ _ h => h) (Reads.yes (by kernel_rfl) ?_ (fun _ => rfl)) hS ?_
      rotate_left
      · intro w' hw'
        go_simp
        with_reducible rfl
      simp only [Act.put, List.setIfInBounds_toArray, List.set_cons_succ, List.set_cons_zero]
      refine AnyS.get (i := 2) (some 16) ?_ rfl rfl (by kernel_rfl) (by kernel_rfl) (by kernel_rfl) (by kernel_rfl) (fun _ _ _ h => h) (Reads.yes (by kernel_rfl) ?_ (fun _ => rfl)) hS ?_
      rotate_left
      · intro w' hw'
        go_simp
        with_reducible rfl
      simp only [Act.put, List.setIfInBounds_toArray, List.set_cons_succ, List.set_cons_zero]
      refine AnyS.get (i := 3) (some 17) ?_ rfl rfl (by kernel_rfl) (by kernel_rfl) (by kernel_rfl) (by kernel_rfl) (fun _ _ _ h => h) (Reads.yes (by kernel_rfl) ?_ (fun _ => rfl)) hS ?_
      rotate_left
      · intro w' hw'
        go_simp
        with_reducible rfl
      simp only [Act.put, List.setIfInBounds_toArray, List.set_cons_succ, List.set_cons_zero]
      refine AnyS.get (i := 4) (some 18) ?_ rfl rfl (by kernel_rfl) (by kernel_rfl) (by kernel_rfl) (by kernel_rfl) (fun _ _ _ h => h) (Reads.yes (by kernel_rfl) ?_ (fun _ => rfl)) hS ?_
      rotate_left
      · intro w' hw'
        go_simp
        with_reducible rfl
      simp only [Act.put, List.setIfInBounds_toArray, List.set_cons_succ, List.set_cons_zero]
      refine AnyS.get (i := 5) (some 19) ?_ rfl rfl (by kernel_rfl) (by kernel_rfl) (by kernel_rfl) (by kernel_rfl) (fun _ _ _ h => h) (Reads.yes (by kernel_rfl) ?_ (fun _ => rfl)) hS ?_
      rotate_left
      · intro w' hw'
        go_simp
        with_reducible rfl
      simp only [Act.put, List.setIfInBounds_toArray, List.set_cons_succ, List.set_cons_zero]
      refine AnyS.get (i := 9) (some 23) ?_ rfl rfl (by kernel_rfl) (by kernel_rfl) (by kernel_rfl) (by kernel_rfl) (fun _ _ _ h => h) (Reads.yes (by kernel_rfl) ?_ (fun _ => rfl)) hS ?_
      rotate_left
      · intro w' hw'
        go_simp
        with_reducible rfl
      simp only [Act.put, List.setIfInBounds_toArray, List.set_cons_succ, List.set_cons_zero]
      clear hS
      refine AnyS.next (i := 6) rfl (by kernel_rfl) (by kernel_rfl) fun K' hK' => ?_
      refine want_yes (by kernel_rfl) ?_
      go_simp
      refine ⟨trivial, (callsIn_wide.2 FC.out).mono ?_⟩
      rintro e wa ⟨rfl, ba⟩
      have HBA := Lib.hid (btP HBZ.out ba)
      have hS : wa.cell? ⟨t, 0, none⟩ = some _ := (HBA.out.cell (p := ⟨t, 0, none⟩) ht).trans c0
      refine hK' _ _ (fun _ => hS) ?_
      clear hK' K' FC ba HBZ
      simp only [Act.put, List.setIfInBounds_toArray, List.set_cons_succ, List.set_cons_zero]
      try rw [HF.out]
      refine AnyS.get (i := 7) (some 21) ?_ rfl rfl (by kernel_rfl) (by kernel_rfl) (by kernel_rfl) (by kernel_rfl) (fun _ _ _ h => h) (Reads.yes (by kernel_rfl) ?_ (fun _ => rfl)) hS ?_
      rotate_left
      · intro w' hw'
        go_simp
        with_reducible rfl
      simp only [Act.put, List.setIfInBounds_toArray, List.set_cons_succ, List.set_cons_zero]
      refine AnyS.get (i := 8) (some 22) ?_ rfl rfl (by kernel_rfl) (by kernel_rfl) (by kernel_rfl) (by kernel_rfl) (fun _ _ _ h => h) (Reads.yes (by kernel_rfl) ?_ (fun _ => rfl)) hS ?_
      rotate_left
      · intro w' hw'
        go_simp
        with_reducible rfl
      simp only [Act.put, List.setIfInBounds_toArray, List.set_cons_succ, List.set_cons_zero]
      refine AnyS.done (by kernel_rfl) ?_ _
      clear hS
      go_wp2_with fail
      go_loopw [7, 23] (fun ov i wr => ov = .slice none 0 0 ∧ i = .int .i64 0 ∧ Below w.heap.size w wr) (fun _ i _ => 0)
      case atStart => exact ⟨rfl, rfl, HBA.out⟩
      case round =>
        obtain ⟨rfl, rfl, B⟩ := hrel
        go_wp2_with fail
        go_ret
        exact ⟨B, _, rfl, by simpa [rowOf] using World.ownsRow_nil _ _ _ _⟩
    · clear hz
      go_enter Try.func22, Try.ntmps22
      go_wp2_with fail
      refine (wpIn_wide (n := 5)).1 ?_
      refine wpIn_region_lit_late (fun W' => W'.cell? ⟨t, 0, none⟩ = some vt) (fun _ => false) (k := 10) (listed := #[false, false, false, false, false, false, false, false, false, false]) (by kernel_rfl) (by kernel_rfl) (by kernel_rfl) ?_
      have bz := Below.drew (Below.refl w.heap.size w)
      have hS : w.drew.cell? ⟨t, 0, none⟩ = some vt := c0
      have fc := fromT_any t [] x w.drew (HT.out.later bz) HR.out HNE.out (by have := HB.out; omega)
      have FC := Lib.hid fc
      have HBZ := Lib.hid bz
      clear fc bz
      obtain ⟨wz, hwz⟩ : ∃ wz, w.drew = wz := ⟨_, rfl⟩
      rw [hwz] at hS FC HBZ ⊢
      clear hwz
      subst hvt
      refine AnyS.get (i := 0) (some 14) ?_ rfl rfl (by kernel_rfl) (by kernel_rfl) (by kernel_rfl) (by kernel_rfl) (fun _ _ _ h => h) (Reads.yes (by kernel_rfl) ?_ (fun _ => rfl)) hS ?_
      rotate_left
      · intro w' hw'
        go_simp
        with_reducible rfl
      simp only [Act.put, List.setIfInBounds_toArray, List.set_cons_succ, List.set_cons_zero]
      refine AnyS.get (i := 1) (some 15) ?_ rfl rfl (by kernel_rfl) (by kernel_rfl) (by kernel_rfl) (by kernel_rfl) (fun _ _ _ h => h) (Reads.yes (by kernel_rfl) ?_ (fun _ => rfl)) hS ?_
      rotate_left
      · intro w' hw'
        go_simp
        with_reducible rfl
      simp only [Act.put, List.setIfInBounds_toArray, List.set_cons_succ, List.set_cons_zero]
      refine AnyS.get (i := 2) (some 16) ?_ rfl rfl (by kernel_rfl) (by kernel_rfl) (by kernel_rfl) (by kernel_rfl) (fun _ _ _ h => h) (Reads.yes (by kernel_rfl) ?_ (fun _ => rfl)) hS ?_
      rotate_left
      · intro w' hw'
        go_simp
        with_reducible rfl
      simp only [Act.put, List.setIfInBounds_toArray, List.set_cons_succ, List.set_cons_zero]
      refine AnyS.get (i := 3) (some 17) ?_ rfl rfl (by kernel_rfl) (by kernel_rfl) (by kernel_rfl) (by kernel_rfl) (fun _ _ _ h => h) (Reads.yes (by kernel_rfl) ?_ (fun _ => rfl)) hS ?_
      rotate_left
      · intro w' hw'
        go_simp
        with_reducible rfl
      simp only [Act.put, List.setIfInBounds_toArray, List.set_cons_succ, List.set_cons_zero]
      refine AnyS.get (i := 4) (some 18) ?_ rfl rfl (by kernel_rfl) (by kernel_rfl) (by kernel_rfl) (by kernel_rfl) (fun _ _ _ h => h) (Reads.yes (by kernel_rfl) ?_ (fun _ => rfl)) hS ?_
      rotate_left
      · intro w' hw'
        go_simp
        with_reducible rfl
      simp only [Act.put, List.setIfInBounds_toArray, List.set_cons_succ, List.set_cons_zero]
      refine AnyS.get (i := 5) (some 19) ?_ rfl rfl (by kernel_rfl) (by kernel_rfl) (by kernel_rfl) (by kernel_rfl) (fun _ _ _ h => h) (Reads.yes (by kernel_rfl) ?_ (fun _ => rfl)) hS ?_
      rotate_left
      · intro w' hw'
        go_simp
        with_reducible rfl
      simp only [Act.put, List.setIfInBounds_toArray, List.set_cons_succ, List.set_cons_zero]
      refine AnyS.get (i := 9) (some 23) ?_ rfl rfl (by kernel_rfl) (by kernel_rfl) (by kernel_rfl) (by kernel_rfl) (fun _ _ _ h => h) (Reads.yes (by kernel_rfl) ?_ (fun _ => rfl)) hS ?_
      rotate_left
      · intro w' hw'
        go_simp
        with_reducible rfl
      simp only [Act.put, List.setIfInBounds_toArray, List.set_cons_succ, List.set_cons_zero]
      clear hS
      refine AnyS.next (i := 6) rfl (by kernel_rfl) (by kernel_rfl) fun K' hK' => ?_
      refine want_yes (by kernel_rfl) ?_
      go_simp
      refine ⟨trivial, (callsIn_wide.2 FC.out).mono ?_⟩
      rintro e wa ⟨rfl, ba⟩
      have HBA := Lib.hid (btP HBZ.out ba)
      have hS : wa.cell? ⟨t, 0, none⟩ = some _ := (HBA.out.cell (p := ⟨t, 0, none⟩) ht).trans c0
      refine hK' _ _ (fun _ => hS) ?_
      clear hK' K' FC ba HBZ
      simp only [Act.put, List.setIfInBounds_toArray, List.set_cons_succ, List.set_cons_zero]
      try rw [HF.out]
      refine AnyS.get (i := 7) (some 21) ?_ rfl rfl (by kernel_rfl) (by kernel_rfl) (by kernel_rfl) (by kernel_rfl) (fun _ _ _ h => h) (Reads.yes (by kernel_rfl) ?_ (fun _ => rfl)) hS ?_
      rotate_left
      · intro w' hw'
        go_simp
        with_reducible rfl
      simp only [Act.put, List.setIfInBounds_toArray, List.set_cons_succ, List.set_cons_zero]
      refine AnyS.get (i := 8) (some 22) ?_ rfl rfl (by kernel_rfl) (by kernel_rfl) (by kernel_rfl) (by kernel_rfl) (fun _ _ _ h => h) (Reads.yes (by kernel_rfl) ?_ (fun _ => rfl)) hS ?_
      rotate_left
      · intro w' hw'
        go_simp
        with_reducible rfl
      simp only [Act.put, List.setIfInBounds_toArray, List.set_cons_succ, List.set_cons_zero]
      refine AnyS.done (by kernel_rfl) ?_ _
      clear hS
      go_wp2_with fail
      go_loopw [7, 23] (fun ov i wr => ov = .slice none 0 0 ∧ i = .int .i64 0 ∧ Below w.heap.size w wr) (fun _ i _ => 0)
      case atStart => exact ⟨rfl, rfl, HBA.out⟩
      case round =>
        obtain ⟨rfl, rfl, B⟩ := hrel
        go_wp2_with fail
        go_ret
        exact ⟨B, _, rfl, by simpa [rowOf] using World.ownsRow_nil _ _ _ _⟩
  · obtain ⟨g, rfl, hg, hcells⟩ := hrow (by omega)
    obtain ⟨f, hf⟩ : ∃ f, posG gs x - 1 = f := ⟨_, rfl⟩
    have HF := Lib.hid hf
    have hfn : f < gs.length := by have := pf.1; omega
    have hst : rangeC (gs.take f).flatten x y = [] := by
      refine range_start hr hne ?_
      rcases Nat.eq_zero_or_pos f with h1 | h1
      · exact .inl h1
      · exact .inr ⟨hfn, pf.2.1 f (by omega)⟩
    have HST := Lib.hid hst
    have HC := Lib.hid (fun W' (hb : Below w.heap.size w W') (i : Nat) (hi : i < gs.length) => show W'.cell? ⟨g, f * 2 + (i - f) * 2, none⟩ = W'.cell? ⟨g, f * 2 + (i - f) * 2, none⟩ from rfl)
    have hcc := fun W' (hb : Below w.heap.size w W') (k : Nat) (hk : f + k < gs.length) => show W'.cell? ⟨g, f * 2 + k * 2, none⟩ = some (.string ⟨(keyG (gs.getD (f + k) [])).toArray⟩) ∧ ∃ s, W'.cell? ⟨g, f * 2 + k * 2 + 1, none⟩ = some s ∧ SlAt s (gs.getD (f + k) []) W' from by
      obtain ⟨a1, s, a2, a3⟩ := hcells (f + k) hk
      rw [show (f + k) * 2 = f * 2 + k * 2 by omega] at a1 a2
      exact ⟨(hb.cell (p := ⟨g, f * 2 + k * 2, none⟩) hg).trans a1, s, (hb.cell (p := ⟨g, f * 2 + k * 2 + 1, none⟩) hg).trans a2, a3.later hb⟩
    have HCC := Lib.hid hcc
    obtain ⟨n, hn⟩ : ∃ n, gs.length = n := ⟨_, rfl⟩
    have HN := Lib.hid hn
    rw [hn] at c0 hc1 hfn
    obtain ⟨vt, hvt⟩ : ∃ vt, (Value.slice (some ⟨g, 0, none⟩) n cap) = vt := ⟨_, rfl⟩
    rw [hvt] at c0
    have hs1 : ¬ (cap = f) := by omega
    have hs2 : f ≤ cap := by omega
    have hs3 : f ≤ n := by omega
    clear h hr hne hbig hbig2 pf hrow hz hc2 hcells hcc hst hf hn h0 HC
    go_enter Try.func22, Try.ntmps22
    go_wp2_with fail
    refine (wpIn_wide (n := 5)).1 ?_
    refine wpIn_region_lit_late (fun W' => W'.cell? ⟨t, 0, none⟩ = some vt) (fun _ => false) (k := 10) (listed := #[false, false, false, false, false, false, false, false, false, false]) (by kernel_rfl) (by kernel_rfl) (by kernel_rfl) ?_
    have bz := Below.drew (Below.refl w.heap.size w)
    have hS : w.drew.cell? ⟨t, 0, none⟩ = some vt := c0
    have fc := fromT_any t gs x w.drew (HT.out.later bz) HR.out HNE.out (by have := HB.out; omega)
    have FC := Lib.hid fc
    have HBZ := Lib.hid bz
    clear fc bz
    obtain ⟨wz, hwz⟩ : ∃ wz, w.drew = wz := ⟨_, rfl⟩
    rw [hwz] at hS FC HBZ ⊢
    clear hwz
    subst hvt
    refine AnyS.get (i := 0) (some 14) ?_ rfl rfl (by kernel_rfl) (by kernel_rfl) (by kernel_rfl) (by kernel_rfl) (fun _ _ _ h => h) (Reads.yes (by kernel_rfl) ?_ (fun _ => rfl)) hS ?_
    rotate_left
    · intro w' hw'
      go_simp
      with_reducible rfl
    simp only [Act.put, List.setIfInBounds_toArray, List.set_cons_succ, List.set_cons_zero]
    refine AnyS.get (i := 1) (some 15) ?_ rfl rfl (by kernel_rfl) (by kernel_rfl) (by kernel_rfl) (by kernel_rfl) (fun _ _ _ h => h) (Reads.yes (by kernel_rfl) ?_ (fun _ => rfl)) hS ?_
    rotate_left
    · intro w' hw'
      go_simp
      with_reducible rfl
    simp only [Act.put, List.setIfInBounds_toArray, List.set_cons_succ, List.set_cons_zero]
    refine AnyS.get (i := 2) (some 16) ?_ rfl rfl (by kernel_rfl) (by kernel_rfl) (by kernel_rfl) (by kernel_rfl) (fun _ _ _ h => h) (Reads.yes (by kernel_rfl) ?_ (fun _ => rfl)) hS ?_
    rotate_left
    · intro w' hw'
      go_simp
      with_reducible rfl
    simp only [Act.put, List.setIfInBounds_toArray, List.set_cons_succ, List.set_cons_zero]
    refine AnyS.get (i := 3) (some 17) ?_ rfl rfl (by kernel_rfl) (by kernel_rfl) (by kernel_rfl) (by kernel_rfl) (fun _ _ _ h => h) (Reads.yes (by kernel_rfl) ?_ (fun _ => rfl)) hS ?_
    rotate_left
    · intro w' hw'
      go_simp
      with_reducible rfl
    simp only [Act.put, List.setIfInBounds_toArray, List.set_cons_succ, List.set_cons_zero]
    refine AnyS.get (i := 4) (some 18) ?_ rfl rfl (by kernel_rfl) (by kernel_rfl) (by kernel_rfl) (by kernel_rfl) (fun _ _ _ h => h) (Reads.yes (by kernel_rfl) ?_ (fun _ => rfl)) hS ?_
    rotate_left
    · intro w' hw'
      go_simp
      with_reducible rfl
    simp only [Act.put, List.setIfInBounds_toArray, List.set_cons_succ, List.set_cons_zero]
    refine AnyS.get (i := 5) (some 19) ?_ rfl rfl (by kernel_rfl) (by kernel_rfl) (by kernel_rfl) (by kernel_rfl) (fun _ _ _ h => h) (Reads.yes (by kernel_rfl) ?_ (fun _ => rfl)) hS ?_
    rotate_left
    · intro w' hw'
      go_simp
      with_reducible rfl
    simp only [Act.put, List.setIfInBounds_toArray, List.set_cons_succ, List.set_cons_zero]
    refine AnyS.get (i := 9) (some 23) ?_ rfl rfl (by kernel_rfl) (by kernel_rfl) (by kernel_rfl) (by kernel_rfl) (fun _ _ _ h => h) (Reads.yes (by kernel_rfl) ?_ (fun _ => rfl)) hS ?_
    rotate_left
    · intro w' hw'
      go_simp
      with_reducible rfl
    simp only [Act.put, List.setIfInBounds_toArray, List.set_cons_succ, List.set_cons_zero]
    clear hS
    refine AnyS.next (i := 6) rfl (by kernel_rfl) (by kernel_rfl) fun K' hK' => ?_
    refine want_yes (by kernel_rfl) ?_
    go_simp
    refine ⟨trivial, (callsIn_wide.2 FC.out).mono ?_⟩
    rintro e wa ⟨rfl, ba⟩
    have HBA := Lib.hid (btP HBZ.out ba)
    have hS : wa.cell? ⟨t, 0, none⟩ = some _ := (HBA.out.cell (p := ⟨t, 0, none⟩) ht).trans c0
    refine hK' _ _ (fun _ => hS) ?_
    clear hK' K' FC ba HBZ
    simp only [Act.put, List.setIfInBounds_toArray, List.set_cons_succ, List.set_cons_zero]
    try rw [HF.out]
    refine AnyS.get (i := 7) (some 21) ?_ rfl rfl (by kernel_rfl) (by kernel_rfl) (by kernel_rfl) (by kernel_rfl) (fun _ _ _ h => h) (Reads.yes (by kernel_rfl) ?_ (fun _ => rfl)) hS ?_
    rotate_left
    · intro w' hw'
      go_simp
      with_reducible rfl
    simp only [Act.put, List.setIfInBounds_toArray, List.set_cons_succ, List.set_cons_zero]
    refine AnyS.get (i := 8) (some 22) ?_ rfl rfl (by kernel_rfl) (by kernel_rfl) (by kernel_rfl) (by kernel_rfl) (fun _ _ _ h => h) (Reads.yes (by kernel_rfl) ?_ (fun _ => rfl)) hS ?_
    rotate_left
    · intro w' hw'
      go_simp
      with_reducible rfl
    simp only [Act.put, List.setIfInBounds_toArray, List.set_cons_succ, List.set_cons_zero]
    refine AnyS.done (by kernel_rfl) ?_ _
    clear hS
    go_wp2_with fail
    go_loopw [7, 23] (fun ov i wr => ∃ k : Nat, i = .int .i64 k ∧ f + k ≤ n ∧ Hid (wr.ownsRow w.heap.size 36 3 ov (rangeC (gs.take (f + k)).flatten x y).length (rowOf (rangeC (gs.take (f + k)).flatten x y))) ∧ Below w.heap.size w wr) (fun _ i _ => n - (intOf i).toNat)
    case atStart => exact ⟨0, rfl, by omega, Lib.hid (by rw [Nat.add_zero, HST.out]; exact World.ownsRow_nil _ _ _ _), HBA.out⟩
    case round =>
      obtain ⟨k, rfl, hk, HO, B⟩ := hrel
      clear HBA
      by_cases hlt : f + k < n
      · have hkl : f + k < gs.length := by rw [HN.out]; exact hlt
        obtain ⟨c1, s, c2, hsl⟩ := HCC.out wr B k hkl
        have hrg := flat_rise HR.out hkl
        have hgl := flat_len hkl
        have hgne := HNE.out _ (getD_mem' hkl)
        have hnext := flat_take gs hkl x y
        have hstop := fun hy hh => range_stop (x := x) HR.out HNE.out hkl (y := y) hy hh
        have hsh := range_short gs (f + k + 1) x y
        have hsh0 := range_short gs (f + k) x y
        have hb2 := HB2.out
        obtain ⟨q, hq⟩ : ∃ q, gs.getD (f + k) [] = q := ⟨_, rfl⟩
        rw [hq] at c1 hsl hrg hgl hgne hnext hstop
        have nb := (Below.refl wr.heap.size wr).alloc (Nat.le_refl _) (.cells #[.string ⟨(keyG q).toArray⟩, s] 70)
        have HNB := Lib.hid (And.intro nb (btP B nb))
        have HSL := Lib.hid hsl
        have HRG := Lib.hid hrg
        have HGL := Lib.hid (And.intro (show q.length ≤ 100000 by omega) (And.intro hsh (And.intro hsh0 hb2)))
        have HNX := Lib.hid hnext
        have HSP := Lib.hid hstop
        have q0 : 0 < q.length := List.length_pos_iff.2 hgne
        obtain ⟨sA, sc, rfl, hq1, hq2, hq3⟩ := id hsl
        obtain ⟨sb, so, rfl, hqr⟩ := hq3 q0
        have HQR := Lib.hid (And.intro hqr hq2)
        obtain ⟨qn, hqn⟩ : ∃ qn, q.length = qn := ⟨_, rfl⟩
        have HQN := Lib.hid hqn
        rw [hqn] at c2 hq1 HSL HNB
        have hq4 : sc ≤ 9223372036854775807 := by unfold maxLen at hq2; omega
        clear hsl hrg hgl hgne hnext hstop hsh hsh0 hb2 hq nb hq3 hqr hq2 hkl q0 hqn
        have hlt2 : k < n - f := by omega
        cases hy : decide (y = []) with
        | true =>
          obtain rfl : y = [] := by simpa using hy
          have sx := stretch_any _ q x [] _ (HSL.out.later HNB.out.1) HRG.out (by have := HGL.out.1; omega)
          obtain ⟨p1, p2, p3⟩ := endPos_facts x [] HRG.out
          obtain ⟨a, ha⟩ : ∃ a, keyPos q x = a := ⟨_, rfl⟩
          obtain ⟨z, hz⟩ : ∃ z, endPos q x [] = z := ⟨_, rfl⟩
          rw [ha, hz] at sx p3
          rw [ha, hz] at p1
          rw [hz, HQN.out] at p2
          have SX := Lib.hid sx
          have HP3 := Lib.hid p3
          clear sx p3 ha hz
          go_wp2_with fail
          refine SX.out.mono ?_
          rintro e w1 ⟨rfl, b1⟩
          have y1 : w1.cell? ⟨wr.heap.size, 1, none⟩ = some (.slice (some ⟨sb, so, none⟩) qn sc) := by
            have h1 := (b1.block wr.heap.size (by simp)).trans (heap_alloc_new wr (.cells #[.string ⟨(keyG q).toArray⟩, .slice (some ⟨sb, so, none⟩) qn sc] 70))
            simp [World.cell?, h1]
          have HB1 := Lib.hid (And.intro (HNB.out.1.trans (b1.mono HNB.out.1.size)) (btP HNB.out.2 b1))
          clear b1 SX
          by_cases hac : a < sc
          · have hac1 : ¬ (sc = a) := by omega
            have hac2 : a ≤ sc := by omega
            have hac3 : z ≤ sc := by omega
            obtain ⟨v', w', run, own, b2⟩ := run_append_sl (own_lat HO.out HB1.out.1) HB1.out.2.size (sl_cut (HQR.out.1.later HB1.out.1 HQR.out.1.1) HQN.out p1 p2 hq1 HQR.out.2) (by rw [← HP3.out]; have h5 := HGL.out.2.1; rw [HNX.out, List.length_append] at h5; have := HGL.out.2.2.2; omega)
            rw [← HP3.out, ← HNX.out] at own
            have RUN := Lib.hid run
            have HF2 := Lib.hid (And.intro own (HB1.out.2.trans b2))
            clear run own b2 HO
            go_wp2_with (at_builtin; refine wpList_append_runE _ rfl _ _ 22 22 rfl _ _ rfl rfl RUN.out ?_)
            go_roundw
            case rel => exact ⟨k + 1, by go_num, by omega, Lib.hid HF2.out.1, HF2.out.2⟩
            case measure => simp [intOf]; omega
          · obtain rfl : a = sc := by omega
            obtain rfl : z = a := by omega
            have hzz : z - z = 0 := Nat.sub_self z
            have hemp : rangeC q x [] = [] := by rw [HP3.out, hzz]; rfl
            have hsl0 : SlAt (.slice (some ⟨sb, so, none⟩) 0 0) [] w1 := ⟨_, 0, rfl, Nat.le_refl _, by unfold maxLen; omega, fun h => absurd h (by simp)⟩
            obtain ⟨v', w', run, own, b2⟩ := run_append_sl (own_lat HO.out HB1.out.1) HB1.out.2.size hsl0 (by have := HGL.out.2.2.1; have := HGL.out.2.2.2; simp only [List.length_nil]; omega)
            rw [← hemp, ← HNX.out] at own
            have RUN := Lib.hid run
            have HF2 := Lib.hid (And.intro own (HB1.out.2.trans b2))
            clear run own b2 HO hemp hsl0
            go_wp2_with (at_builtin; refine wpList_append_runE _ rfl _ _ 22 22 rfl _ _ rfl rfl RUN.out ?_)
            go_roundw
            case rel => exact ⟨k + 1, by go_num, by omega, Lib.hid HF2.out.1, HF2.out.2⟩
            case measure => simp [intOf]; omega
        | false =>
          have e1 : (y == ([] : List UInt8)) = false := by rw [beq_eq_false_iff_ne]; simpa using hy
          cases hb : Op.bytesLess (keyG q) y with
          | false =>
            have hO : (wr.alloc (.cells #[.string ⟨(keyG q).toArray⟩, .slice (some ⟨sb, so, none⟩) qn sc] 70)).ownsRow w.heap.size 36 3 u7 (rangeC gs.flatten x y).length (rowOf (rangeC gs.flatten x y)) := by
              have h := own_lat HO.out HNB.out.1
              rwa [HSP.out (by simpa using hy) hb] at h
            have HO2 := Lib.hid hO
            clear HO hO
            go_wp2_with fail
            go_ret
            exact ⟨HNB.out.2, u7, rfl, HO2.out⟩
          | true =>
            have sx := stretch_any _ q x y _ (HSL.out.later HNB.out.1) HRG.out (by have := HGL.out.1; omega)
            obtain ⟨p1, p2, p3⟩ := endPos_facts x y HRG.out
            obtain ⟨a, ha⟩ : ∃ a, keyPos q x = a := ⟨_, rfl⟩
            obtain ⟨z, hz⟩ : ∃ z, endPos q x y = z := ⟨_, rfl⟩
            rw [ha, hz] at sx p3
            rw [ha, hz] at p1
            rw [hz, HQN.out] at p2
            have SX := Lib.hid sx
            have HP3 := Lib.hid p3
            clear sx p3 ha hz
            go_wp2_with fail
            refine SX.out.mono ?_
            rintro e w1 ⟨rfl, b1⟩
            have y1 : w1.cell? ⟨wr.heap.size, 1, none⟩ = some (.slice (some ⟨sb, so, none⟩) qn sc) := by
              have h1 := (b1.block wr.heap.size (by simp)).trans (heap_alloc_new wr (.cells #[.string ⟨(keyG q).toArray⟩, .slice (some ⟨sb, so, none⟩) qn sc] 70))
              simp [World.cell?, h1]
            have HB1 := Lib.hid (And.intro (HNB.out.1.trans (b1.mono HNB.out.1.size)) (btP HNB.out.2 b1))
            clear b1 SX
            by_cases hac : a < sc
            · have hac1 : ¬ (sc = a) := by omega
              have hac2 : a ≤ sc := by omega
              have hac3 : z ≤ sc := by omega
              obtain ⟨v', w', run, own, b2⟩ := run_append_sl (own_lat HO.out HB1.out.1) HB1.out.2.size (sl_cut (HQR.out.1.later HB1.out.1 HQR.out.1.1) HQN.out p1 p2 hq1 HQR.out.2) (by rw [← HP3.out]; have h5 := HGL.out.2.1; rw [HNX.out, List.length_append] at h5; have := HGL.out.2.2.2; omega)
              rw [← HP3.out, ← HNX.out] at own
              have RUN := Lib.hid run
              have HF2 := Lib.hid (And.intro own (HB1.out.2.trans b2))
              clear run own b2 HO
              go_wp2_with (at_builtin; refine wpList_append_runE _ rfl _ _ 22 22 rfl _ _ rfl rfl RUN.out ?_)
              go_roundw
              case rel => exact ⟨k + 1, by go_num, by omega, Lib.hid HF2.out.1, HF2.out.2⟩
              case measure => simp [intOf]; omega
            · obtain rfl : a = sc := by omega
              obtain rfl : z = a := by omega
              have hzz : z - z = 0 := Nat.sub_self z
              have hemp : rangeC q x y = [] := by rw [HP3.out, hzz]; rfl
              have hsl0 : SlAt (.slice (some ⟨sb, so, none⟩) 0 0) [] w1 := ⟨_, 0, rfl, Nat.le_refl _, by unfold maxLen; omega, fun h => absurd h (by simp)⟩
              obtain ⟨v', w', run, own, b2⟩ := run_append_sl (own_lat HO.out HB1.out.1) HB1.out.2.size hsl0 (by have := HGL.out.2.2.1; have := HGL.out.2.2.2; simp only [List.length_nil]; omega)
              rw [← hemp, ← HNX.out] at own
              have RUN := Lib.hid run
              have HF2 := Lib.hid (And.intro own (HB1.out.2.trans b2))
              clear run own b2 HO hemp hsl0
              go_wp2_with (at_builtin; refine wpList_append_runE _ rfl _ _ 22 22 rfl _ _ rfl rfl RUN.out ?_)
              go_roundw
              case rel => exact ⟨k + 1, by go_num, by omega, Lib.hid HF2.out.1, HF2.out.2⟩
              case measure => simp [intOf]; omega
      · have hlt2 : ¬ (k < n - f) := by omega
        have hO : wr.ownsRow w.heap.size 36 3 u7 (rangeC gs.flatten x y).length (rowOf (rangeC gs.flatten x y)) := by
          have h := HO.out
          rwa [List.take_of_length_le (by rw [HN.out]; omega)] at h
        have HO2 := Lib.hid hO
        clear HO hO
        go_wp2_with fail
        go_ret
        exact ⟨B, u7, rfl, HO2.out⟩

theorem allT_any (t : Nat) (gs : List (List Ce)) (w : World) (h : TabAt t gs w) (hr : Rise gs.flatten) (hne : ∀ g ∈ gs, g ≠ []) (hbig : gs.length ≤ 100000) (hbig2 : gs.flatten.length ≤ 100000) :
    Calls Try.prog 26 #[.pointer (some ⟨t, 0, none⟩)] w fun e w' => Below w.heap.size w w' ∧ ∃ v, e = .returned v ∧ w'.ownsRow w.heap.size 36 3 v gs.flatten.length (rowOf gs.flatten) := by
  have rc := rangeT_any t gs [] [] w h hr hne hbig hbig2
  rw [rangeC_all] at rc
  have RC := Lib.hid rc
  clear rc h hr hne hbig hbig2
  go_enter Try.func26, Try.ntmps26
  go_wp2_with fail
  refine RC.out.mono ?_
  rintro e w1 ⟨b1, v, rfl, own⟩
  go_wp2_with fail
  go_ret
  exact ⟨b1, v, rfl, own⟩
theorem allNil_any (w : World) : Calls Try.prog 26 #[.pointer none] w fun e w' => e = .returned (.slice none 0 0) ∧ Below w.heap.size w w' := by
  have rn : ∀ (x y : List UInt8) (W : World), Calls Try.prog 22 #[.pointer none, .string ⟨x.toArray⟩, .string ⟨y.toArray⟩] W fun e w' => e = .returned (.slice none 0 0) ∧ Below W.heap.size W w' := by
    intro x y W
    go_enter Try.func22, Try.ntmps22
    go_wp2_with fail
    go_ret
    exact ⟨rfl, Below.refl _ _⟩
  have RN := Lib.hid (rn [] [] w)
  clear rn
  go_enter Try.func26, Try.ntmps26
  go_wp2_with fail
  refine RN.out.mono ?_
  rintro e w1 ⟨rfl, b1⟩
  go_wp2_with fail
  go_ret
  exact ⟨rfl, b1⟩
theorem rangeNil_any (x y : List UInt8) (W : World) : Calls Try.prog 22 #[.pointer none, .string ⟨x.toArray⟩, .string ⟨y.toArray⟩] W fun e w' => e = .returned (.slice none 0 0) ∧ Below W.heap.size W w' := by
  go_enter Try.func22, Try.ntmps22
  go_wp2_with fail
  go_ret
  exact ⟨rfl, Below.refl _ _⟩
theorem lenNil_any (W : World) : Calls Try.prog 20 #[.pointer none] W fun e w' => e = .returned (.int .i64 0) ∧ Below W.heap.size W w' := by
  go_enter Try.func20, Try.ntmps20
  go_wp2_with fail
  go_ret
  exact ⟨rfl, Below.refl _ _⟩
theorem flat_count (gs : List (List Ce)) {k : Nat} (hk : k < gs.length) : (gs.take (k + 1)).flatten.length = (gs.take k).flatten.length + (gs.getD k []).length := by
  rw [take_gs gs k hk, List.flatten_append, List.length_append]
  simp
theorem flat_short (gs : List (List Ce)) (k : Nat) : (gs.take k).flatten.length ≤ gs.flatten.length := by
  conv => rhs; rw [← List.take_append_drop k gs, List.flatten_append, List.length_append]
  omega
set_option maxRecDepth 100000 in
set_option maxHeartbeats 4000000 in
theorem lenT_any (t : Nat) (gs : List (List Ce)) (w : World) (h : TabAt t gs w) (hbig : gs.length ≤ 1000000) (hbig2 : gs.flatten.length ≤ 1000000) :
    Calls Try.prog 20 #[.pointer (some ⟨t, 0, none⟩)] w fun e w' => e = .returned (.int .i64 gs.flatten.length) ∧ Below w.heap.size w w' := by
  obtain ⟨A, cap, c0, ht, hc1, hc2, hz, hrow⟩ := h.cell
  have hc3 : cap ≤ 9223372036854775807 := by unfold maxLen at hc2; omega
  have HFL := Lib.hid (fun k => flat_short gs k)
  have HB2 := Lib.hid hbig2
  obtain ⟨n, hn⟩ : ∃ n, gs.length = n := ⟨_, rfl⟩
  have HN := Lib.hid hn
  have HR := Lib.hid hrow
  rw [hn] at c0 hc1 hbig
  clear h hz hrow hc2 hn hbig2
  go_enter Try.func20, Try.ntmps20
  go_wp2_with fail
  go_loopw [3, 13] (fun m i wr => ∃ k : Nat, i = .int .i64 k ∧ k ≤ n ∧ m = .int .i64 (gs.take k).flatten.length ∧ Below w.heap.size w wr) (fun _ i _ => n - (intOf i).toNat)
  case atStart => exact ⟨0, rfl, by omega, rfl, Below.refl _ _⟩
  case round =>
    obtain ⟨k, rfl, hk, rfl, B⟩ := hrel
    by_cases hlt : k < n
    · have hkl : k < gs.length := by rw [HN.out]; exact hlt
      obtain ⟨g, rfl, hg, hcells⟩ := HR.out (by rw [HN.out]; omega)
      obtain ⟨c1, s, c2, hsl⟩ := hcells k hkl
      obtain ⟨sA, sc, rfl, hq1, hq2, -⟩ := hsl
      have c1 := (B.cell (p := ⟨g, k * 2, none⟩) hg).trans c1
      have c2 := (B.cell (p := ⟨g, k * 2 + 1, none⟩) hg).trans c2
      have hcnt := flat_count gs hkl
      have hs1 := HFL.out k
      have hs2 := HFL.out (k + 1)
      have hbb := HB2.out
      obtain ⟨q, hq⟩ : ∃ q, gs.getD k [] = q := ⟨_, rfl⟩
      rw [hq] at c1 c2 hcnt hq1
      obtain ⟨qn, hqn⟩ : ∃ qn, q.length = qn := ⟨_, rfl⟩
      rw [hqn] at c2 hcnt hq1
      have HC := Lib.hid hcnt
      obtain ⟨m, hm⟩ : ∃ m, (gs.take k).flatten.length = m := ⟨_, rfl⟩
      rw [hm] at HC hs1 ⊢
      have hmq : m + qn ≤ 1000000 := by have := HC.out; omega
      have nb := btP B ((Below.refl wr.heap.size wr).alloc (Nat.le_refl _) (.cells #[.string ⟨(keyG q).toArray⟩, .slice sA qn sc] 70))
      have NB := Lib.hid nb
      clear hcells hcnt hs1 hs2 hbb hq hqn hm hkl nb B hq2
      go_wp2_with fail
      go_roundw
      case rel => exact ⟨k + 1, by go_num, by omega, by rw [HC.out]; go_num, NB.out⟩
      case measure => simp [intOf]; omega
    · obtain rfl : k = n := by omega
      have hT : gs.take k = gs := List.take_of_length_le (by rw [HN.out]; exact Nat.le_refl _)
      rw [hT]
      go_wp2_with fail
      go_ret
      exact ⟨rfl, B⟩
end Go.Proofs.Ytanaoepakllohaa
