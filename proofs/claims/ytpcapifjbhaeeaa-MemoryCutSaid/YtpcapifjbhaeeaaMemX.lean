/- The walk of MemoryCut. -/
import Derived.Test.YtpcapifjbhaeeaaMemW
namespace Go.Proofs.Ytpcapifjbhaeeaa
set_option maxRecDepth 16000
open Go.RowKit Spoor
set_option linter.unusedVariables false

theorem low_length (L : List Ce) (key : List UInt8) : (lowC L key).length ≤ L.length := List.length_filter_le _ _
theorem high_length (L : List Ce) (key : List UInt8) : (highC L key).length ≤ L.length := List.length_filter_le _ _
def c77 (k : List UInt8) : Ce := ⟨k, 77, []⟩
set_option maxRecDepth 100000 in
set_option maxHeartbeats 8000000 in
theorem memoryCut_yes (w : World) (v u : Value) (l more : List Ce) (key : List UInt8) (hs : SlAt v l w) (hs2 : SlAt u more w) (hw : ∀ c ∈ l, WfC c) (hw2 : ∀ c ∈ more, WfC c) (hk : ¬ (1000 : Int) < (key.length : Int)) (hg : greatL l 100 = false) (hg2 : greatL more 100 = false) :
    Calls Try.prog 4 #[v, u, .string ⟨key.toArray⟩] w fun e w' => e = .returned (.bool true) ∧ Below w.heap.size w w' := by
  have cg := greatL_any v l 100 w hs hw (by omega)
  have cg2 := fun W (h : SlAt u more W) => greatL_any u more 100 W h hw2 (by omega)
  rw [hg] at cg
  rw [hg2] at cg2
  have hf := fits_great hg hw
  have hf2 := fits_great hg2 hw2
  have hlen := (great_yes hg).1
  have hlen2 := (great_yes hg2).1
  have CG := Lib.hid cg
  have CG2 := Lib.hid (fun W (hb : Below w.heap.size w W) => cg2 W (hs2.later hb))
  have LA := Lib.hid (fun W (hb : Below w.heap.size w W) => laid_any W v l (hs.later hb) (by omega) hf)
  have LA2 := Lib.hid (fun W (hb : Below w.heap.size w W) => laid_any W u more (hs2.later hb) (by omega) hf2)
  have HF := Lib.hid (fun k (hk : k < more.length) => getD_lt hf2 hk)
  have HKL := Lib.hid (fun k (hk : k < l.length) => getD_lt (P := fun c => c.k.length ≤ 1000) (fun c hc => ((great_yes hg).2 c hc).1) hk)
  have hfm := hf2
  obtain ⟨M, hM⟩ : ∃ M, putsC [] l = M := ⟨_, rfl⟩
  obtain ⟨N, hN⟩ : ∃ N, putsC [] more = N := ⟨_, rfl⟩
  have hMl : M.length ≤ 100 := by have h := puts_length l []; rw [hM] at h; simp only [List.length_nil] at h; omega
  have hNl : N.length ≤ 100 := by have h := puts_length more []; rw [hN] at h; simp only [List.length_nil] at h; omega
  have hMr : Rise M := hM ▸ puts_rise (l := l) (acc := []) (by simp [Rise])
  have hNf : ∀ c ∈ N, FitsC c := by
    intro c hc
    have hmem : ∀ (l acc : List Ce), (∀ x ∈ acc, FitsC x) → (∀ x ∈ l, FitsC x) → ∀ x ∈ putsC acc l, FitsC x := by
      intro l
      induction l with
      | nil => intro acc h _ x hx; exact h x hx
      | cons c l ih =>
        intro acc h h2 x hx
        refine ih (putC acc c) (fun y hy => ?_) (fun y hy => h2 y (by simp [hy])) x hx
        rcases putC_mem hy with ⟨rfl, _⟩ | hy
        · exact h2 y (by simp)
        · exact h y hy
    exact hmem more [] (by simp) hf2 c (hN ▸ hc)
  obtain ⟨A, cap, rfl, hc1, hc2, hrow⟩ := hs
  obtain ⟨A2, cap2, rfl, hd1, hd2, hrow2⟩ := hs2
  have HR := Lib.hid (fun h0 => hrow h0)
  have HR2 := Lib.hid (fun h0 => hrow2 h0)
  have hc3 : cap ≤ 9223372036854775807 := by unfold maxLen at hc2; omega
  have hd3 : cap2 ≤ 9223372036854775807 := by unfold maxLen at hd2; omega
  obtain ⟨n, hn⟩ : ∃ n, l.length = n := ⟨_, rfl⟩
  obtain ⟨n2, hn2⟩ : ∃ n2, more.length = n2 := ⟨_, rfl⟩
  have HN := Lib.hid (And.intro hn hn2)
  have HMN := Lib.hid (And.intro hMl (And.intro hNl (And.intro hMr hNf)))
  rw [hM] at LA
  rw [hN] at LA2
  rw [hn] at hc1 hlen CG LA ⊢
  rw [hn2] at hd1 hlen2 CG2 LA2 ⊢
  clear cg cg2 hf hf2 hg hg2 hw hw2 hn hn2 hrow hrow2 hc2 hd2 hM hN hMl hNl hMr hNf hfm
  have HKK := Lib.hid hk
  go_enter Try.func4, Try.ntmps4
  go_wp2_with fail
  refine CG.out.mono ?_
  rintro e w1 ⟨rfl, b1⟩
  have HB1 := Lib.hid b1
  have CGB := Lib.hid (CG2.out w1 b1)
  clear CG CG2 b1
  go_wp2_with fail
  refine CGB.out.mono ?_
  rintro e w2 ⟨rfl, b2⟩
  have HB2 := Lib.hid (btP HB1.out b2)
  have LAB := Lib.hid (LA.out _ HB2.out)
  clear CGB LA b2 HB1
  go_wp2_with fail
  refine LAB.out.mono ?_
  rintro e w3 ⟨pm, pr, rfl, T3⟩
  have M3 := (Many.start (w := w2)).two T3
  have M3 : Many w2.heap.size [(true, pm, M), (false, pr, M)] w2 w3 := M3
  have HM3 := Lib.hid M3
  have LAB := Lib.hid (LA2.out _ (HB2.out.trans (T3.below.mono HB2.out.size)))
  clear LA2 T3 M3
  go_wp2_with fail
  refine LAB.out.mono ?_
  rintro e w4 ⟨pn, ps, rfl, T4⟩
  have M4 : Many w2.heap.size [(true, pm, M), (false, pr, M), (true, pn, N), (false, ps, N)] w2 w4 := HM3.out.two T4
  have CC := Lib.hid (M4.cut 0 rfl (by have := HMN.out.1; omega) key)
  have HM4 := Lib.hid M4
  clear LAB T4 M4 HM3
  go_wp2_with fail
  refine CC.out.mono ?_
  rintro e w5 ⟨pa, pb, rfl, M5⟩
  have M5 : Many w2.heap.size [(true, pm, M), (false, pr, M), (true, pn, N), (false, ps, N), (true, pa, lowC M key), (true, pb, highC M key)] w2 w5 := M5
  have CC2 := Lib.hid (M5.rcut 1 rfl (by have := HMN.out.1; omega) key)
  clear CC M5 HM4
  go_wp2_with fail
  refine CC2.out.mono ?_
  rintro e w6 ⟨pc, pd, rfl, M6⟩
  have M6 : Many w2.heap.size [(true, pm, M), (false, pr, M), (true, pn, N), (false, ps, N), (true, pa, lowC M key), (true, pb, highC M key), (false, pc, lowC M key), (false, pd, highC M key)] w2 w6 := M6
  have CC := Lib.hid (M6.join 0 2 rfl rfl (by have := HMN.out.1; have := HMN.out.2.1; omega) HMN.out.2.2.2)
  clear CC2 M6
  go_wp2_with fail
  refine CC.out.mono ?_
  rintro e w7 ⟨pj, rfl, M7⟩
  obtain ⟨Q, hQ⟩ : ∃ Q, putsC M N = Q := ⟨_, rfl⟩
  have hQl : Q.length ≤ 200 := by have h := puts_length N M; rw [hQ] at h; have := HMN.out.1; have := HMN.out.2.1; omega
  have HQL := Lib.hid hQl
  rw [hQ] at M7
  have M7 : Many w2.heap.size [(true, pm, M), (false, pr, M), (true, pn, N), (false, ps, N), (true, pa, lowC M key), (true, pb, highC M key), (false, pc, lowC M key), (false, pd, highC M key), (true, pj, Q)] w2 w7 := M7
  have cc := M7.rjoin 1 3 rfl rfl HMN.out.2.2.1 (by have := HMN.out.1; have := HMN.out.2.1; omega) HMN.out.2.2.2
  rw [hQ] at cc
  have CC2 := Lib.hid cc
  clear CC M7 cc hQ hQl
  go_wp2_with fail
  refine CC2.out.mono ?_
  rintro e w8 ⟨pw, rfl, M8⟩
  have M8 : Many w2.heap.size [(true, pm, M), (false, pr, M), (true, pn, N), (false, ps, N), (true, pa, lowC M key), (true, pb, highC M key), (false, pc, lowC M key), (false, pd, highC M key), (true, pj, Q), (false, pw, Q)] w2 w8 := M8
  obtain ⟨lo, hlo⟩ : ∃ lo, w2.heap.size = lo := ⟨_, rfl⟩
  rw [hlo] at M8
  have HLO := Lib.hid hlo
  have HM8 := Lib.hid M8
  clear CC2 M8 hlo
  go_wp2_with fail
  go_cut [85] (fun v wx => v = .bool false ∧ Hid (Below w8.heap.size w8 wx))
  case first =>
    obtain ⟨vc, sc, rc⟩ := HM8.out.rcell 6 rfl
    obtain ⟨vd, sd, rd⟩ := HM8.out.rcell 7 rfl
    obtain ⟨vw, sw, rw'⟩ := HM8.out.rcell 9 rfl
    have HSC := Lib.hid (fun W' (hb : Below w8.heap.size w8 W') => And.intro (rc W' hb) (And.intro (rd W' hb) (rw' W' hb)))
    have HSL := Lib.hid (fun W' (hb : Below w8.heap.size w8 W') => And.intro (sc.later hb) (And.intro (sd.later hb) (sw.later hb)))
    have HAL := Lib.hid (fun W' (hb : Below w8.heap.size w8 W') => And.intro ((HM8.out.later hb).all 4 rfl (by have := low_length M key; have := HMN.out.1; omega)) (And.intro ((HM8.out.later hb).all 5 rfl (by have := high_length M key; have := HMN.out.1; omega)) ((HM8.out.later hb).all 8 rfl (by have := HQL.out; omega))))
    clear sc rc sd rd sw rw'
    refine (wpIn_wide (n := 5)).1 ?_
    refine wpIn_region_lit_late (fun W' => W'.cell? ⟨pc, 0, none⟩ = some vc ∧ W'.cell? ⟨pd, 0, none⟩ = some vd ∧ W'.cell? ⟨pw, 0, none⟩ = some vw) (fun _ => false) (k := 28) (listed := #[false, false, false, false, false, false, false, false, false, false, false, false, false, false, false, false, false, false, false, false, false, false, false, false, false, false, false, false]) (by kernel_rfl) (by kernel_rfl) (by kernel_rfl) ?_
    have bz := Below.drew (Below.refl w8.heap.size w8)
    obtain ⟨wz, hwz⟩ : ∃ wz, w8.drew = wz := ⟨_, rfl⟩
    rw [hwz] at bz ⊢
    clear hwz
    have hS := HSC.out _ bz
    have B0 := Lib.hid bz
    clear bz
    refine AnyS.get (i := 0) (some 58) ?_ rfl rfl (by kernel_rfl) (by kernel_rfl) (by kernel_rfl) (by kernel_rfl) (fun _ _ _ h => h) (Reads.yes (by kernel_rfl) ?_ (fun _ => rfl)) hS ?_
    rotate_left
    · intro w' hw'
      go_simp
      with_reducible rfl
    simp only [Act.put, List.setIfInBounds_toArray, List.set_cons_succ, List.set_cons_zero]
    refine AnyS.get (i := 2) (some 60) ?_ rfl rfl (by kernel_rfl) (by kernel_rfl) (by kernel_rfl) (by kernel_rfl) (fun _ _ _ h => h) (Reads.yes (by kernel_rfl) ?_ (fun _ => rfl)) hS ?_
    rotate_left
    · intro w' hw'
      go_simp
      with_reducible rfl
    simp only [Act.put, List.setIfInBounds_toArray, List.set_cons_succ, List.set_cons_zero]
    refine AnyS.get (i := 3) (some 61) ?_ rfl rfl (by kernel_rfl) (by kernel_rfl) (by kernel_rfl) (by kernel_rfl) (fun _ _ _ h => h) (Reads.yes (by kernel_rfl) ?_ (fun _ => rfl)) hS ?_
    rotate_left
    · intro w' hw'
      go_simp
      with_reducible rfl
    simp only [Act.put, List.setIfInBounds_toArray, List.set_cons_succ, List.set_cons_zero]
    refine AnyS.get (i := 4) (some 62) ?_ rfl rfl (by kernel_rfl) (by kernel_rfl) (by kernel_rfl) (by kernel_rfl) (fun _ _ _ h => h) (Reads.yes (by kernel_rfl) ?_ (fun _ => rfl)) hS ?_
    rotate_left
    · intro w' hw'
      go_simp
      with_reducible rfl
    simp only [Act.put, List.setIfInBounds_toArray, List.set_cons_succ, List.set_cons_zero]
    refine AnyS.get (i := 5) (some 63) ?_ rfl rfl (by kernel_rfl) (by kernel_rfl) (by kernel_rfl) (by kernel_rfl) (fun _ _ _ h => h) (Reads.yes (by kernel_rfl) ?_ (fun _ => rfl)) hS ?_
    rotate_left
    · intro w' hw'
      obtain ⟨t1, t2, t3⟩ := hw'
      go_simp
      with_reducible rfl
    simp only [Act.put, List.setIfInBounds_toArray, List.set_cons_succ, List.set_cons_zero]
    clear hS
    refine AnyS.next (i := 1) rfl (by kernel_rfl) (by kernel_rfl) fun K' hK' => ?_
    refine want_yes (by kernel_rfl) ?_
    have ra := (HAL.out _ B0.out).1
    have RA := Lib.hid ra
    clear ra
    go_simp
    refine ⟨trivial, (callsIn_wide.2 RA.out).mono ?_⟩
    rintro e wa ⟨bb, va, rfl, sa⟩
    have B1 := Lib.hid (btP B0.out bb)
    have SA := Lib.hid sa
    refine hK' _ _ (fun _ => HSC.out _ B1.out) ?_
    clear hK' K' RA bb sa B0
    simp only [Act.put, List.setIfInBounds_toArray, List.set_cons_succ, List.set_cons_zero]
    refine AnyS.next (i := 6) rfl (by kernel_rfl) (by kernel_rfl) fun K' hK' => ?_
    refine want_yes (by kernel_rfl) ?_
    have sc := sl_two _ _ _ _ SA.out _ (HSL.out _ B1.out).1 rfl
    have SC := Lib.hid sc
    clear sc
    go_simp
    refine ⟨trivial, (callsIn_wide.2 SC.out).mono ?_⟩
    rintro e wb ⟨rfl, bb⟩
    have B2 := Lib.hid (btP B1.out bb)
    have hS := HSC.out _ B2.out
    refine hK' _ _ (fun _ => hS) ?_
    clear hK' K' SC SA bb B1
    simp only [Act.put, List.setIfInBounds_toArray, List.set_cons_succ, List.set_cons_zero]
    refine AnyS.get (i := 7) (some 65) ?_ rfl rfl (by kernel_rfl) (by kernel_rfl) (by kernel_rfl) (by kernel_rfl) (fun _ _ _ h => h) (Reads.yes (by kernel_rfl) ?_ (fun _ => rfl)) hS ?_
    rotate_left
    · intro w' hw'
      go_simp
      with_reducible rfl
    simp only [Act.put, List.setIfInBounds_toArray, List.set_cons_succ, List.set_cons_zero]
    refine AnyS.get (i := 8) (some 66) ?_ rfl rfl (by kernel_rfl) (by kernel_rfl) (by kernel_rfl) (by kernel_rfl) (fun _ _ _ h => h) (Reads.yes (by kernel_rfl) ?_ (fun _ => rfl)) hS ?_
    rotate_left
    · intro w' hw'
      go_simp
      with_reducible rfl
    simp only [Act.put, List.setIfInBounds_toArray, List.set_cons_succ, List.set_cons_zero]
    refine AnyS.get (i := 9) (some 67) ?_ rfl rfl (by kernel_rfl) (by kernel_rfl) (by kernel_rfl) (by kernel_rfl) (fun _ _ _ h => h) (Reads.yes (by kernel_rfl) ?_ (fun _ => rfl)) hS ?_
    rotate_left
    · intro w' hw'
      go_simp
      with_reducible rfl
    simp only [Act.put, List.setIfInBounds_toArray, List.set_cons_succ, List.set_cons_zero]
    refine AnyS.get (i := 11) (some 69) ?_ rfl rfl (by kernel_rfl) (by kernel_rfl) (by kernel_rfl) (by kernel_rfl) (fun _ _ _ h => h) (Reads.yes (by kernel_rfl) ?_ (fun _ => rfl)) hS ?_
    rotate_left
    · intro w' hw'
      go_simp
      with_reducible rfl
    simp only [Act.put, List.setIfInBounds_toArray, List.set_cons_succ, List.set_cons_zero]
    refine AnyS.get (i := 12) (some 70) ?_ rfl rfl (by kernel_rfl) (by kernel_rfl) (by kernel_rfl) (by kernel_rfl) (fun _ _ _ h => h) (Reads.yes (by kernel_rfl) ?_ (fun _ => rfl)) hS ?_
    rotate_left
    · intro w' hw'
      go_simp
      with_reducible rfl
    simp only [Act.put, List.setIfInBounds_toArray, List.set_cons_succ, List.set_cons_zero]
    refine AnyS.get (i := 13) (some 71) ?_ rfl rfl (by kernel_rfl) (by kernel_rfl) (by kernel_rfl) (by kernel_rfl) (fun _ _ _ h => h) (Reads.yes (by kernel_rfl) ?_ (fun _ => rfl)) hS ?_
    rotate_left
    · intro w' hw'
      go_simp
      with_reducible rfl
    simp only [Act.put, List.setIfInBounds_toArray, List.set_cons_succ, List.set_cons_zero]
    refine AnyS.get (i := 14) (some 72) ?_ rfl rfl (by kernel_rfl) (by kernel_rfl) (by kernel_rfl) (by kernel_rfl) (fun _ _ _ h => h) (Reads.yes (by kernel_rfl) ?_ (fun _ => rfl)) hS ?_
    rotate_left
    · intro w' hw'
      obtain ⟨t1, t2, t3⟩ := hw'
      go_simp
      with_reducible rfl
    simp only [Act.put, List.setIfInBounds_toArray, List.set_cons_succ, List.set_cons_zero]
    clear hS
    refine AnyS.next (i := 10) rfl (by kernel_rfl) (by kernel_rfl) fun K' hK' => ?_
    refine want_yes (by kernel_rfl) ?_
    have ra := (HAL.out _ B2.out).2.1
    have RA := Lib.hid ra
    clear ra
    go_simp
    refine ⟨trivial, (callsIn_wide.2 RA.out).mono ?_⟩
    rintro e wa ⟨bb, va, rfl, sa⟩
    have B3 := Lib.hid (btP B2.out bb)
    have SA := Lib.hid sa
    refine hK' _ _ (fun _ => HSC.out _ B3.out) ?_
    clear hK' K' RA bb sa B2
    simp only [Act.put, List.setIfInBounds_toArray, List.set_cons_succ, List.set_cons_zero]
    refine AnyS.next (i := 15) rfl (by kernel_rfl) (by kernel_rfl) fun K' hK' => ?_
    refine want_yes (by kernel_rfl) ?_
    have sc := sl_two _ _ _ _ SA.out _ (HSL.out _ B3.out).2.1 rfl
    have SC := Lib.hid sc
    clear sc
    go_simp
    refine ⟨trivial, (callsIn_wide.2 SC.out).mono ?_⟩
    rintro e wb ⟨rfl, bb⟩
    have B4 := Lib.hid (btP B3.out bb)
    have hS := HSC.out _ B4.out
    refine hK' _ _ (fun _ => hS) ?_
    clear hK' K' SC SA bb B3
    simp only [Act.put, List.setIfInBounds_toArray, List.set_cons_succ, List.set_cons_zero]
    refine AnyS.get (i := 16) (some 74) ?_ rfl rfl (by kernel_rfl) (by kernel_rfl) (by kernel_rfl) (by kernel_rfl) (fun _ _ _ h => h) (Reads.yes (by kernel_rfl) ?_ (fun _ => rfl)) hS ?_
    rotate_left
    · intro w' hw'
      go_simp
      with_reducible rfl
    simp only [Act.put, List.setIfInBounds_toArray, List.set_cons_succ, List.set_cons_zero]
    refine AnyS.get (i := 17) (some 75) ?_ rfl rfl (by kernel_rfl) (by kernel_rfl) (by kernel_rfl) (by kernel_rfl) (fun _ _ _ h => h) (Reads.yes (by kernel_rfl) ?_ (fun _ => rfl)) hS ?_
    rotate_left
    · intro w' hw'
      go_simp
      with_reducible rfl
    simp only [Act.put, List.setIfInBounds_toArray, List.set_cons_succ, List.set_cons_zero]
    refine AnyS.get (i := 18) (some 76) ?_ rfl rfl (by kernel_rfl) (by kernel_rfl) (by kernel_rfl) (by kernel_rfl) (fun _ _ _ h => h) (Reads.yes (by kernel_rfl) ?_ (fun _ => rfl)) hS ?_
    rotate_left
    · intro w' hw'
      go_simp
      with_reducible rfl
    simp only [Act.put, List.setIfInBounds_toArray, List.set_cons_succ, List.set_cons_zero]
    refine AnyS.get (i := 19) (some 77) ?_ rfl rfl (by kernel_rfl) (by kernel_rfl) (by kernel_rfl) (by kernel_rfl) (fun _ _ _ h => h) (Reads.yes (by kernel_rfl) ?_ (fun _ => rfl)) hS ?_
    rotate_left
    · intro w' hw'
      go_simp
      with_reducible rfl
    simp only [Act.put, List.setIfInBounds_toArray, List.set_cons_succ, List.set_cons_zero]
    refine AnyS.get (i := 21) (some 79) ?_ rfl rfl (by kernel_rfl) (by kernel_rfl) (by kernel_rfl) (by kernel_rfl) (fun _ _ _ h => h) (Reads.yes (by kernel_rfl) ?_ (fun _ => rfl)) hS ?_
    rotate_left
    · intro w' hw'
      go_simp
      with_reducible rfl
    simp only [Act.put, List.setIfInBounds_toArray, List.set_cons_succ, List.set_cons_zero]
    refine AnyS.get (i := 22) (some 80) ?_ rfl rfl (by kernel_rfl) (by kernel_rfl) (by kernel_rfl) (by kernel_rfl) (fun _ _ _ h => h) (Reads.yes (by kernel_rfl) ?_ (fun _ => rfl)) hS ?_
    rotate_left
    · intro w' hw'
      go_simp
      with_reducible rfl
    simp only [Act.put, List.setIfInBounds_toArray, List.set_cons_succ, List.set_cons_zero]
    refine AnyS.get (i := 23) (some 81) ?_ rfl rfl (by kernel_rfl) (by kernel_rfl) (by kernel_rfl) (by kernel_rfl) (fun _ _ _ h => h) (Reads.yes (by kernel_rfl) ?_ (fun _ => rfl)) hS ?_
    rotate_left
    · intro w' hw'
      go_simp
      with_reducible rfl
    simp only [Act.put, List.setIfInBounds_toArray, List.set_cons_succ, List.set_cons_zero]
    refine AnyS.get (i := 24) (some 82) ?_ rfl rfl (by kernel_rfl) (by kernel_rfl) (by kernel_rfl) (by kernel_rfl) (fun _ _ _ h => h) (Reads.yes (by kernel_rfl) ?_ (fun _ => rfl)) hS ?_
    rotate_left
    · intro w' hw'
      obtain ⟨t1, t2, t3⟩ := hw'
      go_simp
      with_reducible rfl
    simp only [Act.put, List.setIfInBounds_toArray, List.set_cons_succ, List.set_cons_zero]
    clear hS
    refine AnyS.next (i := 20) rfl (by kernel_rfl) (by kernel_rfl) fun K' hK' => ?_
    refine want_yes (by kernel_rfl) ?_
    have ra := (HAL.out _ B4.out).2.2
    have RA := Lib.hid ra
    clear ra
    go_simp
    refine ⟨trivial, (callsIn_wide.2 RA.out).mono ?_⟩
    rintro e wa ⟨bb, va, rfl, sa⟩
    have B5 := Lib.hid (btP B4.out bb)
    have SA := Lib.hid sa
    refine hK' _ _ (fun _ => HSC.out _ B5.out) ?_
    clear hK' K' RA bb sa B4
    simp only [Act.put, List.setIfInBounds_toArray, List.set_cons_succ, List.set_cons_zero]
    refine AnyS.next (i := 25) rfl (by kernel_rfl) (by kernel_rfl) fun K' hK' => ?_
    refine want_yes (by kernel_rfl) ?_
    have sc := sl_two _ _ _ _ SA.out _ (HSL.out _ B5.out).2.2 rfl
    have SC := Lib.hid sc
    clear sc
    go_simp
    refine ⟨trivial, (callsIn_wide.2 SC.out).mono ?_⟩
    rintro e wb ⟨rfl, bb⟩
    have B6 := Lib.hid (btP B5.out bb)
    have hS := HSC.out _ B6.out
    refine hK' _ _ (fun _ => hS) ?_
    clear hK' K' SC SA bb B5
    simp only [Act.put, List.setIfInBounds_toArray, List.set_cons_succ, List.set_cons_zero]
    refine AnyS.get (i := 26) (some 84) ?_ rfl rfl (by kernel_rfl) (by kernel_rfl) (by kernel_rfl) (by kernel_rfl) (fun _ _ _ h => h) (Reads.yes (by kernel_rfl) ?_ (fun _ => rfl)) hS ?_
    rotate_left
    · intro w' hw'
      go_simp
      with_reducible rfl
    simp only [Act.put, List.setIfInBounds_toArray, List.set_cons_succ, List.set_cons_zero]
    refine AnyS.get (i := 27) (some 85) ?_ rfl rfl (by kernel_rfl) (by kernel_rfl) (by kernel_rfl) (by kernel_rfl) (fun _ _ _ h => h) (Reads.yes (by kernel_rfl) ?_ (fun _ => rfl)) hS ?_
    rotate_left
    · intro w' hw'
      go_simp
      with_reducible rfl
    simp only [Act.put, List.setIfInBounds_toArray, List.set_cons_succ, List.set_cons_zero]
    refine AnyS.done (by kernel_rfl) ?_ _
    clear hS
    go_wp2_with fail
    go_meet
    exact ⟨rfl, B6⟩
  obtain ⟨rfl, HC⟩ := hcut
  have HM9 := Lib.hid (HM8.out.later HC.out)
  clear HM8 HC
  go_wp2_with fail
  have HLW := Lib.hid (show ∀ W', Below lo w2 W' → Below w.heap.size w W' from fun W' hb => HB2.out.trans (hb.mono (by have := HB2.out.size; have := HLO.out; omega)))
  go_loopw [17] (fun i wr => ∃ k : Nat, i = .int .i64 k ∧ k ≤ n2 ∧ Hid (Many lo [(true, pm, M), (false, pr, M), (true, pn, N), (false, ps, N), (true, pa, putsC (lowC M key) (more.take k)), (true, pb, putsC (highC M key) (more.take k)), (false, pc, putsC (lowC M key) (more.take k)), (false, pd, putsC (highC M key) (more.take k)), (true, pj, Q), (false, pw, Q)] w2 wr)) (fun i _ => n2 - (intOf i).toNat)
  case atStart => exact ⟨0, rfl, by omega, Lib.hid (by simpa [putsC] using HM9.out)⟩
  case round =>
    obtain ⟨k, rfl, hk, HT⟩ := hrel
    clear HM9
    by_cases hlt : k < n2
    · have hkl : k < more.length := by rw [HN.out.2]; exact hlt
      obtain ⟨b, o, rfl, hrow⟩ := HR2.out (by rw [HN.out.2]; omega)
      have hrs := fun W' (hb : Below lo w2 W') => (hrow.later (HLW.out W' hb) hrow.1).cells hkl
      obtain ⟨d, hd⟩ : ∃ d, more.getD k Ce.zero = d := ⟨_, rfl⟩
      rw [hd] at hrs
      have HRS := Lib.hid hrs
      have hfd : FitsC d := hd ▸ HF.out k hkl
      have hn1 := puts_take (La := lowC M key) hkl
      have hn2 := puts_take (La := highC M key) hkl
      rw [hd] at hn1 hn2
      have s1 := puts_short (lowC M key) more k
      have s2 := puts_short (highC M key) more k
      have s3 := low_length M key
      have s4 := high_length M key
      have r1 := puts_rise (l := more.take k) (acc := lowC M key) (rise_filter HMN.out.2.2.1 _)
      have r2 := puts_rise (l := more.take k) (acc := highC M key) (rise_filter HMN.out.2.2.1 _)
      obtain ⟨P1, hP1⟩ : ∃ P1, putsC (lowC M key) (more.take k) = P1 := ⟨_, rfl⟩
      obtain ⟨P2, hP2⟩ : ∃ P2, putsC (highC M key) (more.take k) = P2 := ⟨_, rfl⟩
      rw [hP1] at HT hn1 s1 r1
      rw [hP2] at HT hn2 s2 r2
      have HX := Lib.hid (show FitsC d ∧ (putsC (lowC M key) (more.take (k + 1)) = putC P1 d ∧ putsC (highC M key) (more.take (k + 1)) = putC P2 d) ∧ (P1.length ≤ 900 ∧ P2.length ≤ 900) ∧ Rise P1 ∧ Rise P2 from ⟨hfd, ⟨hn1, hn2⟩, by have := HN.out.2; have := HMN.out.1; omega, r1, r2⟩)
      clear hrs hrow hd hfd hn1 hn2 s1 s2 s3 s4 r1 r2 hP1 hP2
      obtain ⟨x0, x1, x2⟩ := HRS.out _ HT.out.below
      have PC := Lib.hid (HT.out.put 4 rfl d HX.out.2.2.1.1 HX.out.1)
      unfold ceVal at PC
      clear HT
      go_wp2_with fail
      refine PC.out.mono ?_
      rintro e wa ⟨rfl, TA⟩
      have TA : Many lo [(true, pm, M), (false, pr, M), (true, pn, N), (false, ps, N), (true, pa, putC P1 d), (true, pb, P2), (false, pc, P1), (false, pd, P2), (true, pj, Q), (false, pw, Q)] w2 wa := TA
      clear x0 x1 x2
      obtain ⟨x0, x1, x2⟩ := HRS.out _ TA.below
      have PC2 := Lib.hid (TA.put 5 rfl d HX.out.2.2.1.2 HX.out.1)
      unfold ceVal at PC2
      clear TA PC
      generalize (if d.may = true then (0 : Int) else 2) = ee at *
      go_wp2_with fail
      refine PC2.out.mono ?_
      rintro e wb ⟨rfl, TB⟩
      have TB : Many lo [(true, pm, M), (false, pr, M), (true, pn, N), (false, ps, N), (true, pa, putC P1 d), (true, pb, putC P2 d), (false, pc, P1), (false, pd, P2), (true, pj, Q), (false, pw, Q)] w2 wb := TB
      clear x0 x1 x2
      obtain ⟨x0, x1, x2⟩ := HRS.out _ TB.below
      have PC := Lib.hid (TB.rput 6 rfl d HX.out.2.2.2.1 HX.out.2.2.1.1 HX.out.1)
      unfold ceVal at PC
      clear TB PC2
      go_wp2_with fail
      refine PC.out.mono ?_
      rintro e wc ⟨rfl, TC⟩
      have TC : Many lo [(true, pm, M), (false, pr, M), (true, pn, N), (false, ps, N), (true, pa, putC P1 d), (true, pb, putC P2 d), (false, pc, putC P1 d), (false, pd, P2), (true, pj, Q), (false, pw, Q)] w2 wc := TC
      clear x0 x1 x2
      obtain ⟨x0, x1, x2⟩ := HRS.out _ TC.below
      have PC2 := Lib.hid (TC.rput 7 rfl d HX.out.2.2.2.2 HX.out.2.2.1.2 HX.out.1)
      unfold ceVal at PC2
      clear TC PC
      generalize (if d.may = true then (0 : Int) else 2) = ee2 at *
      go_wp2_with fail
      refine PC2.out.mono ?_
      rintro e wd ⟨rfl, TD⟩
      have TD : Many lo [(true, pm, M), (false, pr, M), (true, pn, N), (false, ps, N), (true, pa, putC P1 d), (true, pb, putC P2 d), (false, pc, putC P1 d), (false, pd, putC P2 d), (true, pj, Q), (false, pw, Q)] w2 wd := TD
      rw [← HX.out.2.1.1, ← HX.out.2.1.2] at TD
      have HT6 := Lib.hid TD
      clear TD PC2 x0 x1 x2 HX HRS
      go_wp2_with fail
      go_roundw
      case rel => exact ⟨k + 1, rfl, by omega, HT6⟩
      case measure => simp [intOf]; omega
    · obtain rfl : k = n2 := by omega
      obtain ⟨Ea, hEa⟩ : ∃ Ea, putsC (lowC M key) more = Ea := ⟨_, rfl⟩
      obtain ⟨Eb, hEb⟩ : ∃ Eb, putsC (highC M key) more = Eb := ⟨_, rfl⟩
      have hEl : Ea.length ≤ 200 ∧ Eb.length ≤ 200 := by
        have s1 := puts_length more (lowC M key)
        have s2 := puts_length more (highC M key)
        have s3 := low_length M key
        have s4 := high_length M key
        rw [hEa] at s1
        rw [hEb] at s2
        have := HN.out.2
        have := HMN.out.1
        omega
      have HE := Lib.hid hEl
      have hT := HT.out
      rw [← HN.out.2, List.take_length, hEa, hEb] at hT
      have HT2 := Lib.hid hT
      clear HT hT hEl hEa hEb HF HR2 hlt
      go_wp2_with fail
      go_loopw [18] (fun i wq => ∃ (m : Nat) (J : List Ce), i = .int .i64 m ∧ m ≤ n ∧ J.length ≤ 200 + m ∧ Hid (Many lo [(true, pm, M), (false, pr, M), (true, pn, N), (false, ps, N), (true, pa, Ea), (true, pb, Eb), (false, pc, Ea), (false, pd, Eb), (true, pj, J), (false, pw, Q)] w2 wq)) (fun i _ => n - (intOf i).toNat)
      case atStart => exact ⟨0, Q, rfl, by omega, HQL.out, HT2⟩
      case round =>
        obtain ⟨m, J, rfl, hm, hJ, HT⟩ := hrel
        clear HT2
        by_cases hmn : m < n
        · have hml : m < l.length := by rw [HN.out.1]; exact hmn
          obtain ⟨b, o, rfl, hrow⟩ := HR.out (by rw [HN.out.1]; omega)
          obtain ⟨x0, x1, x2⟩ := (hrow.later (HLW.out _ HT.out.below) hrow.1).cells hml
          obtain ⟨d, hd⟩ : ∃ d, l.getD m Ce.zero = d := ⟨_, rfl⟩
          have hkd : d.k.length ≤ 1000 := hd ▸ HKL.out m hml
          rw [hd] at x0 x1 x2
          have hfd : FitsC (c77 d.k) := ⟨by show d.k.length ≤ _; omega, by show 0 ≤ _; omega, by show (77 : Int) ≤ _; omega⟩
          have PC := Lib.hid (HT.out.put 8 rfl (c77 d.k) (by omega) hfd)
          have HJ := Lib.hid (show (putC J (c77 d.k)).length ≤ 200 + (m + 1) by have := putC_length (c77 d.k) J; omega)
          unfold ceVal at PC
          clear hrow hd hkd hfd HT hJ
          go_wp2_with fail
          refine PC.out.mono ?_
          rintro e wa ⟨rfl, TA⟩
          have TA : Many lo [(true, pm, M), (false, pr, M), (true, pn, N), (false, ps, N), (true, pa, Ea), (true, pb, Eb), (false, pc, Ea), (false, pd, Eb), (true, pj, putC J (c77 d.k)), (false, pw, Q)] w2 wa := TA
          generalize (if (c77 d.k).may = true then (0 : Int) else 2) = ee at *
          have HTA := Lib.hid TA
          clear TA PC x0 x1 x2
          go_wp2_with fail
          go_roundw
          case rel => exact ⟨m + 1, _, rfl, by omega, HJ.out, HTA⟩
          case measure => simp [intOf]; omega
        · obtain rfl : m = n := by omega
          clear hmn hm
          have HM8 := HT
          clear HT HR HKL
          go_wp2_with fail
          obtain ⟨vr, sr, rr⟩ := HM8.out.rcell 1 rfl
          obtain ⟨vs, ss, rs⟩ := HM8.out.rcell 3 rfl
          obtain ⟨vc, sc, rc⟩ := HM8.out.rcell 6 rfl
          obtain ⟨vd, sd, rd⟩ := HM8.out.rcell 7 rfl
          have HSC := Lib.hid (fun W' (hb : Below wr.heap.size wr W') => And.intro (rr W' hb) (And.intro (rs W' hb) (And.intro (rc W' hb) (rd W' hb))))
          have HSL := Lib.hid (fun W' (hb : Below wr.heap.size wr W') => And.intro (sr.later hb) (And.intro (ss.later hb) (And.intro (sc.later hb) (sd.later hb))))
          have HAL := Lib.hid (fun W' (hb : Below wr.heap.size wr W') => And.intro ((HM8.out.later hb).all 0 rfl (by have := HMN.out.1; omega)) (And.intro ((HM8.out.later hb).all 2 rfl (by have := HMN.out.2.1; omega)) (And.intro ((HM8.out.later hb).all 4 rfl (by have := HE.out.1; omega)) ((HM8.out.later hb).all 5 rfl (by have := HE.out.2; omega)))))
          have HBL := Lib.hid (HLW.out _ HM8.out.below)
          clear sr rr ss rs sc rc sd rd HM8
          refine (wpIn_wide (n := 5)).1 ?_
          refine wpIn_region_lit_late (fun W' => W'.cell? ⟨pr, 0, none⟩ = some vr ∧ W'.cell? ⟨ps, 0, none⟩ = some vs ∧ W'.cell? ⟨pc, 0, none⟩ = some vc ∧ W'.cell? ⟨pd, 0, none⟩ = some vd) (fun _ => false) (k := 38) (listed := #[false, false, false, false, false, false, false, false, false, false, false, false, false, false, false, false, false, false, false, false, false, false, false, false, false, false, false, false, false, false, false, false, false, false, false, false, false, false]) (by kernel_rfl) (by kernel_rfl) (by kernel_rfl) ?_
          have bz := Below.drew (Below.refl wr.heap.size wr)
          obtain ⟨wz, hwz⟩ : ∃ wz, wr.drew = wz := ⟨_, rfl⟩
          rw [hwz] at bz ⊢
          clear hwz
          have hS := HSC.out _ bz
          have B0 := Lib.hid bz
          clear bz
          refine AnyS.get (i := 0) (some 130) ?_ rfl rfl (by kernel_rfl) (by kernel_rfl) (by kernel_rfl) (by kernel_rfl) (fun _ _ _ h => h) (Reads.yes (by kernel_rfl) ?_ (fun _ => rfl)) hS ?_
          rotate_left
          · intro w' hw'
            go_simp
            with_reducible rfl
          simp only [Act.put, List.setIfInBounds_toArray, List.set_cons_succ, List.set_cons_zero]
          refine AnyS.get (i := 2) (some 132) ?_ rfl rfl (by kernel_rfl) (by kernel_rfl) (by kernel_rfl) (by kernel_rfl) (fun _ _ _ h => h) (Reads.yes (by kernel_rfl) ?_ (fun _ => rfl)) hS ?_
          rotate_left
          · intro w' hw'
            go_simp
            with_reducible rfl
          simp only [Act.put, List.setIfInBounds_toArray, List.set_cons_succ, List.set_cons_zero]
          refine AnyS.get (i := 3) (some 133) ?_ rfl rfl (by kernel_rfl) (by kernel_rfl) (by kernel_rfl) (by kernel_rfl) (fun _ _ _ h => h) (Reads.yes (by kernel_rfl) ?_ (fun _ => rfl)) hS ?_
          rotate_left
          · intro w' hw'
            go_simp
            with_reducible rfl
          simp only [Act.put, List.setIfInBounds_toArray, List.set_cons_succ, List.set_cons_zero]
          refine AnyS.get (i := 4) (some 134) ?_ rfl rfl (by kernel_rfl) (by kernel_rfl) (by kernel_rfl) (by kernel_rfl) (fun _ _ _ h => h) (Reads.yes (by kernel_rfl) ?_ (fun _ => rfl)) hS ?_
          rotate_left
          · intro w' hw'
            go_simp
            with_reducible rfl
          simp only [Act.put, List.setIfInBounds_toArray, List.set_cons_succ, List.set_cons_zero]
          refine AnyS.get (i := 5) (some 135) ?_ rfl rfl (by kernel_rfl) (by kernel_rfl) (by kernel_rfl) (by kernel_rfl) (fun _ _ _ h => h) (Reads.yes (by kernel_rfl) ?_ (fun _ => rfl)) hS ?_
          rotate_left
          · intro w' hw'
            obtain ⟨t1, t2, t3, t4⟩ := hw'
            go_simp
            with_reducible rfl
          simp only [Act.put, List.setIfInBounds_toArray, List.set_cons_succ, List.set_cons_zero]
          clear hS
          refine AnyS.next (i := 1) rfl (by kernel_rfl) (by kernel_rfl) fun K' hK' => ?_
          refine want_yes (by kernel_rfl) ?_
          have ra := (HAL.out _ B0.out).1
          have RA := Lib.hid ra
          clear ra
          go_simp
          refine ⟨trivial, (callsIn_wide.2 RA.out).mono ?_⟩
          rintro e wa ⟨bb, va, rfl, sa⟩
          have B1 := Lib.hid (btP B0.out bb)
          have SA := Lib.hid sa
          refine hK' _ _ (fun _ => HSC.out _ B1.out) ?_
          clear hK' K' RA bb sa B0
          simp only [Act.put, List.setIfInBounds_toArray, List.set_cons_succ, List.set_cons_zero]
          refine AnyS.next (i := 6) rfl (by kernel_rfl) (by kernel_rfl) fun K' hK' => ?_
          refine want_yes (by kernel_rfl) ?_
          have sc := sl_two _ _ _ _ SA.out _ (HSL.out _ B1.out).1 rfl
          have SC := Lib.hid sc
          clear sc
          go_simp
          refine ⟨trivial, (callsIn_wide.2 SC.out).mono ?_⟩
          rintro e wb ⟨rfl, bb⟩
          have B2 := Lib.hid (btP B1.out bb)
          have hS := HSC.out _ B2.out
          refine hK' _ _ (fun _ => hS) ?_
          clear hK' K' SC SA bb B1
          simp only [Act.put, List.setIfInBounds_toArray, List.set_cons_succ, List.set_cons_zero]
          refine AnyS.get (i := 7) (some 137) ?_ rfl rfl (by kernel_rfl) (by kernel_rfl) (by kernel_rfl) (by kernel_rfl) (fun _ _ _ h => h) (Reads.yes (by kernel_rfl) ?_ (fun _ => rfl)) hS ?_
          rotate_left
          · intro w' hw'
            go_simp
            with_reducible rfl
          simp only [Act.put, List.setIfInBounds_toArray, List.set_cons_succ, List.set_cons_zero]
          refine AnyS.get (i := 8) (some 138) ?_ rfl rfl (by kernel_rfl) (by kernel_rfl) (by kernel_rfl) (by kernel_rfl) (fun _ _ _ h => h) (Reads.yes (by kernel_rfl) ?_ (fun _ => rfl)) hS ?_
          rotate_left
          · intro w' hw'
            go_simp
            with_reducible rfl
          simp only [Act.put, List.setIfInBounds_toArray, List.set_cons_succ, List.set_cons_zero]
          refine AnyS.get (i := 10) (some 140) ?_ rfl rfl (by kernel_rfl) (by kernel_rfl) (by kernel_rfl) (by kernel_rfl) (fun _ _ _ h => h) (Reads.yes (by kernel_rfl) ?_ (fun _ => rfl)) hS ?_
          rotate_left
          · intro w' hw'
            go_simp
            with_reducible rfl
          simp only [Act.put, List.setIfInBounds_toArray, List.set_cons_succ, List.set_cons_zero]
          refine AnyS.get (i := 11) (some 141) ?_ rfl rfl (by kernel_rfl) (by kernel_rfl) (by kernel_rfl) (by kernel_rfl) (fun _ _ _ h => h) (Reads.yes (by kernel_rfl) ?_ (fun _ => rfl)) hS ?_
          rotate_left
          · intro w' hw'
            go_simp
            with_reducible rfl
          simp only [Act.put, List.setIfInBounds_toArray, List.set_cons_succ, List.set_cons_zero]
          refine AnyS.get (i := 12) (some 142) ?_ rfl rfl (by kernel_rfl) (by kernel_rfl) (by kernel_rfl) (by kernel_rfl) (fun _ _ _ h => h) (Reads.yes (by kernel_rfl) ?_ (fun _ => rfl)) hS ?_
          rotate_left
          · intro w' hw'
            go_simp
            with_reducible rfl
          simp only [Act.put, List.setIfInBounds_toArray, List.set_cons_succ, List.set_cons_zero]
          refine AnyS.get (i := 13) (some 143) ?_ rfl rfl (by kernel_rfl) (by kernel_rfl) (by kernel_rfl) (by kernel_rfl) (fun _ _ _ h => h) (Reads.yes (by kernel_rfl) ?_ (fun _ => rfl)) hS ?_
          rotate_left
          · intro w' hw'
            obtain ⟨t1, t2, t3, t4⟩ := hw'
            go_simp
            with_reducible rfl
          simp only [Act.put, List.setIfInBounds_toArray, List.set_cons_succ, List.set_cons_zero]
          clear hS
          refine AnyS.next (i := 9) rfl (by kernel_rfl) (by kernel_rfl) fun K' hK' => ?_
          refine want_yes (by kernel_rfl) ?_
          have ra := (HAL.out _ B2.out).2.1
          have RA := Lib.hid ra
          clear ra
          go_simp
          refine ⟨trivial, (callsIn_wide.2 RA.out).mono ?_⟩
          rintro e wa ⟨bb, va, rfl, sa⟩
          have B3 := Lib.hid (btP B2.out bb)
          have SA := Lib.hid sa
          refine hK' _ _ (fun _ => HSC.out _ B3.out) ?_
          clear hK' K' RA bb sa B2
          simp only [Act.put, List.setIfInBounds_toArray, List.set_cons_succ, List.set_cons_zero]
          refine AnyS.next (i := 14) rfl (by kernel_rfl) (by kernel_rfl) fun K' hK' => ?_
          refine want_yes (by kernel_rfl) ?_
          have sc := sl_two _ _ _ _ SA.out _ (HSL.out _ B3.out).2.1 rfl
          have SC := Lib.hid sc
          clear sc
          go_simp
          refine ⟨trivial, (callsIn_wide.2 SC.out).mono ?_⟩
          rintro e wb ⟨rfl, bb⟩
          have B4 := Lib.hid (btP B3.out bb)
          have hS := HSC.out _ B4.out
          refine hK' _ _ (fun _ => hS) ?_
          clear hK' K' SC SA bb B3
          simp only [Act.put, List.setIfInBounds_toArray, List.set_cons_succ, List.set_cons_zero]
          refine AnyS.get (i := 15) (some 145) ?_ rfl rfl (by kernel_rfl) (by kernel_rfl) (by kernel_rfl) (by kernel_rfl) (fun _ _ _ h => h) (Reads.yes (by kernel_rfl) ?_ (fun _ => rfl)) hS ?_
          rotate_left
          · intro w' hw'
            go_simp
            with_reducible rfl
          simp only [Act.put, List.setIfInBounds_toArray, List.set_cons_succ, List.set_cons_zero]
          refine AnyS.get (i := 16) (some 146) ?_ rfl rfl (by kernel_rfl) (by kernel_rfl) (by kernel_rfl) (by kernel_rfl) (fun _ _ _ h => h) (Reads.yes (by kernel_rfl) ?_ (fun _ => rfl)) hS ?_
          rotate_left
          · intro w' hw'
            go_simp
            with_reducible rfl
          simp only [Act.put, List.setIfInBounds_toArray, List.set_cons_succ, List.set_cons_zero]
          refine AnyS.get (i := 17) (some 147) ?_ rfl rfl (by kernel_rfl) (by kernel_rfl) (by kernel_rfl) (by kernel_rfl) (fun _ _ _ h => h) (Reads.yes (by kernel_rfl) ?_ (fun _ => rfl)) hS ?_
          rotate_left
          · intro w' hw'
            go_simp
            with_reducible rfl
          simp only [Act.put, List.setIfInBounds_toArray, List.set_cons_succ, List.set_cons_zero]
          refine AnyS.get (i := 19) (some 149) ?_ rfl rfl (by kernel_rfl) (by kernel_rfl) (by kernel_rfl) (by kernel_rfl) (fun _ _ _ h => h) (Reads.yes (by kernel_rfl) ?_ (fun _ => rfl)) hS ?_
          rotate_left
          · intro w' hw'
            go_simp
            with_reducible rfl
          simp only [Act.put, List.setIfInBounds_toArray, List.set_cons_succ, List.set_cons_zero]
          refine AnyS.get (i := 20) (some 150) ?_ rfl rfl (by kernel_rfl) (by kernel_rfl) (by kernel_rfl) (by kernel_rfl) (fun _ _ _ h => h) (Reads.yes (by kernel_rfl) ?_ (fun _ => rfl)) hS ?_
          rotate_left
          · intro w' hw'
            go_simp
            with_reducible rfl
          simp only [Act.put, List.setIfInBounds_toArray, List.set_cons_succ, List.set_cons_zero]
          refine AnyS.get (i := 21) (some 151) ?_ rfl rfl (by kernel_rfl) (by kernel_rfl) (by kernel_rfl) (by kernel_rfl) (fun _ _ _ h => h) (Reads.yes (by kernel_rfl) ?_ (fun _ => rfl)) hS ?_
          rotate_left
          · intro w' hw'
            go_simp
            with_reducible rfl
          simp only [Act.put, List.setIfInBounds_toArray, List.set_cons_succ, List.set_cons_zero]
          refine AnyS.get (i := 22) (some 152) ?_ rfl rfl (by kernel_rfl) (by kernel_rfl) (by kernel_rfl) (by kernel_rfl) (fun _ _ _ h => h) (Reads.yes (by kernel_rfl) ?_ (fun _ => rfl)) hS ?_
          rotate_left
          · intro w' hw'
            obtain ⟨t1, t2, t3, t4⟩ := hw'
            go_simp
            with_reducible rfl
          simp only [Act.put, List.setIfInBounds_toArray, List.set_cons_succ, List.set_cons_zero]
          clear hS
          refine AnyS.next (i := 18) rfl (by kernel_rfl) (by kernel_rfl) fun K' hK' => ?_
          refine want_yes (by kernel_rfl) ?_
          have ra := (HAL.out _ B4.out).2.2.1
          have RA := Lib.hid ra
          clear ra
          go_simp
          refine ⟨trivial, (callsIn_wide.2 RA.out).mono ?_⟩
          rintro e wa ⟨bb, va, rfl, sa⟩
          have B5 := Lib.hid (btP B4.out bb)
          have SA := Lib.hid sa
          refine hK' _ _ (fun _ => HSC.out _ B5.out) ?_
          clear hK' K' RA bb sa B4
          simp only [Act.put, List.setIfInBounds_toArray, List.set_cons_succ, List.set_cons_zero]
          refine AnyS.next (i := 23) rfl (by kernel_rfl) (by kernel_rfl) fun K' hK' => ?_
          refine want_yes (by kernel_rfl) ?_
          have sc := sl_two _ _ _ _ SA.out _ (HSL.out _ B5.out).2.2.1 rfl
          have SC := Lib.hid sc
          clear sc
          go_simp
          refine ⟨trivial, (callsIn_wide.2 SC.out).mono ?_⟩
          rintro e wb ⟨rfl, bb⟩
          have B6 := Lib.hid (btP B5.out bb)
          have hS := HSC.out _ B6.out
          refine hK' _ _ (fun _ => hS) ?_
          clear hK' K' SC SA bb B5
          simp only [Act.put, List.setIfInBounds_toArray, List.set_cons_succ, List.set_cons_zero]
          refine AnyS.get (i := 24) (some 154) ?_ rfl rfl (by kernel_rfl) (by kernel_rfl) (by kernel_rfl) (by kernel_rfl) (fun _ _ _ h => h) (Reads.yes (by kernel_rfl) ?_ (fun _ => rfl)) hS ?_
          rotate_left
          · intro w' hw'
            go_simp
            with_reducible rfl
          simp only [Act.put, List.setIfInBounds_toArray, List.set_cons_succ, List.set_cons_zero]
          refine AnyS.get (i := 25) (some 155) ?_ rfl rfl (by kernel_rfl) (by kernel_rfl) (by kernel_rfl) (by kernel_rfl) (fun _ _ _ h => h) (Reads.yes (by kernel_rfl) ?_ (fun _ => rfl)) hS ?_
          rotate_left
          · intro w' hw'
            go_simp
            with_reducible rfl
          simp only [Act.put, List.setIfInBounds_toArray, List.set_cons_succ, List.set_cons_zero]
          refine AnyS.get (i := 26) (some 156) ?_ rfl rfl (by kernel_rfl) (by kernel_rfl) (by kernel_rfl) (by kernel_rfl) (fun _ _ _ h => h) (Reads.yes (by kernel_rfl) ?_ (fun _ => rfl)) hS ?_
          rotate_left
          · intro w' hw'
            go_simp
            with_reducible rfl
          simp only [Act.put, List.setIfInBounds_toArray, List.set_cons_succ, List.set_cons_zero]
          refine AnyS.get (i := 28) (some 158) ?_ rfl rfl (by kernel_rfl) (by kernel_rfl) (by kernel_rfl) (by kernel_rfl) (fun _ _ _ h => h) (Reads.yes (by kernel_rfl) ?_ (fun _ => rfl)) hS ?_
          rotate_left
          · intro w' hw'
            go_simp
            with_reducible rfl
          simp only [Act.put, List.setIfInBounds_toArray, List.set_cons_succ, List.set_cons_zero]
          refine AnyS.get (i := 29) (some 159) ?_ rfl rfl (by kernel_rfl) (by kernel_rfl) (by kernel_rfl) (by kernel_rfl) (fun _ _ _ h => h) (Reads.yes (by kernel_rfl) ?_ (fun _ => rfl)) hS ?_
          rotate_left
          · intro w' hw'
            go_simp
            with_reducible rfl
          simp only [Act.put, List.setIfInBounds_toArray, List.set_cons_succ, List.set_cons_zero]
          refine AnyS.get (i := 30) (some 160) ?_ rfl rfl (by kernel_rfl) (by kernel_rfl) (by kernel_rfl) (by kernel_rfl) (fun _ _ _ h => h) (Reads.yes (by kernel_rfl) ?_ (fun _ => rfl)) hS ?_
          rotate_left
          · intro w' hw'
            go_simp
            with_reducible rfl
          simp only [Act.put, List.setIfInBounds_toArray, List.set_cons_succ, List.set_cons_zero]
          refine AnyS.get (i := 31) (some 161) ?_ rfl rfl (by kernel_rfl) (by kernel_rfl) (by kernel_rfl) (by kernel_rfl) (fun _ _ _ h => h) (Reads.yes (by kernel_rfl) ?_ (fun _ => rfl)) hS ?_
          rotate_left
          · intro w' hw'
            obtain ⟨t1, t2, t3, t4⟩ := hw'
            go_simp
            with_reducible rfl
          simp only [Act.put, List.setIfInBounds_toArray, List.set_cons_succ, List.set_cons_zero]
          clear hS
          refine AnyS.next (i := 27) rfl (by kernel_rfl) (by kernel_rfl) fun K' hK' => ?_
          refine want_yes (by kernel_rfl) ?_
          have ra := (HAL.out _ B6.out).2.2.2
          have RA := Lib.hid ra
          clear ra
          go_simp
          refine ⟨trivial, (callsIn_wide.2 RA.out).mono ?_⟩
          rintro e wa ⟨bb, va, rfl, sa⟩
          have B7 := Lib.hid (btP B6.out bb)
          have SA := Lib.hid sa
          refine hK' _ _ (fun _ => HSC.out _ B7.out) ?_
          clear hK' K' RA bb sa B6
          simp only [Act.put, List.setIfInBounds_toArray, List.set_cons_succ, List.set_cons_zero]
          refine AnyS.next (i := 32) rfl (by kernel_rfl) (by kernel_rfl) fun K' hK' => ?_
          refine want_yes (by kernel_rfl) ?_
          have sc := sl_two _ _ _ _ SA.out _ (HSL.out _ B7.out).2.2.2 rfl
          have SC := Lib.hid sc
          clear sc
          go_simp
          refine ⟨trivial, (callsIn_wide.2 SC.out).mono ?_⟩
          rintro e wb ⟨rfl, bb⟩
          have B8 := Lib.hid (btP B7.out bb)
          have hS := HSC.out _ B8.out
          refine hK' _ _ (fun _ => hS) ?_
          clear hK' K' SC SA bb B7
          simp only [Act.put, List.setIfInBounds_toArray, List.set_cons_succ, List.set_cons_zero]
          refine AnyS.get (i := 33) (some 163) ?_ rfl rfl (by kernel_rfl) (by kernel_rfl) (by kernel_rfl) (by kernel_rfl) (fun _ _ _ h => h) (Reads.yes (by kernel_rfl) ?_ (fun _ => rfl)) hS ?_
          rotate_left
          · intro w' hw'
            go_simp
            with_reducible rfl
          simp only [Act.put, List.setIfInBounds_toArray, List.set_cons_succ, List.set_cons_zero]
          refine AnyS.get (i := 34) (some 164) ?_ rfl rfl (by kernel_rfl) (by kernel_rfl) (by kernel_rfl) (by kernel_rfl) (fun _ _ _ h => h) (Reads.yes (by kernel_rfl) ?_ (fun _ => rfl)) hS ?_
          rotate_left
          · intro w' hw'
            go_simp
            with_reducible rfl
          simp only [Act.put, List.setIfInBounds_toArray, List.set_cons_succ, List.set_cons_zero]
          clear hS
          refine AnyS.next (i := 35) rfl (by kernel_rfl) (by kernel_rfl) fun K' hK' => ?_
          refine want_yes (by kernel_rfl) ?_
          go_simp
          refine ⟨trivial, (callsIn_wide.2 (mdoes_true _)).mono ?_⟩
          rintro e wc ⟨rfl, bb⟩
          have B9 := Lib.hid (btP B8.out bb)
          have hS := HSC.out _ B9.out
          refine hK' _ _ (fun _ => hS) ?_
          clear hK' K' bb B8
          simp only [Act.put, List.setIfInBounds_toArray, List.set_cons_succ, List.set_cons_zero]
          refine AnyS.get (i := 36) (some 166) ?_ rfl rfl (by kernel_rfl) (by kernel_rfl) (by kernel_rfl) (by kernel_rfl) (fun _ _ _ h => h) (Reads.yes (by kernel_rfl) ?_ (fun _ => rfl)) hS ?_
          rotate_left
          · intro w' hw'
            go_simp
            with_reducible rfl
          simp only [Act.put, List.setIfInBounds_toArray, List.set_cons_succ, List.set_cons_zero]
          refine AnyS.get (i := 37) (some 6) ?_ rfl rfl (by kernel_rfl) (by kernel_rfl) (by kernel_rfl) (by kernel_rfl) (fun _ _ _ h => h) (Reads.yes (by kernel_rfl) ?_ (fun _ => rfl)) hS ?_
          rotate_left
          · intro w' hw'
            go_simp
            with_reducible rfl
          simp only [Act.put, List.setIfInBounds_toArray, List.set_cons_succ, List.set_cons_zero]
          refine AnyS.done (by kernel_rfl) ?_ _
          clear hS
          go_wp2_with fail
          go_ret
          exact ⟨rfl, HBL.out.trans (B9.out.mono HBL.out.size)⟩
end Go.Proofs.Ytpcapifjbhaeeaa
