/- The reference's Middle. -/
import Derived.Test.YtoglloafpnopaaaGreatTlU
import Derived.Test.YtoglloafpnopaaaGreatTlX
set_option linter.unusedSimpArgs false
set_option linter.unusedVariables false
namespace Go.Proofs.YtoglloafpnopaaaGreat
set_option maxRecDepth 16000
open Go.RowKit Spoor
set_option maxRecDepth 100000 in
set_option maxHeartbeats 4000000 in
theorem refMiddle_any (F T : List UInt8) (A : Option Addr) (n c : Nat) (Rs : List (List Ce)) (w : World) (h : RowsIn (.slice A n c) Rs w) (hR : ∀ r ∈ Rs, RowOk r) (hfl : Rs.flatten.length ≤ 50000) :
 Calls Tryz.prog 24 #[rvVal F T A n c] w fun e w' => e = .returned (midV (midR F T Rs)) ∧ Below w.heap.size w w' := by
 obtain ⟨xb, W0, hxb, hW0, hx0, nb0, sz0⟩ := new_refv F T A n c w
 have CR := refRange19_any F T [] [] A n c Rs W0 (h.later nb0) hfl
 have hrise : ∀ r ∈ Rs, Rise r := fun r hr => (hR r hr).rise
 have hfrom := fun (i : Nat) (h0 : 0 < i) (hi : i < (midR F T Rs).length) => midR_from (F := F) (T := T) hrise h0 hi
 have hkl : ∀ c ∈ tabR F T Rs [] [], c.k.length ≤ 140737488351232 := fun c hc => by
  obtain ⟨r, hr, hcr⟩ := tabR_sub hrise hc
  exact ((hR r hr).2.1 c hcr).1
 have hbig : (tabR F T Rs [] []).length ≤ 50000 := by
  have h1 := tabR_length F T Rs [] []
  rw [← List.length_flatten] at h1
  omega
 obtain ⟨MK, hMK⟩ : ∃ MK, midR F T Rs = MK := ⟨_, rfl⟩
 have hml := midR_length F T Rs
 have hmr : putsK [] (rowsK (tabR F T Rs [] [])) = MK := hMK
 rw [hMK] at hfrom hml ⊢
 obtain ⟨res, hres⟩ : ∃ res, tabR F T Rs [] [] = res := ⟨_, rfl⟩
 rw [hres] at CR hkl hml hmr hbig
 obtain ⟨N, hN⟩ : ∃ N, res.length = N := ⟨_, rfl⟩
 rw [hN] at CR hbig hml
 have CRH := Lib.hid CR
 have HB := Lib.hid (And.intro nb0 (And.intro hx0 (And.intro hN (And.intro hkl (And.intro hmr (And.intro hml hfrom))))))
 obtain ⟨x0, x1, x2⟩ := ref_cells hx0
 unfold rvVal at CRH ⊢
 clear CR h hR nb0 hx0 hrise hfrom hkl hMK hml hmr hres hN
 go_enter Tryz.func24, Tryz.ntmps24
 go_wp2_with fail
 refine CRH.out.mono ?_
 rintro e w2 ⟨b2, u, rfl, own⟩
 have s2 := slAt_own (by rw [HB.out.2.2.1]; exact own)
 obtain ⟨A2, c2, rfl⟩ := own_slice own
 have HS := Lib.hid (And.intro s2 (And.intro (btP HB.out.1 b2) ((b2.block xb (Go.ltA HB.out.2.1)).trans HB.out.2.1)))
 clear b2 own CRH s2 x0 x1 x2 hW0
 go_wp2_with fail
 go_loopw [4, 6] (fun sv iv wr => ∃ (k : Nat) (ov : Value), ov = sv ∧ k ≤ N ∧ iv = .int .i64 k ∧ Hid (StAt sv (putsK [] (rowsK (res.take k))) wr ∧ Below w2.heap.size w2 wr)) (fun _ iv _ => N - (intOf iv).toNat)
 case atStart => exact ⟨0, _, rfl, by omega, rfl, Lib.hid ⟨.inl ⟨rfl, rfl⟩, Below.refl _ _⟩⟩
 case round =>
  obtain ⟨k, ov, rfl, hk, rfl, HI⟩ := hrel
  by_cases hkn : k < N
  · have hkl : k < res.length := by rw [HB.out.2.2.1]; exact hkn
    have hst := rowsK_snoc hkl
    obtain ⟨bb, o, rfl, hrw⟩ := HS.out.1.row (by rw [HB.out.2.2.1]; omega)
    have hrw := hrw.later HI.out.2 hrw.1
    obtain ⟨z0, z1, z2⟩ := hrw.cells hkl
    obtain ⟨cc, hcc⟩ : ∃ cc, res.getD k Ce.zero = cc := ⟨_, rfl⟩
    have hcm : cc ∈ res := by rw [← hcc]; simp [List.getD, hkl]
    rw [hcc] at hst z0 z1 z2
    have CP := fun W => refRow_any cc.k (HB.out.2.2.2.1 cc hcm) W
    obtain ⟨rr, hrr⟩ : ∃ rr, rowK cc.k = rr := ⟨_, rfl⟩
    rw [hrr] at hst CP
    obtain ⟨mm, hmm⟩ : ∃ mm, rowsK (res.take k) = mm := ⟨_, rfl⟩
    rw [hmm] at hst HI
    have hml : (putsK [] mm).length ≤ 90000 := by
     have h1 := putsK_length mm []
     have h2 := rowsK_length (res.take k)
     have h3 := List.length_take_le k res
     rw [hmm] at h2
     simp only [List.length_nil, Nat.zero_add] at h1
     omega
    have HCP := Lib.hid CP
    have hki : (k : Int) < (N : Int) := by omega
    have hbl : bb < wr.heap.size := hrw.1
    have HST := Lib.hid (And.intro hst hml)
    clear hrw hcc hcm CP hrr hmm hst hml z1 z2
    go_wp2_with fail
    refine (HCP.out _).mono ?_
    rintro e w5 ⟨rfl, b5⟩
    have HI2 := Lib.hid (And.intro (HI.out.1.later b5) (HI.out.2.trans (b5.mono HI.out.2.size)))
    have hst := HST.out.1
    clear b5 HCP z0
    by_cases hr : rr = []
    · have e1 : (rr == ([] : List UInt8)) = true := by simp [hr]
      rw [if_pos hr, List.append_nil] at hst
      have HF := Lib.hid hst
      clear hr hst
      go_wp2_with fail
      go_roundw
      case rel => exact ⟨k + 1, ov, rfl, by omega, by simp <;> omega, Lib.hid (by rw [HF.out]; exact HI2.out)⟩
      case measure => simp [intOf]; omega
    · have e1 : (rr == ([] : List UInt8)) = false := by simpa using hr
      rw [if_neg hr] at hst
      have CU := putS_any ov _ rr w5 HI2.out.1 HST.out.2
      rw [← putsK_snoc, ← hst] at CU
      have HCU := Lib.hid CU
      clear hr hst CU
      go_wp2_with fail
      refine HCU.out.mono ?_
      rintro e w6 ⟨v', rfl, hst6, b6⟩
      have HF := Lib.hid (And.intro hst6 (HI2.out.2.trans (b6.mono HI2.out.2.size)))
      clear hst6 b6 HCU
      go_wp2_with fail
      go_roundw
      case rel => exact ⟨k + 1, v', rfl, by omega, by simp <;> omega, HF⟩
      case measure => simp [intOf]; omega
  · obtain rfl : k = N := by omega
    have hki : ¬ (k : Int) < (k : Int) := by omega
    have htk : res.take k = res := List.take_of_length_le (by rw [HB.out.2.2.1]; exact Nat.le_refl _)
    rw [htk, HB.out.2.2.2.2.1] at HI
    obtain ⟨A3, c3, rfl, hm3⟩ := HI.out.1.val
    obtain ⟨m, hm⟩ : ∃ m, MK.length = m := ⟨_, rfl⟩
    have HF := Lib.hid (And.intro HI.out.1 HI.out.2)
    rw [hm] at HF hm3 ⊢
    have HM := Lib.hid hm
    unfold maxLen at hm3
    have hx3 := (HF.out.2.block xb (Go.ltA HS.out.2.2)).trans HS.out.2.2
    obtain ⟨x0, x1, x2⟩ := ref_cells hx3
    clear HI hm htk hx3
    by_cases hm2 : m < 2
    · have hmi : (m : Int) < 2 := by omega
      have hmv : midV MK = .tuple #[.string ⟨#[]⟩, .bool false] := by unfold midV; rw [HM.out, if_pos hm2]
      have HMV := Lib.hid hmv
      clear hmv
      have hdm : decide ((m : Int) < 2) = true := decide_eq_true hmi
      go_upto_region 9 with fail
      go_quiet (fail)
      have HE := Lib.hid (fun k => btP HS.out.2.1 (HF.out.2.trans ((_root_.Go.below_drewN (Below.refl _ _) k).mono HF.out.2.size)))
      clear x0 x1 x2
      go_wp2_with fail
      refine bodyPost_ret (v := .tuple #[.string ⟨#[]⟩, .bool false]) (by simp [results, Tryz.results24, go_sem, *]) rfl ?_
      exact ⟨by rw [HMV.out], by first | exact HE.out _ | (rw [← hxb]; exact HE.out _)⟩
    · have hmi : ¬ (m : Int) < 2 := by omega
      have hdm : decide ((m : Int) < 2) = false := decide_eq_false hmi
      obtain ⟨h, hh⟩ : ∃ h, m / 2 = h := ⟨_, rfl⟩
      have hhm : h < m := by omega
      have hh0 : 0 < h := by omega
      have hd1 : (m : Int) / 2 = (h : Int) := by omega
      have hd2 : Int.tdiv (m : Int) 2 = (h : Int) := by rw [Int.tdiv_eq_ediv_of_nonneg (by omega)]; omega
      obtain ⟨b5, o5, rfl, hb5, hc5⟩ := HF.out.1.at' (i := h) (by rw [HM.out]; exact hhm)
      have hmv : midV MK = .tuple #[.string ⟨(MK.getD h []).toArray⟩, .bool true] := by unfold midV; rw [HM.out, if_neg hm2, hh]
      have hfm := HB.out.2.2.2.2.2.2 h hh0 (by rw [HM.out]; exact hhm)
      obtain ⟨kk, hkk⟩ : ∃ kk, MK.getD h [] = kk := ⟨_, rfl⟩
      rw [hkk] at hc5 hmv hfm
      have HMV := Lib.hid hmv
      have hhi : (h : Int) < (m : Int) := by omega
      have e1 : Op.bytesLess kk F = false := bl_asymm hfm
      have e3 : ¬ kk = F := fun e => by rw [e, bl_irrefl] at hfm; cases hfm
      have e2 : (kk == F) = false := by simpa using e3
      clear hmv hkk hh
      go_upto_region 9 with fail
      go_quiet (fail)
      have HE := Lib.hid (fun k => btP HS.out.2.1 (HF.out.2.trans ((_root_.Go.below_drewN (Below.refl _ _) k).mono HF.out.2.size)))
      have hb6 := hb5
      have hc6 := fun k => (Below.cell (_root_.Go.below_drewN (Below.refl _ _) k : Below _ _ _) (p := ⟨b5, o5 + h, none⟩) hb5).trans hc5
      clear x0 x1 x2
      go_wp2_with fail
      refine bodyPost_ret (v := .tuple #[.string ⟨kk.toArray⟩, .bool true]) (by simp [results, Tryz.results24, go_sem, *]) rfl ?_
      exact ⟨by rw [HMV.out], by first | exact HE.out _ | (rw [← hxb]; exact HE.out _)⟩
end Go.Proofs.YtoglloafpnopaaaGreat
