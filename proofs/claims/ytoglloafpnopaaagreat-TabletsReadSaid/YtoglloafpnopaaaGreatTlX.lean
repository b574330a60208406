/- tablets' Middle. -/
import Derived.Test.YtoglloafpnopaaaGreatTlL
import Derived.Test.YtoglloafpnopaaaGreatTlU
import Derived.Test.YtoglloafpnopaaaGreatKK1
import Derived.Test.YtoglloafpnopaaaGreatTl3
import Derived.Laws.IdiomCopy
set_option linter.unusedSimpArgs false
set_option linter.unusedVariables false
namespace Go.Proofs.YtoglloafpnopaaaGreat
set_option maxRecDepth 16000
open Go.RowKit Spoor
theorem strs_of (K : List (List UInt8)) : Lib.strsOf (fun i => ⟨(K.getD i []).toArray⟩) K.length = K := by
 unfold Lib.strsOf
 apply List.ext_getElem
 · simp
 · intro i h1 h2
   simp [List.getD, show i < K.length from h2, ByteArray.toList_mk]
theorem below_setCellsK {B : Nat} {a : World} (b : Nat) (hb : B ≤ b) : ∀ (vs : List Value) (o : Nat) {w : World}, Below B a w → Below B a (w.setCells b o vs)
 | [], _, _, h => h
 | v :: vs, o, _, h => below_setCellsK b hb vs (o + 1) (below_set h hb o v)
theorem compactS_any (u : Value) (K : List (List UInt8)) (B : Nat) (w : World) (own : w.ownsRow B 9 1 u K.length (strs K)) (hB : B ≤ w.heap.size) (hnf : NoFall K) (hbig : K.length ≤ 100000) :
 Calls Tryz.prog 57 #[u] w fun e w' => Below B w w' ∧ ∃ v, e = .returned v ∧ StAt v (putsK [] K) w' := by
 by_cases h0 : K = []
 · subst h0
   rcases own.2 with ⟨rfl, -⟩ | ⟨g, cap, cur, rfl, hg, hgb, hn, hm, hs, ht⟩
   · exact (Tryz.slices_Compact_string_empty none 0 w).mono fun e w' ⟨h1, h2⟩ => ⟨by rw [h2]; exact Below.refl _ _, _, h1, .inl ⟨rfl, rfl⟩⟩
   · refine (Tryz.slices_Compact_string_empty (some ⟨g, 0, none⟩) cap w).mono fun e w' ⟨h1, h2⟩ => ⟨by rw [h2]; exact Below.refl _ _, _, h1, .inr ⟨g, 0, cap, rfl, Nat.zero_le _, hm, ?_, fun i hi => ?_⟩⟩
     · rw [h2]; exact (Go.ltA hgb)
     · exact absurd hi (Nat.not_lt_zero _)
 · have hl0 : 0 < K.length := by cases K with
    | nil => exact absurd rfl h0
    | cons a l => simp
   rcases id own.2 with ⟨-, e⟩ | ⟨g, cap, cur, rfl, hg, hgb, hn, hm, hs, ht⟩
   · omega
   · have hcell : ∀ i, i < K.length → w.cell? ⟨g, 0 + i, none⟩ = some (.string ((fun i => (⟨(K.getD i []).toArray⟩ : ByteArray)) i)) := fun i hi => by
      rw [Nat.zero_add, own.cellAt i (by omega)]
      simp [strs, List.getD, hi]
     have hfz : ∀ j, j < K.length → w.frozen? ⟨g, 0 + j, none⟩ = false := fun j _ => by simp [World.frozen?, hgb]
     refine (Tryz.slices_Compact_string_cells g 0 K.length cap (fun i => ⟨(K.getD i []).toArray⟩) w (by omega) hn hcell hfz).mono fun e w' ⟨h1, q, h2⟩ => ?_
     rw [strs_of, compact_puts hnf] at h1 h2
     obtain ⟨P, hP⟩ : ∃ P, putsK [] K = P := ⟨_, rfl⟩
     have hPl : P.length ≤ K.length := by
      have := putsK_length K []
      rw [hP] at this
      simpa using this
     rw [hP] at h1 h2 ⊢
     have hsz : g < (w.drewN q).heap.size := by rw [World.heap_drewN]; exact (Go.ltA hgb)
     have hb : Below B w w' := by
      rw [h2]
      exact below_setCellsK g hg _ _ (_root_.Go.below_drewN (Below.refl _ _) _)
     refine ⟨hb, _, h1, .inr ⟨g, 0, cap, rfl, by omega, hm, Nat.lt_of_lt_of_le (Go.ltA hgb) hb.size, fun i hi => ?_⟩⟩
     have hin := World.cell?_setCells_in g ((P ++ List.replicate (K.length - P.length) []).map encStr) 0 (w.drewN q) (fun j hj => by
      rw [List.length_map, List.length_append, List.length_replicate] at hj
      rw [World.cell?_drewN, hcell j (by omega)]
      rfl) i (by rw [List.length_map, List.length_append]; omega)
     rw [h2, hin, List.getElem_map, List.getElem_append_left hi]
     simp [encStr, List.getD, hi]
def midV (K : List (List UInt8)) : Value := if K.length < 2 then .tuple #[.string ⟨#[]⟩, .bool false] else .tuple #[.string ⟨(K.getD (K.length / 2) []).toArray⟩, .bool true]
set_option maxRecDepth 100000 in
set_option maxHeartbeats 4000000 in
theorem tabMiddle_any (F T : List UInt8) (M TA : Option Addr) (n cap : Nat) (L : List Ce) (Ts : List (List Ce)) (w : World) (hM : MemPtr M L w) (hT : TabsAt TA n cap Ts w) (hn : n ≤ 10) (hR : ∀ r ∈ L :: Ts, RowOk r) (hbig : (tabR F T (L :: Ts) [] []).length ≤ 50000) :
 Calls Tryz.prog 23 #[tabVal F T M TA n cap] w fun e w' => e = .returned (midV (midR F T (L :: Ts))) ∧ Below w.heap.size w w' := by
 obtain ⟨W, q, hW, hq, hqb, nb, c0, c1, c2, c3, cf⟩ := tab_box F T M TA n cap w
 have CR := tabRange F T F T M TA n cap L Ts W (hM.later nb) (hT.later nb) hn hR
 rw [tabR_full] at CR
 have hrise : ∀ r ∈ L :: Ts, Rise r := fun r hr => (hR r hr).rise
 have hfrom := fun (i : Nat) (h0 : 0 < i) (hi : i < (midR F T (L :: Ts)).length) => midR_from (F := F) (T := T) hrise h0 hi
 have hnf := rowsK_up (tabR_up hrise [] [] (F := F) (T := T))
 have hkl : ∀ c ∈ tabR F T (L :: Ts) [] [], c.k.length ≤ 140737488351232 := fun c hc => by
  obtain ⟨r, hr, hcr⟩ := tabR_sub hrise hc
  exact ((hR r hr).2.1 c hcr).1
 obtain ⟨MK, hMK⟩ : ∃ MK, midR F T (L :: Ts) = MK := ⟨_, rfl⟩
 have hml := midR_length F T (L :: Ts)
 have hmr : putsK [] (rowsK (tabR F T (L :: Ts) [] [])) = MK := hMK
 rw [hMK] at hfrom hml ⊢
 obtain ⟨res, hres⟩ : ∃ res, tabR F T (L :: Ts) [] [] = res := ⟨_, rfl⟩
 rw [hres] at CR hnf hkl hml hmr hbig
 obtain ⟨N, hN⟩ : ∃ N, res.length = N := ⟨_, rfl⟩
 rw [hN] at CR hbig hml
 have CRH := Lib.hid CR
 have HB := Lib.hid (And.intro nb (And.intro hqb (And.intro hN (And.intro hnf (And.intro hkl (And.intro hmr (And.intro hml hfrom)))))))
 unfold tabVal at CRH ⊢
 clear CR hT hM hR nb hn hqb hrise hfrom hnf hkl hMK hml hmr hres hN
 go_enter Tryz.func23, Tryz.ntmps23
 go_wp2_with fail
 refine CRH.out.mono ?_
 rintro e w2 ⟨b2, u, rfl, own⟩
 have s2 := slAt_own (by rw [HB.out.2.2.1]; exact own)
 have q2 := (b2.block q (Go.ltA HB.out.2.1)).trans HB.out.2.1
 obtain ⟨A, c, rfl⟩ := own_slice own
 have HS := Lib.hid (And.intro s2 (And.intro (btP HB.out.1 b2) q2))
 clear b2 own CRH s2 q2 c0 c1 c2 c3 cf hW
 go_wp2_with fail
 go_loopw [6, 24] (fun sv iv wr => ∃ k : Nat, k ≤ N ∧ iv = .int .i64 k ∧ (∃ An cn, sv = .slice An (rowsK (res.take k)).length cn) ∧ Hid (wr.ownsRow w2.heap.size 9 1 sv (rowsK (res.take k)).length (strs (rowsK (res.take k))) ∧ Below w2.heap.size w2 wr)) (fun _ iv _ => N - (intOf iv).toNat)
 case atStart => exact ⟨0, by omega, rfl, ⟨none, 0, rfl⟩, Lib.hid ⟨World.ownsRow_nil _ _ _ _, Below.refl _ _⟩⟩
 case round =>
  obtain ⟨k, hk, rfl, ⟨An, cn, rfl⟩, HI⟩ := hrel
  by_cases hkn : k < N
  · have hkl : k < res.length := by rw [HB.out.2.2.1]; exact hkn
    have hst := rowsK_snoc hkl
    obtain ⟨bb, o, rfl, hrw⟩ := HS.out.1.row (by rw [HB.out.2.2.1]; omega)
    have hrw := hrw.later HI.out.2 hrw.1
    obtain ⟨x0, x1, x2⟩ := hrw.cells hkl
    obtain ⟨cc, hcc⟩ : ∃ cc, res.getD k Ce.zero = cc := ⟨_, rfl⟩
    have hcm : cc ∈ res := by rw [← hcc]; simp [List.getD, hkl]
    rw [hcc] at hst x0 x1 x2
    have CP := fun W => row_any cc.k (HB.out.2.2.2.2.1 cc hcm) W
    obtain ⟨rr, hrr⟩ : ∃ rr, rowK cc.k = rr := ⟨_, rfl⟩
    rw [hrr] at hst CP
    obtain ⟨mm, hmm⟩ : ∃ mm, rowsK (res.take k) = mm := ⟨_, rfl⟩
    rw [hmm] at hst HI ⊢
    have hml : mm.length ≤ 50000 := by rw [← hmm]; refine Nat.le_trans (rowsK_length _) (Nat.le_trans (List.length_take_le _ _) ?_); omega
    obtain ⟨bq, uu, V, hbq, huu, ⟨p0, p1, p2⟩, ⟨pf0, pf1, pf2⟩, hV, hz, nV, szV⟩ := cell_put wr cc
    obtain ⟨d0, d1, d2⟩ := cells3 hz
    have HV := Lib.hid (And.intro (own_lat HI.out.1 nV) (HI.out.2.trans (nV.mono HI.out.2.size)))
    have HCP := Lib.hid CP
    have hki : (k : Int) < (N : Int) := by omega
    have hbl : bb < wr.heap.size := hrw.1
    have HST := Lib.hid hst
    clear hrw hcc hcm CP hrr hmm hz nV szV HI hst
    go_wp2_with fail
    refine (HCP.out _).mono ?_
    rintro e w5 ⟨rfl, b5⟩
    have HI2 := Lib.hid (And.intro (own_lat HV.out.1 b5) (HV.out.2.trans (b5.mono HV.out.2.size)))
    clear b5 HCP HV d0 d1 d2
    have hst := HST.out
    clear HST
    by_cases hr : rr = []
    · have e1 : (rr == ([] : List UInt8)) = true := by simp [hr]
      rw [if_pos hr, List.append_nil] at hst
      clear hr
      have HF := Lib.hid hst
      clear hst
      go_wp2_with fail
      go_roundw
      case rel => exact ⟨k + 1, by omega, by simp <;> omega, ⟨An, cn, by rw [HF.out]⟩, Lib.hid (by rw [HF.out]; exact HI2.out)⟩
      case measure => simp [intOf]; omega
    · have e1 : (rr == ([] : List UInt8)) = false := by simpa using hr
      rw [if_neg hr] at hst
      clear hr
      have nbx := (Below.refl w5.heap.size w5).alloc (Nat.le_refl _) (.cells #[.string ⟨rr.toArray⟩] 9)
      have sx := one_st rr w5
      have hb2 := HI2.out.2.size
      obtain ⟨v7, w7, run7, own7, b7⟩ := run_append_st (l := mm) (m := [rr]) (own_lat HI2.out.1 nbx) (Nat.le_trans hb2 nbx.size) sx (by simp; omega)
      rw [← hst] at own7
      have B7 := HI2.out.2.trans ((nbx.mono hb2).trans b7)
      obtain ⟨A7, c7, rfl⟩ := own_slice own7
      have HF := Lib.hid (And.intro own7 B7)
      have R7 := Lib.hid run7
      clear hst nbx sx run7 own7 B7 b7
      go_wp2_with (at_builtin; refine wpList_append_runE _ rfl _ _ 68 68 rfl _ _ rfl rfl R7.out ?_)
      go_roundw
      case rel => exact ⟨k + 1, by omega, by simp <;> omega, ⟨A7, c7, rfl⟩, Lib.hid HF.out⟩
      case measure => simp [intOf]; omega
  · obtain rfl : k = N := by omega
    have hki : ¬ (k : Int) < (k : Int) := by omega
    have htk : res.take k = res := List.take_of_length_le (by rw [HB.out.2.2.1]; exact Nat.le_refl _)
    rw [htk] at HI ⊢
    have CC := compactS_any _ (rowsK res) w2.heap.size wr HI.out.1 HI.out.2.size HB.out.2.2.2.1 (by have := rowsK_length res; rw [HB.out.2.2.1] at this; omega)
    rw [HB.out.2.2.2.2.2.1] at CC
    have HCC := Lib.hid CC
    have HI2 := Lib.hid HI.out.2
    clear CC HI htk
    go_wp2_with fail
    refine HCC.out.mono ?_
    rintro e w3 ⟨b3, v, rfl, hst⟩
    obtain ⟨A3, c3, rfl, hm3⟩ := hst.val
    have HF := Lib.hid (And.intro hst (HI2.out.trans b3))
    obtain ⟨m, hm⟩ : ∃ m, MK.length = m := ⟨_, rfl⟩
    rw [hm] at HF hm3 ⊢
    have HM := Lib.hid hm
    unfold maxLen at hm3
    clear HCC hst b3 hm HI2
    by_cases hm2 : m < 2
    · have hmi : (m : Int) < 2 := by omega
      have hmv : midV MK = .tuple #[.string ⟨#[]⟩, .bool false] := by unfold midV; rw [HM.out, if_pos hm2]
      have HMV := Lib.hid hmv
      clear hmv
      go_wp2_with fail
      refine bodyPost_ret (v := .tuple #[.string ⟨#[]⟩, .bool false]) (by simp [results, Tryz.results23, go_sem, *]) rfl ?_
      exact ⟨by rw [HMV.out], btP HS.out.2.1 HF.out.2⟩
    · have hmi : ¬ (m : Int) < 2 := by omega
      obtain ⟨h, hh⟩ : ∃ h, m / 2 = h := ⟨_, rfl⟩
      have hhm : h < m := by omega
      have hh0 : 0 < h := by omega
      have hd1 : (m : Int) / 2 = (h : Int) := by omega
      have hd2 : Int.tdiv (m : Int) 2 = (h : Int) := by rw [Int.tdiv_eq_ediv_of_nonneg (by omega)]; omega
      obtain ⟨b5, o5, rfl, hb5, hc5⟩ := HF.out.1.at' (i := h) (by rw [HM.out]; exact hhm)
      have hmv : midV MK = .tuple #[.string ⟨(MK.getD h []).toArray⟩, .bool true] := by unfold midV; rw [HM.out, if_neg hm2, hh]
      have hfm := HB.out.2.2.2.2.2.2.2 h hh0 (by rw [HM.out]; exact hhm)
      obtain ⟨kk, hkk⟩ : ∃ kk, MK.getD h [] = kk := ⟨_, rfl⟩
      rw [hkk] at hc5 hmv hfm
      have q3 := (HF.out.2.block q (Go.ltA HS.out.2.2)).trans HS.out.2.2
      obtain ⟨c0, c1, c2, c3'⟩ := tab_cells q3
      have HMV := Lib.hid hmv
      have hhi : (h : Int) < (m : Int) := by omega
      have e1 : Op.bytesLess kk F = false := bl_asymm hfm
      have e3 : ¬ kk = F := fun e => by rw [e, bl_irrefl] at hfm; cases hfm
      have e2 : (kk == F) = false := by simpa using e3
      clear hmv hkk q3 hh
      go_upto_region 16 with fail
      go_quiet (fail)
      have HE := Lib.hid (fun k => btP HS.out.2.1 (HF.out.2.trans ((_root_.Go.below_drewN (Below.refl w3.heap.size w3) k).mono HF.out.2.size)))
      go_wp2_with fail
      refine bodyPost_ret (v := .tuple #[.string ⟨kk.toArray⟩, .bool true]) (by simp [results, Tryz.results23, go_sem, *]) rfl ?_
      exact ⟨by rw [HMV.out], HE.out _⟩
end Go.Proofs.YtoglloafpnopaaaGreat
