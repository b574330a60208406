/- The law TabletsRead: its walk. -/
import Derived.Test.YtoglloafpnopaaaGreatTV
import Derived.Test.YtoglloafpnopaaaGreatTlX
import Derived.Test.YtoglloafpnopaaaGreatTlY
set_option linter.unusedSimpArgs false
set_option linter.unusedVariables false
namespace Go.Proofs.YtoglloafpnopaaaGreat
set_option maxRecDepth 16000
open Go.RowKit Spoor
theorem new_str3 (a b c : List UInt8) (w : World) (q : Nat) (hq : w.heap.size = q) : ∃ W, w.alloc (.cells #[.string ⟨a.toArray⟩, .string ⟨b.toArray⟩, .string ⟨c.toArray⟩] 57) = W ∧
 W.heap[q]? = some (.cells #[.string ⟨a.toArray⟩, .string ⟨b.toArray⟩, .string ⟨c.toArray⟩] 57 (0, 0)) ∧ Below w.heap.size w W ∧ W.heap.size = q + 1 := by
 subst hq
 exact ⟨_, rfl, heap_alloc_new w _, (Below.refl w.heap.size w).alloc (Nat.le_refl _) _, World.size_alloc _ _⟩
set_option maxRecDepth 100000 in
set_option maxHeartbeats 4000000 in
theorem tabletsRead_law (w : World) (F T : List UInt8) (MA : Option Addr) (nm cm : Nat) (TA : Option Addr) (nt ct : Nat) (lm : List Ce) (Tl : List (List Ce)) (ky fr tt : List UInt8) (hM : SlAt (.slice MA nm cm) lm w) (hT : RowsIn (.slice TA nt ct) Tl w) (wm : ∀ c ∈ lm, WfC c) (wT : ∀ l ∈ Tl, ∀ c ∈ l, WfC c) :
 Calls Tryz.prog 7 #[dataVal F T MA nm cm TA nt ct, .agg #[.string ⟨ky.toArray⟩, .string ⟨fr.toArray⟩, .string ⟨tt.toArray⟩]] w fun e w' => e = .returned (.bool true) ∧ Below w.heap.size w w' := by
 obtain ⟨xb, W0, hxb, hW0, hx0, nb0, sz0⟩ := new_data F T MA TA nm cm nt ct w
 obtain ⟨W1, hW1, hs1, nb1, sz1⟩ := new_str3 ky fr tt W0 (xb + 1) sz0
 have hx01 := (nb1.block xb (by omega)).trans hx0
 have B1 : Below w.heap.size w W1 := btP nb0 nb1
 have CBY : ∀ W, Below W1.heap.size W1 W → Calls Tryz.prog 9 #[dataVal F T MA nm cm TA nt ct] W fun e w' => e = .returned (.bool (beyD F T lm Tl)) ∧ Below W.heap.size W w' := fun W hb =>
  beyD_any F T MA nm cm TA nt ct lm Tl W ((hM.later B1).later hb) ((hT.later B1).later hb) wm wT
 obtain ⟨R, hR⟩ : ∃ R, beyD F T lm Tl = R := ⟨_, rfl⟩
 rw [hR] at CBY
 have CB := Lib.hid CBY
 have HR := Lib.hid hR
 have HD := Lib.hid (And.intro (hM.later B1) (And.intro (hT.later B1) (And.intro wm (And.intro wT (And.intro hx01 (And.intro B1 hs1))))))
 obtain ⟨s0, s1, s2⟩ := cells3 hs1
 obtain ⟨x0, x1, x2, x3⟩ := data_cells hx01
 clear hM hT wm wT hx0 nb0 hR nb1 hs1 hx01 B1 CBY
 unfold dataVal at CB ⊢
 go_enter Tryz.func7, Tryz.ntmps7
 go_upto_region 1 with fail
 refine wp_region_more (by kernel_rfl) (by kernel_rfl) ?_
 repeat (go_big_quiet_step (fail))
 refine wpQuiet_nil ?_
 rintro _ ⟨ex, rfl⟩
 have b0 := World.below_more W1 ex
 generalize W1.more ex = w0 at *
 have hx02 := (b0.block xb (Go.ltA HD.out.2.2.2.2.1)).trans HD.out.2.2.2.2.1
 obtain ⟨x0, x1, x2, x3⟩ := data_cells hx02
 have H0 := Lib.hid (And.intro b0 hx02)
 clear b0 hx02 s0 s1 s2
 go_wp2_with fail
 refine (CB.out _ H0.out.1).mono ?_
 rintro e w1 ⟨rfl, b1⟩
 by_cases hall : R = false ∧ ¬ (100 : Int) < (ky.length : Int) ∧ ¬ (100 : Int) < (fr.length : Int) ∧ ¬ (100 : Int) < (tt.length : Int)
 · have HALL := Lib.hid hall
   clear hall
   have f1 := decide_eq_false HALL.out.2.1
   have f2 := decide_eq_false HALL.out.2.2.1
   have f3 := decide_eq_false HALL.out.2.2.2
   have hkl : ky.length ≤ 140737488351232 := by have := HALL.out.2.1; omega
   obtain rfl : R = false := HALL.out.1
   have hx1 := (b1.block xb (Go.ltA H0.out.2)).trans H0.out.2
   obtain ⟨y0, y1, y2, y3⟩ := data_cells hx1
   have hNo := beyD_no HR.out HD.out.2.2.1 HD.out.2.2.2.1
   have CM := Lib.hid (made_any F T MA nm cm TA nt ct lm Tl w1 (HD.out.1.later (btP H0.out.1 b1)) (HD.out.2.1.later (btP H0.out.1 b1)) hNo.2.2)
   obtain ⟨L, hL⟩ : ∃ L, putsC [] lm = L := ⟨_, rfl⟩
   obtain ⟨Ts, hTs⟩ : ∃ Ts, Tl.map (putsC []) = Ts := ⟨_, rfl⟩
   have hRw := data_rows hNo.2.2
   have hL40 := (hRw.1 _ List.mem_cons_self).2
   rw [hL, hTs] at CM hRw
   rw [hL] at hL40
   have HW := Lib.hid (And.intro (fun r (hr : r ∈ L :: Ts) => (hRw.1 r hr).1) (And.intro (fun r (hr : r ∈ Ts) => hRw.1 r (List.mem_cons_of_mem _ hr)) (And.intro hRw.2 (And.intro hNo.1 hNo.2.1))))
   have HB := Lib.hid (btP HD.out.2.2.2.2.2.1 (btP H0.out.1 b1))
   have HX1 := Lib.hid hx1
   unfold dataVal tabVal rvVal at CM
   have HL40 := Lib.hid hL40
   clear hL40 b1 CB hx1 hNo hL hTs hRw
   go_wp2_with fail
   refine CM.out.mono ?_
   rintro e w2 ⟨p, fs, A, n, c, A2, n2, c2, rfl, hMm, hTt, hRr, b2⟩
   obtain ⟨b1, W5, W6, W7, W8, hb1, hW5, sz5, hW6, ⟨z0, z1, z2, z3⟩, zf, hW7, ⟨o0, o1, o2⟩, of, hW8, q8, r8, nb8, sz8⟩ := boxes2 F T (some ⟨p, 0, none⟩) A A2 n c n2 c2 w2
   obtain ⟨t0, t1, t2, t3⟩ := tab_cells q8
   have HX8 := Lib.hid ((nb8.block xb (Nat.lt_of_lt_of_le (Go.ltA HX1.out) b2.size)).trans ((b2.block xb (Go.ltA HX1.out)).trans HX1.out))
   have HT := Lib.hid (And.intro (show MemPtr (some ⟨p, 0, none⟩) L W8 from .inr ⟨p, fs, rfl, hMm.later nb8⟩) (And.intro (hTt.later nb8) (And.intro (hRr.later nb8) (And.intro (btP HB.out (btP b2 nb8)) (And.intro (show n ≤ 10 by have := hTt.1; have := HW.out.2.2.1; omega) (And.intro (hMm.later nb8) (And.intro q8 r8)))))))
   clear hMm hTt hRr b2 nb8 q8 r8 CM HX1
   have hrl : (L :: Ts).flatten.length ≤ 50000 := by
    have h3 := sum_le (R := L :: Ts) (m := 40) fun r hr => by
     rcases List.mem_cons.1 hr with rfl | hr
     · exact HL40.out
     · exact (HW.out.2.1 r hr).2
    rw [List.length_flatten]
    have := HW.out.2.2.1
    exact Nat.le_trans h3 (by rw [List.length_cons]; omega)
   have hR2 : ∀ r ∈ L :: Ts, RowOk r := HW.out.1
   have htl : (tabR F T (L :: Ts) [] []).length ≤ 50000 := by
    have h1 := tabR_length F T (L :: Ts) [] []
    rw [← List.length_flatten] at h1
    omega
   obtain ⟨cc, hcc⟩ : ∃ cc, getC (getT F T (L :: Ts) ky) = cc := ⟨_, rfl⟩
   obtain ⟨oo, hoo⟩ : ∃ oo, okC (getT F T (L :: Ts) ky) = oo := ⟨_, rfl⟩
   obtain ⟨res, hres⟩ : ∃ res, tabR F T (L :: Ts) fr tt = res := ⟨_, rfl⟩
   obtain ⟨ms, mb, hmv⟩ : ∃ (ms : List UInt8) (mb : Bool), midV (midR F T (L :: Ts)) = .tuple #[.string ⟨ms.toArray⟩, .bool mb] := by
    unfold midV
    split
    · exact ⟨[], false, rfl⟩
    · exact ⟨_, true, rfl⟩
   have GG : ∀ W, Below W8.heap.size W8 W → Calls Tryz.prog 20 #[tabVal F T (some ⟨p, 0, none⟩) A n c, .string ⟨ky.toArray⟩] W fun e w' => e = .returned (.tuple #[.agg #[.string ⟨cc.k.toArray⟩, .int .i64 cc.q, .string ⟨cc.v.toArray⟩], .bool oo]) ∧ Below W.heap.size W w' := fun W hb => by
    have := tabGet F T ky (some ⟨p, 0, none⟩) A n c L Ts W (HT.out.1.later hb) (HT.out.2.1.later hb) HT.out.2.2.2.2.1 hR2 hkl
    rwa [ceV_eq, hcc, hoo] at this
   have GR : ∀ W, Below W8.heap.size W8 W → Calls Tryz.prog 22 #[rvVal F T A2 n2 c2, .string ⟨ky.toArray⟩] W fun e w' => e = .returned (.tuple #[.agg #[.string ⟨cc.k.toArray⟩, .int .i64 cc.q, .string ⟨cc.v.toArray⟩], .bool oo]) ∧ Below W.heap.size W w' := fun W hb => by
    have := refGet19_any F T ky A2 n2 c2 (L :: Ts) W (HT.out.2.2.1.later hb)
    rwa [ceV_eq, hcc, hoo] at this
   have RG : ∀ W, Below W8.heap.size W8 W → Calls Tryz.prog 19 #[tabVal F T (some ⟨p, 0, none⟩) A n c, .string ⟨fr.toArray⟩, .string ⟨tt.toArray⟩] W fun e w' => Below W.heap.size W w' ∧ ∃ u, e = .returned (.tuple #[u, .int .i64 0]) ∧ SlAt u res w' := fun W hb =>
    (tabRange F T fr tt (some ⟨p, 0, none⟩) A n c L Ts W (HT.out.1.later hb) (HT.out.2.1.later hb) HT.out.2.2.2.2.1 hR2).mono fun e w' ⟨h1, u, h2, h3⟩ => ⟨h1, u, h2, by have := slAt_own h3; rwa [hres] at this⟩
   have RR : ∀ W, Below W8.heap.size W8 W → Calls Tryz.prog 12 #[rvVal F T A2 n2 c2, .string ⟨fr.toArray⟩, .string ⟨tt.toArray⟩] W fun e w' => Below W.heap.size W w' ∧ ∃ u, e = .returned u ∧ SlAt u res w' := fun W hb =>
    (refRange19_any F T fr tt A2 n2 c2 (L :: Ts) W (HT.out.2.2.1.later hb) hrl).mono fun e w' ⟨h1, u, h2, h3⟩ => ⟨h1, u, h2, by have := slAt_own h3; rwa [hres] at this⟩
   have GM : ∀ W, Below W8.heap.size W8 W → Calls Tryz.prog 23 #[tabVal F T (some ⟨p, 0, none⟩) A n c] W fun e w' => e = .returned (.tuple #[.string ⟨ms.toArray⟩, .bool mb]) ∧ Below W.heap.size W w' := fun W hb => by
    have := tabMiddle_any F T (some ⟨p, 0, none⟩) A n c L Ts W (HT.out.1.later hb) (HT.out.2.1.later hb) HT.out.2.2.2.2.1 hR2 htl
    rwa [hmv] at this
   have RM : ∀ W, Below W8.heap.size W8 W → Calls Tryz.prog 24 #[rvVal F T A2 n2 c2] W fun e w' => e = .returned (.tuple #[.string ⟨ms.toArray⟩, .bool mb]) ∧ Below W.heap.size W w' := fun W hb => by
    have := refMiddle_any F T A2 n2 c2 (L :: Ts) W (HT.out.2.2.1.later hb) hR2 hrl
    rwa [hmv] at this
   have KP : ∀ W, Below W8.heap.size W8 W → W.heap[b1]? = some (.cells #[.string ⟨F.toArray⟩, .string ⟨T.toArray⟩, .pointer (some ⟨p, 0, none⟩), .slice A n c] 31 (0, 0)) ∧ W.heap[b1 + 1]? = some (.cells #[.string ⟨F.toArray⟩, .string ⟨T.toArray⟩, .slice A2 n2 c2] 33 (0, 0)) ∧ Below w.heap.size w W := fun W hb =>
    ⟨(hb.block _ (Go.ltA HT.out.2.2.2.2.2.2.1)).trans HT.out.2.2.2.2.2.2.1, (hb.block _ (Go.ltA HT.out.2.2.2.2.2.2.2)).trans HT.out.2.2.2.2.2.2.2, btP HT.out.2.2.2.1 hb⟩
   unfold tabVal at GG RG GM
   unfold rvVal at GR RR RM
   have HC := Lib.hid (And.intro GG (And.intro GR (And.intro RG (And.intro RR (And.intro GM (And.intro RM KP))))))
   have C7 := Lib.hid (GG W8 (Below.refl _ _))
   clear GG GR RG RR GM RM KP hcc hoo hres hmv hrl hR2 htl
   go_wp2_with fail
   refine C7.out.mono ?_
   rintro e v1 ⟨rfl, k1⟩
   clear z0 z1 z2 z3 zf o0 o1 o2 of hW5 hW6 hW7 hW8 sz5 hb1 x0 x1 x2 x3 y0 y1 y2 y3 hxb hW0 sz0
   clear t0 t1 t2 t3 C7
   obtain ⟨g1, u1, V1, hg1, hu1, ⟨a0, a1, a2⟩, ⟨af0, af1, af2⟩, hV1, zz1, nn1, sz1⟩ := cell_put v1 cc
   have K1 := btP k1 nn1
   obtain ⟨-, r1, -⟩ := HC.out.2.2.2.2.2.2 V1 K1
   obtain ⟨l0, l1, l2⟩ := ref_cells r1
   have C8 := Lib.hid (HC.out.2.1 V1 K1)
   have H1 := Lib.hid (And.intro K1 zz1)
   clear k1 nn1 K1 r1 zz1
   go_wp2_with fail
   refine C8.out.mono ?_
   rintro e v2 ⟨rfl, k2⟩
   clear a0 a1 a2 af0 af1 af2 hV1 hu1 hg1 l0 l1 l2 C8
   obtain ⟨g2, u2, V2, hg2, hu2, ⟨a0, a1, a2⟩, ⟨af0, af1, af2⟩, hV2, zz2, nn2, sz2⟩ := cell_put v2 cc
   have K2 := btP H1.out.1 (btP k2 nn2)
   have y2 := ((btP k2 nn2).block _ (Go.ltA H1.out.2)).trans H1.out.2
   obtain ⟨r2, -, -⟩ := HC.out.2.2.2.2.2.2 V2 K2
   obtain ⟨l0, l1, l2, l3⟩ := tab_cells r2
   have C9 := Lib.hid (HC.out.2.2.1 V2 K2)
   have H2 := Lib.hid (And.intro K2 (And.intro y2 zz2))
   clear k2 nn2 K2 r2 zz2 y2
   go_wp2_with fail
   refine C9.out.mono ?_
   rintro e v3 ⟨k3, u3, rfl, s3⟩
   clear a0 a1 a2 af0 af1 af2 hV2 hu2 hg2 l0 l1 l2 l3 C9
   obtain ⟨A3, c3, rfl⟩ : ∃ A c, u3 = .slice A res.length c := by obtain ⟨A, c, e, -⟩ := s3; exact ⟨A, c, e⟩
   have K3 := btP H2.out.1 k3
   obtain ⟨r3, -, -⟩ := HC.out.2.2.2.2.2.2 v3 K3
   obtain ⟨l0, l1, l2, l3⟩ := tab_cells r3
   have C10 := Lib.hid (HC.out.2.2.2.2.1 v3 K3)
   have H3 := Lib.hid (And.intro K3 (And.intro ((k3.block _ (Go.ltA H2.out.2.1)).trans H2.out.2.1) (And.intro ((k3.block _ (Go.ltA H2.out.2.2)).trans H2.out.2.2) s3)))
   clear k3 K3 r3 s3
   go_wp2_with fail
   refine C10.out.mono ?_
   rintro e v4 ⟨rfl, k4⟩
   clear l0 l1 l2 l3 C10
   have K4 := btP H3.out.1 k4
   obtain ⟨-, r4, -⟩ := HC.out.2.2.2.2.2.2 v4 K4
   obtain ⟨l0, l1, l2⟩ := ref_cells r4
   have C11 := Lib.hid (HC.out.2.2.2.2.2.1 v4 K4)
   have H4 := Lib.hid (And.intro K4 (And.intro ((k4.block _ (Go.ltA H3.out.2.1)).trans H3.out.2.1) (And.intro ((k4.block _ (Go.ltA H3.out.2.2.1)).trans H3.out.2.2.1) (H3.out.2.2.2.later k4))))
   clear k4 K4 r4
   go_wp2_with fail
   refine C11.out.mono ?_
   rintro e v5 ⟨rfl, k5⟩
   clear l0 l1 l2 C11
   have K5 := btP H4.out.1 k5
   obtain ⟨-, r5, -⟩ := HC.out.2.2.2.2.2.2 v5 K5
   obtain ⟨l0, l1, l2⟩ := ref_cells r5
   have m5 := (k5.block _ (Go.ltA H4.out.2.1)).trans H4.out.2.1
   have n5 := (k5.block _ (Go.ltA H4.out.2.2.1)).trans H4.out.2.2.1
   obtain ⟨m50, m51, m52⟩ := cells3 m5
   obtain ⟨n50, n51, n52⟩ := cells3 n5
   have C12 := Lib.hid (HC.out.2.2.2.1 v5 K5)
   have H5 := Lib.hid (And.intro K5 (H4.out.2.2.2.later k5))
   have ee := fun W => eql_ce cc cc W
   rw [decide_eq_true rfl] at ee
   unfold ceVal at ee
   have eb := fun W => eql_bb oo W
   clear k5 K5 r5 m5 n5
   go_wp2_with fail
   refine C12.out.mono ?_
   rintro e v6 ⟨k6, u6, rfl, s6⟩
   have CS := sameT_any _ _ res res v6 (H5.out.2.later k6) s6
   rw [decide_eq_true rfl] at CS
   obtain ⟨A6, c6, rfl⟩ : ∃ A c, u6 = .slice A res.length c := by obtain ⟨A, c, e, -⟩ := s6; exact ⟨A, c, e⟩
   have HCS := Lib.hid CS
   have H6 := Lib.hid (btP H5.out.1 k6)
   clear CS k6 s6 C12 l0 l1 l2 m50 m51 m52 n50 n51 n52 ee eb
   go_wp2_with fail
   refine HCS.out.mono ?_
   rintro e v7 ⟨rfl, k7⟩
   have H7 := Lib.hid (HC.out.2.2.2.2.2.2 v7 (btP H6.out k7)).2.2
   have em : (ms == ms) = true := by simp
   have eb := fun W => eql_bb mb W
   clear k7 HCS
   go_wp2_with fail
   refine (lives_true _).mono ?_
   rintro e v8 ⟨rfl, k8⟩
   have H8 := Lib.hid (btP H7.out k8)
   clear k8 em eb
   go_wp2_with fail
   go_ret
   exact ⟨rfl, H8.out⟩
 · have HALL := Lib.hid hall
   clear hall
   have HB := Lib.hid (btP HD.out.2.2.2.2.2.1 (btP H0.out.1 b1))
   clear b1 CB x0 x1 x2 x3
   have hgo : ∀ f1 f2 f3 : Bool, decide ((100 : Int) < (ky.length : Int)) = f1 → decide ((100 : Int) < (fr.length : Int)) = f2 → decide ((100 : Int) < (tt.length : Int)) = f3 → (R || f1 || f2 || f3) = true := by
    intro f1 f2 f3 h1 h2 h3
    have := HALL.out
    cases R <;> cases f1 <;> cases f2 <;> cases f3 <;> simp_all
   have HGO := Lib.hid hgo
   clear hgo HALL HR
   cases h1 : decide ((100 : Int) < (ky.length : Int)) <;> cases h2 : decide ((100 : Int) < (fr.length : Int)) <;> cases h3 : decide ((100 : Int) < (tt.length : Int)) <;> cases R <;>
    first
    | (exfalso; have := HGO.out _ _ _ h1 h2 h3; simp at this; done)
    | (go_wp2_with fail
       refine (lives_true _).mono ?_
       rintro e w2 ⟨rfl, b2⟩
       have HB2 := Lib.hid (btP HB.out b2)
       clear b2
       go_wp2_with fail
       go_ret
       exact ⟨rfl, HB2.out⟩)
end Go.Proofs.YtoglloafpnopaaaGreat
