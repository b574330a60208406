/- The law TabletsStretch: its walk. -/
import Derived.Test.YtoglloafpnopaaaGreatMgA
import Derived.Test.YtoglloafpnopaaaGreatTlN
set_option linter.unusedSimpArgs false
set_option linter.unusedVariables false
namespace Go.Proofs.YtoglloafpnopaaaGreat
set_option maxRecDepth 16000
open Go.RowKit Spoor
set_option linter.unusedVariables false
set_option linter.unusedSimpArgs false

theorem PtrsGat.later {lo : Nat} {v : Value} {Ts : List (List Ce)} {W W' : World} (h : PtrsGat lo v Ts W) (hb : Below W.heap.size W W') : PtrsGat lo v Ts W' := h.asf (AsF.of hb) fun g hg => by
  obtain ⟨_, ⟨cur, hc⟩, _⟩ := h.aside g hg
  exact hb.block g (Array.getElem?_eq_some_iff.1 hc).1
/-- a tablet's tables stored -/
theorem setN {F T : List UInt8} {M : Option Addr} {x v : Value} {q : Nat} {W : World} (h : W.heap[q]? = some (.cells #[.string ⟨F.toArray⟩, .string ⟨T.toArray⟩, .pointer M, x] 31 (0, 0))) : ∃ V,
    W.setCell ⟨q, 3, none⟩ v = V ∧ V.heap[q]? = some (.cells #[.string ⟨F.toArray⟩, .string ⟨T.toArray⟩, .pointer M, v] 31 (0, 0)) ∧ (∀ k, k ≠ q → V.heap[k]? = W.heap[k]?) ∧ (∀ W0 : World, W0.heap.size ≤ q → Below W0.heap.size W0 W → Below W0.heap.size W0 V) :=
  ⟨_, rfl, by rw [heap_setCell_same W q 3 _ _ _ h]; rfl, fun k hk => Below.heap_setCell _ ⟨q, 3, none⟩ _ k hk, fun W0 l b => below_set b l 3 _⟩
/-- the places of a tablet's tables -/
theorem TabsAt.ptrs {A : Option Addr} {n cap : Nat} {Ts : List (List Ce)} {W : World} (h : TabsAt A n cap Ts W) (hpos : 0 < n) : ∃ (g o : Nat) (PL : Nat → Option Addr), A = some ⟨g, o, none⟩ ∧ g < W.heap.size ∧ ∀ k, k < n → W.cell? ⟨g, o + k, none⟩ = some (.pointer (PL k)) ∧ TabPtr (PL k) (Ts.getD k []) W := by
  obtain ⟨g, o, P, e, hg, -, -⟩ := h.2.2.2 0 hpos
  have hc : ∀ k, k < n → ∃ P : Option Addr, W.cell? ⟨g, o + k, none⟩ = some (.pointer P) ∧ TabPtr P (Ts.getD k []) W := fun k hk => by
    obtain ⟨g', o', P, e', _, h1, h2⟩ := h.2.2.2 k hk
    rw [e] at e'
    simp only [Option.some.injEq, Addr.mk.injEq, and_true] at e'
    obtain ⟨rfl, rfl⟩ := e'
    exact ⟨P, h1, h2⟩
  obtain ⟨C, hC⟩ := Go.Deep.choose_lt hc
  exact ⟨g, o, C, e, hg, hC⟩
theorem want_step {l : List Ce} {x y : List UInt8} {k : Nat} (hk : k < l.length) : (l.take (k + 1)).filter (within x y) = (l.take k).filter (within x y) ++ (if within x y (l.getD k Ce.zero) then [l.getD k Ce.zero] else []) := by
  rw [take_ce l k hk, List.filter_append]
  obtain ⟨c, hc⟩ : ∃ c, l.getD k Ce.zero = c := ⟨_, rfl⟩
  rw [hc]
  congr 1
  cases h : within x y c <;> simp [List.filter_cons, h]
theorem drop_rev {l : List (List Ce)} {k : Nat} (hk : k < l.length) : (l.drop k).reverse = (l.drop (k + 1)).reverse ++ [l.getD k []] := by
  have : l.drop k = l.getD k [] :: l.drop (k + 1) := by
    rw [List.drop_eq_getElem_cons hk]
    simp [List.getD, hk]
  rw [this, List.reverse_cons]
theorem kq_get {l m : List Ce} (h : l.map kq = m.map kq) {k : Nat} (hk : k < l.length) : (m.getD k Ce.zero).k = (l.getD k Ce.zero).k ∧ (m.getD k Ce.zero).q = (l.getD k Ce.zero).q := by
  have hl : l.length = m.length := by have := congrArg List.length h; simpa using this
  have := congrArg (fun z => z[k]?) h
  simp only [List.getElem?_map] at this
  rw [List.getElem?_eq_getElem hk, List.getElem?_eq_getElem (by omega : k < m.length)] at this
  simp only [Option.map_some, Option.some.injEq, kq, Prod.mk.injEq] at this
  simp [List.getD, hk, (by omega : k < m.length), this.1, this.2]
/-- the second tablet, while its tables come -/
def RevAt (V0 : World) (b1 nb p : Nat) (F T : List UInt8) (A : Option Addr) (n c : Nat) (Ts : List (List Ce)) (k : Nat) (W : World) : Prop := ∃ An nn cn,
  W.heap[nb]? = some (.cells #[.string ⟨F.toArray⟩, .string ⟨T.toArray⟩, .pointer (some ⟨p, 0, none⟩), .slice An nn cn] 31 (0, 0)) ∧ W.heap[b1]? = some (.cells #[.string ⟨F.toArray⟩, .string ⟨T.toArray⟩, .pointer (some ⟨p, 0, none⟩), .slice A n c] 31 (0, 0)) ∧ PtrsGat V0.heap.size (.slice An nn cn) (Ts.drop k).reverse W ∧ Below V0.heap.size V0 W
set_option maxRecDepth 100000 in
set_option maxHeartbeats 4000000 in
theorem tabletsStretch_law (w : World) (F T : List UInt8) (MA : Option Addr) (nm cm : Nat) (TA : Option Addr) (nt ct : Nat) (lm : List Ce) (Tl : List (List Ce)) (from' to' : ByteArray) (hM : SlAt (.slice MA nm cm) lm w) (hT : RowsIn (.slice TA nt ct) Tl w) (wm : ∀ c ∈ lm, WfC c) (wT : ∀ l ∈ Tl, ∀ c ∈ l, WfC c) (hf : from'.size ≤ 140737488351232) (ht : to'.size ≤ 140737488351232) :
    Calls Tryz.prog 5 #[dataVal F T MA nm cm TA nt ct, .string from', .string to'] w fun e w' => e = .returned (.bool true) ∧ Below w.heap.size w w' := by
  have es : to' = ⟨to'.data.toList.toArray⟩ := by cases to'; simp
  rw [es] at ht ⊢
  rw [size_of] at ht
  generalize to'.data.toList = ty at *
  clear es
  have es : from' = ⟨from'.data.toList.toArray⟩ := by cases from'; simp
  rw [es] at hf ⊢
  rw [size_of] at hf
  generalize from'.data.toList = fy at *
  clear es
  obtain ⟨xb, W0, hxb, hW0, hx0, nb0, sz0⟩ := new_data F T MA TA nm cm nt ct w
  obtain ⟨x0, x1, x2, x3⟩ := data_cells hx0
  have CB := Lib.hid (beyD_any F T MA nm cm TA nt ct lm Tl W0 (hM.later nb0) (hT.later nb0) wm wT)
  obtain ⟨R, hR⟩ : ∃ R, beyD F T lm Tl = R := ⟨_, rfl⟩
  rw [hR] at CB
  have HR := Lib.hid hR
  have HD := Lib.hid (And.intro (hM.later nb0) (And.intro (hT.later nb0) (And.intro wm (And.intro wT (And.intro hx0 nb0)))))
  clear hM hT wm wT hx0 nb0 hR
  unfold dataVal at CB ⊢
  by_cases hk : (100 : Int) < (ty.length : Int)
  · by_cases ha : (100 : Int) < (fy.length : Int)
    · cases R with
      | true =>
        go_enter Tryz.func5, Tryz.ntmps5
        go_wp2_with fail
        refine CB.out.mono ?_
        rintro e w1 ⟨rfl, b1⟩
        have HB := Lib.hid (btP HD.out.2.2.2.2.2 b1)
        clear b1 CB
        go_wp2_with fail
        refine (lives_true _).mono ?_
        rintro e w2 ⟨rfl, b2⟩
        have HB2 := Lib.hid (btP HB.out b2)
        clear b2
        go_wp2_with fail
        go_ret
        exact ⟨rfl, HB2.out⟩
      | false =>
        go_enter Tryz.func5, Tryz.ntmps5
        go_wp2_with fail
        refine CB.out.mono ?_
        rintro e w1 ⟨rfl, b1⟩
        have HB := Lib.hid (btP HD.out.2.2.2.2.2 b1)
        clear b1 CB
        go_wp2_with fail
        refine (lives_true _).mono ?_
        rintro e w2 ⟨rfl, b2⟩
        have HB2 := Lib.hid (btP HB.out b2)
        clear b2
        go_wp2_with fail
        go_ret
        exact ⟨rfl, HB2.out⟩
    · cases R with
      | true =>
        go_enter Tryz.func5, Tryz.ntmps5
        go_wp2_with fail
        refine CB.out.mono ?_
        rintro e w1 ⟨rfl, b1⟩
        have HB := Lib.hid (btP HD.out.2.2.2.2.2 b1)
        clear b1 CB
        go_wp2_with fail
        refine (lives_true _).mono ?_
        rintro e w2 ⟨rfl, b2⟩
        have HB2 := Lib.hid (btP HB.out b2)
        clear b2
        go_wp2_with fail
        go_ret
        exact ⟨rfl, HB2.out⟩
      | false =>
        go_enter Tryz.func5, Tryz.ntmps5
        go_wp2_with fail
        refine CB.out.mono ?_
        rintro e w1 ⟨rfl, b1⟩
        have HB := Lib.hid (btP HD.out.2.2.2.2.2 b1)
        clear b1 CB
        go_wp2_with fail
        refine (lives_true _).mono ?_
        rintro e w2 ⟨rfl, b2⟩
        have HB2 := Lib.hid (btP HB.out b2)
        clear b2
        go_wp2_with fail
        go_ret
        exact ⟨rfl, HB2.out⟩
  · by_cases ha : (100 : Int) < (fy.length : Int)
    · cases R with
      | true =>
        go_enter Tryz.func5, Tryz.ntmps5
        go_wp2_with fail
        refine CB.out.mono ?_
        rintro e w1 ⟨rfl, b1⟩
        have HB := Lib.hid (btP HD.out.2.2.2.2.2 b1)
        clear b1 CB
        go_wp2_with fail
        refine (lives_true _).mono ?_
        rintro e w2 ⟨rfl, b2⟩
        have HB2 := Lib.hid (btP HB.out b2)
        clear b2
        go_wp2_with fail
        go_ret
        exact ⟨rfl, HB2.out⟩
      | false =>
        go_enter Tryz.func5, Tryz.ntmps5
        go_wp2_with fail
        refine CB.out.mono ?_
        rintro e w1 ⟨rfl, b1⟩
        have HB := Lib.hid (btP HD.out.2.2.2.2.2 b1)
        clear b1 CB
        go_wp2_with fail
        refine (lives_true _).mono ?_
        rintro e w2 ⟨rfl, b2⟩
        have HB2 := Lib.hid (btP HB.out b2)
        clear b2
        go_wp2_with fail
        go_ret
        exact ⟨rfl, HB2.out⟩
    · cases R with
      | true =>
        go_enter Tryz.func5, Tryz.ntmps5
        go_wp2_with fail
        refine CB.out.mono ?_
        rintro e w1 ⟨rfl, b1⟩
        have HB := Lib.hid (btP HD.out.2.2.2.2.2 b1)
        clear b1 CB
        go_wp2_with fail
        refine (lives_true _).mono ?_
        rintro e w2 ⟨rfl, b2⟩
        have HB2 := Lib.hid (btP HB.out b2)
        clear b2
        go_wp2_with fail
        go_ret
        exact ⟨rfl, HB2.out⟩
      | false =>
        go_enter Tryz.func5, Tryz.ntmps5
        go_wp2_with fail
        refine CB.out.mono ?_
        rintro e w1 ⟨rfl, b1⟩
        have hx1 := (b1.block xb (Array.getElem?_eq_some_iff.1 HD.out.2.2.2.2.1).1).trans HD.out.2.2.2.2.1
        obtain ⟨y0, y1, y2, y3⟩ := data_cells hx1
        have hNo := beyD_no HR.out HD.out.2.2.1 HD.out.2.2.2.1
        have CM := Lib.hid (made_any F T MA nm cm TA nt ct lm Tl w1 (HD.out.1.later b1) (HD.out.2.1.later b1) hNo.2.2)
        obtain ⟨L, hL⟩ : ∃ L, putsC [] lm = L := ⟨_, rfl⟩
        obtain ⟨Ts, hTs⟩ : ∃ Ts, Tl.map (putsC []) = Ts := ⟨_, rfl⟩
        have hRw := data_rows hNo.2.2
        rw [hL, hTs] at CM hRw
        have HW := Lib.hid (And.intro (fun r (hr : r ∈ L :: Ts) => (hRw.1 r hr).1) (And.intro (fun r (hr : r ∈ Ts) => hRw.1 r (List.mem_cons_of_mem _ hr)) (And.intro hRw.2 (And.intro hNo.1 hNo.2.1))))
        have HB := Lib.hid (btP HD.out.2.2.2.2.2 b1)
        have HX1 := Lib.hid hx1
        unfold dataVal tabVal rvVal at CM
        clear b1 CB hx1 hNo hL hTs hRw
        go_wp2_with fail
        refine CM.out.mono ?_
        rintro e w2 ⟨p, fs, A, n, c, A2, n2, c2, rfl, hMm, hTt, hRr, b2⟩
        obtain ⟨b1, W5, W6, W7, W8, hb1, hW5, sz5, hW6, ⟨z0, z1, z2, z3⟩, zf, hW7, ⟨o0, o1, o2⟩, of, hW8, q8, r8, nb8, sz8⟩ := boxes2 F T (some ⟨p, 0, none⟩) A A2 n c n2 c2 w2
        obtain ⟨t0, t1, t2, t3⟩ := tab_cells q8
        have HX8 := Lib.hid ((nb8.block xb (Nat.lt_of_lt_of_le (Array.getElem?_eq_some_iff.1 HX1.out).1 b2.size)).trans ((b2.block xb (Array.getElem?_eq_some_iff.1 HX1.out).1).trans HX1.out))
        have HT := Lib.hid (And.intro (show MemPtr (some ⟨p, 0, none⟩) L W8 from .inr ⟨p, fs, rfl, hMm.later nb8⟩) (And.intro (hTt.later nb8) (And.intro (hRr.later nb8) (And.intro (btP HB.out (btP b2 nb8)) (And.intro (show n ≤ 10 by have := hTt.1; have := HW.out.2.2.1; omega) (And.intro (hMm.later nb8) (And.intro q8 r8)))))))
        clear hMm hTt hRr b2 nb8 q8 r8 CM HX1
        have hfl : fy.length ≤ 100 := by omega
        have htl : ty.length ≤ 100 := by omega
        have CA := tabRange F T [] [] (some ⟨p, 0, none⟩) A n c L Ts W8 HT.out.1 HT.out.2.1 HT.out.2.2.2.2.1 HW.out.1
        obtain ⟨all, hall⟩ : ∃ all, tabR F T (L :: Ts) [] [] = all := ⟨_, rfl⟩
        obtain ⟨res, hres⟩ : ∃ res, tabR F T (L :: Ts) fy ty = res := ⟨_, rfl⟩
        have hfil : all.filter (within fy ty) = res := by rw [← hall, ← hres]; exact stretch_range
        have hshort : all.length ≤ 5200 := hall ▸ tab_short (HW.out.1 L List.mem_cons_self) HW.out.2.1 HW.out.2.2.1
        have hrs : res.length ≤ 5200 := hres ▸ tab_short (HW.out.1 L List.mem_cons_self) HW.out.2.1 HW.out.2.2.1
        rw [hall] at CA
        have HCA := Lib.hid CA
        have HP := Lib.hid (And.intro hfil (And.intro hshort (And.intro hrs hres)))
        unfold tabVal at HCA
        clear CA hall hfil hshort hrs hres
        go_wp2_with fail
        refine HCA.out.mono ?_
        rintro e v1 ⟨k1, u1, rfl, own1⟩
        clear z0 z1 z2 z3 zf o0 o1 o2 of hW5 hW6 hW7 hW8 sz5 hb1 x0 x1 x2 x3 y0 y1 y2 y3 hxb hW0 sz0
        have s1 := slAt_own own1
        obtain ⟨A1, c1, rfl⟩ := own_slice own1
        have m1 := (k1.block _ (Array.getElem?_eq_some_iff.1 HT.out.2.2.2.2.2.2.1).1).trans HT.out.2.2.2.2.2.2.1
        obtain ⟨i0, i1, i2, i3⟩ := tab_cells m1
        have CB2 := tabRange F T fy ty (some ⟨p, 0, none⟩) A n c L Ts v1 (HT.out.1.later k1) (HT.out.2.1.later k1) HT.out.2.2.2.2.1 HW.out.1
        rw [HP.out.2.2.2] at CB2
        have HCB := Lib.hid CB2
        unfold tabVal at HCB
        have HS1 := Lib.hid (And.intro s1 (And.intro k1 m1))
        clear own1 s1 k1 m1 HCA CB2 t0 t1 t2 t3
        go_wp2_with fail
        refine HCB.out.mono ?_
        rintro e v2 ⟨k2, u2, rfl, own2⟩
        have s2 := slAt_own own2
        obtain ⟨A2', c2', rfl⟩ := own_slice own2
        have m2 := (k2.block _ (Array.getElem?_eq_some_iff.1 HS1.out.2.2).1).trans HS1.out.2.2
        have HS2 := Lib.hid (And.intro (HS1.out.1.later k2) (And.intro s2 (And.intro (HS1.out.2.1.trans (k2.mono HS1.out.2.1.size)) m2)))
        obtain ⟨N, hN⟩ : ∃ N, all.length = N := ⟨_, rfl⟩
        have HN := Lib.hid hN
        have hNb : N ≤ 5200 := by rw [← hN]; exact HP.out.2.1
        rw [hN]
        clear own2 s2 k2 m2 HCB hN i0 i1 i2 i3 HS1
        go_wp2_with fail
        go_loopw [14, 15] (fun sv iv wr => ∃ k : Nat, k ≤ N ∧ iv = .int .i64 k ∧ (∃ An cn, sv = .slice An ((all.take k).filter (within fy ty)).length cn) ∧ Hid (wr.ownsRow v2.heap.size 38 3 sv ((all.take k).filter (within fy ty)).length (rowOf ((all.take k).filter (within fy ty))) ∧ Below v2.heap.size v2 wr)) (fun _ iv _ => N - (intOf iv).toNat)
        case atStart => exact ⟨0, by omega, rfl, ⟨none, 0, rfl⟩, Lib.hid ⟨World.ownsRow_nil _ _ _ _, Below.refl _ _⟩⟩
        case round =>
          obtain ⟨k, hk, rfl, ⟨An, cn, rfl⟩, HI⟩ := hrel
          by_cases hkn : k < N
          · have hkl : k < all.length := by rw [HN.out]; exact hkn
            have hst := want_step (l := all) (x := fy) (y := ty) hkl
            obtain ⟨Ab, cb, e0, hc1, hc2, hrow⟩ := HS2.out.1
            simp only [Value.slice.injEq] at e0
            obtain ⟨rfl, -, rfl⟩ := e0
            obtain ⟨bb, o, rfl, hrw⟩ := hrow (by omega)
            have hrw := hrw.later HI.out.2 hrw.1
            obtain ⟨x0, x1, x2⟩ := hrw.cells hkl
            obtain ⟨cc, hcc⟩ : ∃ cc, all.getD k Ce.zero = cc := ⟨_, rfl⟩
            rw [hcc] at hst x0 x1 x2
            obtain ⟨mm, hmm⟩ : ∃ mm, (all.take k).filter (within fy ty) = mm := ⟨_, rfl⟩
            rw [hmm] at hst HI ⊢
            have hml : mm.length ≤ 5200 := by rw [← hmm]; refine Nat.le_trans (List.length_filter_le _ _) (Nat.le_trans (List.length_take_le _ _) ?_); have := HN.out; have := HP.out.2.1; omega
            have HST := Lib.hid hst
            have hki : (k : Int) < (N : Int) := by omega
            have hbl : bb < wr.heap.size := hrw.1
            have HCC := Lib.hid hcc
            clear hst hrow hrw hcc hmm hc1 hc2
            cases b1' : Op.bytesLess cc.k fy with
            | true =>
              have hw : within fy ty cc = false := by unfold within; rw [b1']; rfl
              have HST2 := HST.out
              rw [hw] at HST2
              simp only [Bool.false_eq_true, if_false, List.append_nil] at HST2
              have HF := Lib.hid HST2
              clear HST2 hw
              go_wp2_with fail
              go_roundw
              case rel => exact ⟨k + 1, by omega, by simp <;> omega, ⟨An, cn, by rw [HF.out]⟩, Lib.hid (by rw [HF.out]; exact HI.out)⟩
              case measure => simp [intOf]; omega
            | false =>
              by_cases hno : ty ≠ [] ∧ Op.bytesLess cc.k ty = false
              · have e1 : (ty == ([] : List UInt8)) = false := by simpa using hno.1
                have e2 := hno.2
                have hw : within fy ty cc = false := by unfold within; rw [e2]; simp [hno.1]
                have HST2 := HST.out
                rw [hw] at HST2
                simp only [Bool.false_eq_true, if_false, List.append_nil] at HST2
                have HF := Lib.hid HST2
                clear HST2 hw hno
                go_wp2_with fail
                go_roundw
                case rel => exact ⟨k + 1, by omega, by simp <;> omega, ⟨An, cn, by rw [HF.out]⟩, Lib.hid (by rw [HF.out]; exact HI.out)⟩
                case measure => simp [intOf]; omega
              · have hw : within fy ty cc = true := by
                  unfold within
                  rw [b1']
                  by_cases h : ty = []
                  · simp [h]
                  · have : Op.bytesLess cc.k ty = true := by
                      cases e : Op.bytesLess cc.k ty with
                      | true => rfl
                      | false => exact absurd ⟨h, e⟩ hno
                    simp [this]
                have HST2 := HST.out
                rw [hw] at HST2
                simp only [if_true] at HST2
                have nbx := (Below.refl wr.heap.size wr).alloc (Nat.le_refl _) (.cells (rowOf [cc]).toArray 38)
                have sx := new_sl [cc] wr (by simp)
                have hb2 := HI.out.2.size
                obtain ⟨v7, w7, run7, own7, b7⟩ := run_append_sl (l := mm) (m := [cc]) (own_lat HI.out.1 nbx) (Nat.le_trans hb2 nbx.size) sx (by simp; omega)
                rw [← HST2] at own7
                have B7 := HI.out.2.trans ((nbx.mono hb2).trans b7)
                obtain ⟨A7, c7, rfl⟩ := own_slice own7
                have HF := Lib.hid (And.intro own7 B7)
                have R7 := Lib.hid run7
                clear HST2 hw nbx sx run7 own7 B7 b7
                unfold rowOf ceRow at R7
                simp only [List.flatMap_cons, List.flatMap_nil, List.append_nil, List.length_singleton] at R7
                have hcase : ty = [] ∨ (ty ≠ [] ∧ Op.bytesLess cc.k ty = true) := by
                  by_cases h : ty = []
                  · exact .inl h
                  · right
                    refine ⟨h, ?_⟩
                    cases e : Op.bytesLess cc.k ty with
                    | true => rfl
                    | false => exact absurd ⟨h, e⟩ hno
                clear hno
                rcases hcase with h | ⟨h, e2⟩
                · have e1 : (ty == ([] : List UInt8)) = true := by simp [h]
                  clear h
                  go_wp2_with (at_builtin; refine wpList_append_runE _ rfl _ _ 22 22 rfl _ _ rfl rfl R7.out ?_)
                  go_roundw
                  case rel => exact ⟨k + 1, by omega, by simp <;> omega, ⟨A7, c7, rfl⟩, Lib.hid HF.out⟩
                  case measure => simp [intOf]; omega
                · have e1 : (ty == ([] : List UInt8)) = false := by simpa using h
                  clear h
                  go_wp2_with (at_builtin; refine wpList_append_runE _ rfl _ _ 22 22 rfl _ _ rfl rfl R7.out ?_)
                  go_roundw
                  case rel => exact ⟨k + 1, by omega, by simp <;> omega, ⟨A7, c7, rfl⟩, Lib.hid HF.out⟩
                  case measure => simp [intOf]; omega
          · obtain rfl : k = N := by omega
            obtain ⟨V0, rfl⟩ : ∃ V0, V0 = wr := ⟨_, rfl⟩
            have own := HI.out.1
            rw [List.take_of_length_le (by rw [HN.out]; exact Nat.le_refl _), HP.out.1] at own ⊢
            have sw := slAt_own own
            have hb2 := HI.out.2
            have mW := (hb2.block _ (Array.getElem?_eq_some_iff.1 HS2.out.2.2.2).1).trans HS2.out.2.2.2
            obtain ⟨t0, t1, t2, t3⟩ := tab_cells mW
            obtain ⟨nb, Wa, Wb, Wc, hnb, hWa, ⟨na0, na1, na2, na3⟩, naf, hWb, nd3, ndf, hWc, qc, nbc, szc⟩ := tab_none F T (some ⟨p, 0, none⟩) A n c V0
            have mC := (nbc.block _ (Array.getElem?_eq_some_iff.1 mW).1).trans mW
            have B8 := HS2.out.2.2.1.trans (hb2.mono HS2.out.2.2.1.size)
            have HV := Lib.hid (And.intro (HS2.out.2.1.later hb2) (And.intro sw (And.intro B8 (And.intro mW (And.intro (HT.out.2.1.later B8) (HT.out.1.later B8))))))
            have hTl : Ts.length = n := HT.out.2.1.1
            have hn10 : n ≤ 10 := HT.out.2.2.2.2.1
            have HC0 := Lib.hid (show RevAt V0 b1 nb p F T A n c Ts n Wc from ⟨none, 0, 0, qc, mC, ⟨[], World.ownsRow_nil _ _ _ _, by rw [List.drop_eq_nil_of_le (by omega)]; rfl, fun _ => rfl, fun j hj => by rw [List.drop_eq_nil_of_le (by omega)] at hj; simp at hj⟩, nbc⟩)
            obtain ⟨u0, u1', u2', u3⟩ := tab_cells mC
            have HTL := Lib.hid hTl
            clear own sw hb2 mW mC B8 HI qc nbc hTl
            go_wp2_with fail
            clear hWa na0 na1 na2 na3 naf hWb nd3 ndf hWc u0 u1' u2' u3 t0 t1 t2 t3
            go_loopw [17] (fun iv w' => ∃ k : Nat, k ≤ n ∧ ((k = 0 ∧ iv = .int .i64 (-1)) ∨ ∃ j : Nat, k = j + 1 ∧ iv = .int .i64 (j : Int)) ∧ Hid (RevAt V0 b1 nb p F T A n c Ts k w')) (fun iv _ => (intOf iv + 1).toNat)
            case atStart =>
              refine ⟨n, Nat.le_refl _, ?_, Lib.hid HC0.out⟩
              rcases Nat.eq_zero_or_pos n with h | h
              · left; subst h; exact ⟨rfl, rfl⟩
              · right; exact ⟨n - 1, by omega, by simp <;> omega⟩
            case round =>
              obtain ⟨k, hk, hiv, HR2⟩ := hrel
              obtain ⟨An, nn, cn, hxn, hxb', hpg, hbw⟩ := HR2.out
              rcases hiv with ⟨rfl, rfl⟩ | ⟨j, rfl, rfl⟩
              · have hTA := hpg.tabs
                rw [List.drop_zero] at hTA
                obtain ⟨res2, hres2⟩ : ∃ res2, tabR F T (L :: Ts.reverse) fy ty = res2 := ⟨_, rfl⟩
                have hLr : Rise L := (HW.out.1 L List.mem_cons_self).rise
                have hR1 : ∀ r ∈ L :: Ts, Rise r := fun r hr => (HW.out.1 r hr).rise
                have hRo : ∀ r ∈ L :: Ts.reverse, RowOk r := fun r hr => by
                  rcases List.mem_cons.1 hr with rfl | hr
                  · exact HW.out.1 _ List.mem_cons_self
                  · exact HW.out.1 r (List.mem_cons_of_mem _ (List.mem_reverse.1 hr))
                have hkq := tabR_keys (F := F) (T := T) (R := L :: Ts) (S := L :: Ts.reverse) hR1 (fun r hr => (hRo r hr).rise) (flatten_rev L Ts) fy ty
                rw [HP.out.2.2.2, hres2] at hkq
                have hnn : nn ≤ 10 := by have := hTA.1; rw [List.length_reverse, HTL.out] at this; omega
                have CN := tabRange F T fy ty (some ⟨p, 0, none⟩) An nn cn L Ts.reverse wr (HV.out.2.2.2.2.2.later hbw) hTA hnn hRo
                rw [hres2] at CN
                have hlen : res2.length = res.length := by have := congrArg List.length hkq; simpa using this.symm
                rw [hlen] at CN
                have HKQ := Lib.hid (And.intro hkq hlen)
                have HCN := Lib.hid CN
                unfold tabVal at HCN
                obtain ⟨y0, y1, y2, y3⟩ := tab_cells hxn
                have HB3 := Lib.hid hbw
                clear hTA hLr hR1 hRo hkq hnn CN hlen hres2 hxn hxb' hpg hbw HR2 HC0
                go_wp2_with fail
                refine HCN.out.mono ?_
                rintro e x1 ⟨k1, u3', rfl, own3⟩
                rw [← HKQ.out.2] at own3
                have s3 := slAt_own own3
                obtain ⟨A3, c3, rfl⟩ := own_slice own3
                rw [HKQ.out.2]
                have B3 := HB3.out.trans (k1.mono HB3.out.size)
                have s2x := HV.out.1.later B3
                have swx := HV.out.2.1.later B3
                have SC := sameT_any _ _ res res x1 s2x swx
                rw [decide_eq_true rfl] at SC
                have HSC := Lib.hid SC
                have HS3 := Lib.hid (And.intro s2x (And.intro s3 B3))
                clear own3 s3 B3 s2x swx SC k1 HCN y0 y1 y2 y3
                go_wp2_with fail
                refine HSC.out.mono ?_
                rintro e x2 ⟨rfl, k2⟩
                have HS4 := Lib.hid (And.intro (HS3.out.1.later k2) (And.intro (HS3.out.2.1.later k2) (HS3.out.2.2.trans (k2.mono HS3.out.2.2.size))))
                obtain ⟨N2, hN2⟩ : ∃ N2, res.length = N2 := ⟨_, rfl⟩
                have HN2 := Lib.hid hN2
                have hN2b : N2 ≤ 5200 := by rw [← hN2]; exact HP.out.2.2.1
                rw [hN2]
                clear hN2 k2 HSC HS3
                go_wp2_with fail
                go_loopw [20] (fun iv w' => ∃ k : Nat, k ≤ N2 ∧ iv = .int .i64 k ∧ Hid (Below x2.heap.size x2 w')) (fun iv _ => N2 - (intOf iv).toNat)
                case atStart => exact ⟨0, by omega, rfl, Lib.hid (Below.refl _ _)⟩
                case round =>
                  rename_i wq _
                  obtain ⟨k, hk3, rfl, HI3⟩ := hrel
                  by_cases hkn3 : k < N2
                  · have hkl : k < res.length := by rw [HN2.out]; exact hkn3
                    obtain ⟨Ab, cb, e0, hc1, hc2, hrow⟩ := HS4.out.1
                    simp only [Value.slice.injEq] at e0
                    obtain ⟨rfl, -, rfl⟩ := e0
                    obtain ⟨bb, o, rfl, hrw⟩ := hrow (by omega)
                    have hrw := hrw.later HI3.out hrw.1
                    obtain ⟨x0, x1', x2'⟩ := hrw.cells hkl
                    obtain ⟨Ab2, cb2, e02, hd1, hd2, hrow2⟩ := HS4.out.2.1
                    simp only [Value.slice.injEq] at e02
                    obtain ⟨rfl, -, rfl⟩ := e02
                    obtain ⟨bb2, o2, rfl, hrw2⟩ := hrow2 (by rw [HKQ.out.2]; omega)
                    have hrw2 := hrw2.later HI3.out hrw2.1
                    obtain ⟨z0, z1, z2⟩ := hrw2.cells (i := k) (by rw [HKQ.out.2]; omega)
                    have hq2 := kq_get HKQ.out.1 hkl
                    rw [hq2.1] at z0
                    rw [hq2.2] at z1
                    have hki : (k : Int) < (N2 : Int) := by omega
                    have hl1 := hrw.1
                    have hl2 := hrw2.1
                    generalize res.getD k Ce.zero = cc at *
                    clear hrow hrw hrow2 hrw2 hq2 hc1 hc2 hd1 hd2 z2 x2'
                    go_wp2_with fail
                    go_quiet (fail)
                    go_wp2_with fail
                    go_roundw
                    case rel => exact ⟨k + 1, by omega, by go_num, Lib.hid (_root_.Go.below_drewN HI3.out _)⟩
                    case measure => simp [intOf]; omega
                  · obtain rfl : k = N2 := by omega
                    have HE5 := Lib.hid (btP HV.out.2.2.1 (HS4.out.2.2.trans (HI3.out.mono HS4.out.2.2.size)))
                    have HE6 := Lib.hid (btP HT.out.2.2.2.1 HE5.out)
                    go_wp2_with fail
                    refine (lives_true _).mono ?_
                    rintro e v6 ⟨rfl, k6⟩
                    have HE7 := Lib.hid (btP HE6.out k6)
                    clear k6
                    go_wp2_with fail
                    go_ret
                    exact ⟨rfl, HE7.out⟩
              · have hA0 : 0 < n := by omega
                obtain ⟨g, o, PL, rfl, hg, hPL⟩ := HV.out.2.2.2.2.1.ptrs hA0
                obtain ⟨hcj, hpj⟩ := hPL j (by omega)
                have hcr : wr.cell? ⟨g, o + j, none⟩ = some (.pointer (PL j)) := (hbw.cell (p := ⟨g, o + j, none⟩) hg).trans hcj
                have hpr := hpj.later hbw
                obtain ⟨P, hP⟩ : ∃ P, PL j = P := ⟨_, rfl⟩
                rw [hP] at hcr hpr
                have hji : (j : Int) < (n : Int) := by omega
                have HG := Lib.hid (And.intro hpg (And.intro hpr (And.intro hbw (And.intro hg (And.intro hxn hxb')))))
                clear hPL hcj hpj hP hpg hpr HR2
                go_wp2_with fail
                refine (wpIn_wide (n := 5)).1 ?_
                refine wpIn_region_lit_late (fun w' => w'.heap[nb]? = some (.cells #[.string ⟨F.toArray⟩, .string ⟨T.toArray⟩, .pointer (some ⟨p, 0, none⟩), .slice An nn cn] 31 (0, 0)) ∧ w'.heap[b1]? = some (.cells #[.string ⟨F.toArray⟩, .string ⟨T.toArray⟩, .pointer (some ⟨p, 0, none⟩), .slice (some ⟨g, o, none⟩) n c] 31 (0, 0)) ∧ w'.cell? ⟨g, o + j, none⟩ = some (.pointer P)) (fun i => i == 10) (k := 11) (listed := #[false, false, false, false, false, false, false, false, false, false, false]) (by kernel_rfl) (by kernel_rfl) (by kernel_rfl) ?_
                have hS : wr.drew.heap[nb]? = some (.cells #[.string ⟨F.toArray⟩, .string ⟨T.toArray⟩, .pointer (some ⟨p, 0, none⟩), .slice An nn cn] 31 (0, 0)) ∧ wr.drew.heap[b1]? = some (.cells #[.string ⟨F.toArray⟩, .string ⟨T.toArray⟩, .pointer (some ⟨p, 0, none⟩), .slice (some ⟨g, o, none⟩) n c] 31 (0, 0)) ∧ wr.drew.cell? ⟨g, o + j, none⟩ = some (.pointer P) := ⟨hxn, hxb', hcr⟩
                have bz := Below.drew (Below.refl wr.heap.size wr)
                obtain ⟨wz, hwz⟩ : ∃ wz, wr.drew = wz := ⟨_, rfl⟩
                rw [hwz] at hS bz ⊢
                have HZ := Lib.hid (And.intro (HG.out.1.later bz) (And.intro (HG.out.2.1.later bz) (HG.out.2.2.1.trans (bz.mono HG.out.2.2.1.size))))
                clear hwz bz hxn hxb' hcr hbw
                refine AnyS.get (i := 0) (some 97) ?_ rfl rfl (by kernel_rfl) (by kernel_rfl) (by kernel_rfl) (by kernel_rfl) (fun _ _ _ h => h) (Reads.yes (by kernel_rfl) ?_ (fun _ => rfl)) hS ?_
                rotate_left
                · intro w' hw'
                  go_simp
                  with_reducible rfl
                simp only [Act.put, List.setIfInBounds_toArray, List.set_cons_succ, List.set_cons_zero]
                refine AnyS.get (i := 1) (some 98) ?_ rfl rfl (by kernel_rfl) (by kernel_rfl) (by kernel_rfl) (by kernel_rfl) (fun _ _ _ h => h) (Reads.yes (by kernel_rfl) ?_ (fun _ => rfl)) hS ?_
                rotate_left
                · intro w' hw'
                  obtain ⟨h1, h2, h3⟩ := hw'
                  obtain ⟨y0, y1, y2, y3⟩ := tab_cells h1
                  clear h1 h2 h3
                  go_simp
                  with_reducible rfl
                simp only [Act.put, List.setIfInBounds_toArray, List.set_cons_succ, List.set_cons_zero]
                refine AnyS.get (i := 2) (some 99) ?_ rfl rfl (by kernel_rfl) (by kernel_rfl) (by kernel_rfl) (by kernel_rfl) (fun _ _ _ h => h) (Reads.yes (by kernel_rfl) ?_ (fun _ => rfl)) hS ?_
                rotate_left
                · intro w' hw'
                  go_simp
                  with_reducible rfl
                simp only [Act.put, List.setIfInBounds_toArray, List.set_cons_succ, List.set_cons_zero]
                refine AnyS.get (i := 3) (some 100) ?_ rfl rfl (by kernel_rfl) (by kernel_rfl) (by kernel_rfl) (by kernel_rfl) (fun _ _ _ h => h) (Reads.yes (by kernel_rfl) ?_ (fun _ => rfl)) hS ?_
                rotate_left
                · intro w' hw'
                  obtain ⟨h1, h2, h3⟩ := hw'
                  obtain ⟨y0, y1, y2, y3⟩ := tab_cells h2
                  clear h1 h2 h3
                  go_simp
                  with_reducible rfl
                simp only [Act.put, List.setIfInBounds_toArray, List.set_cons_succ, List.set_cons_zero]
                refine AnyS.get (i := 4) (some 101) ?_ rfl rfl (by kernel_rfl) (by kernel_rfl) (by kernel_rfl) (by kernel_rfl) (fun _ _ _ h => h) (Reads.yes (by kernel_rfl) ?_ (fun _ => rfl)) hS ?_
                rotate_left
                · intro w' hw'
                  go_simp
                  with_reducible rfl
                simp only [Act.put, List.setIfInBounds_toArray, List.set_cons_succ, List.set_cons_zero]
                refine AnyS.get (i := 5) (some 102) ?_ rfl rfl (by kernel_rfl) (by kernel_rfl) (by kernel_rfl) (by kernel_rfl) (fun _ _ _ h => h) (Reads.yes (by kernel_rfl) ?_ (fun _ => rfl)) hS ?_
                rotate_left
                · intro w' hw'
                  go_simp
                  with_reducible rfl
                simp only [Act.put, List.setIfInBounds_toArray, List.set_cons_succ, List.set_cons_zero]
                refine AnyS.get (i := 6) (some 103) ?_ rfl rfl (by kernel_rfl) (by kernel_rfl) (by kernel_rfl) (by kernel_rfl) (fun _ _ _ h => h) (Reads.yes (by kernel_rfl) ?_ (fun _ => rfl)) hS ?_
                rotate_left
                · intro w' hw'
                  obtain ⟨h1, h2, h3⟩ := hw'
                  clear h1 h2
                  go_simp
                  with_reducible rfl
                simp only [Act.put, List.setIfInBounds_toArray, List.set_cons_succ, List.set_cons_zero]
                have HS0 := Lib.hid hS
                clear hS
                have hV0 := HZ.out.2.2.size
                obtain ⟨v7, w7, run7, hp7, B7, -, keep7, ⟨g7, c7, rfl⟩⟩ := HZ.out.1.append hV0 (by rw [List.length_reverse, List.length_drop]; have := HTL.out; omega) HZ.out.2.1
                have nbx := (Below.refl wz.heap.size wz).alloc (Nat.le_refl _) (.cells #[.pointer P] 47)
                have hlx : ∀ k, k < wz.heap.size → (wz.alloc (.cells #[.pointer P] 47)).heap[k]? = wz.heap[k]? := fun k hk => nbx.block k hk
                have hln := (Array.getElem?_eq_some_iff.1 HS0.out.1).1
                have hlb := (Array.getElem?_eq_some_iff.1 HS0.out.2.1).1
                have hlg : g < wz.heap.size := World.block_lt_of_cell? _ _ HS0.out.2.2
                have hS1 := Lib.hid (And.intro ((hlx nb hln).trans HS0.out.1) (And.intro ((hlx b1 hlb).trans HS0.out.2.1) ((nbx.cell (p := ⟨g, o + j, none⟩) hlg).trans HS0.out.2.2)))
                have B7' := HZ.out.2.2.trans B7
                have h7n := keep7 nb _ _ HS0.out.1 (by decide)
                have h7b := keep7 b1 _ _ HS0.out.2.1 (by decide)
                have hS2 := Lib.hid (And.intro h7n (And.intro h7b ((B7.cell (p := ⟨g, o + j, none⟩) HG.out.2.2.2.1).trans HS0.out.2.2)))
                have hdr := drop_rev (l := Ts) (k := j) (by rw [HTL.out]; omega)
                rw [← hdr] at hp7
                have R7 := Lib.hid run7
                rw [List.length_reverse, List.length_drop] at R7
                obtain ⟨m7, hm7⟩ : ∃ m7, Ts.length - (j + 1) + 1 = m7 := ⟨_, rfl⟩
                rw [List.length_reverse, List.length_drop] at hp7
                rw [hm7] at R7 hp7
                have hV7 := setN (F := F) (T := T) (M := some ⟨p, 0, none⟩) (x := .slice An nn cn) (v := .slice (some ⟨g7, 0, none⟩) m7 c7) h7n
                obtain ⟨V7, e7, q7, kk7, bb7⟩ := hV7
                have hne7 : ∀ gg, (Value.slice (some ⟨g7, 0, none⟩) m7 c7).ownBlock = some gg → V7.heap[gg]? = w7.heap[gg]? := fun gg hgg => by
                  obtain ⟨_, ⟨cur, hc⟩, _⟩ := hp7.aside gg hgg
                  refine kk7 gg fun e => ?_
                  rw [e, h7n] at hc
                  simp at hc
                have a7 : Aside nb w7 := ⟨_, _, h7n, .inr (.inr (.inl rfl)), fun x A n c e => by cases e.2⟩
                have p7 := hp7.asf (W' := V7) ⟨by rw [← e7]; simp only [World.size_setCell]; exact Nat.le_refl _, fun k hk hn => kk7 k fun e => hn (e ▸ a7)⟩ hne7
                have hbn : b1 ≠ nb := fun e => by have h1 := (Array.getElem?_eq_some_iff.1 HV.out.2.2.2.1).1; omega
                have HF := Lib.hid (show RevAt V0 b1 nb p F T (some ⟨g, o, none⟩) n c Ts j V7 from ⟨_, _, _, q7, (kk7 b1 hbn).trans h7b, p7, bb7 V0 (by omega) B7'⟩)
                obtain ⟨y0, y1, y2, y3⟩ := tab_cells h7n
                have yf : w7.frozen? ⟨nb, 3, none⟩ = false := by simp [World.frozen?, h7n]
                clear hp7 B7 keep7 nbx hlx hln hlb hlg B7' h7n h7b hdr hm7 q7 kk7 bb7 hne7 a7 p7 hbn hV0 run7
                refine AnyS.next (i := 7) rfl (by kernel_rfl) (by kernel_rfl) fun K hK => ?_
                refine want_yes (by kernel_rfl) ?_
                go_simp
                refine hK _ _ (fun _ => hS1.out) ?_
                clear hK K
                simp only [Act.put, List.setIfInBounds_toArray, List.set_cons_succ, List.set_cons_zero]
                refine AnyS.next (i := 8) rfl (by kernel_rfl) (by kernel_rfl) fun K hK => ?_
                refine want_yes (by kernel_rfl) ?_
                simp only [List.getElem_toArray, List.getElem_cons_succ, List.getElem_cons_zero]
                refine opIn_value _ (fun c h => by cases h) rfl (exec_append (s := .tmp 98) (x := .tmp 104) rfl rfl rfl R7.out) ?_
                refine hK _ _ (fun _ => hS2.out) ?_
                clear hK K
                simp only [Act.put, List.setIfInBounds_toArray, List.set_cons_succ, List.set_cons_zero]
                refine AnyS.next (i := 9) rfl (by kernel_rfl) (by kernel_rfl) fun K hK => ?_
                refine want_yes (by kernel_rfl) ?_
                go_simp
                refine hK _ _ (fun _ => hS2.out) ?_
                clear hK K
                simp only [Act.put, List.setIfInBounds_toArray, List.set_cons_succ, List.set_cons_zero]
                refine AnyS.next (i := 10) rfl (by kernel_rfl) (by kernel_rfl) fun K hK => ?_
                refine want_yes (by kernel_rfl) ?_
                go_simp
                refine hK _ _ (fun h => by cases h) ?_
                clear hK K
                simp only [Act.put, List.setIfInBounds_toArray, List.set_cons_succ, List.set_cons_zero]
                refine AnyS.done (by kernel_rfl) ?_ _
                clear e7 y0 y1 y2 y3 yf R7
                go_wp2_with fail
                go_roundw
                case rel =>
                  refine ⟨j, by omega, ?_, Lib.hid HF.out⟩
                  rcases Nat.eq_zero_or_pos j with h | h
                  · left; subst h; exact ⟨rfl, rfl⟩
                  · right; exact ⟨j - 1, by omega, by simp <;> omega⟩
                case measure => simp [intOf] <;> omega
end Go.Proofs.YtoglloafpnopaaaGreat
