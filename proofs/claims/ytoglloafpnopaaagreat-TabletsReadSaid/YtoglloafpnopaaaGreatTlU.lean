/- The reference's Range. -/
import Derived.Test.YtoglloafpnopaaaGreatTlS
import Derived.Deep.RegionHeld3
set_option linter.unusedSimpArgs false
set_option linter.unusedVariables false
namespace Spoor
open Go
def rangeK (F T : List UInt8) (R : List (List Ce)) (x y : List UInt8) (K : List (List UInt8)) : List Ce := K.filterMap fun key => (getT F T R key).filter (within x y)
theorem updC_key {key : List UInt8} {b : Option Ce} {a d : Ce} (h : ∀ c, b = some c → c.k = key) (hd : updC key b a = some d) : d.k = key := by
 have h2 : updC key b a = b ∨ (updC key b a = some a ∧ a.k = key) := by
  by_cases hk : a.k = key
  · cases b with
    | none => right; simp [updC, hk]
    | some z =>
      by_cases hq : z.q < a.q
      · right; simp [updC, hk, hq]
      · left; simp [updC, hq]
  · left; simp [updC, hk]
 rcases h2 with h2 | ⟨h2, h3⟩
 · exact h d (h2.symm.trans hd)
 · rw [h2] at hd; cases hd; exact h3
theorem bestF_key {key : List UInt8} : ∀ {l : List Ce} {b : Option Ce}, (∀ c, b = some c → c.k = key) → ∀ c, bestF l key b = some c → c.k = key
 | [], b, h, c, e => h c e
 | a :: l, b, h, c, e => bestF_key (l := l) (b := updC key b a) (fun d hd => updC_key h hd) c e
theorem bestR_key {R : List (List Ce)} {key : List UInt8} {c : Ce} (h : bestR R key = some c) : c.k = key := bestF_key (b := none) (fun c e => by cases e) c h
theorem rangeK_all (F T : List UInt8) (R : List (List Ce)) (x y : List UInt8) : rangeK F T R x y (keysR R) = tabR F T R x y := by
 unfold rangeK tabR newR
 rw [List.filter_filterMap]
 congr 1
 funext key
 unfold getT
 cases h : bestR R key with
 | none => cases inTab F T key <;> rfl
 | some c =>
   have hk := bestR_key h
   have e : within F T c = inTab F T key := by rw [← hk]; rfl
   simp only [Option.filter, e]
   cases inTab F T key <;> simp
theorem rangeK_snoc {F T : List UInt8} {R : List (List Ce)} {x y : List UInt8} {K : List (List UInt8)} {i : Nat} (hi : i < K.length) :
 rangeK F T R x y (K.take (i + 1)) = rangeK F T R x y (K.take i) ++ (match getT F T R (K.getD i []) with | none => [] | some c => if within x y c then [c] else []) := by
 unfold rangeK
 rw [List.take_add_one, List.filterMap_append]
 congr 1
 have e : K[i]? = some (K.getD i []) := by simp [List.getD, hi]
 rw [e]
 cases h : getT F T R (K.getD i []) with
 | none => simp only [Option.toList_some, List.filterMap_cons, List.filterMap_nil, h, Option.filter_none]
 | some c =>
   by_cases hw : within x y c = true
   · simp only [Option.toList_some, List.filterMap_cons, List.filterMap_nil, h, Option.filter, hw, if_true]
   · simp only [Option.toList_some, List.filterMap_cons, List.filterMap_nil, h, Option.filter, hw, if_false]
     simp
theorem rangeK_length {F T : List UInt8} {R : List (List Ce)} {x y : List UInt8} {K : List (List UInt8)} : (rangeK F T R x y K).length ≤ K.length := List.length_filterMap_le _ _
theorem getT_key {F T : List UInt8} {R : List (List Ce)} {key : List UInt8} {c : Ce} (h : getT F T R key = some c) : c.k = key := by
 unfold getT at h
 split at h
 · exact bestR_key h
 · cases h
theorem keysR_length (R : List (List Ce)) : (keysR R).length ≤ R.flatten.length := by
 have := putsK_length (R.flatten.map (·.k)) []
 rw [List.length_nil, Nat.zero_add, List.length_map] at this
 exact this
end Spoor
namespace Go.Proofs.YtoglloafpnopaaaGreat
set_option maxRecDepth 16000
open Go.RowKit Spoor
theorem below_set3 {B b : Nat} {a W : World} (h : Below B a W) (hb : B ≤ b) (v0 v1 v2 : Value) : Below B a (((W.setCell ⟨b, 0, none⟩ v0).setCell ⟨b, 1, none⟩ v1).setCell ⟨b, 2, none⟩ v2) :=
 below_set (below_set (below_set h hb 0 _) hb 1 _) hb 2 _
theorem StAt.val {v : Value} {K : List (List UInt8)} {W : World} (h : StAt v K W) : ∃ A c, v = .slice A K.length c ∧ K.length ≤ maxLen := by
 rcases h with ⟨rfl, rfl⟩ | ⟨b, o, cap, rfl, h1, h2, -, -⟩
 · exact ⟨none, 0, rfl, Nat.zero_le _⟩
 · exact ⟨_, cap, rfl, Nat.le_trans h1 h2⟩
theorem StAt.at' {A : Option Addr} {n c i : Nat} {K : List (List UInt8)} {W : World} (h : StAt (.slice A n c) K W) (hi : i < K.length) : ∃ b o, A = some ⟨b, o, none⟩ ∧ b < W.heap.size ∧ W.cell? ⟨b, o + i, none⟩ = some (.string ⟨(K.getD i []).toArray⟩) := by
 rcases h with ⟨-, rfl⟩ | ⟨b, o, cap, e, h1, h2, h3, h4⟩
 · simp at hi
 · simp only [Value.slice.injEq] at e
   obtain ⟨rfl, -, -⟩ := e
   exact ⟨b, o, rfl, h3, h4 i hi⟩
set_option maxRecDepth 100000 in
set_option maxHeartbeats 4000000 in
theorem refRange19_any (F T x y : List UInt8) (A : Option Addr) (n c : Nat) (Rs : List (List Ce)) (w : World) (h : RowsIn (.slice A n c) Rs w) (hbig : Rs.flatten.length ≤ 50000) :
 Calls Tryz.prog 12 #[rvVal F T A n c, .string ⟨x.toArray⟩, .string ⟨y.toArray⟩] w fun e w' => Below w.heap.size w w' ∧ ∃ u, e = .returned u ∧ w'.ownsRow w.heap.size 38 3 u (tabR F T Rs x y).length (rowOf (tabR F T Rs x y)) := by
 rw [← rangeK_all]
 obtain ⟨K, hK⟩ : ∃ K, keysR Rs = K := ⟨_, rfl⟩
 have hKl := keysR_length Rs
 rw [hK] at hKl ⊢
 obtain ⟨N, hN⟩ : ∃ N, K.length = N := ⟨_, rfl⟩
 obtain ⟨xb, W0, hxb, hW0, hx0, nb0, sz0⟩ := new_refv F T A n c w
 have CK := refKeys_any F T A n c Rs W0 (h.later nb0) hbig
 rw [hK] at CK
 have HH := Lib.hid (And.intro hx0 (And.intro nb0 (And.intro (h.later nb0) (And.intro (show N ≤ 50000 by omega) hN))))
 have HCK := Lib.hid CK
 obtain ⟨x0, x1, x2⟩ := ref_cells hx0
 unfold rvVal at HCK ⊢
 clear h hx0 nb0 hbig hK hKl hN CK
 go_enter Tryz.func12, Tryz.ntmps12
 go_wp2_with fail
 refine HCK.out.mono ?_
 rintro e w1 ⟨v, rfl, hst, b1⟩
 obtain ⟨Ak, ck, rfl, hnm⟩ := hst.val
 rw [HH.out.2.2.2.2] at hst hnm ⊢
 unfold maxLen at hnm
 have HK := Lib.hid (And.intro hst (And.intro (btP HH.out.2.1 b1) b1))
 clear hst b1 HCK
 go_wp2_with fail
 go_loopw [7, 9] (fun ov iv wr => ∃ k : Nat, k ≤ N ∧ iv = .int .i64 k ∧ (∃ An cn, ov = .slice An (rangeK F T Rs x y (K.take k)).length cn) ∧ Hid (wr.ownsRow w1.heap.size 38 3 ov (rangeK F T Rs x y (K.take k)).length (rowOf (rangeK F T Rs x y (K.take k))) ∧ True ∧ Below w1.heap.size w1 wr)) (fun _ iv _ => N - (intOf iv).toNat)
 case atStart => exact ⟨0, by omega, rfl, ⟨none, 0, rfl⟩, Lib.hid ⟨World.ownsRow_nil _ _ _ _, trivial, Below.refl _ _⟩⟩
 case round =>
  clear x0 x1 x2
  obtain ⟨k, hk, rfl, ⟨An, cn, rfl⟩, HI⟩ := hrel
  by_cases hkn : k < N
  · have hki : (k : Int) < (N : Int) := by omega
    have hkl : k < K.length := by rw [HH.out.2.2.2.2]; exact hkn
    have hx1 := (HI.out.2.2.block xb (Nat.lt_of_lt_of_le (Go.ltA HH.out.1) HK.out.2.2.size)).trans ((HK.out.2.2.block xb (Go.ltA HH.out.1)).trans HH.out.1)
    obtain ⟨x0, x1, x2⟩ := ref_cells hx1
    obtain ⟨b, o, rfl, hb, hc⟩ := (HK.out.1.later HI.out.2.2).at' hkl
    have hst := rangeK_snoc (F := F) (T := T) (R := Rs) (x := x) (y := y) hkl
    obtain ⟨kk, hkk⟩ : ∃ kk, K.getD k [] = kk := ⟨_, rfl⟩
    rw [hkk] at hc hst
    have B0 := HK.out.2.2.trans (HI.out.2.2.mono HK.out.2.2.size)
    obtain ⟨bb, hbb⟩ : ∃ bb, getT F T Rs kk = bb := ⟨_, rfl⟩
    obtain ⟨d, hd⟩ : ∃ d, getC bb = d := ⟨_, rfl⟩
    obtain ⟨oo, hoo⟩ : ∃ oo, okC bb = oo := ⟨_, rfl⟩
    have cg : ∀ W, Below wr.heap.size wr W → Calls Tryz.prog 22 #[rvVal F T A n c, .string ⟨kk.toArray⟩] W fun e w' => e = .returned (.tuple #[.agg #[.string ⟨d.k.toArray⟩, .int .i64 d.q, .string ⟨d.v.toArray⟩], .bool oo]) ∧ Below W.heap.size W w' := fun W hW => by
     have := refGet19_any F T kk A n c Rs W ((HH.out.2.2.1.later B0).later hW)
     rw [hbb, ceV_eq, hd, hoo] at this
     exact this
    rw [hbb] at hst
    have hbk : ∀ c, bb = some c → c.k = kk := fun c e => getT_key (hbb.trans e)
    have hml : (rangeK F T Rs x y (K.take k)).length ≤ 50000 := Nat.le_trans rangeK_length (Nat.le_trans (List.length_take_le _ _) (Nat.le_trans hk HH.out.2.2.2.1))
    obtain ⟨mm, hmm⟩ : ∃ mm, rangeK F T Rs x y (K.take k) = mm := ⟨_, rfl⟩
    rw [hmm] at hst HI hml ⊢
    have CG := Lib.hid cg
    have HD := Lib.hid (And.intro hst (And.intro hbk (And.intro hd hoo)))
    have HC := Lib.hid (And.intro hb (And.intro hc (And.intro hx1 hmm)))
    have hxl := (Go.ltA hx1)
    unfold rvVal at CG
    clear cg hst hbk hd hoo hbb hkk hmm hx1 B0
    go_upto_region 6 with fail
    go_cut [10, 11] (fun v10 v11 wx => ∃ bq : Nat, v10 = .pointer (some ⟨bq, 0, none⟩) ∧ v11 = .bool oo ∧ Hid (CeAt bq d wx ∧ Below wr.heap.size wr wx))
    case first =>
     have DW : Below wr.heap.size wr wr.drew := _root_.Go.below_drewN (Below.refl _ _) _
     have DWA := DW.alloc DW.size (.cells #[.string ⟨#[]⟩, .int .i64 0, .string ⟨#[]⟩] 38)
     go_region_held3 (fun W' => W'.cell? ⟨b, o + k, none⟩ = some (.string ⟨kk.toArray⟩) ∧ W'.cell? ⟨xb, 0, none⟩ = some (.string ⟨F.toArray⟩) ∧ W'.cell? ⟨xb, 1, none⟩ = some (.string ⟨T.toArray⟩) ∧ W'.cell? ⟨xb, 2, none⟩ = some (.slice A n c))
      (first | go_keep | exact ⟨((below_set3 BB (Nat.le_refl _) _ _ _).cell (p := ⟨b, o + k, none⟩) hb).trans hc, ((below_set3 BB (Nat.le_refl _) _ _ _).cell (p := ⟨xb, 0, none⟩) hxl).trans x0, ((below_set3 BB (Nat.le_refl _) _ _ _).cell (p := ⟨xb, 1, none⟩) hxl).trans x1, ((below_set3 BB (Nat.le_refl _) _ _ _).cell (p := ⟨xb, 2, none⟩) hxl).trans x2⟩ | exact ⟨(BU.cell (p := ⟨b, o + k, none⟩) hb).trans hc, (BU.cell (p := ⟨xb, 0, none⟩) hxl).trans x0, (BU.cell (p := ⟨xb, 1, none⟩) hxl).trans x1, (BU.cell (p := ⟨xb, 2, none⟩) hxl).trans x2⟩ | exact ⟨((btP BB nV).cell (p := ⟨b, o + k, none⟩) hb).trans hc, ((btP BB nV).cell (p := ⟨xb, 0, none⟩) hxl).trans x0, ((btP BB nV).cell (p := ⟨xb, 1, none⟩) hxl).trans x1, ((btP BB nV).cell (p := ⟨xb, 2, none⟩) hxl).trans x2⟩)
      (first
        | (go_at_call 22; refine (CG.out _ DW).mono ?_; rintro e w8 ⟨rfl, b8⟩; have mk1 : True := trivial; have BB : Below wr.heap.size wr w8 := btP DW b8; obtain ⟨bq, uu, V, hbq, huu, ⟨p0, p1, p2⟩, ⟨pf0, pf1, pf2⟩, hV, hz, nV, szV⟩ := cell_put w8 d; have BU : Below wr.heap.size wr uu := (by rw [← huu]; exact BB.alloc BB.size _); have u0 := (BB.cell (p := ⟨b, o + k, none⟩) hb).trans hc; have u1 := (BB.cell (p := ⟨xb, 0, none⟩) hxl).trans x0; have u2 := (BB.cell (p := ⟨xb, 1, none⟩) hxl).trans x1; have u3 := (BB.cell (p := ⟨xb, 2, none⟩) hxl).trans x2)
        | (go_at_call 22; refine (CG.out _ DWA).mono ?_; rintro e w8 ⟨rfl, b8⟩; have mk2 : True := trivial; have BB : Below wr.heap.size wr w8 := btP DWA b8; have u0 := (BB.cell (p := ⟨b, o + k, none⟩) hb).trans hc; have u1 := (BB.cell (p := ⟨xb, 0, none⟩) hxl).trans x0; have u2 := (BB.cell (p := ⟨xb, 1, none⟩) hxl).trans x1; have u3 := (BB.cell (p := ⟨xb, 2, none⟩) hxl).trans x2; have hz : CeAt wr.heap.size Ce.zero w8 := CeAt.later (CeAt.boxed Ce.zero wr.drew) b8 (CeAt.lt (CeAt.boxed Ce.zero wr.drew)); obtain ⟨z0, z1, z2⟩ := hz.cell; obtain ⟨f0, f1, f2⟩ := hz.frees))
     all_goals
      first
       | (clear mk1; go_wp2_with fail; go_meet; exact ⟨bq, rfl, rfl, Lib.hid ⟨hz, btP BB nV⟩⟩)
       | (clear mk2; go_wp2_with fail; go_meet; exact ⟨_, rfl, rfl, Lib.hid (hz.all BB (Nat.le_refl _) d)⟩)
    case' rest => skip
    obtain ⟨bq, rfl, rfl, HQ⟩ := hcut
    have hb2 := Nat.lt_of_lt_of_le HC.out.1 HQ.out.2.size
    have hc2 := (HQ.out.2.cell (p := ⟨b, o + k, none⟩) HC.out.1).trans HC.out.2.1
    obtain ⟨d0, d1, d2⟩ := HQ.out.1.cell
    have hbq := HQ.out.1.lt
    have HI2 := Lib.hid (And.intro (own_lat HI.out.1 HQ.out.2) (And.intro trivial (HI.out.2.2.trans (HQ.out.2.mono HI.out.2.2.size))))
    clear hb hc x0 x1 x2 hxl HI CG
    have HST := Lib.hid HD.out.1
    cases oo with
    | false =>
      have hbn : bb = none := by
       have := HD.out.2.2.2
       cases bb with
       | none => rfl
       | some x => cases this
      have HF := Lib.hid (show rangeK F T Rs x y (K.take (k + 1)) = mm from by rw [HST.out, hbn]; simp)
      clear hbn HST
      go_wp2_with fail
      go_roundw
      case rel => exact ⟨k + 1, by omega, by simp <;> omega, ⟨An, cn, by rw [HF.out]⟩, Lib.hid (by rw [HF.out]; exact HI2.out)⟩
      case measure => simp [intOf]; omega
    | true =>
      have hbs : bb = some d := by
       have h1 := HD.out.2.2.2
       have h2 := HD.out.2.2.1
       cases bb with
       | none => cases h1
       | some x => simp only [getC, Option.getD_some] at h2; rw [h2]
      have hst := HST.out
      rw [hbs] at hst
      have hdk := HD.out.2.1 d hbs
      cases b1' : Op.bytesLess kk x with
      | true =>
        have hw : within x y d = false := by unfold within; rw [hdk, b1']; rfl
        simp only [hw, Bool.false_eq_true, if_false, List.append_nil] at hst
        have HF := Lib.hid hst
        clear hw hst hbs hdk HST
        go_wp2_with fail
        go_roundw
        case rel => exact ⟨k + 1, by omega, by simp <;> omega, ⟨An, cn, by rw [HF.out]⟩, Lib.hid (by rw [HF.out]; exact HI2.out)⟩
        case measure => simp [intOf]; omega
      | false =>
        by_cases hno : y ≠ [] ∧ Op.bytesLess kk y = false
        · have e1 : (y == ([] : List UInt8)) = false := by simpa using hno.1
          have e2 := hno.2
          have hw : within x y d = false := by unfold within; rw [hdk, e2]; simp [hno.1]
          simp only [hw, Bool.false_eq_true, if_false, List.append_nil] at hst
          have HF := Lib.hid hst
          clear hw hst hbs hdk HST hno
          go_wp2_with fail
          go_roundw
          case rel => exact ⟨k + 1, by omega, by simp <;> omega, ⟨An, cn, by rw [HF.out]⟩, Lib.hid (by rw [HF.out]; exact HI2.out)⟩
          case measure => simp [intOf]; omega
        · have hw : within x y d = true := by
           unfold within
           rw [hdk, b1']
           by_cases h : y = []
           · simp [h]
           · have : Op.bytesLess kk y = true := by
              cases e : Op.bytesLess kk y with
              | true => rfl
              | false => exact absurd ⟨h, e⟩ hno
             simp [this]
          simp only [hw, if_true] at hst
          have nbx := (Below.refl wc.heap.size wc).alloc (Nat.le_refl _) (.cells (rowOf [d]).toArray 38)
          have sx := new_sl [d] wc (by simp)
          have hb4 := HI2.out.2.2.size
          obtain ⟨v7, w7, run7, own7, b7⟩ := run_append_sl (l := mm) (m := [d]) (own_lat HI2.out.1 nbx) (Nat.le_trans hb4 nbx.size) sx (by simp; omega)
          rw [← hst] at own7
          have C7 := HI2.out.2.2.trans ((nbx.mono hb4).trans b7)
          obtain ⟨A7, c7, rfl⟩ := own_slice own7
          have HF := Lib.hid (And.intro own7 (And.intro trivial C7))
          have R7 := Lib.hid run7
          clear hst hw nbx sx run7 own7 b7 C7 hbs hdk HST
          unfold rowOf ceRow at R7
          simp only [List.flatMap_cons, List.flatMap_nil, List.append_nil, List.length_singleton] at R7
          have hcase : y = [] ∨ (y ≠ [] ∧ Op.bytesLess kk y = true) := by
           by_cases h : y = []
           · exact .inl h
           · right
             refine ⟨h, ?_⟩
             cases e : Op.bytesLess kk y with
             | true => rfl
             | false => exact absurd ⟨h, e⟩ hno
          clear hno
          rcases hcase with h | ⟨h, e2⟩
          · have e1 : (y == ([] : List UInt8)) = true := by simp [h]
            clear h
            go_wp2_with (at_builtin; refine wpList_append_runE _ rfl _ _ 22 22 rfl _ _ rfl rfl R7.out ?_)
            go_roundw
            case rel => exact ⟨k + 1, by omega, by simp <;> omega, ⟨A7, c7, rfl⟩, Lib.hid HF.out⟩
            case measure => simp [intOf]; omega
          · have e1 : (y == ([] : List UInt8)) = false := by simpa using h
            clear h
            go_wp2_with (at_builtin; refine wpList_append_runE _ rfl _ _ 22 22 rfl _ _ rfl rfl R7.out ?_)
            go_roundw
            case rel => exact ⟨k + 1, by omega, by simp <;> omega, ⟨A7, c7, rfl⟩, Lib.hid HF.out⟩
            case measure => simp [intOf]; omega
  · obtain rfl : k = N := by omega
    have hki : ¬ (k : Int) < (k : Int) := by omega
    have htk : K.take k = K := List.take_of_length_le (by rw [HH.out.2.2.2.2]; exact Nat.le_refl _)
    rw [htk] at HI ⊢
    have HF := Lib.hid (And.intro (HK.out.2.1.trans (HI.out.2.2.mono HK.out.2.1.size)) (HI.out.1.mono HK.out.2.1.size))
    go_wp2_with fail
    go_ret
    exact ⟨by first | exact HF.out.1 | (rw [← hxb]; exact HF.out.1), _, rfl, by first | exact HF.out.2 | (rw [← hxb]; exact HF.out.2)⟩
end Go.Proofs.YtoglloafpnopaaaGreat
