/- The reference's Get. -/
import Derived.Test.YtoglloafpnopaaaGreatTlR
set_option linter.unusedSimpArgs false
set_option linter.unusedVariables false
namespace Go.Proofs.YtoglloafpnopaaaGreat
set_option maxRecDepth 16000
open Go.RowKit Spoor
def GetAt (w : World) (xb : Nat) (F T : List UInt8) (A : Option Addr) (n c : Nat) (b : Option Ce) (W : World) : Prop :=
 W.heap[xb]? = some (.cells #[.string ⟨F.toArray⟩, .string ⟨T.toArray⟩, .slice A n c] 33 (0, 0)) ∧ W.heap[xb + 1]? = some (.cells #[.string ⟨Ce.zero.k.toArray⟩, .int .i64 Ce.zero.q, .string ⟨Ce.zero.v.toArray⟩] 38 (0, 0)) ∧ W.heap[xb + 1 + 1]? = some (.cells #[.string ⟨(getC b).k.toArray⟩, .int .i64 (getC b).q, .string ⟨(getC b).v.toArray⟩] 38 (0, 0)) ∧ Below w.heap.size w W
theorem bestF_take {l : List Ce} {key : List UInt8} {b : Option Ce} {k : Nat} (hk : k < l.length) : bestF (l.take (k + 1)) key b = updC key (bestF (l.take k) key b) (l.getD k Ce.zero) := by
 rw [take_ce l k hk, bestF_snoc]
theorem bestF_app (l m : List Ce) (key : List UInt8) (b : Option Ce) : bestF (l ++ m) key b = bestF m key (bestF l key b) := by simp [bestF]
theorem cell_again {v : World} {g : Nat} {a b d : Value} (x : Ce) (h : v.heap[g]? = some (.cells #[a, b, d] 38 (0, 0))) : ∃ V,
 (v.cell? ⟨g, 0, none⟩ = some a ∧ v.cell? ⟨g, 1, none⟩ = some b ∧ v.cell? ⟨g, 2, none⟩ = some d) ∧ (v.frozen? ⟨g, 0, none⟩ = false ∧ v.frozen? ⟨g, 1, none⟩ = false ∧ v.frozen? ⟨g, 2, none⟩ = false) ∧
 ((v.setCell ⟨g, 0, none⟩ (.string ⟨x.k.toArray⟩)).setCell ⟨g, 1, none⟩ (.int .i64 x.q)).setCell ⟨g, 2, none⟩ (.string ⟨x.v.toArray⟩) = V ∧
 V.heap[g]? = some (.cells #[.string ⟨x.k.toArray⟩, .int .i64 x.q, .string ⟨x.v.toArray⟩] 38 (0, 0)) ∧ (∀ k, k ≠ g → V.heap[k]? = v.heap[k]?) ∧ (∀ W0 : World, W0.heap.size ≤ g → Below W0.heap.size W0 v → Below W0.heap.size W0 V) := by
 refine ⟨_, cells3 h, ⟨by simp [World.frozen?, h], by simp [World.frozen?, h], by simp [World.frozen?, h]⟩, rfl, set3 h, fun k hk => ?_, fun W0 l b => below_set (below_set (below_set b l 0 _) l 1 _) l 2 _⟩
 exact (Below.heap_setCell _ ⟨g, 2, none⟩ _ k hk).trans ((Below.heap_setCell _ ⟨g, 1, none⟩ _ k hk).trans (Below.heap_setCell _ ⟨g, 0, none⟩ _ k hk))
set_option maxRecDepth 100000 in
set_option maxHeartbeats 4000000 in
theorem refGet19_any (F T key : List UInt8) (A : Option Addr) (n c : Nat) (Rs : List (List Ce)) (w : World) (h : RowsIn (.slice A n c) Rs w) :
 Calls Tryz.prog 22 #[rvVal F T A n c, .string ⟨key.toArray⟩] w fun e w' => e = .returned (ceV (getT F T Rs key)) ∧ Below w.heap.size w w' := by
 obtain ⟨xb, W0, hxb, hW0, hx0, nb0, sz0⟩ := new_refv F T A n c w
 obtain ⟨W1, hW1, h1, nb1, a10, a11, a12, f10, f11, f12⟩ := new_cell W0 (xb + 1) sz0
 have sz1 : W1.heap.size = xb + 1 + 1 := by rw [← hW1, World.size_alloc, sz0]
 obtain ⟨W2, hW2, h2, nb2, a20, a21, a22, f20, f21, f22⟩ := new_cell W1 (xb + 1 + 1) sz1
 have hx2 := (nb2.block _ (by omega)).trans ((nb1.block _ (by omega)).trans hx0)
 have h12 := (nb2.block _ (by omega)).trans h1
 have HG := Lib.hid (show GetAt w xb F T A n c none W2 from ⟨hx2, h12, h2, btP nb0 (btP nb1 nb2)⟩)
 have HR := Lib.hid h
 have hnn : Rs.length = n := h.row.1
 have hnb : n ≤ 9223372036854775807 := by have := h.row.2.1; unfold maxLen at this; omega
 have HN := Lib.hid hnn
 obtain ⟨x0, x1, x2⟩ := ref_cells hx2
 have HXB := Lib.hid hxb
 obtain ⟨res, hres⟩ : ∃ res, getT F T Rs key = res := ⟨_, rfl⟩
 rw [hres]
 have HRES := Lib.hid hres
 clear hres
 clear a10 a11 a12 f10 f11 f12 h1 nb0 nb1 nb2 hx0 h hnn
 unfold rvVal
 go_enter Tryz.func22, Tryz.ntmps22
 go_upto_region 3 with fail
 go_cut [25] (fun v wx => v = .bool (!inTab F T key) ∧ W2 = wx)
 case first =>
  cases g1 : Op.bytesLess key F with
  | true =>
    go_wp2_with fail
    go_meet
    case rel => exact ⟨by unfold inTab; rw [g1]; rfl, rfl⟩
  | false =>
    by_cases hT : T = []
    · have e1 : (T == ([] : List UInt8)) = true := by simp [hT]
      go_wp2_with fail
      go_meet
      case rel => exact ⟨by unfold inTab; rw [g1]; simp [hT], rfl⟩
    · have e1 : (T == ([] : List UInt8)) = false := by simpa using hT
      cases g2 : Op.bytesLess key T with
      | true =>
        go_wp2_with fail
        go_meet
        case rel => exact ⟨by unfold inTab; rw [g1, g2]; simp [hT], rfl⟩
      | false =>
        go_wp2_with fail
        go_meet
        case rel => exact ⟨by unfold inTab; rw [g1, g2]; simp [hT], rfl⟩
 case' rest => skip
 obtain ⟨rfl, rfl⟩ := hcut
 clear x0 x1 x2 a20 a21 a22 f20 f21 f22 hW0 hW1 hW2 sz0 sz1 hx2 h12 h2
 cases hin : inTab F T key with
 | false =>
   have hrs := HRES.out
   unfold getT at hrs
   rw [hin] at hrs
   simp only [Bool.false_eq_true, if_false] at hrs
   subst hrs
   clear HRES
   obtain ⟨b, hb⟩ : ∃ b : Option Ce, none = b := ⟨_, rfl⟩
   rw [hb] at HG
   have HE := Lib.hid (And.intro hb.symm HG.out)
   obtain ⟨q0, q1, q2⟩ := cells3 HE.out.2.2.2.1
   clear hb HG
   obtain ⟨V9, ⟨c50, c51, c52⟩, ⟨cf0, cf1, cf2⟩, hV9, zz9, kk9, hB9⟩ := cell_again (getC b) HE.out.2.2.1
   obtain ⟨u0, u1, u2⟩ := cells3 HE.out.2.2.2.1
   have HF := Lib.hid (And.intro zz9 (hB9 w (by have := HXB.out; omega) HE.out.2.2.2.2))
   clear zz9 kk9 hB9
   go_wp2_with fail
   clear c50 c51 c52 cf0 cf1 cf2 hV9 u0 u1 u2
   obtain ⟨y0, y1, y2⟩ := cells3 HF.out.1
   have e2 : okC b = false := by rw [HE.out.1]; rfl
   refine bodyPost_ret (v := .tuple #[.agg #[.string ⟨(getC b).k.toArray⟩, .int .i64 (getC b).q, .string ⟨(getC b).v.toArray⟩], .bool (okC b)]) (by simp [results, Tryz.results22, go_sem, *]) rfl ⟨?_, by first | exact HF.out.2 | (rw [← HXB.out]; exact HF.out.2)⟩
   rw [HE.out.1]
   rfl
 | true =>
   have hrs := HRES.out
   unfold getT at hrs
   rw [hin] at hrs
   simp only [if_true] at hrs
   have HRS := Lib.hid hrs
   clear hrs HRES
   go_wp2_with fail
   go_loopw [7, 8] (fun ov iv wr => ∃ (i : Nat) (b : Option Ce), i ≤ n ∧ iv = .int .i64 i ∧ ov = .bool (okC b) ∧ Hid (bestF (Rs.take i).flatten key none = b ∧ GetAt w xb F T A n c b wr)) (fun _ iv _ => n - (intOf iv).toNat)
   case atStart => exact ⟨0, none, by omega, rfl, rfl, Lib.hid ⟨rfl, HG.out⟩⟩
   case round =>
    clear HG
    obtain ⟨i, b, hi, rfl, rfl, HI⟩ := hrel
    obtain ⟨x0, x1, x2⟩ := ref_cells HI.out.2.1
    by_cases hin2 : i < n
    · have hii : (i : Int) < (n : Int) := by omega
      have hlat := HI.out.2.2.2.2
      obtain ⟨b0, o, Ak, ck, rfl, hb, hcell, hsl⟩ := HR.out.row.2.2 i hin2
      obtain ⟨lk, hlk⟩ : ∃ lk, Rs.getD i [] = lk := ⟨_, rfl⟩
      rw [hlk] at hcell hsl
      obtain ⟨m, hm⟩ : ∃ m, lk.length = m := ⟨_, rfl⟩
      rw [hm] at hcell hsl
      have y0 : wr.cell? ⟨b0, o + i, none⟩ = some (.slice Ak m ck) := (hlat.cell (p := ⟨b0, o + i, none⟩) hb).trans hcell
      have hiR : i < Rs.length := by rw [HN.out]; exact hin2
      have hft := flatR_take hiR
      rw [hlk] at hft
      have hmb : m ≤ 9223372036854775807 := by obtain ⟨Ab, cb, e0, h1, h2, -⟩ := hsl; simp only [Value.slice.injEq] at e0; unfold maxLen at h2; omega
      have HL := Lib.hid (And.intro hft (And.intro hm (And.intro hsl (And.intro hb hcell))))
      have hbr : b0 < wr.heap.size := Nat.lt_of_lt_of_le hb hlat.size
      clear hcell hsl hft hm hlk hb hlat
      go_wp2_with fail
      go_loopw [7, 9] (fun ov iv wq => ∃ (k : Nat) (b : Option Ce), k ≤ m ∧ iv = .int .i64 k ∧ ov = .bool (okC b) ∧ Hid (bestF (lk.take k) key (bestF (Rs.take i).flatten key none) = b ∧ GetAt w xb F T (some ⟨b0, o, none⟩) n c b wq)) (fun _ iv _ => m - (intOf iv).toNat)
      case atStart => exact ⟨0, b, by omega, rfl, rfl, Lib.hid ⟨HI.out.1, HI.out.2⟩⟩
      case round =>
       clear x0 x1 x2 y0 hbr HI
       obtain ⟨k, b, hk, rfl, rfl, HK⟩ := hrel
       obtain ⟨x0, x1, x2⟩ := ref_cells HK.out.2.1
       have hlat := HK.out.2.2.2.2
       have y0 : wr.cell? ⟨b0, o + i, none⟩ = some (.slice Ak m ck) := (hlat.cell (p := ⟨b0, o + i, none⟩) HL.out.2.2.2.1).trans HL.out.2.2.2.2
       by_cases hkm : k < m
       · have hkl : k < lk.length := by rw [HL.out.2.1]; exact hkm
         have hki : (k : Int) < (m : Int) := by omega
         obtain ⟨Ab, cb, e0, hc1, hc2, hrow⟩ := HL.out.2.2.1
         simp only [Value.slice.injEq] at e0
         obtain ⟨rfl, -, rfl⟩ := e0
         obtain ⟨bb, oo, rfl, hrw⟩ := hrow (by omega)
         have hrw := hrw.later hlat hrw.1
         obtain ⟨z0, z1, z2⟩ := hrw.cells hkl
         have hbl := hrw.1
         have hbr : b0 < wr.heap.size := Nat.lt_of_lt_of_le HL.out.2.2.2.1 hlat.size
         have hst : bestF (lk.take (k + 1)) key (bestF (Rs.take i).flatten key none) = updC key b (lk.getD k Ce.zero) := by rw [bestF_take hkl, HK.out.1]
         obtain ⟨cc, hcc⟩ : ∃ cc, lk.getD k Ce.zero = cc := ⟨_, rfl⟩
         rw [hcc] at z0 z1 z2 hst
         have HST := Lib.hid hst
         obtain ⟨g, u, V, hg, hu, ⟨p0, p1, p2⟩, ⟨pf0, pf1, pf2⟩, hV, hz, nV, szV⟩ := cell_put wr cc
         have gb : xb + 1 + 1 < wr.heap.size := (Go.ltA HK.out.2.2.2.1)
         have HV := Lib.hid (show GetAt w xb F T (some ⟨b0, o, none⟩) n c b V from ⟨(nV.block _ (by omega)).trans HK.out.2.1, (nV.block _ (by omega)).trans HK.out.2.2.1, (nV.block _ (by omega)).trans HK.out.2.2.2.1, btP HK.out.2.2.2.2 nV⟩)
         obtain ⟨d0, d1, d2⟩ := cells3 hz
         obtain ⟨u0, u1, u2⟩ := cells3 HV.out.2.2.1
         clear hrow hrw hc1 hc2 hst hcc hz nV szV gb hlat HK
         by_cases hkey : cc.k = key
         · have e1 : (cc.k == key) = true := by simp [hkey]
           have HKEY := Lib.hid hkey
           clear hkey
           rcases b with _ | d
           · have e2 : okC none = false := rfl
             have HU : updC key none cc = some cc := by simp [updC, HKEY.out]
             clear u0 u1 u2
             obtain ⟨V9, ⟨c50, c51, c52⟩, ⟨cf0, cf1, cf2⟩, hV9, zz9, kk9, hB9⟩ := cell_again cc HV.out.2.2.1
             have HF := Lib.hid (show GetAt w xb F T (some ⟨b0, o, none⟩) n c (some cc) V9 from ⟨(kk9 xb (by omega)).trans HV.out.1, (kk9 (xb + 1) (by omega)).trans HV.out.2.1, zz9, hB9 w (by have := HXB.out; omega) HV.out.2.2.2⟩)
             clear zz9 kk9 hB9
             go_wp2_with fail
             go_roundw
             case rel => exact ⟨k + 1, some cc, by omega, by simp <;> omega, rfl, Lib.hid ⟨HST.out.trans HU, HF.out⟩⟩
             case measure => simp [intOf]; omega
           · have e2 : okC (some d) = true := rfl
             by_cases hq : d.q < cc.q
             · have HU : updC key (some d) cc = some cc := by simp [updC, HKEY.out, hq]
               have hq2 : (getC (some d)).q < cc.q := hq
               obtain ⟨V9, ⟨c50, c51, c52⟩, ⟨cf0, cf1, cf2⟩, hV9, zz9, kk9, hB9⟩ := cell_again cc HV.out.2.2.1
               have HF := Lib.hid (show GetAt w xb F T (some ⟨b0, o, none⟩) n c (some cc) V9 from ⟨(kk9 xb (by omega)).trans HV.out.1, (kk9 (xb + 1) (by omega)).trans HV.out.2.1, zz9, hB9 w (by have := HXB.out; omega) HV.out.2.2.2⟩)
               clear zz9 kk9 hB9
               go_wp2_with fail
               go_roundw
               case rel => exact ⟨k + 1, some cc, by omega, by simp <;> omega, rfl, Lib.hid ⟨HST.out.trans HU, HF.out⟩⟩
               case measure => simp [intOf]; omega
             · have HU : updC key (some d) cc = some d := by simp [updC, hq]
               have hq2 : ¬ (getC (some d)).q < cc.q := hq
               go_wp2_with fail
               go_roundw
               case rel => exact ⟨k + 1, some d, by omega, by simp <;> omega, rfl, Lib.hid ⟨HST.out.trans HU, HV.out⟩⟩
               case measure => simp [intOf]; omega
         · have e1 : (cc.k == key) = false := by simpa using hkey
           have HU : updC key b cc = b := by simp [updC, hkey]
           clear hkey
           go_wp2_with fail
           go_roundw
           case rel => exact ⟨k + 1, b, by omega, by simp <;> omega, rfl, Lib.hid ⟨HST.out.trans HU, HV.out⟩⟩
           case measure => simp [intOf]; omega
       · obtain rfl : k = m := by omega
         have hki : ¬ (k : Int) < (k : Int) := by omega
         have hst := HK.out.1
         have hlt : lk.take k = lk := List.take_of_length_le (by rw [HL.out.2.1]; exact Nat.le_refl _)
         rw [hlt, ← bestF_app, ← HL.out.1] at hst
         have HF := Lib.hid (And.intro hst HK.out.2)
         have hbr : b0 < wr.heap.size := Nat.lt_of_lt_of_le HL.out.2.2.2.1 hlat.size
         clear hst HK hlat
         go_wp2_with fail
         go_roundw
         case rel => exact ⟨i + 1, b, by omega, by simp <;> omega, rfl, HF⟩
         case measure => simp [intOf]; omega
    · obtain rfl : i = n := by omega
      have hki : ¬ (i : Int) < (i : Int) := by omega
      have hst := HI.out.1
      rw [List.take_of_length_le (by rw [HN.out]; exact Nat.le_refl _)] at hst
      have HE := Lib.hid (And.intro (show res = b from HRS.out.symm.trans hst) HI.out.2)
      clear hst HI
      obtain ⟨q0, q1, q2⟩ := cells3 HE.out.2.2.2.1
      obtain ⟨V9, ⟨c50, c51, c52⟩, ⟨cf0, cf1, cf2⟩, hV9, zz9, kk9, hB9⟩ := cell_again (getC b) HE.out.2.2.1
      obtain ⟨u0, u1, u2⟩ := cells3 HE.out.2.2.2.1
      have HF := Lib.hid (And.intro zz9 (hB9 w (by have := HXB.out; omega) HE.out.2.2.2.2))
      clear zz9 kk9 hB9
      go_wp2_with fail
      clear c50 c51 c52 cf0 cf1 cf2 hV9 u0 u1 u2
      obtain ⟨y0, y1, y2⟩ := cells3 HF.out.1
      refine bodyPost_ret (v := .tuple #[.agg #[.string ⟨(getC b).k.toArray⟩, .int .i64 (getC b).q, .string ⟨(getC b).v.toArray⟩], .bool (okC b)]) (by simp [results, Tryz.results22, go_sem, *]) rfl ⟨?_, by first | exact HF.out.2 | (rw [← HXB.out]; exact HF.out.2)⟩
      rw [HE.out.1, ceV_eq]
end Go.Proofs.YtoglloafpnopaaaGreat
