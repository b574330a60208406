/- The reference's Keys. -/
import Derived.Test.YtoglloafpnopaaaGreatTlQ
set_option linter.unusedSimpArgs false
set_option linter.unusedVariables false
namespace Go.Proofs.YtoglloafpnopaaaGreat
set_option maxRecDepth 16000
open Go.RowKit Spoor
theorem new_refv (F T : List UInt8) (A : Option Addr) (n c : Nat) (w : World) : ∃ xb W0, w.heap.size = xb ∧ w.alloc (.cells #[.string ⟨F.toArray⟩, .string ⟨T.toArray⟩, .slice A n c] 33) = W0 ∧
 W0.heap[xb]? = some (.cells #[.string ⟨F.toArray⟩, .string ⟨T.toArray⟩, .slice A n c] 33 (0, 0)) ∧ Below w.heap.size w W0 ∧ W0.heap.size = xb + 1 :=
 ⟨_, _, rfl, rfl, heap_alloc_new w _, (Below.refl w.heap.size w).alloc (Nat.le_refl _) _, World.size_alloc _ _⟩
theorem putsK_snoc (l m : List (List UInt8)) (s : List UInt8) : putsK l (m ++ [s]) = putK (putsK l m) s := by simp [putsK]
theorem putsK_app (l m r : List (List UInt8)) : putsK l (m ++ r) = putsK (putsK l m) r := by simp [putsK]
theorem flatR_take {R : List (List Ce)} {i : Nat} (hi : i < R.length) : (R.take (i + 1)).flatten = (R.take i).flatten ++ R.getD i [] := by
 rw [List.take_add_one, List.flatten_append]
 simp [List.getD, hi]
theorem flatR_le (R : List (List Ce)) (i : Nat) : (R.take i).flatten.length ≤ R.flatten.length := by
 conv => rhs; rw [← List.take_append_drop i R, List.flatten_append, List.length_append]
 omega
theorem flatR_row {R : List (List Ce)} {i : Nat} (hi : i < R.length) : (R.take i).flatten.length + (R.getD i []).length ≤ R.flatten.length := by
 have := flatR_le R (i + 1)
 rw [flatR_take hi, List.length_append] at this
 exact this
theorem RowsIn.row {A : Option Addr} {n c : Nat} {Rs : List (List Ce)} {W : World} (h : RowsIn (.slice A n c) Rs W) : Rs.length = n ∧ n ≤ maxLen ∧ ∀ k, k < n → ∃ b o Ak ck, A = some ⟨b, o, none⟩ ∧ b < W.heap.size ∧ W.cell? ⟨b, o + k, none⟩ = some (.slice Ak (Rs.getD k []).length ck) ∧ SlAt (.slice Ak (Rs.getD k []).length ck) (Rs.getD k []) W := by
 obtain ⟨Ab, cb, e0, hc1, hc2, hrow⟩ := h
 simp only [Value.slice.injEq] at e0
 obtain ⟨rfl, rfl, rfl⟩ := e0
 refine ⟨rfl, Nat.le_trans hc1 hc2, fun k hk => ?_⟩
 obtain ⟨b, o, vk, e, hb, hcell, hsl⟩ := hrow k hk
 obtain ⟨Ak, ck, rfl⟩ : ∃ A c, vk = .slice A (Rs.getD k []).length c := by obtain ⟨A, c, e, -⟩ := hsl; exact ⟨A, c, e⟩
 exact ⟨b, o, Ak, ck, e, hb, hcell, hsl⟩
set_option maxRecDepth 100000 in
set_option maxHeartbeats 4000000 in
theorem refKeys_any (F T : List UInt8) (A : Option Addr) (n c : Nat) (Rs : List (List Ce)) (w : World) (h : RowsIn (.slice A n c) Rs w) (hbig : Rs.flatten.length ≤ 50000) :
 Calls Tryz.prog 28 #[rvVal F T A n c] w fun e w' => ∃ v, e = .returned v ∧ StAt v (keysR Rs) w' ∧ Below w.heap.size w w' := by
 obtain ⟨xb, W0, hxb, hW0, hx0, nb0, sz0⟩ := new_refv F T A n c w
 have HH := Lib.hid (And.intro hx0 (And.intro nb0 (And.intro (h.later nb0).row (And.intro hbig (h.later nb0)))))
 have hnb : n ≤ 9223372036854775807 := by have := h.row.2.1; unfold maxLen at this; omega
 unfold rvVal
 clear h hx0 nb0 hbig
 go_enter Tryz.func28, Tryz.ntmps28
 go_wp2_with fail
 go_loopw [3, 4] (fun sv iv wr => ∃ (i : Nat) (ov : Value), ov = sv ∧ i ≤ n ∧ iv = .int .i64 i ∧ Hid (StAt sv (putsK [] ((Rs.take i).flatten.map (·.k))) wr ∧ Below W0.heap.size W0 wr)) (fun _ iv _ => n - (intOf iv).toNat)
 case atStart => exact ⟨0, _, rfl, by omega, rfl, Lib.hid ⟨.inl ⟨rfl, rfl⟩, Below.refl _ _⟩⟩
 case round =>
  obtain ⟨i, ov, rfl, hi, rfl, HI⟩ := hrel
  have hx1 := (HI.out.2.block xb (Go.ltA HH.out.1)).trans HH.out.1
  obtain ⟨x0, x1, x2⟩ := ref_cells hx1
  clear hx1
  by_cases hin : i < n
  · have hii : (i : Int) < (n : Int) := by omega
    obtain ⟨b, o, Ak, ck, rfl, hb, hcell, hsl⟩ := HH.out.2.2.1.2.2 i hin
    obtain ⟨lk, hlk⟩ : ∃ lk, Rs.getD i [] = lk := ⟨_, rfl⟩
    rw [hlk] at hcell hsl
    obtain ⟨m, hm⟩ : ∃ m, lk.length = m := ⟨_, rfl⟩
    rw [hm] at hcell hsl
    have y0 : wr.cell? ⟨b, o + i, none⟩ = some (.slice Ak m ck) := (HI.out.2.cell (p := ⟨b, o + i, none⟩) hb).trans hcell
    have hiR : i < Rs.length := by rw [HH.out.2.2.1.1]; exact hin
    have hft := flatR_take hiR
    have hfr := flatR_row hiR
    rw [hlk] at hft hfr
    have hmb : m ≤ 50000 := by have := HH.out.2.2.2.1; omega
    have HL := Lib.hid (And.intro hft (And.intro hfr (And.intro hm (And.intro hsl (And.intro hb hcell)))))
    have hbr : b < wr.heap.size := Nat.lt_of_lt_of_le hb HI.out.2.size
    clear hcell hsl hft hfr hm hlk hb
    go_wp2_with fail
    go_loopw [3, 5] (fun sv iv wq => ∃ (k : Nat) (ow : Value), ow = sv ∧ k ≤ m ∧ iv = .int .i64 k ∧ Hid (StAt sv (putsK (putsK [] ((Rs.take i).flatten.map (·.k))) ((lk.take k).map (·.k))) wq ∧ Below W0.heap.size W0 wq)) (fun _ iv _ => m - (intOf iv).toNat)
    case atStart => exact ⟨0, _, rfl, by omega, rfl, Lib.hid ⟨HI.out.1, HI.out.2⟩⟩
    case round =>
     clear x0 x1 x2 y0 hbr HI
     obtain ⟨k, ow, rfl, hk, rfl, HK⟩ := hrel
     have hx1 := (HK.out.2.block xb (Go.ltA HH.out.1)).trans HH.out.1
     obtain ⟨x0, x1, x2⟩ := ref_cells hx1
     have y0 := (HK.out.2.cell (p := ⟨b, o + i, none⟩) HL.out.2.2.2.2.1).trans HL.out.2.2.2.2.2
     clear hx1
     by_cases hkm : k < m
     · have hkl : k < lk.length := by rw [HL.out.2.2.1]; exact hkm
       have hki : (k : Int) < (m : Int) := by omega
       obtain ⟨Ab, cb, e0, hc1, hc2, hrow⟩ := HL.out.2.2.2.1
       simp only [Value.slice.injEq] at e0
       obtain ⟨rfl, -, rfl⟩ := e0
       obtain ⟨bb, oo, rfl, hrw⟩ := hrow (by omega)
       have hrw := hrw.later HK.out.2 hrw.1
       obtain ⟨z0, z1, z2⟩ := hrw.cells hkl
       have hbl := hrw.1
       have hbr : b < wr.heap.size := Nat.lt_of_lt_of_le HL.out.2.2.2.2.1 HK.out.2.size
       have htk : (lk.take (k + 1)).map (·.k) = (lk.take k).map (·.k) ++ [(lk.getD k Ce.zero).k] := by rw [take_ce lk k hkl, List.map_append]; rfl
       have hlen : (putsK (putsK [] ((Rs.take i).flatten.map (·.k))) ((lk.take k).map (·.k))).length ≤ 90000 := by
        have h1 := putsK_length ((lk.take k).map (·.k)) (putsK [] ((Rs.take i).flatten.map (·.k)))
        have h2 := putsK_length ((Rs.take i).flatten.map (·.k)) []
        rw [List.length_map] at h1 h2
        rw [List.length_take] at h1
        simp only [List.length_nil] at h2
        have := HL.out.2.1
        have := HH.out.2.2.2.1
        omega
       have CP := putS_any ow _ (lk.getD k Ce.zero).k wr HK.out.1 hlen
       rw [← putsK_snoc, ← htk] at CP
       have HCP := Lib.hid CP
       generalize lk.getD k Ce.zero = cc at *
       clear hrow hrw hc1 hc2 htk hlen CP z1 z2
       go_wp2_with fail
       refine HCP.out.mono ?_
       rintro e w5 ⟨v', rfl, hst, b5⟩
       have HF := Lib.hid (And.intro hst (HK.out.2.trans (b5.mono HK.out.2.size)))
       clear hst b5 HCP
       go_wp2_with fail
       go_roundw
       case rel => exact ⟨k + 1, v', rfl, by omega, by simp <;> omega, HF⟩
       case measure => simp [intOf]; omega
     · obtain rfl : k = m := by omega
       have hki : ¬ (k : Int) < (k : Int) := by omega
       have hst := HK.out.1
       have hlt : lk.take k = lk := List.take_of_length_le (by rw [HL.out.2.2.1]; exact Nat.le_refl _)
       rw [hlt, ← putsK_app, ← List.map_append, ← HL.out.1] at hst
       have HF := Lib.hid (And.intro hst HK.out.2)
       have hbr : b < wr.heap.size := Nat.lt_of_lt_of_le HL.out.2.2.2.2.1 HK.out.2.size
       clear hst HK
       go_wp2_with fail
       go_roundw
       case rel => exact ⟨i + 1, ow, rfl, by omega, by simp <;> omega, HF⟩
       case measure => simp [intOf]; omega
  · obtain rfl : i = n := by omega
    have hki : ¬ (i : Int) < (i : Int) := by omega
    have hst := HI.out.1
    rw [List.take_of_length_le (by rw [HH.out.2.2.1.1]; exact Nat.le_refl _)] at hst
    have HF := Lib.hid (And.intro (show StAt ov (keysR Rs) wr from hst) (btP HH.out.2.1 HI.out.2))
    clear hst HI
    go_wp2_with fail
    go_ret
    exact ⟨_, rfl, HF.out.1, by first | exact HF.out.2 | (rw [← hxb]; exact HF.out.2)⟩
end Go.Proofs.YtoglloafpnopaaaGreat
