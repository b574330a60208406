/- The reader of a table's text: a number, a name, so many bytes with their sum. -/
import Derived.Test.YtoglloafpnopaaaGreatTK
set_option linter.unusedSimpArgs false
set_option linter.unusedVariables false
namespace Go.Proofs.YtoglloafpnopaaaGreat
set_option maxRecDepth 16000
open Go.RowKit Spoor
def RdAt (r : Nat) (at' : Nat) (bad : Bool) (text : List UInt8) (w : World) : Prop := w.heap[r]? = some (.cells #[.int .i64 at', .bool bad, .string ⟨text.toArray⟩] 97 (0, 0))
theorem RdAt.lt {r at' : Nat} {bad : Bool} {text : List UInt8} {w : World} (h : RdAt r at' bad text w) : r < w.heap.size := (Go.ltA h)
theorem RdAt.later {r at' : Nat} {bad : Bool} {text : List UInt8} {w w' : World} (h : RdAt r at' bad text w) (hb : Below w.heap.size w w') : RdAt r at' bad text w' := (hb.block r h.lt).trans h
theorem RdAt.other {r at' : Nat} {bad : Bool} {text : List UInt8} {w w' : World} (h : RdAt r at' bad text w) {q : Nat} (f : Fr [q] w w') (hne : r ≠ q) : RdAt r at' bad text w' := (f.block r h.lt (by simpa using hne)).trans h
theorem RdAt.cells {r at' : Nat} {bad : Bool} {text : List UInt8} {w : World} (h : RdAt r at' bad text w) : w.cell? ⟨r, 0, none⟩ = some (.int .i64 at') ∧ w.cell? ⟨r, 1, none⟩ = some (.bool bad) ∧ w.cell? ⟨r, 2, none⟩ = some (.string ⟨text.toArray⟩) := cells3 h
theorem RdAt.free {r at' : Nat} {bad : Bool} {text : List UInt8} {w : World} (h : RdAt r at' bad text w) (o : Nat) : w.frozen? ⟨r, o, none⟩ = false := by
 have h : w.heap[r]? = _ := h
 simp [World.frozen?, h]
theorem RdAt.setAt {r at' : Nat} {bad : Bool} {text : List UInt8} {w : World} (h : RdAt r at' bad text w) (a : Nat) : RdAt r a bad text (w.setCell ⟨r, 0, none⟩ (.int .i64 a)) := by
 have h : w.heap[r]? = _ := h
 unfold RdAt
 rw [heap_setCell_same w r 0 _ _ _ h]
 rfl
theorem RdAt.setBad {r at' : Nat} {bad : Bool} {text : List UInt8} {w : World} (h : RdAt r at' bad text w) (b : Bool) : RdAt r at' b text (w.setCell ⟨r, 1, none⟩ (.bool b)) := by
 have h : w.heap[r]? = _ := h
 unfold RdAt
 rw [heap_setCell_same w r 1 _ _ _ h]
 rfl
def gN : Option (Nat × Nat) → Nat
 | some (n, _) => n
 | none => 0
def gA (a : Nat) : Option (Nat × Nat) → Nat
 | some (_, k) => a + k
 | none => 0
def gO {α : Type} : Option α → Bool
 | some _ => true
 | none => false
theorem getV_eq (a : Nat) (o : Option (Nat × Nat)) : getV a o = .tuple #[.int .i64 (gN o), .int .i64 (gA a o), .bool (gO o)] := by
 cases o with
 | none => rfl
 | some p => obtain ⟨n, k⟩ := p; simp [getV, gN, gA, gO]
def tT : Option (List UInt8 × Nat) → List UInt8
 | some (t, _) => t
 | none => []
def tA (a : Nat) : Option (List UInt8 × Nat) → Nat
 | some (_, k) => a + k
 | none => 0
theorem getTextV_eq (a : Nat) (o : Option (List UInt8 × Nat)) : getTextV a o = .tuple #[.string ⟨(tT o).toArray⟩, .int .i64 (tA a o), .bool (gO o)] := by
 cases o with
 | none => rfl
 | some p => obtain ⟨n, k⟩ := p; simp [getTextV, tT, tA, gO]
set_option maxRecDepth 100000 in
set_option maxHeartbeats 4000000 in
theorem number_any (r at' : Nat) (bad : Bool) (text : List UInt8) (w : World) (h : RdAt r at' bad text w) (hl : text.length ≤ 140737488351232) (ha : at' ≤ text.length) :
 Calls Tryz.prog 42 #[.pointer (some ⟨r, 0, none⟩)] w fun e w' => e = .returned (.int .i64 (gN (get (text.drop at')))) ∧ RdAt r (gA at' (get (text.drop at'))) (bad || !gO (get (text.drop at'))) text w' ∧ Fr [r] w w' := by
 have gc := fun W => getN_any text at' W hl
 have GC := Lib.hid (fun W => (gc W).mono (fun e w' hh => by rw [getV_eq] at hh; exact hh))
 clear gc
 obtain ⟨t1, t2, t3⟩ := h.cells
 have hlt := h.lt
 have H := Lib.hid h
 have hS0 := fun W' (hb : Below w.heap.size w W') => (h.later hb).cells
 have HS := Lib.hid hS0
 obtain ⟨o, ho⟩ : ∃ o, get (text.drop at') = o := ⟨_, rfl⟩
 rw [ho] at GC ⊢
 clear h ho hS0
 go_enter Tryz.func42, Tryz.ntmps42
 go_wp2_with fail
 refine (wpIn_wide (n := 5)).1 ?_
 refine wpIn_region_lit_late (fun W' => W'.cell? ⟨r, 0, none⟩ = some (.int .i64 at') ∧ W'.cell? ⟨r, 1, none⟩ = some (.bool bad) ∧ W'.cell? ⟨r, 2, none⟩ = some (.string ⟨text.toArray⟩)) (fun _ => false) (k := 17) (listed := #[false, false, false, false, false, false, false, false, false, false, false, false, false, false, false, false, false]) (by kernel_rfl) (by kernel_rfl) (by kernel_rfl) ?_
 have bz := Below.drew (Below.refl w.heap.size w)
 have hS := HS.out _ bz
 have HBZ := Lib.hid bz
 obtain ⟨wz, hwz⟩ : ∃ wz, w.drew = wz := ⟨_, rfl⟩
 rw [hwz] at hS HBZ ⊢
 clear hwz bz t1 t2 t3
 refine AnyS.yes 0 7 ?_ rfl rfl (by kernel_rfl) (fun _ _ _ _ _ => id) hS (fun _ => rfl) ?_ ?_; rotate_left; intro w' hw'; go_simp; with_reducible rfl; simp only [zP,zS,zC,zZ]
 refine AnyS.yes 1 8 ?_ rfl rfl (by kernel_rfl) (fun _ _ _ _ _ => id) hS (fun _ => rfl) ?_ ?_; rotate_left; intro w' hw'; go_simp; with_reducible rfl; simp only [zP,zS,zC,zZ]
 refine AnyS.yes 2 9 ?_ rfl rfl (by kernel_rfl) (fun _ _ _ _ _ => id) hS (fun _ => rfl) ?_ ?_; rotate_left; intro w' hw'; go_simp; with_reducible rfl; simp only [zP,zS,zC,zZ]
 refine AnyS.yes 3 10 ?_ rfl rfl (by kernel_rfl) (fun _ _ _ _ _ => id) hS (fun _ => rfl) ?_ ?_
 rotate_left
 · intro w' hw'
   obtain ⟨t1, t2, t3⟩ := hw'
   go_simp
   with_reducible rfl
 simp only [zP,zN,zS,zC,zZ]
 refine AnyS.yes 4 11 ?_ rfl rfl (by kernel_rfl) (fun _ _ _ _ _ => id) hS (fun _ => rfl) ?_ ?_; rotate_left; intro w' hw'; go_simp; with_reducible rfl; simp only [zP,zS,zC,zZ]
 refine AnyS.yes 5 12 ?_ rfl rfl (by kernel_rfl) (fun _ _ _ _ _ => id) hS (fun _ => rfl) ?_ ?_; rotate_left; intro w' hw'; go_simp; with_reducible rfl; simp only [zP,zS,zC,zZ]
 refine AnyS.yes 6 13 ?_ rfl rfl (by kernel_rfl) (fun _ _ _ _ _ => id) hS (fun _ => rfl) ?_ ?_; rotate_left; intro w' hw'; go_simp; with_reducible rfl; simp only [zP,zS,zC,zZ]
 refine AnyS.yes 7 14 ?_ rfl rfl (by kernel_rfl) (fun _ _ _ _ _ => id) hS (fun _ => rfl) ?_ ?_; rotate_left; intro w' hw'; go_simp; with_reducible rfl; simp only [zP,zS,zC,zZ]
 refine AnyS.yes 8 15 ?_ rfl rfl (by kernel_rfl) (fun _ _ _ _ _ => id) hS (fun _ => rfl) ?_ ?_
 rotate_left
 · intro w' hw'
   obtain ⟨t1, t2, t3⟩ := hw'
   go_simp
   with_reducible rfl
 simp only [zP,zN,zS,zC,zZ]
 clear hS
 refine AnyS.next (i := 9) rfl (by kernel_rfl) (by kernel_rfl) fun K' hK' => ?_
 refine want_yes (by kernel_rfl) ?_
 go_simp
 refine ⟨trivial, (callsIn_wide.2 (GC.out _)).mono ?_⟩
 rintro e wa ⟨rfl, hwa⟩
 subst hwa
 have HBA := HBZ
 have hS := HS.out _ HBA.out
 refine hK' _ _ (fun _ => hS) ?_
 clear hK' K' HBZ
 simp only [zP,zN,zS,zC,zZ]
 refine AnyS.yes 10 6 ?_ rfl rfl (by kernel_rfl) (fun _ _ _ _ _ => id) hS (fun _ => rfl) ?_ ?_; rotate_left; intro w' hw'; go_simp; with_reducible rfl; simp only [zP,zS,zC,zZ]
 refine AnyS.yes 11 17 ?_ rfl rfl (by kernel_rfl) (fun _ _ _ _ _ => id) hS (fun _ => rfl) ?_ ?_; rotate_left; intro w' hw'; go_simp; with_reducible rfl; simp only [zP,zS,zC,zZ]
 refine AnyS.yes 12 18 ?_ rfl rfl (by kernel_rfl) (fun _ _ _ _ _ => id) hS (fun _ => rfl) ?_ ?_; rotate_left; intro w' hw'; go_simp; with_reducible rfl; simp only [zP,zS,zC,zZ]
 refine AnyS.yes 13 19 ?_ rfl rfl (by kernel_rfl) (fun _ _ _ _ _ => id) hS (fun _ => rfl) ?_ ?_; rotate_left; intro w' hw'; go_simp; with_reducible rfl; simp only [zP,zS,zC,zZ]
 refine AnyS.yes 14 3 ?_ rfl rfl (by kernel_rfl) (fun _ _ _ _ _ => id) hS (fun _ => rfl) ?_ ?_; rotate_left; intro w' hw'; go_simp; with_reducible rfl; simp only [zP,zS,zC,zZ]
 refine AnyS.yes 15 4 ?_ rfl rfl (by kernel_rfl) (fun _ _ _ _ _ => id) hS (fun _ => rfl) ?_ ?_; rotate_left; intro w' hw'; go_simp; with_reducible rfl; simp only [zP,zS,zC,zZ]
 refine AnyS.yes 16 5 ?_ rfl rfl (by kernel_rfl) (fun _ _ _ _ _ => id) hS (fun _ => rfl) ?_ ?_; rotate_left; intro w' hw'; go_simp; with_reducible rfl; simp only [zP,zS,zC,zZ]
 refine AnyS.done (by kernel_rfl) ?_ _
 have H1 := Lib.hid (H.out.later HBA.out)
 clear hS
 obtain ⟨t1, t2, t3⟩ := HS.out _ HBA.out
 have f0 := H1.out.free 0
 have f1 := H1.out.free 1
 obtain ⟨A, hA⟩ : ∃ A, gA at' o = A := ⟨_, rfl⟩
 rw [hA]
 have HA := Lib.hid hA
 have HF := Lib.hid (show ∀ b', RdAt r A b' text ((wz.setCell ⟨r, 0, none⟩ (.int .i64 A)).setCell ⟨r, 1, none⟩ (.bool b')) ∧ Fr [r] w ((wz.setCell ⟨r, 0, none⟩ (.int .i64 A)).setCell ⟨r, 1, none⟩ (.bool b')) from fun b' => ⟨(H1.out.setAt A).setBad b', ((Fr.of_below HBA.out).set ⟨r, 0, none⟩ (.inl (by simp)) _).set ⟨r, 1, none⟩ (.inl (by simp)) _⟩)
 clear H H1 HBA HS GC hA
 cases bad with
 | true =>
   go_wp2_with fail
   go_ret
   refine ⟨rfl, ?_⟩
   rw [HA.out]
   exact HF.out true
 | false =>
   cases hg : gO o with
   | true =>
     go_wp2_with fail
     go_ret
     refine ⟨rfl, ?_⟩
     rw [HA.out, hg]
     exact HF.out false
   | false =>
     go_wp2_with fail
     go_ret
     refine ⟨rfl, ?_⟩
     rw [HA.out, hg]
     exact HF.out true
set_option maxRecDepth 100000 in
set_option maxHeartbeats 4000000 in
theorem name_any (r at' : Nat) (bad : Bool) (text : List UInt8) (w : World) (h : RdAt r at' bad text w) (hl : text.length ≤ 140737488351232) (ha : at' ≤ text.length) :
 Calls Tryz.prog 43 #[.pointer (some ⟨r, 0, none⟩)] w fun e w' => e = .returned (.string ⟨(tT (getText (text.drop at'))).toArray⟩) ∧ RdAt r (tA at' (getText (text.drop at'))) (bad || !gO (getText (text.drop at'))) text w' ∧ Fr [r] w w' := by
 have gc := fun W => getTextN_any text at' W hl
 have GC := Lib.hid (fun W => (gc W).mono (fun e w' hh => by rw [getTextV_eq] at hh; exact hh))
 clear gc
 obtain ⟨t1, t2, t3⟩ := h.cells
 have hlt := h.lt
 have H := Lib.hid h
 have hS0 := fun W' (hb : Below w.heap.size w W') => (h.later hb).cells
 have HS := Lib.hid hS0
 obtain ⟨o, ho⟩ : ∃ o, getText (text.drop at') = o := ⟨_, rfl⟩
 rw [ho] at GC ⊢
 clear h ho hS0
 go_enter Tryz.func43, Tryz.ntmps43
 go_wp2_with fail
 refine (wpIn_wide (n := 5)).1 ?_
 refine wpIn_region_lit_late (fun W' => W'.cell? ⟨r, 0, none⟩ = some (.int .i64 at') ∧ W'.cell? ⟨r, 1, none⟩ = some (.bool bad) ∧ W'.cell? ⟨r, 2, none⟩ = some (.string ⟨text.toArray⟩)) (fun _ => false) (k := 17) (listed := #[false, false, false, false, false, false, false, false, false, false, false, false, false, false, false, false, false]) (by kernel_rfl) (by kernel_rfl) (by kernel_rfl) ?_
 have bz := Below.drew (Below.refl w.heap.size w)
 have hS := HS.out _ bz
 have HBZ := Lib.hid bz
 obtain ⟨wz, hwz⟩ : ∃ wz, w.drew = wz := ⟨_, rfl⟩
 rw [hwz] at hS HBZ ⊢
 clear hwz bz t1 t2 t3
 refine AnyS.yes 0 7 ?_ rfl rfl (by kernel_rfl) (fun _ _ _ _ _ => id) hS (fun _ => rfl) ?_ ?_; rotate_left; intro w' hw'; go_simp; with_reducible rfl; simp only [zP,zS,zC,zZ]
 refine AnyS.yes 1 8 ?_ rfl rfl (by kernel_rfl) (fun _ _ _ _ _ => id) hS (fun _ => rfl) ?_ ?_; rotate_left; intro w' hw'; go_simp; with_reducible rfl; simp only [zP,zS,zC,zZ]
 refine AnyS.yes 2 9 ?_ rfl rfl (by kernel_rfl) (fun _ _ _ _ _ => id) hS (fun _ => rfl) ?_ ?_; rotate_left; intro w' hw'; go_simp; with_reducible rfl; simp only [zP,zS,zC,zZ]
 refine AnyS.yes 3 10 ?_ rfl rfl (by kernel_rfl) (fun _ _ _ _ _ => id) hS (fun _ => rfl) ?_ ?_
 rotate_left
 · intro w' hw'
   obtain ⟨t1, t2, t3⟩ := hw'
   go_simp
   with_reducible rfl
 simp only [zP,zN,zS,zC,zZ]
 refine AnyS.yes 4 11 ?_ rfl rfl (by kernel_rfl) (fun _ _ _ _ _ => id) hS (fun _ => rfl) ?_ ?_; rotate_left; intro w' hw'; go_simp; with_reducible rfl; simp only [zP,zS,zC,zZ]
 refine AnyS.yes 5 12 ?_ rfl rfl (by kernel_rfl) (fun _ _ _ _ _ => id) hS (fun _ => rfl) ?_ ?_; rotate_left; intro w' hw'; go_simp; with_reducible rfl; simp only [zP,zS,zC,zZ]
 refine AnyS.yes 6 13 ?_ rfl rfl (by kernel_rfl) (fun _ _ _ _ _ => id) hS (fun _ => rfl) ?_ ?_; rotate_left; intro w' hw'; go_simp; with_reducible rfl; simp only [zP,zS,zC,zZ]
 refine AnyS.yes 7 14 ?_ rfl rfl (by kernel_rfl) (fun _ _ _ _ _ => id) hS (fun _ => rfl) ?_ ?_; rotate_left; intro w' hw'; go_simp; with_reducible rfl; simp only [zP,zS,zC,zZ]
 refine AnyS.yes 8 15 ?_ rfl rfl (by kernel_rfl) (fun _ _ _ _ _ => id) hS (fun _ => rfl) ?_ ?_
 rotate_left
 · intro w' hw'
   obtain ⟨t1, t2, t3⟩ := hw'
   go_simp
   with_reducible rfl
 simp only [zP,zN,zS,zC,zZ]
 clear hS
 refine AnyS.next (i := 9) rfl (by kernel_rfl) (by kernel_rfl) fun K' hK' => ?_
 refine want_yes (by kernel_rfl) ?_
 go_simp
 refine ⟨trivial, (callsIn_wide.2 (GC.out _)).mono ?_⟩
 rintro e wa ⟨rfl, hwa⟩
 subst hwa
 have HBA := HBZ
 have hS := HS.out _ HBA.out
 refine hK' _ _ (fun _ => hS) ?_
 clear hK' K' HBZ
 simp only [zP,zN,zS,zC,zZ]
 refine AnyS.yes 10 6 ?_ rfl rfl (by kernel_rfl) (fun _ _ _ _ _ => id) hS (fun _ => rfl) ?_ ?_; rotate_left; intro w' hw'; go_simp; with_reducible rfl; simp only [zP,zS,zC,zZ]
 refine AnyS.yes 11 17 ?_ rfl rfl (by kernel_rfl) (fun _ _ _ _ _ => id) hS (fun _ => rfl) ?_ ?_; rotate_left; intro w' hw'; go_simp; with_reducible rfl; simp only [zP,zS,zC,zZ]
 refine AnyS.yes 12 18 ?_ rfl rfl (by kernel_rfl) (fun _ _ _ _ _ => id) hS (fun _ => rfl) ?_ ?_; rotate_left; intro w' hw'; go_simp; with_reducible rfl; simp only [zP,zS,zC,zZ]
 refine AnyS.yes 13 19 ?_ rfl rfl (by kernel_rfl) (fun _ _ _ _ _ => id) hS (fun _ => rfl) ?_ ?_; rotate_left; intro w' hw'; go_simp; with_reducible rfl; simp only [zP,zS,zC,zZ]
 refine AnyS.yes 14 3 ?_ rfl rfl (by kernel_rfl) (fun _ _ _ _ _ => id) hS (fun _ => rfl) ?_ ?_; rotate_left; intro w' hw'; go_simp; with_reducible rfl; simp only [zP,zS,zC,zZ]
 refine AnyS.yes 15 4 ?_ rfl rfl (by kernel_rfl) (fun _ _ _ _ _ => id) hS (fun _ => rfl) ?_ ?_; rotate_left; intro w' hw'; go_simp; with_reducible rfl; simp only [zP,zS,zC,zZ]
 refine AnyS.yes 16 5 ?_ rfl rfl (by kernel_rfl) (fun _ _ _ _ _ => id) hS (fun _ => rfl) ?_ ?_; rotate_left; intro w' hw'; go_simp; with_reducible rfl; simp only [zP,zS,zC,zZ]
 refine AnyS.done (by kernel_rfl) ?_ _
 have H1 := Lib.hid (H.out.later HBA.out)
 clear hS
 obtain ⟨t1, t2, t3⟩ := HS.out _ HBA.out
 have f0 := H1.out.free 0
 have f1 := H1.out.free 1
 obtain ⟨A, hA⟩ : ∃ A, tA at' o = A := ⟨_, rfl⟩
 rw [hA]
 have HA := Lib.hid hA
 have HF := Lib.hid (show ∀ b', RdAt r A b' text ((wz.setCell ⟨r, 0, none⟩ (.int .i64 A)).setCell ⟨r, 1, none⟩ (.bool b')) ∧ Fr [r] w ((wz.setCell ⟨r, 0, none⟩ (.int .i64 A)).setCell ⟨r, 1, none⟩ (.bool b')) from fun b' => ⟨(H1.out.setAt A).setBad b', ((Fr.of_below HBA.out).set ⟨r, 0, none⟩ (.inl (by simp)) _).set ⟨r, 1, none⟩ (.inl (by simp)) _⟩)
 clear H H1 HBA HS GC hA
 cases bad with
 | true =>
   go_wp2_with fail
   go_ret
   refine ⟨rfl, ?_⟩
   rw [HA.out]
   exact HF.out true
 | false =>
   cases hg : gO o with
   | true =>
     go_wp2_with fail
     go_ret
     refine ⟨rfl, ?_⟩
     rw [HA.out, hg]
     exact HF.out false
   | false =>
     go_wp2_with fail
     go_ret
     refine ⟨rfl, ?_⟩
     rw [HA.out, hg]
     exact HF.out true
end Go.Proofs.YtoglloafpnopaaaGreat
