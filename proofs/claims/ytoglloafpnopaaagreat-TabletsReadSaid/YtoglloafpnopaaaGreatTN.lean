/- The reader of a table's text: so many bytes with their sum. -/
import Derived.Test.YtoglloafpnopaaaGreatTM
set_option linter.unusedSimpArgs false
set_option linter.unusedVariables false
namespace Go.Proofs.YtoglloafpnopaaaGreat
set_option maxRecDepth 16000
open Go.RowKit Spoor
def tkOk (at' : Nat) (bad : Bool) (text : List UInt8) (n : Nat) : Bool := !bad && decide (at' + n + 4 ≤ text.length)
def tkS (at' : Nat) (text : List UInt8) (n : Nat) : List UInt8 := (text.drop at').take n
def tkSum (at' : Nat) (text : List UInt8) (n : Nat) : Bool := decide ((text.drop (at' + n)).take 4 = sumB (tkS at' text n))
set_option maxRecDepth 100000 in
set_option maxHeartbeats 8000000 in
theorem taken_any (r at' : Nat) (bad : Bool) (text : List UInt8) (n : Nat) (w : World) (h : RdAt r at' bad text w) (hl : text.length ≤ 140737488351232) (ha : at' ≤ text.length) (hn : n ≤ 9223372036854775807) :
 Calls Tryz.prog 45 #[.pointer (some ⟨r, 0, none⟩), .int .i64 n] w fun e w' => Fr [r] w w' ∧
  ((tkOk at' bad text n = false ∧ e = .returned (.string ⟨#[]⟩) ∧ RdAt r at' true text w') ∨ (tkOk at' bad text n = true ∧ e = .returned (.string ⟨(tkS at' text n).toArray⟩) ∧ RdAt r (at' + n + 4) (!tkSum at' text n) text w')) := by
 obtain ⟨N, hN⟩ : ∃ N, text.length = N := ⟨_, rfl⟩
 have HN := Lib.hid hN
 have HS := Lib.hid (fun W' (hb : Below w.heap.size w W') => (h.later hb).cells)
 have H := Lib.hid h
 have hlt := h.lt
 have hL : ((⟨text.toArray⟩ : ByteArray).size : Int) = (N : Int) := by rw [← hN]; simp [ByteArray.size]
 have w1 : IntKind.i64.wrap ((N : Int) - (at' : Int)) = (N : Int) - (at' : Int) := by rw [IntKind.wrap_i64]; omega
 have w2 : IntKind.i64.wrap ((N : Int) - (at' : Int) - 4) = (N : Int) - (at' : Int) - 4 := by rw [IntKind.wrap_i64]; omega
 obtain ⟨ok, hok⟩ : ∃ ok, tkOk at' bad text n = ok := ⟨_, rfl⟩
 have HOK := Lib.hid hok
 have hgt : decide (IntKind.i64.wrap (IntKind.i64.wrap ((text.length : Int) - (at' : Int)) - 4) < (n : Int)) = !decide (at' + n + 4 ≤ N) := by
  rw [hN, w1, w2]
  by_cases h1 : at' + n + 4 ≤ N
  · rw [decide_eq_true h1, decide_eq_false (by omega)]; rfl
  · rw [decide_eq_false h1, decide_eq_true (by omega)]; rfl
 rw [hN] at hl ha
 clear h hok hN
 go_enter Tryz.func45, Tryz.ntmps45
 go_wp2_with fail
 go_cut [] (fun wx => Hid (RdAt r at' (!ok) text wx ∧ Fr [r] w wx))
 case first =>
  obtain ⟨t1, t2, t3⟩ := H.out.cells
  have f1 := H.out.free 1
  have HF := Lib.hid (show ∀ b', RdAt r at' b' text (w.setCell ⟨r, 1, none⟩ (.bool b')) ∧ Fr [r] w (w.setCell ⟨r, 1, none⟩ (.bool b')) from fun b' => ⟨H.out.setBad b', (Fr.refl [r] w).set ⟨r, 1, none⟩ (.inl (by simp)) _⟩)
  have hS0 := fun W' (hb : Below w.heap.size w W') => (H.out.later hb).cells
  have HS := Lib.hid (hS0 _ (Below.drew (Below.refl w.heap.size w)))
  have f1z : w.drew.frozen? ⟨r, 1, none⟩ = false := f1
  have HFZ := Lib.hid (show ∀ b', RdAt r at' b' text (w.drew.setCell ⟨r, 1, none⟩ (.bool b')) ∧ Fr [r] w (w.drew.setCell ⟨r, 1, none⟩ (.bool b')) from fun b' => ⟨(H.out.later (Below.drew (Below.refl w.heap.size w))).setBad b', (Fr.of_below (Below.drew (Below.refl w.heap.size w))).set ⟨r, 1, none⟩ (.inl (by simp)) _⟩)
  clear HF t1 t2 t3 f1 hS0
  cases bad with
  | true =>
    obtain rfl : ok = false := by rw [← HOK.out]; rfl
    refine (wpIn_wide (n := 5)).1 ?_
    refine wpIn_region_lit_late (fun W' => W'.cell? ⟨r, 0, none⟩ = some (.int .i64 at') ∧ W'.cell? ⟨r, 1, none⟩ = some (.bool true) ∧ W'.cell? ⟨r, 2, none⟩ = some (.string ⟨text.toArray⟩)) (fun j => j == 25) (k := 26) (listed := #[false, false, false, false, false, false, false, false, false, false, false, false, false, false, false, false, false, false, false, false, false, false, false, false, false, false]) (by kernel_rfl) (by kernel_rfl) (by kernel_rfl) ?_
    have hS := HS.out
    obtain ⟨wz, hwz⟩ : ∃ wz, w.drew = wz := ⟨_, rfl⟩
    rw [hwz] at hS f1z HFZ ⊢
    clear hwz HS
    refine AnyS.yes 0 6 ?_ rfl rfl (by kernel_rfl) (fun _ _ _ _ _ => id) hS (fun _ => rfl) ?_ ?_; rotate_left; intro w' hw'; go_simp; with_reducible rfl; simp only [zP,zS,zC,zZ]
    refine AnyS.yes 1 7 ?_ rfl rfl (by kernel_rfl) (fun _ _ _ _ _ => id) hS (fun _ => rfl) ?_ ?_; rotate_left; intro w' hw'; go_simp; with_reducible rfl; simp only [zP,zS,zC,zZ]
    refine AnyS.yes 2 8 ?_ rfl rfl (by kernel_rfl) (fun _ _ _ _ _ => id) hS (fun _ => rfl) ?_ ?_; rotate_left; intro w' hw'; go_simp; with_reducible rfl; simp only [zP,zS,zC,zZ]
    refine AnyS.yes 3 9 ?_ rfl rfl (by kernel_rfl) (fun _ _ _ _ _ => id) hS (fun _ => rfl) ?_ ?_; rotate_left; intro w' hw'; go_simp; with_reducible rfl; simp only [zP,zS,zC,zZ]
    refine AnyS.yes 4 10 ?_ rfl rfl (by kernel_rfl) (fun _ _ _ _ _ => id) hS (fun _ => rfl) ?_ ?_; rotate_left; intro w' hw'; go_simp; with_reducible rfl; simp only [zP,zS,zC,zZ]
    refine AnyS.yes 5 11 ?_ rfl rfl (by kernel_rfl) (fun _ _ _ _ _ => id) hS (fun _ => rfl) ?_ ?_
    rotate_left
    · intro w' hw'
      obtain ⟨t1, t2, t3⟩ := hw'
      go_simp
      with_reducible rfl
    simp only [zP,zN,zS,zC,zZ]
    refine AnyS.yes 6 12 ?_ rfl rfl (by kernel_rfl) (fun _ _ _ _ _ => id) hS (fun _ => rfl) ?_ ?_; rotate_left; intro w' hw'; go_simp; with_reducible rfl; simp only [zP,zS,zC,zZ]
    refine AnyS.no 7 13 rfl rfl (by kernel_rfl) (fun _ _ _ _ _ => id) hS (fun _ => rfl) ?_; simp only [zP,zS,zC,zZ]
    refine AnyS.no 8 14 rfl rfl (by kernel_rfl) (fun _ _ _ _ _ => id) hS (fun _ => rfl) ?_; simp only [zP,zS,zC,zZ]
    refine AnyS.no 9 15 rfl rfl (by kernel_rfl) (fun _ _ _ _ _ => id) hS (fun _ => rfl) ?_; simp only [zP,zS,zC,zZ]
    refine AnyS.no 10 16 rfl rfl (by kernel_rfl) (fun _ _ _ _ _ => id) hS (fun _ => rfl) ?_; simp only [zP,zS,zC,zZ]
    refine AnyS.no 11 17 rfl rfl (by kernel_rfl) (fun _ _ _ _ _ => id) hS (fun _ => rfl) ?_; simp only [zP,zS,zC,zZ]
    refine AnyS.no 12 18 rfl rfl (by kernel_rfl) (fun _ _ _ _ _ => id) hS (fun _ => rfl) ?_; simp only [zP,zS,zC,zZ]
    refine AnyS.no 13 19 rfl rfl (by kernel_rfl) (fun _ _ _ _ _ => id) hS (fun _ => rfl) ?_; simp only [zP,zS,zC,zZ]
    refine AnyS.no 14 20 rfl rfl (by kernel_rfl) (fun _ _ _ _ _ => id) hS (fun _ => rfl) ?_; simp only [zP,zS,zC,zZ]
    refine AnyS.no 15 21 rfl rfl (by kernel_rfl) (fun _ _ _ _ _ => id) hS (fun _ => rfl) ?_; simp only [zP,zS,zC,zZ]
    refine AnyS.no 16 22 rfl rfl (by kernel_rfl) (fun _ _ _ _ _ => id) hS (fun _ => rfl) ?_; simp only [zP,zS,zC,zZ]
    refine AnyS.no 17 23 rfl rfl (by kernel_rfl) (fun _ _ _ _ _ => id) hS (fun _ => rfl) ?_; simp only [zP,zS,zC,zZ]
    refine AnyS.no 18 24 rfl rfl (by kernel_rfl) (fun _ _ _ _ _ => id) hS (fun _ => rfl) ?_; simp only [zP,zS,zC,zZ]
    refine AnyS.no 19 25 rfl rfl (by kernel_rfl) (fun _ _ _ _ _ => id) hS (fun _ => rfl) ?_; simp only [zP,zS,zC,zZ]
    refine AnyS.no 20 26 rfl rfl (by kernel_rfl) (fun _ _ _ _ _ => id) hS (fun _ => rfl) ?_; simp only [zP,zS,zC,zZ]
    refine AnyS.yes 21 27 ?_ rfl rfl (by kernel_rfl) (fun _ _ _ _ _ => id) hS (fun _ => rfl) ?_ ?_; rotate_left; intro w' hw'; go_simp; with_reducible rfl; simp only [zP,zS,zC,zZ]
    have HSZ := Lib.hid hS
    clear hS
    refine AnyS.next (i := 22) rfl (by kernel_rfl) (by kernel_rfl) fun K' hK' => ?_
    refine want_yes (by kernel_rfl) ?_
    go_simp
    refine hK' _ _ (fun _ => HSZ.out) ?_
    clear hK' K'
    simp only [zP,zN,zS,zC,zZ]
    refine AnyS.next (i := 23) rfl (by kernel_rfl) (by kernel_rfl) fun K' hK' => ?_
    refine want_yes (by kernel_rfl) ?_
    go_simp
    refine hK' _ _ (fun _ => HSZ.out) ?_
    clear hK' K'
    simp only [zP,zN,zS,zC,zZ]
    refine AnyS.next (i := 24) rfl (by kernel_rfl) (by kernel_rfl) fun K' hK' => ?_
    refine want_yes (by kernel_rfl) ?_
    go_simp
    refine hK' _ _ (fun _ => HSZ.out) ?_
    clear hK' K'
    simp only [zP,zN,zS,zC,zZ]
    obtain ⟨t1, t2, t3⟩ := HSZ.out
    refine AnyS.next (i := 25) rfl (by kernel_rfl) (by kernel_rfl) fun K' hK' => ?_
    refine want_yes (by kernel_rfl) ?_
    go_simp
    refine hK' _ _ (fun h => by cases h) ?_
    clear hK' K' t1 t2 t3 f1z
    refine AnyS.done (by kernel_rfl) ?_ _
    go_wp2_with fail
    go_meet
    exact Lib.hid (HFZ.out _)
  | false =>
    have hok2 : ok = decide (at' + n + 4 ≤ N) := by rw [← HOK.out]; unfold tkOk; rw [HN.out]; rfl
    rw [← hok2] at hgt
    have HGT := Lib.hid hgt
    clear hok2 hgt
    refine (wpIn_wide (n := 5)).1 ?_
    refine wpIn_region_lit_late (fun W' => W'.cell? ⟨r, 0, none⟩ = some (.int .i64 at') ∧ W'.cell? ⟨r, 1, none⟩ = some (.bool false) ∧ W'.cell? ⟨r, 2, none⟩ = some (.string ⟨text.toArray⟩)) (fun j => j == 25) (k := 26) (listed := #[false, false, false, false, false, false, false, false, false, false, false, false, false, false, false, false, false, false, false, false, false, false, false, false, false, false]) (by kernel_rfl) (by kernel_rfl) (by kernel_rfl) ?_
    have hS := HS.out
    obtain ⟨wz, hwz⟩ : ∃ wz, w.drew = wz := ⟨_, rfl⟩
    rw [hwz] at hS f1z HFZ ⊢
    clear hwz HS
    refine AnyS.yes 0 6 ?_ rfl rfl (by kernel_rfl) (fun _ _ _ _ _ => id) hS (fun _ => rfl) ?_ ?_; rotate_left; intro w' hw'; go_simp; with_reducible rfl; simp only [zP,zS,zC,zZ]
    refine AnyS.yes 1 7 ?_ rfl rfl (by kernel_rfl) (fun _ _ _ _ _ => id) hS (fun _ => rfl) ?_ ?_; rotate_left; intro w' hw'; go_simp; with_reducible rfl; simp only [zP,zS,zC,zZ]
    refine AnyS.yes 2 8 ?_ rfl rfl (by kernel_rfl) (fun _ _ _ _ _ => id) hS (fun _ => rfl) ?_ ?_; rotate_left; intro w' hw'; go_simp; with_reducible rfl; simp only [zP,zS,zC,zZ]
    refine AnyS.yes 3 9 ?_ rfl rfl (by kernel_rfl) (fun _ _ _ _ _ => id) hS (fun _ => rfl) ?_ ?_; rotate_left; intro w' hw'; go_simp; with_reducible rfl; simp only [zP,zS,zC,zZ]
    refine AnyS.yes 4 10 ?_ rfl rfl (by kernel_rfl) (fun _ _ _ _ _ => id) hS (fun _ => rfl) ?_ ?_; rotate_left; intro w' hw'; go_simp; with_reducible rfl; simp only [zP,zS,zC,zZ]
    refine AnyS.yes 5 11 ?_ rfl rfl (by kernel_rfl) (fun _ _ _ _ _ => id) hS (fun _ => rfl) ?_ ?_
    rotate_left
    · intro w' hw'
      obtain ⟨t1, t2, t3⟩ := hw'
      go_simp
      with_reducible rfl
    simp only [zP,zN,zS,zC,zZ]
    refine AnyS.yes 6 12 ?_ rfl rfl (by kernel_rfl) (fun _ _ _ _ _ => id) hS (fun _ => rfl) ?_ ?_; rotate_left; intro w' hw'; go_simp; with_reducible rfl; simp only [zP,zS,zC,zZ]
    refine AnyS.yes 7 13 ?_ rfl rfl (by kernel_rfl) (fun _ _ _ _ _ => id) hS (fun _ => rfl) ?_ ?_; rotate_left; intro w' hw'; go_simp; with_reducible rfl; simp only [zP,zS,zC,zZ]
    refine AnyS.yes 8 14 ?_ rfl rfl (by kernel_rfl) (fun _ _ _ _ _ => id) hS (fun _ => rfl) ?_ ?_; rotate_left; intro w' hw'; go_simp; with_reducible rfl; simp only [zP,zS,zC,zZ]
    refine AnyS.yes 9 15 ?_ rfl rfl (by kernel_rfl) (fun _ _ _ _ _ => id) hS (fun _ => rfl) ?_ ?_; rotate_left; intro w' hw'; go_simp; with_reducible rfl; simp only [zP,zS,zC,zZ]
    refine AnyS.yes 10 16 ?_ rfl rfl (by kernel_rfl) (fun _ _ _ _ _ => id) hS (fun _ => rfl) ?_ ?_; rotate_left; intro w' hw'; go_simp; with_reducible rfl; simp only [zP,zS,zC,zZ]
    refine AnyS.yes 11 17 ?_ rfl rfl (by kernel_rfl) (fun _ _ _ _ _ => id) hS (fun _ => rfl) ?_ ?_
    rotate_left
    · intro w' hw'
      obtain ⟨t1, t2, t3⟩ := hw'
      go_simp
      with_reducible rfl
    simp only [zP,zN,zS,zC,zZ]
    refine AnyS.yes 12 18 ?_ rfl rfl (by kernel_rfl) (fun _ _ _ _ _ => id) hS (fun _ => rfl) ?_ ?_; rotate_left; intro w' hw'; go_simp; with_reducible rfl; simp only [zP,zS,zC,zZ]
    refine AnyS.yes 13 19 ?_ rfl rfl (by kernel_rfl) (fun _ _ _ _ _ => id) hS (fun _ => rfl) ?_ ?_; rotate_left; intro w' hw'; go_simp; with_reducible rfl; simp only [zP,zS,zC,zZ]
    refine AnyS.yes 14 20 ?_ rfl rfl (by kernel_rfl) (fun _ _ _ _ _ => id) hS (fun _ => rfl) ?_ ?_; rotate_left; intro w' hw'; go_simp; with_reducible rfl; simp only [zP,zS,zC,zZ]
    refine AnyS.yes 15 21 ?_ rfl rfl (by kernel_rfl) (fun _ _ _ _ _ => id) hS (fun _ => rfl) ?_ ?_; rotate_left; intro w' hw'; go_simp; with_reducible rfl; simp only [zP,zS,zC,zZ]
    refine AnyS.yes 16 22 ?_ rfl rfl (by kernel_rfl) (fun _ _ _ _ _ => id) hS (fun _ => rfl) ?_ ?_; rotate_left; intro w' hw'; go_simp; with_reducible rfl; simp only [zP,zS,zC,zZ]
    refine AnyS.yes 17 23 ?_ rfl rfl (by kernel_rfl) (fun _ _ _ _ _ => id) hS (fun _ => rfl) ?_ ?_
    rotate_left
    · intro w' hw'
      obtain ⟨t1, t2, t3⟩ := hw'
      go_simp
      with_reducible rfl
    simp only [zP,zN,zS,zC,zZ]
    refine AnyS.yes 18 24 ?_ rfl rfl (by kernel_rfl) (fun _ _ _ _ _ => id) hS (fun _ => rfl) ?_ ?_; rotate_left; intro w' hw'; go_simp; with_reducible rfl; simp only [zP,zS,zC,zZ]
    refine AnyS.yes 19 25 ?_ rfl rfl (by kernel_rfl) (fun _ _ _ _ _ => id) hS (fun _ => rfl) ?_ ?_; rotate_left; intro w' hw'; go_simp; with_reducible rfl; simp only [zP,zS,zC,zZ]
    refine AnyS.yes 20 26 ?_ rfl rfl (by kernel_rfl) (fun _ _ _ _ _ => id) hS (fun _ => rfl) ?_ ?_; rotate_left; intro w' hw'; go_simp; with_reducible rfl; simp only [zP,zS,zC,zZ]
    refine AnyS.yes 21 27 ?_ rfl rfl (by kernel_rfl) (fun _ _ _ _ _ => id) hS (fun _ => rfl) ?_ ?_; rotate_left; intro w' hw'; go_simp; with_reducible rfl; simp only [zP,zS,zC,zZ]
    have HSZ := Lib.hid hS
    clear hS
    refine AnyS.next (i := 22) rfl (by kernel_rfl) (by kernel_rfl) fun K' hK' => ?_
    refine want_yes (by kernel_rfl) ?_
    go_simp
    refine hK' _ _ (fun _ => HSZ.out) ?_
    clear hK' K'
    simp only [zP,zN,zS,zC,zZ]
    refine AnyS.next (i := 23) rfl (by kernel_rfl) (by kernel_rfl) fun K' hK' => ?_
    refine want_yes (by kernel_rfl) ?_
    go_simp
    refine hK' _ _ (fun _ => HSZ.out) ?_
    clear hK' K'
    simp only [zP,zN,zS,zC,zZ]
    refine AnyS.next (i := 24) rfl (by kernel_rfl) (by kernel_rfl) fun K' hK' => ?_
    refine want_yes (by kernel_rfl) ?_
    go_simp
    refine hK' _ _ (fun _ => HSZ.out) ?_
    clear hK' K'
    simp only [zP,zN,zS,zC,zZ]
    obtain ⟨t1, t2, t3⟩ := HSZ.out
    refine AnyS.next (i := 25) rfl (by kernel_rfl) (by kernel_rfl) fun K' hK' => ?_
    refine want_yes (by kernel_rfl) ?_
    go_simp
    refine hK' _ _ (fun h => by cases h) ?_
    clear hK' K' t1 t2 t3 f1z
    refine AnyS.done (by kernel_rfl) ?_ _
    go_wp2_with fail
    go_meet
    rw [HGT.out]
    exact Lib.hid (HFZ.out _)
 clear HS H
 have HR1 := Lib.hid hcut.out.1
 have HF1 := Lib.hid hcut.out.2
 clear hcut hgt
 obtain ⟨t1, t2, t3⟩ := HR1.out.cells
 cases ok with
 | false =>
   go_wp2_with fail
   go_ret
   exact ⟨HF1.out, .inl ⟨HOK.out, rfl, HR1.out⟩⟩
 | true =>
   have hfit : at' + n + 4 ≤ N := by
    have := HOK.out
    unfold tkOk at this
    rw [HN.out] at this
    simp at this
    omega
   have hL2 : (⟨text.toArray⟩ : ByteArray).size = N := by rw [← HN.out]; simp [ByteArray.size]
   have hsl1 : ∀ W, (Instr.slice 9 (.string ⟨text.toArray⟩) (some (.int .i64 (at' : Int))) (some (.int .i64 ((at' : Int) + (n : Int)))) none).run Tryz.prog W = .ok (.string ⟨(tkS at' text n).toArray⟩) W := fun W => by
    have h := slice_at ⟨text.toArray⟩ at' (at' + n) (at' : Int) ((at' : Int) + (n : Int)) rfl (by omega) (by omega) (by omega) W
    rw [Nat.add_sub_cancel_left] at h
    exact h
   have hsl2 : ∀ W, (Instr.slice 9 (.string ⟨text.toArray⟩) (some (.int .i64 ((at' : Int) + (n : Int)))) (some (.int .i64 ((at' : Int) + (n : Int) + 4))) none).run Tryz.prog W = .ok (.string ⟨((text.drop (at' + n)).take 4).toArray⟩) W := fun W => by
    have h := slice_at ⟨text.toArray⟩ (at' + n) (at' + n + 4) ((at' : Int) + (n : Int)) ((at' : Int) + (n : Int) + 4) (by omega) (by omega) (by omega) (by omega) W
    rw [Nat.add_sub_cancel_left] at h
    exact h
   have w3 : IntKind.i64.wrap ((at' : Int) + (n : Int)) = (at' : Int) + (n : Int) := by rw [IntKind.wrap_i64]; omega
   have w4 : IntKind.i64.wrap ((at' : Int) + (n : Int) + 4) = (at' : Int) + (n : Int) + 4 := by rw [IntKind.wrap_i64]; omega
   have htl : (tkS at' text n).length ≤ 140737488351232 := by
    unfold tkS
    rw [List.length_take]
    omega
   clear w1 w2 hL hL2
   obtain ⟨S, hSS⟩ : ∃ S, tkS at' text n = S := ⟨_, rfl⟩
   obtain ⟨S4, hS4⟩ : ∃ S4, (text.drop (at' + n)).take 4 = S4 := ⟨_, rfl⟩
   have HSM := Lib.hid (show tkSum at' text n = decide (S4 = sumB S) by unfold tkSum; rw [hS4, hSS])
   have HSS := Lib.hid hSS
   rw [hSS] at hsl1 htl
   rw [hS4] at hsl2
   clear hSS hS4
   go_wp2_with fail
   refine (wpIn_wide (n := 5)).1 ?_
   refine wpIn_region_lit_late (fun W' => W'.cell? ⟨r, 0, none⟩ = some (.int .i64 at') ∧ W'.cell? ⟨r, 1, none⟩ = some (.bool false) ∧ W'.cell? ⟨r, 2, none⟩ = some (.string ⟨text.toArray⟩)) (fun _ => false) (k := 18) (listed := #[false, false, false, false, false, false, false, false, false, false, false, false, false, false, false, false, false, false]) (by kernel_rfl) (by kernel_rfl) (by kernel_rfl) ?_
   have bz := Below.drew (Below.refl wc.heap.size wc)
   have HRZ := Lib.hid (HR1.out.later bz)
   have HFZ := Lib.hid (HF1.out.trans (T := []) (Fr.of_below bz) (by simp))
   obtain ⟨wz, hwz⟩ : ∃ wz, wc.drew = wz := ⟨_, rfl⟩
   rw [hwz] at HRZ HFZ ⊢
   clear hwz bz HR1 HF1 t1 t2 t3
   have hS := HRZ.out.cells
   refine AnyS.yes 0 36 ?_ rfl rfl (by kernel_rfl) (fun _ _ _ _ _ => id) hS (fun _ => rfl) ?_ ?_; rotate_left; intro w' hw'; go_simp; with_reducible rfl; simp only [zP,zS,zC,zZ]
   refine AnyS.yes 1 37 ?_ rfl rfl (by kernel_rfl) (fun _ _ _ _ _ => id) hS (fun _ => rfl) ?_ ?_; rotate_left; intro w' hw'; go_simp; with_reducible rfl; simp only [zP,zS,zC,zZ]
   refine AnyS.yes 2 38 ?_ rfl rfl (by kernel_rfl) (fun _ _ _ _ _ => id) hS (fun _ => rfl) ?_ ?_; rotate_left; intro w' hw'; go_simp; with_reducible rfl; simp only [zP,zS,zC,zZ]
   refine AnyS.yes 3 39 ?_ rfl rfl (by kernel_rfl) (fun _ _ _ _ _ => id) hS (fun _ => rfl) ?_ ?_
   rotate_left
   · intro w' hw'
     obtain ⟨t1, t2, t3⟩ := hw'
     go_simp
     with_reducible rfl
   simp only [zP,zN,zS,zC,zZ]
   refine AnyS.yes 4 40 ?_ rfl rfl (by kernel_rfl) (fun _ _ _ _ _ => id) hS (fun _ => rfl) ?_ ?_; rotate_left; intro w' hw'; go_simp; with_reducible rfl; simp only [zP,zS,zC,zZ]
   refine AnyS.yes 5 41 ?_ rfl rfl (by kernel_rfl) (fun _ _ _ _ _ => id) hS (fun _ => rfl) ?_ ?_; rotate_left; intro w' hw'; go_simp; with_reducible rfl; simp only [zP,zS,zC,zZ]
   refine AnyS.yes 6 42 ?_ rfl rfl (by kernel_rfl) (fun _ _ _ _ _ => id) hS (fun _ => rfl) ?_ ?_; rotate_left; intro w' hw'; go_simp; with_reducible rfl; simp only [zP,zS,zC,zZ]
   refine AnyS.yes 7 43 ?_ rfl rfl (by kernel_rfl) (fun _ _ _ _ _ => id) hS (fun _ => rfl) ?_ ?_; rotate_left; intro w' hw'; go_simp; with_reducible rfl; simp only [zP,zS,zC,zZ]
   refine AnyS.yes 8 44 ?_ rfl rfl (by kernel_rfl) (fun _ _ _ _ _ => id) hS (fun _ => rfl) ?_ ?_
   rotate_left
   · intro w' hw'
     obtain ⟨t1, t2, t3⟩ := hw'
     go_simp
     with_reducible rfl
   simp only [zP,zN,zS,zC,zZ]
   refine AnyS.yes 9 45 ?_ rfl rfl (by kernel_rfl) (fun _ _ _ _ _ => id) hS (fun _ => rfl) ?_ ?_; rotate_left; intro w' hw'; go_simp; with_reducible rfl; simp only [zP,zS,zC,zZ]
   refine AnyS.yes 10 46 ?_ rfl rfl (by kernel_rfl) (fun _ _ _ _ _ => id) hS (fun _ => rfl) ?_ ?_; rotate_left; intro w' hw'; go_simp; with_reducible rfl; simp only [zP,zS,zC,zZ]
   refine AnyS.yes 11 47 ?_ rfl rfl (by kernel_rfl) (fun _ _ _ _ _ => id) hS (fun _ => rfl) ?_ ?_; rotate_left; intro w' hw'; go_simp; with_reducible rfl; simp only [zP,zS,zC,zZ]
   refine AnyS.yes 12 48 ?_ rfl rfl (by kernel_rfl) (fun _ _ _ _ _ => id) hS (fun _ => rfl) ?_ ?_; rotate_left; intro w' hw'; go_simp; with_reducible rfl; simp only [zP,zS,zC,zZ]
   refine AnyS.yes 13 49 ?_ rfl rfl (by kernel_rfl) (fun _ _ _ _ _ => id) hS (fun _ => rfl) ?_ ?_
   rotate_left
   · intro w' hw'
     obtain ⟨t1, t2, t3⟩ := hw'
     go_simp
     with_reducible rfl
   simp only [zP,zN,zS,zC,zZ]
   refine AnyS.yes 14 50 ?_ rfl rfl (by kernel_rfl) (fun _ _ _ _ _ => id) hS (fun _ => rfl) ?_ ?_; rotate_left; intro w' hw'; go_simp; with_reducible rfl; simp only [zP,zS,zC,zZ]
   refine AnyS.yes 15 51 ?_ rfl rfl (by kernel_rfl) (fun _ _ _ _ _ => id) hS (fun _ => rfl) ?_ ?_; rotate_left; intro w' hw'; go_simp; with_reducible rfl; simp only [zP,zS,zC,zZ]
   refine AnyS.yes 16 52 ?_ rfl rfl (by kernel_rfl) (fun _ _ _ _ _ => id) hS (fun _ => rfl) ?_ ?_; rotate_left; intro w' hw'; go_simp; with_reducible rfl; simp only [zP,zS,zC,zZ]
   refine AnyS.yes 17 5 ?_ rfl rfl (by kernel_rfl) (fun _ _ _ _ _ => id) hS (fun _ => rfl) ?_ ?_; rotate_left; intro w' hw'; go_simp; with_reducible rfl; simp only [zP,zS,zC,zZ]
   refine AnyS.done (by kernel_rfl) ?_ _
   clear hS
   go_wp2_with fail
   go_cut [] (fun wx => Hid (RdAt r at' (!decide (S4 = sumB S)) text wx ∧ Fr [r] w wx))
   case first =>
    refine (wpIn_wide (n := 5)).1 ?_
    refine wpIn_region_lit_late (fun W' => W'.cell? ⟨r, 0, none⟩ = some (.int .i64 at') ∧ W'.cell? ⟨r, 1, none⟩ = some (.bool false) ∧ W'.cell? ⟨r, 2, none⟩ = some (.string ⟨text.toArray⟩)) (fun j => j == 27) (k := 28) (listed := #[false, false, false, false, false, false, false, false, false, false, false, false, false, false, false, false, false, false, false, false, false, false, false, false, false, false, false, false]) (by kernel_rfl) (by kernel_rfl) (by kernel_rfl) ?_
    have bz := Below.drew (Below.refl wz.heap.size wz)
    have HRY := Lib.hid (HRZ.out.later bz)
    have HFY := Lib.hid (HFZ.out.trans (T := []) (Fr.of_below bz) (by simp))
    obtain ⟨wy, hwy⟩ : ∃ wy, wz.drew = wy := ⟨_, rfl⟩
    rw [hwy] at HRY HFY ⊢
    clear hwy bz HRZ HFZ
    have hS := HRY.out.cells
    refine AnyS.yes 0 53 ?_ rfl rfl (by kernel_rfl) (fun _ _ _ _ _ => id) hS (fun _ => rfl) ?_ ?_; rotate_left; intro w' hw'; go_simp; with_reducible rfl; simp only [zP,zS,zC,zZ]
    refine AnyS.yes 1 54 ?_ rfl rfl (by kernel_rfl) (fun _ _ _ _ _ => id) hS (fun _ => rfl) ?_ ?_; rotate_left; intro w' hw'; go_simp; with_reducible rfl; simp only [zP,zS,zC,zZ]
    refine AnyS.yes 2 55 ?_ rfl rfl (by kernel_rfl) (fun _ _ _ _ _ => id) hS (fun _ => rfl) ?_ ?_; rotate_left; intro w' hw'; go_simp; with_reducible rfl; simp only [zP,zS,zC,zZ]
    refine AnyS.yes 3 56 ?_ rfl rfl (by kernel_rfl) (fun _ _ _ _ _ => id) hS (fun _ => rfl) ?_ ?_; rotate_left; intro w' hw'; go_simp; with_reducible rfl; simp only [zP,zS,zC,zZ]
    refine AnyS.yes 4 57 ?_ rfl rfl (by kernel_rfl) (fun _ _ _ _ _ => id) hS (fun _ => rfl) ?_ ?_
    rotate_left
    · intro w' hw'
      obtain ⟨t1, t2, t3⟩ := hw'
      go_simp
      with_reducible rfl
    simp only [zP,zN,zS,zC,zZ]
    refine AnyS.yes 5 58 ?_ rfl rfl (by kernel_rfl) (fun _ _ _ _ _ => id) hS (fun _ => rfl) ?_ ?_; rotate_left; intro w' hw'; go_simp; with_reducible rfl; simp only [zP,zS,zC,zZ]
    refine AnyS.yes 6 59 ?_ rfl rfl (by kernel_rfl) (fun _ _ _ _ _ => id) hS (fun _ => rfl) ?_ ?_; rotate_left; intro w' hw'; go_simp; with_reducible rfl; simp only [zP,zS,zC,zZ]
    refine AnyS.yes 7 60 ?_ rfl rfl (by kernel_rfl) (fun _ _ _ _ _ => id) hS (fun _ => rfl) ?_ ?_; rotate_left; intro w' hw'; go_simp; with_reducible rfl; simp only [zP,zS,zC,zZ]
    refine AnyS.yes 8 61 ?_ rfl rfl (by kernel_rfl) (fun _ _ _ _ _ => id) hS (fun _ => rfl) ?_ ?_; rotate_left; intro w' hw'; go_simp; with_reducible rfl; simp only [zP,zS,zC,zZ]
    refine AnyS.yes 9 62 ?_ rfl rfl (by kernel_rfl) (fun _ _ _ _ _ => id) hS (fun _ => rfl) ?_ ?_
    rotate_left
    · intro w' hw'
      obtain ⟨t1, t2, t3⟩ := hw'
      go_simp
      with_reducible rfl
    simp only [zP,zN,zS,zC,zZ]
    refine AnyS.yes 10 63 ?_ rfl rfl (by kernel_rfl) (fun _ _ _ _ _ => id) hS (fun _ => rfl) ?_ ?_; rotate_left; intro w' hw'; go_simp; with_reducible rfl; simp only [zP,zS,zC,zZ]
    refine AnyS.yes 11 64 ?_ rfl rfl (by kernel_rfl) (fun _ _ _ _ _ => id) hS (fun _ => rfl) ?_ ?_; rotate_left; intro w' hw'; go_simp; with_reducible rfl; simp only [zP,zS,zC,zZ]
    refine AnyS.yes 12 65 ?_ rfl rfl (by kernel_rfl) (fun _ _ _ _ _ => id) hS (fun _ => rfl) ?_ ?_; rotate_left; intro w' hw'; go_simp; with_reducible rfl; simp only [zP,zS,zC,zZ]
    refine AnyS.yes 13 66 ?_ rfl rfl (by kernel_rfl) (fun _ _ _ _ _ => id) hS (fun _ => rfl) ?_ ?_; rotate_left; intro w' hw'; go_simp; with_reducible rfl; simp only [zP,zS,zC,zZ]
    refine AnyS.yes 14 67 ?_ rfl rfl (by kernel_rfl) (fun _ _ _ _ _ => id) hS (fun _ => rfl) ?_ ?_; rotate_left; intro w' hw'; go_simp; with_reducible rfl; simp only [zP,zS,zC,zZ]
    refine AnyS.yes 15 68 ?_ rfl rfl (by kernel_rfl) (fun _ _ _ _ _ => id) hS (fun _ => rfl) ?_ ?_; rotate_left; intro w' hw'; go_simp; with_reducible rfl; simp only [zP,zS,zC,zZ]
    refine AnyS.yes 16 69 ?_ rfl rfl (by kernel_rfl) (fun _ _ _ _ _ => id) hS (fun _ => rfl) ?_ ?_
    rotate_left
    · intro w' hw'
      obtain ⟨t1, t2, t3⟩ := hw'
      go_simp
      with_reducible rfl
    simp only [zP,zN,zS,zC,zZ]
    refine AnyS.yes 17 70 ?_ rfl rfl (by kernel_rfl) (fun _ _ _ _ _ => id) hS (fun _ => rfl) ?_ ?_; rotate_left; intro w' hw'; go_simp; with_reducible rfl; simp only [zP,zS,zC,zZ]
    refine AnyS.yes 18 71 ?_ rfl rfl (by kernel_rfl) (fun _ _ _ _ _ => id) hS (fun _ => rfl) ?_ ?_; rotate_left; intro w' hw'; go_simp; with_reducible rfl; simp only [zP,zS,zC,zZ]
    refine AnyS.yes 19 72 ?_ rfl rfl (by kernel_rfl) (fun _ _ _ _ _ => id) hS (fun _ => rfl) ?_ ?_; rotate_left; intro w' hw'; go_simp; with_reducible rfl; simp only [zP,zS,zC,zZ]
    refine AnyS.yes 20 73 ?_ rfl rfl (by kernel_rfl) (fun _ _ _ _ _ => id) hS (fun _ => rfl) ?_ ?_; rotate_left; intro w' hw'; go_simp; with_reducible rfl; simp only [zP,zS,zC,zZ]
    refine AnyS.yes 21 74 ?_ rfl rfl (by kernel_rfl) (fun _ _ _ _ _ => id) hS (fun _ => rfl) ?_ ?_; rotate_left; intro w' hw'; go_simp; with_reducible rfl; simp only [zP,zS,zC,zZ]
    clear hS
    refine AnyS.next (i := 22) rfl (by kernel_rfl) (by kernel_rfl) fun K' hK' => ?_
    refine want_yes (by kernel_rfl) ?_
    go_simp
    refine ⟨trivial, (callsIn_wide.2 (sumB_any S _ htl)).mono ?_⟩
    rintro e wb ⟨rfl, bb⟩
    have HRB := Lib.hid (HRY.out.later bb)
    have HFB := Lib.hid (HFY.out.trans (T := []) (Fr.of_below bb) (by simp))
    have hS := HRB.out.cells
    refine hK' _ _ (fun _ => hS) ?_
    clear hK' K' bb HRY HFY
    simp only [zP,zN,zS,zC,zZ]
    refine AnyS.yes 23 76 ?_ rfl rfl (by kernel_rfl) (fun _ _ _ _ _ => id) hS (fun _ => rfl) ?_ ?_; rotate_left; intro w' hw'; go_simp; with_reducible rfl; simp only [zP,zS,zC,zZ]
    have HSZ := Lib.hid hS
    clear hS
    refine AnyS.next (i := 24) rfl (by kernel_rfl) (by kernel_rfl) fun K' hK' => ?_
    refine want_yes (by kernel_rfl) ?_
    go_simp
    refine hK' _ _ (fun _ => HSZ.out) ?_
    clear hK' K'
    simp only [zP,zN,zS,zC,zZ]
    refine AnyS.next (i := 25) rfl (by kernel_rfl) (by kernel_rfl) fun K' hK' => ?_
    refine want_yes (by kernel_rfl) ?_
    go_simp
    refine hK' _ _ (fun _ => HSZ.out) ?_
    clear hK' K'
    simp only [zP,zN,zS,zC,zZ]
    refine AnyS.next (i := 26) rfl (by kernel_rfl) (by kernel_rfl) fun K' hK' => ?_
    refine want_yes (by kernel_rfl) ?_
    go_simp
    refine hK' _ _ (fun _ => HSZ.out) ?_
    clear hK' K'
    simp only [zP,zN,zS,zC,zZ]
    obtain ⟨t1, t2, t3⟩ := HSZ.out
    have f1 := HRB.out.free 1
    refine AnyS.next (i := 27) rfl (by kernel_rfl) (by kernel_rfl) fun K' hK' => ?_
    refine want_yes (by kernel_rfl) ?_
    go_simp
    refine hK' _ _ (fun h => by cases h) ?_
    clear hK' K' t1 t2 t3 f1
    refine AnyS.done (by kernel_rfl) ?_ _
    go_wp2_with fail
    go_meet
    refine Lib.hid ?_
    have hsb := HRB.out.setBad (!decide (S4 = sumB S))
    have hsf := HFB.out.set ⟨r, 1, none⟩ (.inl (by simp)) (.bool (!decide (S4 = sumB S)))
    first
    | exact ⟨hsb, hsf⟩
    | (have e : (!(S4 == sumB S)) = !decide (S4 = sumB S) := by by_cases h : S4 = sumB S <;> simp [h]
       rw [e]
       exact ⟨hsb, hsf⟩)
   have HRC := Lib.hid hcut.out.1
   have HFC := Lib.hid hcut.out.2
   clear hcut HRZ HFZ
   obtain ⟨t1, t2, t3⟩ := HRC.out.cells
   have f0 := HRC.out.free 0
   have w5 : IntKind.i64.wrap ((n : Int) + 4) = (n : Int) + 4 := by rw [IntKind.wrap_i64]; omega
   have w6 : IntKind.i64.wrap ((at' : Int) + ((n : Int) + 4)) = ((at' + n + 4 : Nat) : Int) := by rw [IntKind.wrap_i64]; omega
   clear hsl1 hsl2 w3 w4
   go_wp2_with fail
   go_ret
   have ec : ((at' + n + 4 : Nat) : Int) = (at' : Int) + (n : Int) + 4 := by omega
   have hfin := HRC.out.setAt (at' + n + 4)
   have hff := HFC.out.set ⟨r, 0, none⟩ (.inl (by simp)) (.int .i64 ((at' : Int) + (n : Int) + 4))
   rw [ec] at hfin
   refine ⟨hff, .inr ⟨HOK.out, ret1 (by rw [HSS.out]; rfl), ?_⟩⟩
   rw [HSM.out]
   exact hfin
end Go.Proofs.YtoglloafpnopaaaGreat
