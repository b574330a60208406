/- The walk of SpansField. -/
import Derived.Test.YtnfagkcmcliagaaSpansK
namespace Go.Proofs.Ytnfagkcmcliagaa
open Go.RowKit Spoor

theorem ok_parts {x : Sp} (h : x.ok = true) : numOk x 0 = true ∧ numOk x 1 = true ∧ numOk x 2 = true ∧ numOk x 3 = true ∧ numOk x 4 = true ∧ nameOk x.sv = true ∧ nameOk x.ho = true ∧ decide (x.no.length ≤ 24) = true := by
  unfold Sp.ok at h
  simp only [Bool.and_eq_true] at h
  obtain ⟨⟨⟨⟨⟨⟨⟨h0, h1⟩, h2⟩, h3⟩, h4⟩, h5⟩, h6⟩, h7⟩ := h
  exact ⟨h0, h1, h2, h3, h4, h5, h6, h7⟩
theorem ok_tr {x : Sp} (h : x.ok = true) (n : Int) : Sp.ok { x with tr := n } = (decide (1 ≤ n) && decide (n ≤ 2147483647)) := by
  obtain ⟨h0, h1, h2, h3, h4, h5, h6, h7⟩ := ok_parts h
  show ((decide (1 ≤ n) && decide (n ≤ 2147483647)) && numOk x 1 && numOk x 2 && numOk x 3 && numOk x 4 && nameOk x.sv && nameOk x.ho && decide (x.no.length ≤ 24)) = _
  rw [h1, h2, h3, h4, h5, h6, h7]
  simp
theorem ok_id {x : Sp} (h : x.ok = true) (n : Int) : Sp.ok { x with id := n } = (decide (1 ≤ n) && decide (n ≤ 2147483647)) := by
  obtain ⟨h0, h1, h2, h3, h4, h5, h6, h7⟩ := ok_parts h
  show (numOk x 0 && (decide (1 ≤ n) && decide (n ≤ 2147483647)) && numOk x 2 && numOk x 3 && numOk x 4 && nameOk x.sv && nameOk x.ho && decide (x.no.length ≤ 24)) = _
  rw [h0, h2, h3, h4, h5, h6, h7]
  simp
theorem ok_pa {x : Sp} (h : x.ok = true) (n : Int) : Sp.ok { x with pa := n } = (decide (0 ≤ n) && decide (n ≤ 2147483647)) := by
  obtain ⟨h0, h1, h2, h3, h4, h5, h6, h7⟩ := ok_parts h
  show (numOk x 0 && numOk x 1 && (decide (0 ≤ n) && decide (n ≤ 2147483647)) && numOk x 3 && numOk x 4 && nameOk x.sv && nameOk x.ho && decide (x.no.length ≤ 24)) = _
  rw [h0, h1, h3, h4, h5, h6, h7]
  simp
theorem ok_st {x : Sp} (h : x.ok = true) (n : Int) : Sp.ok { x with st := n } = (decide (0 ≤ n) && decide (n ≤ 1073741824)) := by
  obtain ⟨h0, h1, h2, h3, h4, h5, h6, h7⟩ := ok_parts h
  show (numOk x 0 && numOk x 1 && numOk x 2 && (decide (0 ≤ n) && decide (n ≤ 1073741824)) && numOk x 4 && nameOk x.sv && nameOk x.ho && decide (x.no.length ≤ 24)) = _
  rw [h0, h1, h2, h4, h5, h6, h7]
  simp
theorem ok_du {x : Sp} (h : x.ok = true) (n : Int) : Sp.ok { x with du := n } = (decide (0 ≤ n) && decide (n ≤ 1073741824)) := by
  obtain ⟨h0, h1, h2, h3, h4, h5, h6, h7⟩ := ok_parts h
  show (numOk x 0 && numOk x 1 && numOk x 2 && numOk x 3 && (decide (0 ≤ n) && decide (n ≤ 1073741824)) && nameOk x.sv && nameOk x.ho && decide (x.no.length ≤ 24)) = _
  rw [h0, h1, h2, h3, h5, h6, h7]
  simp
theorem ok_ho {x : Sp} (h : x.ok = true) (c : UInt8) : Sp.ok { x with ho := [104, c] } = (decide (33 ≤ c.toNat) && decide (c.toNat ≤ 126)) := by
  obtain ⟨h0, h1, h2, h3, h4, h5, h6, h7⟩ := ok_parts h
  show (numOk x 0 && numOk x 1 && numOk x 2 && numOk x 3 && numOk x 4 && nameOk x.sv && nameOk [104, c] && decide (x.no.length ≤ 24)) = _
  rw [h0, h1, h2, h3, h4, h5, h7]
  simp [nameOk, byteOk]

theorem conv2 (W : World) (n : Int) : (convert 38 9 (.slice (some ⟨W.heap.size, 0, none⟩) 2 2)).run Try.prog (W.alloc (.cells #[.int .u8 104, .int .u8 (n % 256)] 5)) = .ok (.string ⟨[104, UInt8.ofNat (n % 256).toNat].toArray⟩) (W.alloc (.cells #[.int .u8 104, .int .u8 (n % 256)] 5)) :=
  run_convert_bytes_arg (P := Try.prog) (W.alloc (.cells #[.int .u8 104, .int .u8 (n % 256)] 5)) _ _ Try.underlying38 Try.underlying5 W.heap.size 0 2 2 [104, n % 256] rfl (fun i hi => by
    rcases (by omega : i = 0 ∨ i = 1) with rfl | rfl <;> simp [List.getD]) _ Try.underlying9

theorem spansField_out (x : Sp) (wh n : Int) (hf : Fits x) (hg : greatB x = true ∨ (greatB x = false ∧ x.ok = false)) (w : World) :
    Calls Try.prog 9 #[spVal x, .int .u8 wh, .int .i64 n] w fun e w' => e = .returned (.bool true) ∧ Below w.heap.size w w' := by
  have cg := fun W => great_any x W hf
  have c1 := fun W => check_any x W hf
  have CD := Lib.hid does_true
  rcases hg with hg | ⟨hg, hx⟩
  · rw [hg] at cg
    unfold spVal at *
    have CG := Lib.hid cg
    clear cg hg c1
    go_enter Try.func9, Try.ntmps9
    go_wp2_with fail
    refine (CG.out _).mono ?_
    rintro e w1 ⟨rfl, b1⟩
    go_wp2_with fail
    refine (CD.out _).mono ?_
    rintro e w2 ⟨rfl, b2⟩
    go_wp2_with fail
    go_ret
    exact ⟨rfl, bt (((Below.refl _ _).alloc (Nat.le_refl _) _).trans (b1.mono (by simp))) b2⟩
  · rw [hg] at cg
    rw [checkV_no hx] at c1
    unfold spVal at *
    have CG := Lib.hid cg
    have C1 := Lib.hid c1
    clear cg hg c1 hx
    go_enter Try.func9, Try.ntmps9
    go_wp2_with fail
    refine (CG.out _).mono ?_
    rintro e w1 ⟨rfl, b1⟩
    have q1 := (SpAt.boxed x w).later b1 (by simp)
    have h1 : Below w.heap.size w w1 := ((Below.refl _ _).alloc (Nat.le_refl _) _).trans (b1.mono (by simp))
    obtain ⟨a0, a1, a2, a3, a4, a5, a6, a7⟩ := q1.cell
    go_wp2_with fail
    refine (C1.out _).mono ?_
    rintro e w2 ⟨rfl, b2⟩
    go_wp2_with fail
    refine (CD.out _).mono ?_
    rintro e w3 ⟨rfl, b3⟩
    go_wp2_with fail
    go_ret
    exact ⟨rfl, bt (bt h1 b2) b3⟩

set_option maxHeartbeats 1000000 in
theorem spansField_in (x : Sp) (wh n : Int) (hf : Fits x) (hg : greatB x = false) (hx : x.ok = true) (wb : 0 ≤ wh ∧ wh ≤ 255) (w : World) :
    Calls Try.prog 9 #[spVal x, .int .u8 wh, .int .i64 n] w fun e w' => e = .returned (.bool true) ∧ Below w.heap.size w w' := by
  have cg := fun W => great_any x W hf
  have c1 := fun W => check_any x W hf
  have CD := Lib.hid does_true
  have HX := Lib.hid hx
  rw [hg] at cg
  rw [checkV_ok hx] at c1
  unfold spVal at *
  have CG := Lib.hid cg
  have C1 := Lib.hid c1
  clear cg hg c1 hx
  go_enter Try.func9, Try.ntmps9
  go_wp2_with fail
  refine (CG.out _).mono ?_
  rintro e w1 ⟨rfl, b1⟩
  have q1 := (SpAt.boxed x w).later b1 (by simp)
  have h1 : Below w.heap.size w w1 := ((Below.refl _ _).alloc (Nat.le_refl _) _).trans (b1.mono (by simp))
  obtain ⟨a0, a1, a2, a3, a4, a5, a6, a7⟩ := q1.cell
  go_wp2_with fail
  refine (C1.out _).mono ?_
  rintro e w2 ⟨rfl, b2⟩
  have q2 := q1.later b2 q1.lt
  have h2 := bt h1 b2
  clear b2 h1 q1 b1 a0 a1 a2 a3 a4 a5 a6 a7
  go_upto_region 4 with fail
  have hk : wh.tmod 6 = 0 ∨ wh.tmod 6 = 1 ∨ wh.tmod 6 = 2 ∨ wh.tmod 6 = 3 ∨ wh.tmod 6 = 4 ∨ wh.tmod 6 = 5 := by
    rw [Int.tmod_eq_emod_of_nonneg (by omega)]; omega
  obtain ⟨f0, f1, f2, f3, f4, f5, f6, f7⟩ := q2.frees
  obtain ⟨a0, a1, a2, a3, a4, a5, a6, a7⟩ := q2.cell
  have l2 := q2.lt
  rcases hk with hk | hk | hk | hk | hk | hk

  · go_upto_region 21 with fail
    have q3 : SpAt w.heap.size { x with tr := n } (w2.setCell ⟨w.heap.size, 0, none⟩ (.int .i64 n)) := by unfold SpAt at q2 ⊢; rw [heap_setCell_same w2 w.heap.size _ _ _ _ q2]; rfl
    have h3 := h2.setCell (p := ⟨w.heap.size, 0, none⟩) (Nat.le_refl _) (.int .i64 n)
    clear q2 h2 l2 f0 f1 f2 f3 f4 f5 f6 f7 a0 a1 a2 a3 a4 a5 a6 a7
    generalize w2.setCell _ _ = w3 at *
    have hok := ok_tr HX.out n
    have c2 := fun W => check_any { x with tr := n } W hf
    unfold spVal at c2
    obtain ⟨a0, a1, a2, a3, a4, a5, a6, a7⟩ := q3.cell
    dsimp only at a0 a1 a2 a3 a4 a5 a6 a7 c2
    by_cases e1 : 1 ≤ n
    · by_cases e2 : n ≤ 2147483647
      · have c2 := fun W => (by have := c2 W; rw [checkV_ok (by rw [hok, decide_eq_true e1, decide_eq_true e2]; rfl)] at this; exact this : Calls Try.prog _ _ W _)
        have C2 := Lib.hid c2
        clear c2 hok
        go_wp2_with fail
        refine (C2.out _).mono ?_
        rintro e w4 ⟨rfl, b4⟩
        go_wp2_with fail
        refine (CD.out _).mono ?_
        rintro e w5 ⟨rfl, b5⟩
        go_wp2_with fail
        go_ret
        exact ⟨rfl, bt (bt h3 b4) b5⟩
      · have e3 := decide_eq_false e2
        have c2 := fun W => (by have := c2 W; rw [checkV_no (by rw [hok, decide_eq_true e1, decide_eq_false e2]; rfl)] at this; exact this : Calls Try.prog _ _ W _)
        have C2 := Lib.hid c2
        clear c2 hok
        go_wp2_with fail
        refine (C2.out _).mono ?_
        rintro e w4 ⟨rfl, b4⟩
        go_wp2_with fail
        refine (CD.out _).mono ?_
        rintro e w5 ⟨rfl, b5⟩
        go_wp2_with fail
        go_ret
        exact ⟨rfl, bt (bt h3 b4) b5⟩
    · have c2 := fun W => (by have := c2 W; rw [checkV_no (by rw [hok, decide_eq_false e1]; rfl)] at this; exact this : Calls Try.prog _ _ W _)
      have C2 := Lib.hid c2
      clear c2 hok
      go_wp2_with fail
      refine (C2.out _).mono ?_
      rintro e w4 ⟨rfl, b4⟩
      go_wp2_with fail
      refine (CD.out _).mono ?_
      rintro e w5 ⟨rfl, b5⟩
      go_wp2_with fail
      go_ret
      exact ⟨rfl, bt (bt h3 b4) b5⟩
  · go_upto_region 21 with fail
    have q3 : SpAt w.heap.size { x with id := n } (w2.setCell ⟨w.heap.size, 1, none⟩ (.int .i64 n)) := by unfold SpAt at q2 ⊢; rw [heap_setCell_same w2 w.heap.size _ _ _ _ q2]; rfl
    have h3 := h2.setCell (p := ⟨w.heap.size, 1, none⟩) (Nat.le_refl _) (.int .i64 n)
    clear q2 h2 l2 f0 f1 f2 f3 f4 f5 f6 f7 a0 a1 a2 a3 a4 a5 a6 a7
    generalize w2.setCell _ _ = w3 at *
    have hok := ok_id HX.out n
    have c2 := fun W => check_any { x with id := n } W hf
    unfold spVal at c2
    obtain ⟨a0, a1, a2, a3, a4, a5, a6, a7⟩ := q3.cell
    dsimp only at a0 a1 a2 a3 a4 a5 a6 a7 c2
    by_cases e1 : 1 ≤ n
    · by_cases e2 : n ≤ 2147483647
      · have c2 := fun W => (by have := c2 W; rw [checkV_ok (by rw [hok, decide_eq_true e1, decide_eq_true e2]; rfl)] at this; exact this : Calls Try.prog _ _ W _)
        have C2 := Lib.hid c2
        clear c2 hok
        go_wp2_with fail
        refine (C2.out _).mono ?_
        rintro e w4 ⟨rfl, b4⟩
        go_wp2_with fail
        refine (CD.out _).mono ?_
        rintro e w5 ⟨rfl, b5⟩
        go_wp2_with fail
        go_ret
        exact ⟨rfl, bt (bt h3 b4) b5⟩
      · have e3 := decide_eq_false e2
        have c2 := fun W => (by have := c2 W; rw [checkV_no (by rw [hok, decide_eq_true e1, decide_eq_false e2]; rfl)] at this; exact this : Calls Try.prog _ _ W _)
        have C2 := Lib.hid c2
        clear c2 hok
        go_wp2_with fail
        refine (C2.out _).mono ?_
        rintro e w4 ⟨rfl, b4⟩
        go_wp2_with fail
        refine (CD.out _).mono ?_
        rintro e w5 ⟨rfl, b5⟩
        go_wp2_with fail
        go_ret
        exact ⟨rfl, bt (bt h3 b4) b5⟩
    · have c2 := fun W => (by have := c2 W; rw [checkV_no (by rw [hok, decide_eq_false e1]; rfl)] at this; exact this : Calls Try.prog _ _ W _)
      have C2 := Lib.hid c2
      clear c2 hok
      go_wp2_with fail
      refine (C2.out _).mono ?_
      rintro e w4 ⟨rfl, b4⟩
      go_wp2_with fail
      refine (CD.out _).mono ?_
      rintro e w5 ⟨rfl, b5⟩
      go_wp2_with fail
      go_ret
      exact ⟨rfl, bt (bt h3 b4) b5⟩
  · go_upto_region 21 with fail
    have q3 : SpAt w.heap.size { x with pa := n } (w2.setCell ⟨w.heap.size, 2, none⟩ (.int .i64 n)) := by unfold SpAt at q2 ⊢; rw [heap_setCell_same w2 w.heap.size _ _ _ _ q2]; rfl
    have h3 := h2.setCell (p := ⟨w.heap.size, 2, none⟩) (Nat.le_refl _) (.int .i64 n)
    clear q2 h2 l2 f0 f1 f2 f3 f4 f5 f6 f7 a0 a1 a2 a3 a4 a5 a6 a7
    generalize w2.setCell _ _ = w3 at *
    have hok := ok_pa HX.out n
    have c2 := fun W => check_any { x with pa := n } W hf
    unfold spVal at c2
    obtain ⟨a0, a1, a2, a3, a4, a5, a6, a7⟩ := q3.cell
    dsimp only at a0 a1 a2 a3 a4 a5 a6 a7 c2
    by_cases e1 : 0 ≤ n
    · by_cases e2 : n ≤ 2147483647
      · have c2 := fun W => (by have := c2 W; rw [checkV_ok (by rw [hok, decide_eq_true e1, decide_eq_true e2]; rfl)] at this; exact this : Calls Try.prog _ _ W _)
        have C2 := Lib.hid c2
        clear c2 hok
        go_wp2_with fail
        refine (C2.out _).mono ?_
        rintro e w4 ⟨rfl, b4⟩
        go_wp2_with fail
        refine (CD.out _).mono ?_
        rintro e w5 ⟨rfl, b5⟩
        go_wp2_with fail
        go_ret
        exact ⟨rfl, bt (bt h3 b4) b5⟩
      · have e3 := decide_eq_false e2
        have c2 := fun W => (by have := c2 W; rw [checkV_no (by rw [hok, decide_eq_true e1, decide_eq_false e2]; rfl)] at this; exact this : Calls Try.prog _ _ W _)
        have C2 := Lib.hid c2
        clear c2 hok
        go_wp2_with fail
        refine (C2.out _).mono ?_
        rintro e w4 ⟨rfl, b4⟩
        go_wp2_with fail
        refine (CD.out _).mono ?_
        rintro e w5 ⟨rfl, b5⟩
        go_wp2_with fail
        go_ret
        exact ⟨rfl, bt (bt h3 b4) b5⟩
    · have c2 := fun W => (by have := c2 W; rw [checkV_no (by rw [hok, decide_eq_false e1]; rfl)] at this; exact this : Calls Try.prog _ _ W _)
      have C2 := Lib.hid c2
      clear c2 hok
      go_wp2_with fail
      refine (C2.out _).mono ?_
      rintro e w4 ⟨rfl, b4⟩
      go_wp2_with fail
      refine (CD.out _).mono ?_
      rintro e w5 ⟨rfl, b5⟩
      go_wp2_with fail
      go_ret
      exact ⟨rfl, bt (bt h3 b4) b5⟩
  · go_upto_region 21 with fail
    have q3 : SpAt w.heap.size { x with st := n } (w2.setCell ⟨w.heap.size, 5, none⟩ (.int .i64 n)) := by unfold SpAt at q2 ⊢; rw [heap_setCell_same w2 w.heap.size _ _ _ _ q2]; rfl
    have h3 := h2.setCell (p := ⟨w.heap.size, 5, none⟩) (Nat.le_refl _) (.int .i64 n)
    clear q2 h2 l2 f0 f1 f2 f3 f4 f5 f6 f7 a0 a1 a2 a3 a4 a5 a6 a7
    generalize w2.setCell _ _ = w3 at *
    have hok := ok_st HX.out n
    have c2 := fun W => check_any { x with st := n } W hf
    unfold spVal at c2
    obtain ⟨a0, a1, a2, a3, a4, a5, a6, a7⟩ := q3.cell
    dsimp only at a0 a1 a2 a3 a4 a5 a6 a7 c2
    by_cases e1 : 0 ≤ n
    · by_cases e2 : n ≤ 1073741824
      · have c2 := fun W => (by have := c2 W; rw [checkV_ok (by rw [hok, decide_eq_true e1, decide_eq_true e2]; rfl)] at this; exact this : Calls Try.prog _ _ W _)
        have C2 := Lib.hid c2
        clear c2 hok
        go_wp2_with fail
        refine (C2.out _).mono ?_
        rintro e w4 ⟨rfl, b4⟩
        go_wp2_with fail
        refine (CD.out _).mono ?_
        rintro e w5 ⟨rfl, b5⟩
        go_wp2_with fail
        go_ret
        exact ⟨rfl, bt (bt h3 b4) b5⟩
      · have e3 := decide_eq_false e2
        have c2 := fun W => (by have := c2 W; rw [checkV_no (by rw [hok, decide_eq_true e1, decide_eq_false e2]; rfl)] at this; exact this : Calls Try.prog _ _ W _)
        have C2 := Lib.hid c2
        clear c2 hok
        go_wp2_with fail
        refine (C2.out _).mono ?_
        rintro e w4 ⟨rfl, b4⟩
        go_wp2_with fail
        refine (CD.out _).mono ?_
        rintro e w5 ⟨rfl, b5⟩
        go_wp2_with fail
        go_ret
        exact ⟨rfl, bt (bt h3 b4) b5⟩
    · have c2 := fun W => (by have := c2 W; rw [checkV_no (by rw [hok, decide_eq_false e1]; rfl)] at this; exact this : Calls Try.prog _ _ W _)
      have C2 := Lib.hid c2
      clear c2 hok
      go_wp2_with fail
      refine (C2.out _).mono ?_
      rintro e w4 ⟨rfl, b4⟩
      go_wp2_with fail
      refine (CD.out _).mono ?_
      rintro e w5 ⟨rfl, b5⟩
      go_wp2_with fail
      go_ret
      exact ⟨rfl, bt (bt h3 b4) b5⟩
  · go_upto_region 21 with fail
    have q3 : SpAt w.heap.size { x with du := n } (w2.setCell ⟨w.heap.size, 6, none⟩ (.int .i64 n)) := by unfold SpAt at q2 ⊢; rw [heap_setCell_same w2 w.heap.size _ _ _ _ q2]; rfl
    have h3 := h2.setCell (p := ⟨w.heap.size, 6, none⟩) (Nat.le_refl _) (.int .i64 n)
    clear q2 h2 l2 f0 f1 f2 f3 f4 f5 f6 f7 a0 a1 a2 a3 a4 a5 a6 a7
    generalize w2.setCell _ _ = w3 at *
    have hok := ok_du HX.out n
    have c2 := fun W => check_any { x with du := n } W hf
    unfold spVal at c2
    obtain ⟨a0, a1, a2, a3, a4, a5, a6, a7⟩ := q3.cell
    dsimp only at a0 a1 a2 a3 a4 a5 a6 a7 c2
    by_cases e1 : 0 ≤ n
    · by_cases e2 : n ≤ 1073741824
      · have c2 := fun W => (by have := c2 W; rw [checkV_ok (by rw [hok, decide_eq_true e1, decide_eq_true e2]; rfl)] at this; exact this : Calls Try.prog _ _ W _)
        have C2 := Lib.hid c2
        clear c2 hok
        go_wp2_with fail
        refine (C2.out _).mono ?_
        rintro e w4 ⟨rfl, b4⟩
        go_wp2_with fail
        refine (CD.out _).mono ?_
        rintro e w5 ⟨rfl, b5⟩
        go_wp2_with fail
        go_ret
        exact ⟨rfl, bt (bt h3 b4) b5⟩
      · have e3 := decide_eq_false e2
        have c2 := fun W => (by have := c2 W; rw [checkV_no (by rw [hok, decide_eq_true e1, decide_eq_false e2]; rfl)] at this; exact this : Calls Try.prog _ _ W _)
        have C2 := Lib.hid c2
        clear c2 hok
        go_wp2_with fail
        refine (C2.out _).mono ?_
        rintro e w4 ⟨rfl, b4⟩
        go_wp2_with fail
        refine (CD.out _).mono ?_
        rintro e w5 ⟨rfl, b5⟩
        go_wp2_with fail
        go_ret
        exact ⟨rfl, bt (bt h3 b4) b5⟩
    · have c2 := fun W => (by have := c2 W; rw [checkV_no (by rw [hok, decide_eq_false e1]; rfl)] at this; exact this : Calls Try.prog _ _ W _)
      have C2 := Lib.hid c2
      clear c2 hok
      go_wp2_with fail
      refine (C2.out _).mono ?_
      rintro e w4 ⟨rfl, b4⟩
      go_wp2_with fail
      refine (CD.out _).mono ?_
      rintro e w5 ⟨rfl, b5⟩
      go_wp2_with fail
      go_ret
      exact ⟨rfl, bt (bt h3 b4) b5⟩
  · have hcv := conv2 w2 n
    have hc : ((UInt8.ofNat (n % 256).toNat).toNat : Int) = n % 256 := by
      rw [UInt8.toNat_ofNat']; omega
    generalize UInt8.ofNat (n % 256).toNat = c at *
    go_upto_region 21 with fail
    have q3 : SpAt w.heap.size { x with ho := [104, c] } ((w2.setCell ⟨w.heap.size, 4, none⟩ (.string ⟨#[104, c]⟩)).alloc (.cells #[.int .u8 104, .int .u8 (n % 256)] 5)) := by
      refine SpAt.alloc' ?_ _
      unfold SpAt at q2 ⊢
      rw [heap_setCell_same _ w.heap.size _ _ _ _ q2]; rfl
    have h2' := h2.setCell (p := ⟨w.heap.size, 4, none⟩) (Nat.le_refl _) (.string ⟨#[104, c]⟩)
    have h3 := h2'.alloc h2'.size (.cells #[.int .u8 104, .int .u8 (n % 256)] 5)
    clear h2' q2 h2 l2 f0 f1 f2 f3 f4 f5 f6 f7 a0 a1 a2 a3 a4 a5 a6 a7 hcv
    generalize (w2.setCell _ _).alloc _ = w3 at *
    generalize n % 256 = m at *
    have hok : Sp.ok { x with ho := [104, c] } = (decide (33 ≤ m) && decide (m ≤ 126)) := by
      rw [ok_ho HX.out c, ← hc]
      congr 1
      · exact decide_eq_decide.2 (by omega)
      · exact decide_eq_decide.2 (by omega)
    have c2 := fun W => check_any { x with ho := [104, c] } W ⟨hf.1, by simp, hf.2.2⟩
    unfold spVal at c2
    obtain ⟨a0, a1, a2, a3, a4, a5, a6, a7⟩ := q3.cell
    dsimp only at a0 a1 a2 a3 a4 a5 a6 a7 c2
    by_cases e1 : 33 ≤ m
    · by_cases e2 : m ≤ 126
      · have c2 := fun W => (by have := c2 W; rw [checkV_ok (by rw [hok, decide_eq_true e1, decide_eq_true e2]; rfl)] at this; exact this : Calls Try.prog _ _ W _)
        have C2 := Lib.hid c2
        clear c2 hok
        go_wp2_with fail
        refine (C2.out _).mono ?_
        rintro e w4 ⟨rfl, b4⟩
        go_wp2_with fail
        refine (CD.out _).mono ?_
        rintro e w5 ⟨rfl, b5⟩
        go_wp2_with fail
        go_ret
        exact ⟨rfl, bt (bt h3 b4) b5⟩
      · have e3 := decide_eq_false e2
        have c2 := fun W => (by have := c2 W; rw [checkV_no (by rw [hok, decide_eq_true e1, decide_eq_false e2]; rfl)] at this; exact this : Calls Try.prog _ _ W _)
        have C2 := Lib.hid c2
        clear c2 hok
        go_wp2_with fail
        refine (C2.out _).mono ?_
        rintro e w4 ⟨rfl, b4⟩
        go_wp2_with fail
        refine (CD.out _).mono ?_
        rintro e w5 ⟨rfl, b5⟩
        go_wp2_with fail
        go_ret
        exact ⟨rfl, bt (bt h3 b4) b5⟩
    · have c2 := fun W => (by have := c2 W; rw [checkV_no (by rw [hok, decide_eq_false e1]; rfl)] at this; exact this : Calls Try.prog _ _ W _)
      have C2 := Lib.hid c2
      clear c2 hok
      go_wp2_with fail
      refine (C2.out _).mono ?_
      rintro e w4 ⟨rfl, b4⟩
      go_wp2_with fail
      refine (CD.out _).mono ?_
      rintro e w5 ⟨rfl, b5⟩
      go_wp2_with fail
      go_ret
      exact ⟨rfl, bt (bt h3 b4) b5⟩

theorem spansField_law (x : Sp) (wh n : Int) (hf : Fits x) (hw : (Lit.int .u8 wh).wf = true) (w : World) :
    Calls Try.prog 9 #[spVal x, .int .u8 wh, .int .i64 n] w fun e w' => e = .returned (.bool true) ∧ Below w.heap.size w w' := by
  cases hg : greatB x with
  | true => exact spansField_out x wh n hf (.inl hg) w
  | false =>
    cases hx : x.ok with
    | false => exact spansField_out x wh n hf (.inr ⟨hg, hx⟩) w
    | true => exact spansField_in x wh n hf hg hx (bounds_u8 hw) w
end Go.Proofs.Ytnfagkcmcliagaa
