/- The walk of the chapter's examples on rows. -/
import Derived.Test.YtfkjdjdgcegniaaRowsH
import Derived.Deep.RegionHeld3
namespace Go.Proofs.Ytfkjdjdgcegniaa
set_option maxRecDepth 16000
open Go.RowKit Spoor
set_option linter.unusedVariables false

theorem shelf_new (v : Value) (S : List Ce) (w : World) (h : SlAt v S w) (hf : ∀ c ∈ S, FitsC c) : ShAt w.heap.size S (w.alloc (.cells #[v] 44)) :=
  ⟨⟨v, heap_alloc_new w _, h.later (box_latS _)⟩, hf⟩
theorem sl_nil (w : World) : SlAt (.slice none 0 0) [] w := ⟨none, 0, rfl, by simp, by unfold maxLen; omega, fun h => by simp at h⟩
theorem one_span (x : Sp) (w : World) : SlS (.slice (some ⟨w.heap.size, 0, none⟩) 1 1) [x] (w.alloc (boxX x)) := (SpAt.boxed x w).row.sl rfl (by decide) (by unfold maxLen; omega)
def boxXY (x y : Sp) : Obj := .cells #[.int .i64 x.tr, .int .i64 x.id, .int .i64 x.pa, .string ⟨x.sv.toArray⟩, .string ⟨x.ho.toArray⟩, .int .i64 x.st, .int .i64 x.du, .string ⟨x.no.toArray⟩, .int .i64 y.tr, .int .i64 y.id, .int .i64 y.pa, .string ⟨y.sv.toArray⟩, .string ⟨y.ho.toArray⟩, .int .i64 y.st, .int .i64 y.du, .string ⟨y.no.toArray⟩] 23
theorem two_spans (x y : Sp) (w : World) : SlS (.slice (some ⟨w.heap.size, 0, none⟩) 2 2) [x, y] (w.alloc (boxXY x y)) := by
  refine ⟨some ⟨w.heap.size, 0, none⟩, 2, rfl, by simp, by unfold maxLen; omega, fun _ => ⟨w.heap.size, 0, rfl, by simp, fun i hi j v hv => ?_⟩⟩
  have h : (w.alloc (boxXY x y)).heap[w.heap.size]? = some (boxXY x y) := heap_alloc_new w _
  unfold boxXY at h ⊢
  rw [cell_of_row _ _ _ _ _ _ h]
  have hi' : i < 2 := hi
  have hj : j < 8 := by
    have := (List.getElem?_eq_some_iff.1 hv).1
    simpa [spRow] using this
  rcases (by omega : i = 0 ∨ i = 1) with rfl | rfl <;> rcases (by omega : j = 0 ∨ j = 1 ∨ j = 2 ∨ j = 3 ∨ j = 4 ∨ j = 5 ∨ j = 6 ∨ j = 7) with rfl | rfl | rfl | rfl | rfl | rfl | rfl | rfl <;> simpa [spRow] using hv
theorem own_two {w : World} {base : Nat} {c : Value} {a b : Ce} (own : w.ownsRow base 25 3 c 2 (rowOf [a, b])) : ∃ g cap, c = .slice (some ⟨g, 0, none⟩) 2 cap ∧ 2 ≤ cap ∧ cap ≤ maxLen ∧ RowAt g 0 [a, b] w := by
  have sl := slAt_own (l := [a, b]) own
  rcases own.2 with ⟨_, h0⟩ | ⟨g, cap, cur, rfl, hb, hg, hn, hm, _⟩
  · cases h0
  · obtain ⟨A, cap2, h1, _, _, h4⟩ := sl
    injection h1 with h1 _ _
    obtain ⟨b2, o2, h5, h6⟩ := h4 (by simp)
    rw [← h1] at h5
    simp only [Option.some.injEq, Addr.mk.injEq, and_true] at h5
    obtain ⟨rfl, rfl⟩ := h5
    exact ⟨g, cap, rfl, hn, hm, h6⟩
theorem RowAt.two {g : Nat} {a b : Ce} {w : World} (h : RowAt g 0 [a, b] w) : (w.cell? ⟨g, 0, none⟩ = some (.string ⟨a.k.toArray⟩) ∧ w.cell? ⟨g, 1, none⟩ = some (.int .i64 a.q) ∧ w.cell? ⟨g, 2, none⟩ = some (.string ⟨a.v.toArray⟩)) ∧
    w.cell? ⟨g, 3, none⟩ = some (.string ⟨b.k.toArray⟩) ∧ w.cell? ⟨g, 4, none⟩ = some (.int .i64 b.q) ∧ w.cell? ⟨g, 5, none⟩ = some (.string ⟨b.v.toArray⟩) := by
  have h0 := h.cells (i := 0) (by simp)
  have h1 := h.cells (i := 1) (by simp)
  simp at h0 h1
  exact ⟨h0, h1⟩
theorem own_none {w : World} {base : Nat} {v : Value} (own : w.ownsRow base 23 8 v 0 (rowS [])) : ∃ A cap, v = .slice A 0 cap := by
  obtain ⟨A, cap, h, _⟩ := slS_own (l := []) own
  exact ⟨A, cap, h⟩
theorem own_oneS {w : World} {base : Nat} {v : Value} {x : Sp} (own : w.ownsRow base 23 8 v 1 (rowS [x])) : ∃ A cap, v = .slice A 1 cap := by
  obtain ⟨A, cap, h, _⟩ := slS_own (l := [x]) own
  exact ⟨A, cap, h⟩
theorem fits_one : Fits oneSp := by unfold Fits oneSp; simp
theorem one_st : I64 oneSp.st := by unfold I64 oneSp; simp
theorem fitsC_cells {x : Sp} (h : x.ok = true) : FitsC (cellA x) ∧ FitsC (cellI x) := by
  have h1 := bytes_length h
  have h2 := xKey_length h
  have h3 := sKey_length x.tr x.id
  unfold FitsC cellA cellI
  simp only [List.length_nil]
  refine ⟨⟨by omega, by omega, by omega⟩, by omega, by omega, by omega⟩
theorem fits_cellsOf {l : List Sp} (h : ∀ x ∈ l, x.ok = true) : ∀ c ∈ cellsOf l, FitsC c := by
  intro c hc
  obtain ⟨x, hx, rfl | rfl⟩ := mem_cellsOf.1 hc
  · exact (fitsC_cells (h x hx)).1
  · exact (fitsC_cells (h x hx)).2
set_option maxRecDepth 100000 in
set_option maxHeartbeats 16000000 in
theorem lives_true (w : World) : Calls Try.prog 10 #[] w fun e w' => e = .returned (.bool true) ∧ Below w.heap.size w w' := by
  have co : ∀ W, Calls Try.prog 26 #[] W fun e w' => e = .returned (.agg #[.int .i64 3, .int .i64 1, .int .i64 0, .string ⟨#[97]⟩, .string ⟨#[104]⟩, .int .i64 10, .int .i64 0, .string ⟨#[]⟩]) ∧ Below W.heap.size W w' := one_any
  have CO := Lib.hid co
  have T1 : Hid (∀ (p : Nat) (v : Value) (W : World), ShAt p [] W → SlS v [oneSp, oneSp] W → Calls Try.prog 19 #[.func (.func 20) #[.pointer (some ⟨p, 0, none⟩)] #[], v, .int .i64 20] W (TakeEx [] [oneSp, oneSp] 20 W)) :=
    Lib.hid (fun p v W h hs => take_spans_any p [] v [oneSp, oneSp] 20 W h (by simp) hs (by simpa using fits_one) (by simpa using one_st) (by unfold I64; omega) (by simp))
  have T2 : Hid (∀ (p : Nat) (v : Value) (W : World) (now : Int), I64 now → ShAt p (cellsOf [oneSp]) W → SlS v [oneSp] W → Calls Try.prog 19 #[.func (.func 20) #[.pointer (some ⟨p, 0, none⟩)] #[], v, .int .i64 now] W (TakeEx (cellsOf [oneSp]) [oneSp] now W)) :=
    Lib.hid (fun p v W now hn h hs => take_spans_any p (cellsOf [oneSp]) v [oneSp] now W h (by simp [cellsOf_length]) hs (by simpa using fits_one) (by simpa using one_st) hn (by simp))
  have hfa := fitsC_cells one_ok
  have cs := fun W => span_any (cellA oneSp) W hfa.1
  rw [spanR_cellA one_ok] at cs
  have cs2 : ∀ W, Calls Try.prog 13 #[ceVal (cellA oneSp)] W fun e w' => e = .returned (.tuple #[.agg #[.int .i64 3, .int .i64 1, .int .i64 0, .string ⟨#[97]⟩, .string ⟨#[104]⟩, .int .i64 10, .int .i64 0, .string ⟨#[]⟩], .bool true]) ∧ Below W.heap.size W w' := cs
  have hlt : ∀ n : Int, lateB oneSp.st n = decide (70 ≤ n) := fun n => by unfold lateB oneSp; simp only; rw [decide_eq_decide]; omega
  have e3 : ∀ (n : Int) W, decide (0 ≤ n ∧ n ≤ 100) = true → Calls Try.prog 15 #[.agg #[.int .i64 3, .int .i64 1, .int .i64 0, .string ⟨#[97]⟩, .string ⟨#[104]⟩, .int .i64 10, .int .i64 0, .string ⟨#[]⟩], .int .i64 n] W fun e w' => e = .returned (.bool (decide (70 ≤ n))) ∧ Below W.heap.size W w' := fun n W h => by
    have := expired_any oneSp n W one_st (by have := of_decide_eq_true h; unfold I64; omega)
    rw [hlt] at this
    exact this
  have d1 : ∀ (n : Int) W, decide (0 ≤ n ∧ n ≤ 100) = true → Calls Try.prog 17 #[ceVal (cellI oneSp), .int .i64 n] W fun e w' => e = .returned (.bool (decide (70 ≤ n))) ∧ Below W.heap.size W w' := fun n W h => by
    have := dropped_any (cellI oneSp) n W hfa.2 (by have := of_decide_eq_true h; unfold I64; omega)
    rw [dropR_cellI one_ok, hlt] at this
    exact this
  unfold ceVal at cs2 d1
  have CC := Lib.hid (fun c hc => fits_cellsOf (l := [oneSp]) (by simpa using one_ok) c hc)
  have HO : Hid (cellsOf [oneSp] = [cellA oneSp, cellI oneSp]) := Lib.hid rfl
  generalize cellA oneSp = a at *
  generalize cellI oneSp = c at *
  have CS := Lib.hid cs2
  have D1 := Lib.hid d1
  have E1 := Lib.hid e3
  clear cs cs2 d1 e3 hfa co hlt
  have sh0 := shelf_new (.slice none 0 0) [] w (sl_nil w) (by simp)
  have b0 := box_latS (w := w) (.cells #[.slice none 0 0] 44)
  have SH0 := Lib.hid sh0
  have B := Lib.hid b0
  clear sh0 b0
  go_enter Try.func10, Try.ntmps10
  go_wp2_with fail
  refine (CO.out _).mono ?_
  rintro e w1 ⟨rfl, b1⟩
  have SH0 := Lib.hid (SH0.out.later b1)
  have B := Lib.hid (btP B.out b1)
  clear b1
  go_wp2_with fail
  refine (CO.out _).mono ?_
  rintro e w2 ⟨rfl, b2⟩
  have bx := box_latS (w := w2) (boxXY oneSp oneSp)
  have SH0 := Lib.hid ((SH0.out.later b2).later bx)
  have B := Lib.hid (btP (btP B.out b2) bx)
  have SL := Lib.hid (two_spans oneSp oneSp w2)
  clear b2 bx
  go_wp2_with fail
  refine (T1.out _ _ _ SH0.out SL.out).mono ?_
  rintro e w3 ⟨b3, o1, c1, rfl, own1, own2⟩
  rw [one_first] at own1 own2
  rw [HO.out] at own2
  obtain ⟨A1, p1, rfl⟩ := own_oneS own1
  obtain ⟨g, p2, rfl, hp2, hpm, row⟩ := own_two own2
  have B := Lib.hid (btP B.out b3)
  clear own1 own2 b3 SH0 SL
  have sh4 := shelf_new (.slice (some ⟨g, 0, none⟩) 2 p2) (cellsOf [oneSp]) w3 (by rw [HO.out]; exact ⟨some ⟨g, 0, none⟩, p2, rfl, hp2, hpm, fun _ => ⟨g, 0, rfl, row⟩⟩) CC.out
  have b4 := box_latS (w := w3) (.cells #[.slice (some ⟨g, 0, none⟩) 2 p2] 44)
  have ROW := Lib.hid (row.later b4 row.1)
  have SH := Lib.hid sh4
  have B := Lib.hid (btP B.out b4)
  unfold maxLen at hpm
  clear b4 sh4 row
  go_wp2_with fail
  refine (CO.out _).mono ?_
  rintro e v0 ⟨rfl, b5⟩
  have bx := box_latS (w := v0) (boxX oneSp)
  have SH := Lib.hid ((SH.out.later b5).later bx)
  have ROW := Lib.hid (RowAt.later (ROW.out.later b5 ROW.out.1) bx (Nat.lt_of_lt_of_le ROW.out.1 b5.size))
  have B := Lib.hid (btP (btP B.out b5) bx)
  have SL := Lib.hid (one_span oneSp v0)
  clear b5 bx
  go_wp2_with fail
  refine (T2.out _ _ _ 20 (by unfold I64; omega) SH.out SL.out).mono ?_
  rintro e y0 ⟨b6, oo0, cc0, rfl, own1, own2⟩
  rw [one_again] at own1 own2
  obtain ⟨A3, q3, rfl⟩ := own_none own1
  obtain ⟨C3, z3, rfl, -⟩ := slAt_own (l := []) own2
  have B := Lib.hid (btP B.out b6)
  have SH := Lib.hid (SH.out.later b6)
  have ROW := Lib.hid (ROW.out.later b6 ROW.out.1)
  clear own1 own2 b6 SL
  go_wp2_with fail
  refine (CO.out _).mono ?_
  rintro e v1 ⟨rfl, b5⟩
  have bx := box_latS (w := v1) (boxX oneSp)
  have SH := Lib.hid ((SH.out.later b5).later bx)
  have ROW := Lib.hid (RowAt.later (ROW.out.later b5 ROW.out.1) bx (Nat.lt_of_lt_of_le ROW.out.1 b5.size))
  have B := Lib.hid (btP (btP B.out b5) bx)
  have SL := Lib.hid (one_span oneSp v1)
  clear b5 bx
  go_wp2_with fail
  refine (T2.out _ _ _ 70 (by unfold I64; omega) SH.out SL.out).mono ?_
  rintro e y1 ⟨b6, oo1, cc1, rfl, own1, own2⟩
  rw [one_late] at own1 own2
  obtain ⟨A4, q4, rfl⟩ := own_none own1
  obtain ⟨C4, z4, rfl, -⟩ := slAt_own (l := []) own2
  have B := Lib.hid (btP B.out b6)
  have SH := Lib.hid (SH.out.later b6)
  have ROW := Lib.hid (ROW.out.later b6 ROW.out.1)
  clear own1 own2 b6 SL
  obtain ⟨⟨r0, r1, r2⟩, r3, r4, r5⟩ := ROW.out.two
  go_wp2_with fail
  refine (CS.out _).mono ?_
  rintro e w8 ⟨rfl, b8⟩
  have bx := box_latS (w := w8) (boxX oneSp)
  have ROW := Lib.hid (RowAt.later (ROW.out.later b8 ROW.out.1) bx (Nat.lt_of_lt_of_le ROW.out.1 b8.size))
  have B := Lib.hid (btP (btP B.out b8) bx)
  clear b8 r0 r1 r2 r3 r4 r5
  obtain ⟨⟨r0, r1, r2⟩, r3, r4, r5⟩ := ROW.out.two
  obtain ⟨d0, d1, d2, d3, d4, d5, d6, d7⟩ := (SpAt.boxed oneSp w8).cell
  have hp : w8.heap.size < (w8.alloc (boxX oneSp)).heap.size := by simp
  have hg : g < (w8.alloc (boxX oneSp)).heap.size := ROW.out.1
  unfold boxX oneSp at *
  dsimp only at d0 d1 d2 d3 d4 d5 d6 d7 r0 r1 r2 r3 r4 r5
  clear hp hg
  go_upto_region 9 with fail
  have hp : w8.heap.size < (w8.alloc (.cells #[.int .i64 3, .int .i64 1, .int .i64 0, .string ⟨#[97]⟩, .string ⟨#[104]⟩, .int .i64 10, .int .i64 0, .string ⟨#[]⟩] 23)).heap.size := by simp
  have hg : g < (w8.alloc (.cells #[.int .i64 3, .int .i64 1, .int .i64 0, .string ⟨#[97]⟩, .string ⟨#[104]⟩, .int .i64 10, .int .i64 0, .string ⟨#[]⟩] 23)).heap.size := ROW.out.1
  clear r0 r1 r2
  go_region_held3 (fun W => W.cell? ⟨w8.heap.size, 0, none⟩ = some (.int .i64 3) ∧ W.cell? ⟨w8.heap.size, 1, none⟩ = some (.int .i64 1) ∧ W.cell? ⟨w8.heap.size, 2, none⟩ = some (.int .i64 0) ∧ W.cell? ⟨w8.heap.size, 3, none⟩ = some (.string ⟨#[97]⟩) ∧ W.cell? ⟨w8.heap.size, 4, none⟩ = some (.string ⟨#[104]⟩) ∧ W.cell? ⟨w8.heap.size, 5, none⟩ = some (.int .i64 10) ∧ W.cell? ⟨w8.heap.size, 6, none⟩ = some (.int .i64 0) ∧ W.cell? ⟨w8.heap.size, 7, none⟩ = some (.string ⟨#[]⟩) ∧ W.cell? ⟨g, 3, none⟩ = some (.string ⟨c.k.toArray⟩) ∧ W.cell? ⟨g, 4, none⟩ = some (.int .i64 c.q) ∧ W.cell? ⟨g, 5, none⟩ = some (.string ⟨c.v.toArray⟩)) (go_keep)
    (first
      | (go_at_call 26; refine (CO.out _).mono ?_; rintro e w9 ⟨rfl, b9⟩; (first | (have BB := btP BB b9) | (have BB := btP (_root_.Go.below_drewN B.out _) b9)); have u0 := (b9.cell (p := ⟨w8.heap.size, 0, none⟩) (by assumption)).trans (by assumption); have u1 := (b9.cell (p := ⟨w8.heap.size, 1, none⟩) (by assumption)).trans (by assumption); have u2 := (b9.cell (p := ⟨w8.heap.size, 2, none⟩) (by assumption)).trans (by assumption); have u3 := (b9.cell (p := ⟨w8.heap.size, 3, none⟩) (by assumption)).trans (by assumption); have u4 := (b9.cell (p := ⟨w8.heap.size, 4, none⟩) (by assumption)).trans (by assumption); have u5 := (b9.cell (p := ⟨w8.heap.size, 5, none⟩) (by assumption)).trans (by assumption); have u6 := (b9.cell (p := ⟨w8.heap.size, 6, none⟩) (by assumption)).trans (by assumption); have u7 := (b9.cell (p := ⟨w8.heap.size, 7, none⟩) (by assumption)).trans (by assumption); have u8 := (b9.cell (p := ⟨g, 3, none⟩) (by assumption)).trans (by assumption); have u9 := (b9.cell (p := ⟨g, 4, none⟩) (by assumption)).trans (by assumption); have u10 := (b9.cell (p := ⟨g, 5, none⟩) (by assumption)).trans (by assumption); have hp := Nat.lt_of_lt_of_le (by assumption : w8.heap.size < _) b9.size; have hg := Nat.lt_of_lt_of_le (by assumption : g < _) b9.size)
      | (go_at_call 15; refine (E1.out _ _ (by decide)).mono ?_; rintro e w9 ⟨rfl, b9⟩; have BB := btP BB b9; have u0 := (b9.cell (p := ⟨w8.heap.size, 0, none⟩) (by assumption)).trans (by assumption); have u1 := (b9.cell (p := ⟨w8.heap.size, 1, none⟩) (by assumption)).trans (by assumption); have u2 := (b9.cell (p := ⟨w8.heap.size, 2, none⟩) (by assumption)).trans (by assumption); have u3 := (b9.cell (p := ⟨w8.heap.size, 3, none⟩) (by assumption)).trans (by assumption); have u4 := (b9.cell (p := ⟨w8.heap.size, 4, none⟩) (by assumption)).trans (by assumption); have u5 := (b9.cell (p := ⟨w8.heap.size, 5, none⟩) (by assumption)).trans (by assumption); have u6 := (b9.cell (p := ⟨w8.heap.size, 6, none⟩) (by assumption)).trans (by assumption); have u7 := (b9.cell (p := ⟨w8.heap.size, 7, none⟩) (by assumption)).trans (by assumption); have u8 := (b9.cell (p := ⟨g, 3, none⟩) (by assumption)).trans (by assumption); have u9 := (b9.cell (p := ⟨g, 4, none⟩) (by assumption)).trans (by assumption); have u10 := (b9.cell (p := ⟨g, 5, none⟩) (by assumption)).trans (by assumption); have hp := Nat.lt_of_lt_of_le (by assumption : w8.heap.size < _) b9.size; have hg := Nat.lt_of_lt_of_le (by assumption : g < _) b9.size)
      | (go_at_call 17; refine (D1.out _ _ (by decide)).mono ?_; rintro e w9 ⟨rfl, b9⟩; have BB := btP BB b9; have u0 := (b9.cell (p := ⟨w8.heap.size, 0, none⟩) (by assumption)).trans (by assumption); have u1 := (b9.cell (p := ⟨w8.heap.size, 1, none⟩) (by assumption)).trans (by assumption); have u2 := (b9.cell (p := ⟨w8.heap.size, 2, none⟩) (by assumption)).trans (by assumption); have u3 := (b9.cell (p := ⟨w8.heap.size, 3, none⟩) (by assumption)).trans (by assumption); have u4 := (b9.cell (p := ⟨w8.heap.size, 4, none⟩) (by assumption)).trans (by assumption); have u5 := (b9.cell (p := ⟨w8.heap.size, 5, none⟩) (by assumption)).trans (by assumption); have u6 := (b9.cell (p := ⟨w8.heap.size, 6, none⟩) (by assumption)).trans (by assumption); have u7 := (b9.cell (p := ⟨w8.heap.size, 7, none⟩) (by assumption)).trans (by assumption); have u8 := (b9.cell (p := ⟨g, 3, none⟩) (by assumption)).trans (by assumption); have u9 := (b9.cell (p := ⟨g, 4, none⟩) (by assumption)).trans (by assumption); have u10 := (b9.cell (p := ⟨g, 5, none⟩) (by assumption)).trans (by assumption); have hp := Nat.lt_of_lt_of_le (by assumption : w8.heap.size < _) b9.size; have hg := Nat.lt_of_lt_of_le (by assumption : g < _) b9.size))
  go_wp2_with fail
  go_ret
  exact ⟨rfl, BB⟩
end Go.Proofs.Ytfkjdjdgcegniaa
