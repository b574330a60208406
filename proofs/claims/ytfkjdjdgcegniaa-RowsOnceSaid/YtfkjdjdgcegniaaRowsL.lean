/- The walk of RowsLate. -/
import Derived.Test.YtfkjdjdgcegniaaRowsJ
namespace Go.Proofs.Ytfkjdjdgcegniaa
set_option maxRecDepth 16000
open Go.RowKit Spoor
set_option linter.unusedVariables false

/-- a span's box, its two cells -/
structure LaAt (W : World) (x : Sp) (g : Nat) (wr : World) : Prop where
  sx : SpAt W.heap.size x wr
  tw : TwoAt g (cellA x) (cellI x) wr
  bel : Below W.heap.size W wr
theorem LaAt.later {W : World} {x : Sp} {g : Nat} {wr w' : World} (h : LaAt W x g wr) (hb : Below wr.heap.size wr w') : LaAt W x g w' :=
  ⟨h.sx.later hb h.sx.lt, h.tw.later hb, btP h.bel hb⟩
theorem take_late {x : Sp} (hx : x.ok = true) (now : Int) : takeR (lastOf []) now [] [x] = if lateB x.st now = true then [] else [x] := by
  have h2 : ∀ key, lastOf [] key = none := fun key => rfl
  cases h : lateB x.st now <;> simp [takeR, taken, hx, h, h2, freeR]
theorem live_late {x : Sp} (hx : x.ok = true) (now : Int) : liveR [cellA x, cellI x] now = if lateB x.st now = true then [] else [x] := by
  unfold liveR
  simp only [List.filterMap_cons, spanR_cellA hx, spanR_cellI, List.filterMap_nil]
  cases h : lateB x.st now <;> rfl
/-- so many, or none -/
def cntL (b : Bool) : Nat := if b = true then 0 else 1
theorem own_cnt {w : World} {base : Nat} {v : Value} {x : Sp} {b : Bool} {l : List Sp} (hl : l = if b = true then [] else [x]) (own : w.ownsRow base 23 8 v l.length (rowS l)) : ∃ A cap, v = .slice A (cntL b) cap := by
  obtain ⟨A, cap, h, _⟩ := slS_own own
  refine ⟨A, cap, ?_⟩
  rw [h, hl]
  cases b <;> rfl
theorem own_cells {w : World} {base n : Nat} {v : Value} {l : List Ce} (hl : l.length = n) (own : w.ownsRow base 25 3 v n (rowOf l)) : ∃ A cap, v = .slice A n cap := by
  subst hl
  obtain ⟨A, cap, h, _⟩ := slAt_own own
  exact ⟨A, cap, h⟩

set_option maxRecDepth 100000 in
set_option maxHeartbeats 16000000 in
theorem rowsLate_law (x : Sp) (now : Int) (hx : WfS x) (hst : I64 x.st) (hn : I64 now) (W : World) :
    Calls Try.prog 7 #[spVal x, .int .i64 now] W fun e w' => e = .returned (.bool true) ∧ Below W.heap.size W w' := by
  have CDO := Lib.hid lives_true
  have cb := fun v W (h : SlS v [x] W) => beyondS_any v [x] 1 W h (by simpa using hx) (by omega)
  cases hfar : farS [x] 1 with
  | true =>
    rw [hfar] at cb
    have CB := Lib.hid cb
    clear cb hfar hx hst hn
    unfold spVal at *
    have M := Lib.hid (SpAt.boxed x W)
    have B := Lib.hid (spBox x W)
    obtain ⟨w2, hw2⟩ : ∃ w2, W.alloc (boxX x) = w2 := ⟨_, rfl⟩
    unfold boxX at hw2
    rw [hw2] at M B
    have HW := Lib.hid hw2
    clear hw2
    go_enter Try.func7, Try.ntmps7
    go_upto_region 1 with fail
    rw [HW.out]
    clear HW
    obtain ⟨a0, a1, a2, a3, a4, a5, a6, a7⟩ := M.out.cell
    have bx := box_latS (w := w2) (boxX x)
    have SL := Lib.hid (one_span x w2)
    have M := Lib.hid (SpAt.later M.out bx (SpAt.lt M.out))
    have B := Lib.hid (btP B.out bx)
    unfold boxX at SL M B
    clear bx
    go_wp2_with fail
    refine (CB.out _ _ SL.out).mono ?_
    rintro e w3 ⟨rfl, b3⟩
    have M := Lib.hid (SpAt.later M.out b3 (SpAt.lt M.out))
    have B := Lib.hid (btP B.out b3)
    clear b3 SL a0 a1 a2 a3 a4 a5 a6 a7
    go_wp2_with fail
    refine (CDO.out _).mono ?_
    rintro e v1 ⟨rfl, bl⟩
    go_wp2_with fail
    go_ret
    exact ⟨rfl, btP B.out bl⟩
  | false =>
    have hfx := (near_fits hfar (by simp : x ∈ [x])).1
    rw [hfar] at cb
    have CB := Lib.hid cb
    have cx := fun W => check_any x W hfx
    cases hxo : x.ok with
    | false =>
      rw [checkV_no hxo] at cx
      unfold spVal at cx
      have CX := Lib.hid cx
      clear cb cx hfar hx hst hn hxo hfx
      unfold spVal at *
      have M := Lib.hid (SpAt.boxed x W)
      have B := Lib.hid (spBox x W)
      obtain ⟨w2, hw2⟩ : ∃ w2, W.alloc (boxX x) = w2 := ⟨_, rfl⟩
      unfold boxX at hw2
      rw [hw2] at M B
      have HW := Lib.hid hw2
      clear hw2
      go_enter Try.func7, Try.ntmps7
      go_upto_region 1 with fail
      rw [HW.out]
      clear HW
      obtain ⟨a0, a1, a2, a3, a4, a5, a6, a7⟩ := M.out.cell
      have bx := box_latS (w := w2) (boxX x)
      have SL := Lib.hid (one_span x w2)
      have M := Lib.hid (SpAt.later M.out bx (SpAt.lt M.out))
      have B := Lib.hid (btP B.out bx)
      unfold boxX at SL M B
      clear bx
      go_wp2_with fail
      refine (CB.out _ _ SL.out).mono ?_
      rintro e w3 ⟨rfl, b3⟩
      have M := Lib.hid (SpAt.later M.out b3 (SpAt.lt M.out))
      have B := Lib.hid (btP B.out b3)
      clear b3 SL a0 a1 a2 a3 a4 a5 a6 a7
      obtain ⟨a0, a1, a2, a3, a4, a5, a6, a7⟩ := M.out.cell
      go_wp2_with fail
      refine (CX.out _).mono ?_
      rintro e w4 ⟨rfl, b4⟩
      have M := Lib.hid (SpAt.later M.out b4 (SpAt.lt M.out))
      have B := Lib.hid (btP B.out b4)
      clear b4 a0 a1 a2 a3 a4 a5 a6 a7
      go_wp2_with fail
      refine (CDO.out _).mono ?_
      rintro e v2 ⟨rfl, bl⟩
      go_wp2_with fail
      go_ret
      exact ⟨rfl, btP B.out bl⟩
    | true =>
      rw [checkV_ok hxo] at cx
      by_cases h0 : now < 0
      · unfold spVal at cx
        have CX := Lib.hid cx
        clear cb cx hfar hx hst hn hxo hfx
        unfold spVal at *
        have M := Lib.hid (SpAt.boxed x W)
        have B := Lib.hid (spBox x W)
        obtain ⟨w2, hw2⟩ : ∃ w2, W.alloc (boxX x) = w2 := ⟨_, rfl⟩
        unfold boxX at hw2
        rw [hw2] at M B
        have HW := Lib.hid hw2
        clear hw2
        go_enter Try.func7, Try.ntmps7
        go_upto_region 1 with fail
        rw [HW.out]
        clear HW
        obtain ⟨a0, a1, a2, a3, a4, a5, a6, a7⟩ := M.out.cell
        have bx := box_latS (w := w2) (boxX x)
        have SL := Lib.hid (one_span x w2)
        have M := Lib.hid (SpAt.later M.out bx (SpAt.lt M.out))
        have B := Lib.hid (btP B.out bx)
        unfold boxX at SL M B
        clear bx
        go_wp2_with fail
        refine (CB.out _ _ SL.out).mono ?_
        rintro e w3 ⟨rfl, b3⟩
        have M := Lib.hid (SpAt.later M.out b3 (SpAt.lt M.out))
        have B := Lib.hid (btP B.out b3)
        clear b3 SL a0 a1 a2 a3 a4 a5 a6 a7
        obtain ⟨a0, a1, a2, a3, a4, a5, a6, a7⟩ := M.out.cell
        go_wp2_with fail
        refine (CX.out _).mono ?_
        rintro e w4 ⟨rfl, b4⟩
        have M := Lib.hid (SpAt.later M.out b4 (SpAt.lt M.out))
        have B := Lib.hid (btP B.out b4)
        clear b4 a0 a1 a2 a3 a4 a5 a6 a7
        go_wp2_with fail
        refine (CDO.out _).mono ?_
        rintro e v3 ⟨rfl, bl⟩
        go_wp2_with fail
        go_ret
        exact ⟨rfl, btP B.out bl⟩
      · have hst0 := ok_of hxo
        have cc := fun W => cells_any x W hfx
        have hfc := fitsC_cells hxo
        have HXO := Lib.hid hxo
        have ct : ∀ (p : Nat) (v : Value) (W : World), ShAt p [] W → SlS v [x] W → Calls Try.prog 19 #[.func (.func 20) #[.pointer (some ⟨p, 0, none⟩)] #[], v, .int .i64 now] W (TakeEx [] [x] now W) :=
          fun p v W h hs => take_spans_any p [] v [x] now W h (by simp) hs (by simpa using hfx) (by simpa using hst) hn (by simp)
        have cl := fun v W (h : SlAt v [cellA x, cellI x] W) => live_any v [cellA x, cellI x] now W h (by intro c hc; simp at hc; rcases hc with rfl | rfl; exact hfc.1; exact hfc.2) hn (by simp)
        have ce := fun W => expired_any x now W hst hn
        have c1 := fun W => dropped_any (cellA x) now W hfc.1 hn
        have c2 := fun W => dropped_any (cellI x) now W hfc.2 hn
        rw [dropR_cellA hxo] at c1
        rw [dropR_cellI hxo] at c2
        have htl := take_late hxo now
        have hll := live_late hxo now
        obtain ⟨L, hL⟩ : ∃ L, lateB x.st now = L := ⟨_, rfl⟩
        have hnext : L = true → now < 9223372036854775807 → ∀ W, Calls Try.prog 15 #[spVal x, .int .i64 (now + 1)] W fun e w' => e = .returned (.bool true) ∧ Below W.heap.size W w' := fun hl hm W => by
          have := expired_any x (now + 1) W hst (by unfold I64 at hn ⊢; omega)
          have h2 : lateB x.st (now + 1) = true := by rw [← hL] at hl; unfold lateB at hl ⊢; have := of_decide_eq_true hl; exact decide_eq_true (by omega)
          rwa [h2] at this
        have hmin : ∀ W, Calls Try.prog 15 #[spVal x, .int .i64 (-9223372036854775808)] W fun e w' => e = .returned (.bool false) ∧ Below W.heap.size W w' := fun W => by
          have := expired_any x (-9223372036854775808) W hst (by unfold I64; omega)
          rwa [show lateB x.st (-9223372036854775808) = false by unfold lateB; exact decide_eq_false (by omega)] at this
        rw [hL] at ce c1 c2 htl hll
        have hnm : now ≤ 9223372036854775807 := hn.2
        have HTL := Lib.hid htl
        have HLL := Lib.hid hll
        unfold spVal at cx cc ce hnext hmin
        have CM := Lib.hid hmin
        unfold ceVal at c1 c2
        have CX := Lib.hid cx
        have CC := Lib.hid cc
        have CT := Lib.hid ct
        have CL := Lib.hid cl
        have CE := Lib.hid ce
        have D1 := Lib.hid c1
        have D2 := Lib.hid c2
        have CN := Lib.hid hnext
        clear cb cx hfar hx hst hn hxo hfx hst0 cc hfc ct cl ce c1 c2 htl hll hL hnext hmin
        unfold spVal
        have M := Lib.hid (SpAt.boxed x W)
        have B := Lib.hid (spBox x W)
        obtain ⟨w2, hw2⟩ : ∃ w2, W.alloc (boxX x) = w2 := ⟨_, rfl⟩
        unfold boxX at hw2
        rw [hw2] at M B
        have HW := Lib.hid hw2
        clear hw2
        go_enter Try.func7, Try.ntmps7
        go_upto_region 1 with fail
        rw [HW.out]
        clear HW
        obtain ⟨a0, a1, a2, a3, a4, a5, a6, a7⟩ := M.out.cell
        have bx := box_latS (w := w2) (boxX x)
        have SL := Lib.hid (one_span x w2)
        have M := Lib.hid (SpAt.later M.out bx (SpAt.lt M.out))
        have B := Lib.hid (btP B.out bx)
        unfold boxX at SL M B
        clear bx
        go_wp2_with fail
        refine (CB.out _ _ SL.out).mono ?_
        rintro e w3 ⟨rfl, b3⟩
        have M := Lib.hid (SpAt.later M.out b3 (SpAt.lt M.out))
        have B := Lib.hid (btP B.out b3)
        clear b3 SL a0 a1 a2 a3 a4 a5 a6 a7
        obtain ⟨a0, a1, a2, a3, a4, a5, a6, a7⟩ := M.out.cell
        go_wp2_with fail
        refine (CX.out _).mono ?_
        rintro e w4 ⟨rfl, b4⟩
        have M := Lib.hid (SpAt.later M.out b4 (SpAt.lt M.out))
        have B := Lib.hid (btP B.out b4)
        clear b4 a0 a1 a2 a3 a4 a5 a6 a7
        obtain ⟨a0, a1, a2, a3, a4, a5, a6, a7⟩ := M.out.cell
        go_wp2_with fail
        refine (CC.out _).mono ?_
        rintro e w5 ⟨b5, hh⟩
        rcases hh with ⟨ho, -⟩ | ⟨-, g, -, rfl, tw⟩
        · rw [HXO.out] at ho; cases ho
        have M := Lib.hid (LaAt.mk (SpAt.later M.out b5 (SpAt.lt M.out)) tw (btP B.out b5))
        clear b5 tw B a0 a1 a2 a3 a4 a5 a6 a7
        have bs := box_latS (w := w5) (.cells #[.slice none 0 0] 44)
        have SH := Lib.hid (shelf_new (.slice none 0 0) [] w5 (sl_nil w5) (by simp))
        have M := Lib.hid (M.out.later bs)
        clear bs
        obtain ⟨a0, a1, a2, a3, a4, a5, a6, a7⟩ := M.out.sx.cell
        go_upto_region 7 with fail
        obtain ⟨w6, hw6⟩ : ∃ w6, w5.alloc (.cells #[.slice none 0 0] 44) = w6 := ⟨_, rfl⟩
        rw [hw6] at SH M a0 a1 a2 a3 a4 a5 a6 a7 ⊢
        clear hw6
        have bx := box_latS (w := w6) (boxX x)
        have SL := Lib.hid (one_span x w6)
        have SH := Lib.hid (SH.out.later bx)
        have M := Lib.hid (M.out.later bx)
        unfold boxX at SL SH M
        clear bx
        go_wp2_with fail
        refine (CT.out _ _ _ SH.out SL.out).mono ?_
        rintro e w7 ⟨b7, o1, o2, rfl, own1, own2⟩
        obtain ⟨A1, q1, rfl⟩ := own_cnt HTL.out own1
        obtain ⟨A2, q2, rfl⟩ := own_cells (cellsOf_length _) own2
        have M := Lib.hid (M.out.later b7)
        clear own1 own2 b7 SL SH a0 a1 a2 a3 a4 a5 a6 a7
        go_wp2_with fail
        refine (CL.out _ _ M.out.tw.sl).mono ?_
        rintro e w8 ⟨b8, o3, rfl, own3⟩
        obtain ⟨A3, q3, rfl⟩ := own_cnt HLL.out own3
        have M := Lib.hid (M.out.later b8)
        clear own3 b8
        obtain ⟨a0, a1, a2, a3, a4, a5, a6, a7⟩ := M.out.sx.cell
        go_wp2_with fail
        refine (CE.out _).mono ?_
        rintro e w9 ⟨rfl, b9⟩
        have M := Lib.hid (M.out.later b9)
        clear b9 a0 a1 a2 a3 a4 a5 a6 a7
        obtain ⟨⟨p0, p1, p2⟩, p3, p4, p5⟩ := M.out.tw.cell
        obtain ⟨a0, a1, a2, a3, a4, a5, a6, a7⟩ := M.out.sx.cell
        go_upto_region 10 with fail
        cases L with
        | true =>
          rw [show cntL true = 0 from rfl]
          by_cases hm : now < 9223372036854775807
          · have CN2 := Lib.hid (CN.out (by trivial) hm)
            have hwr : IntKind.i64.wrap (now + 1) = now + 1 := by rw [IntKind.wrap_i64]; omega
            go_wp2_with fail
            refine (D1.out _).mono ?_
            rintro e w10 ⟨rfl, b10⟩
            have M := Lib.hid (M.out.later b10)
            clear b10 p0 p1 p2 p3 p4 p5 a0 a1 a2 a3 a4 a5 a6 a7
            obtain ⟨⟨p0, p1, p2⟩, p3, p4, p5⟩ := M.out.tw.cell
            go_wp2_with fail
            refine (D2.out _).mono ?_
            rintro e w11 ⟨rfl, b11⟩
            have M := Lib.hid (M.out.later b11)
            clear b11 p0 p1 p2 p3 p4 p5
            obtain ⟨a0, a1, a2, a3, a4, a5, a6, a7⟩ := M.out.sx.cell
            go_wp2_with fail
            refine (CN2.out _).mono ?_
            rintro e w12 ⟨rfl, b12⟩
            have M := Lib.hid (M.out.later b12)
            clear b12 a0 a1 a2 a3 a4 a5 a6 a7
            have B := Lib.hid M.out.bel
            go_wp2_with fail
            refine (CDO.out _).mono ?_
            rintro e v9 ⟨rfl, bl⟩
            go_wp2_with fail
            go_ret
            exact ⟨rfl, btP B.out bl⟩
          · obtain rfl : now = 9223372036854775807 := by omega
            have CN2 := CM
            have hwr : wrap64 9223372036854775808 = -9223372036854775808 := by first | (unfold wrap64; omega) | (simp [wrap64]; done) | (unfold wrap64; rfl)
            go_wp2_with fail
            refine (D1.out _).mono ?_
            rintro e w10 ⟨rfl, b10⟩
            have M := Lib.hid (M.out.later b10)
            clear b10 p0 p1 p2 p3 p4 p5 a0 a1 a2 a3 a4 a5 a6 a7
            obtain ⟨⟨p0, p1, p2⟩, p3, p4, p5⟩ := M.out.tw.cell
            go_wp2_with fail
            refine (D2.out _).mono ?_
            rintro e w11 ⟨rfl, b11⟩
            have M := Lib.hid (M.out.later b11)
            clear b11 p0 p1 p2 p3 p4 p5
            obtain ⟨a0, a1, a2, a3, a4, a5, a6, a7⟩ := M.out.sx.cell
            go_wp2_with fail
            refine (CN2.out _).mono ?_
            rintro e w12 ⟨rfl, b12⟩
            have M := Lib.hid (M.out.later b12)
            clear b12 a0 a1 a2 a3 a4 a5 a6 a7
            have B := Lib.hid M.out.bel
            go_wp2_with fail
            refine (CDO.out _).mono ?_
            rintro e v9 ⟨rfl, bl⟩
            go_wp2_with fail
            go_ret
            exact ⟨rfl, btP B.out bl⟩
        | false =>
          rw [show cntL false = 1 from rfl]
          go_wp2_with fail
          refine (D1.out _).mono ?_
          rintro e w10 ⟨rfl, b10⟩
          have M := Lib.hid (M.out.later b10)
          clear b10 p0 p1 p2 p3 p4 p5 a0 a1 a2 a3 a4 a5 a6 a7
          obtain ⟨⟨p0, p1, p2⟩, p3, p4, p5⟩ := M.out.tw.cell
          go_wp2_with fail
          refine (D2.out _).mono ?_
          rintro e w11 ⟨rfl, b11⟩
          have M := Lib.hid (M.out.later b11)
          clear b11 p0 p1 p2 p3 p4 p5
          obtain ⟨a0, a1, a2, a3, a4, a5, a6, a7⟩ := M.out.sx.cell
          have B := Lib.hid M.out.bel
          go_wp2_with fail
          refine (CDO.out _).mono ?_
          rintro e v9 ⟨rfl, bl⟩
          go_wp2_with fail
          go_ret
          exact ⟨rfl, btP B.out bl⟩
end Go.Proofs.Ytfkjdjdgcegniaa
