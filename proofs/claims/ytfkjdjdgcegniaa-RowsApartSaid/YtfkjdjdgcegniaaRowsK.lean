/- The walk of RowsApart. -/
import Derived.Test.YtfkjdjdgcegniaaRowsJ
namespace Go.Proofs.Ytfkjdjdgcegniaa
set_option maxRecDepth 16000
open Go.RowKit Spoor
set_option linter.unusedVariables false

structure RaAt (W : World) (x y : Sp) (wr : World) : Prop where
  sx : SpAt W.heap.size x wr
  sy : SpAt (W.heap.size + 1) y wr
  bel : Below W.heap.size W wr
theorem RaAt.later {W : World} {x y : Sp} {wr w' : World} (h : RaAt W x y wr) (hb : Below wr.heap.size wr w') : RaAt W x y w' :=
  ⟨h.sx.later hb h.sx.lt, h.sy.later hb h.sy.lt, btP h.bel hb⟩
theorem RaAt.start (W : World) (x y : Sp) : RaAt W x y ((W.alloc (boxX x)).alloc (boxX y)) := by
  refine ⟨(SpAt.boxed x W).alloc' _, ?_, ((Below.refl _ _).alloc (Nat.le_refl _) _).alloc (by simp) _⟩
  have := SpAt.boxed y (W.alloc (boxX x))
  rwa [alloc_size] at this
/-- the two rows of cells, and the boxes -/
structure RbAt (W : World) (x y : Sp) (g1 g2 : Nat) (a1 b1 a2 b2 : Ce) (wr : World) : Prop where
  ra : RaAt W x y wr
  t1 : TwoAt g1 a1 b1 wr
  t2 : TwoAt g2 a2 b2 wr
theorem RbAt.later {W : World} {x y : Sp} {g1 g2 : Nat} {a1 b1 a2 b2 : Ce} {wr w' : World} (h : RbAt W x y g1 g2 a1 b1 a2 b2 wr) (hb : Below wr.heap.size wr w') : RbAt W x y g1 g2 a1 b1 a2 b2 w' :=
  ⟨h.ra.later hb, h.t1.later hb, h.t2.later hb⟩
def alikeS (x y : Sp) : Bool := sameIds x y && (decide (x.sv = y.sv) && (decide (x.ho = y.ho) && decide (x.st = y.st)))
theorem xkey_alike {x y : Sp} (hx : x.ok = true) (hy : y.ok = true) : (xKey x.sv x.ho x.st x.tr x.id == xKey y.sv y.ho y.st y.tr y.id) = alikeS x y := by
  rw [Bool.eq_iff_iff, beq_iff_eq]
  unfold alikeS sameIds
  simp only [Bool.and_eq_true, decide_eq_true_eq]
  constructor
  · intro h
    obtain ⟨h1, h2, h3, h4, h5⟩ := xKey_inj hx hy h
    exact ⟨⟨h1, h2⟩, h4, h5, h3⟩
  · rintro ⟨⟨h1, h2⟩, h3, h4, h5⟩
    rw [h1, h2, h3, h4, h5]
theorem swapped {x y : Sp} (hx : x.ok = true) (hy : y.ok = true) : spanR ⟨sKey x.tr x.id, 0, y.bytes⟩ = if sameIds x y = true then some y else none := by
  unfold spanR
  simp only [decodeSp_bytes y hy]
  have := key_ids hy hx
  rw [sameIds_symm] at this
  by_cases h : sKey y.tr y.id = sKey x.tr x.id
  · rw [if_pos h, ← this, if_pos (by simp [h])]
  · rw [if_neg h, ← this, if_neg (by simp [h])]

set_option maxRecDepth 100000 in
set_option maxHeartbeats 16000000 in
theorem rowsApart_law (x : Sp) (y : Sp) (hx : WfS x) (hst : I64 x.st) (hy : WfS y) (hsy : I64 y.st) (W : World) :
    Calls Try.prog 5 #[spVal x, spVal y] W fun e w' => e = .returned (.bool true) ∧ Below W.heap.size W w' := by
  have CDO := Lib.hid lives_true
  have M := Lib.hid (RaAt.start W x y)
  have cb := fun v W (h : SlS v [x, y] W) => beyondS_any v [x, y] 2 W h (fun z hz => by rcases List.mem_cons.1 hz with rfl | hz; exact hx; simp at hz; subst hz; exact hy) (by omega)
  cases hfar : farS [x, y] 2 with
  | true =>
    rw [hfar] at cb
    have CB := Lib.hid cb
    clear cb hfar hx hst hy hsy
    obtain ⟨w2, hw2⟩ : ∃ w2, (W.alloc (boxX x)).alloc (boxX y) = w2 := ⟨_, rfl⟩
    rw [hw2] at M
    unfold boxX at hw2
    have HW := Lib.hid hw2
    clear hw2
    unfold spVal at *
    go_enter Try.func5, Try.ntmps5
    go_upto_region 1 with fail
    rw [HW.out]
    clear HW
    obtain ⟨a0, a1, a2, a3, a4, a5, a6, a7⟩ := M.out.sx.cell
    obtain ⟨d0, d1, d2, d3, d4, d5, d6, d7⟩ := M.out.sy.cell
    have bx := box_latS (w := w2) (boxXY x y)
    have SL := Lib.hid (two_spans x y w2)
    have M := Lib.hid (M.out.later bx)
    unfold boxXY at SL M
    clear bx
    go_wp2_with fail
    refine (CB.out _ _ SL.out).mono ?_
    rintro e w3 ⟨rfl, b3⟩
    have M := Lib.hid (M.out.later b3)
    clear b3 SL a0 a1 a2 a3 a4 a5 a6 a7 d0 d1 d2 d3 d4 d5 d6 d7
    go_wp2_with fail
    refine (CDO.out _).mono ?_
    rintro e v1 ⟨rfl, bl⟩
    go_wp2_with fail
    go_ret
    exact ⟨rfl, btP M.out.bel bl⟩
  | false =>
    have hfx := (near_fits hfar (by simp : x ∈ [x, y])).1
    have hfy := (near_fits hfar (by simp : y ∈ [x, y])).1
    rw [hfar] at cb
    have CB := Lib.hid cb
    have cx := fun W => check_any x W hfx
    have cy := fun W => check_any y W hfy
    cases hxo : x.ok with
    | false =>
      rw [checkV_no hxo] at cx
      unfold spVal at cx
      have CX := Lib.hid cx
      clear cb cx cy hfar hx hst hy hsy hxo hfx hfy
      obtain ⟨w2, hw2⟩ : ∃ w2, (W.alloc (boxX x)).alloc (boxX y) = w2 := ⟨_, rfl⟩
      rw [hw2] at M
      unfold boxX at hw2
      have HW := Lib.hid hw2
      clear hw2
      unfold spVal at *
      go_enter Try.func5, Try.ntmps5
      go_upto_region 1 with fail
      rw [HW.out]
      clear HW
      obtain ⟨a0, a1, a2, a3, a4, a5, a6, a7⟩ := M.out.sx.cell
      obtain ⟨d0, d1, d2, d3, d4, d5, d6, d7⟩ := M.out.sy.cell
      have bx := box_latS (w := w2) (boxXY x y)
      have SL := Lib.hid (two_spans x y w2)
      have M := Lib.hid (M.out.later bx)
      unfold boxXY at SL M
      clear bx
      go_wp2_with fail
      refine (CB.out _ _ SL.out).mono ?_
      rintro e w3 ⟨rfl, b3⟩
      have M := Lib.hid (M.out.later b3)
      clear b3 SL a0 a1 a2 a3 a4 a5 a6 a7 d0 d1 d2 d3 d4 d5 d6 d7
      obtain ⟨a0, a1, a2, a3, a4, a5, a6, a7⟩ := M.out.sx.cell
      obtain ⟨d0, d1, d2, d3, d4, d5, d6, d7⟩ := M.out.sy.cell
      go_wp2_with fail
      refine (CX.out _).mono ?_
      rintro e w4 ⟨rfl, b4⟩
      have M := Lib.hid (M.out.later b4)
      clear b4 a0 a1 a2 a3 a4 a5 a6 a7 d0 d1 d2 d3 d4 d5 d6 d7
      go_wp2_with fail
      refine (CDO.out _).mono ?_
      rintro e v2 ⟨rfl, bl⟩
      go_wp2_with fail
      go_ret
      exact ⟨rfl, btP M.out.bel bl⟩
    | true =>
      rw [checkV_ok hxo] at cx
      cases hyo : y.ok with
      | false =>
        rw [checkV_no hyo] at cy
        unfold spVal at cx cy
        have CX := Lib.hid cx
        have CY := Lib.hid cy
        clear cb cx cy hfar hx hst hy hsy hxo hfx hfy hyo
        obtain ⟨w2, hw2⟩ : ∃ w2, (W.alloc (boxX x)).alloc (boxX y) = w2 := ⟨_, rfl⟩
        rw [hw2] at M
        unfold boxX at hw2
        have HW := Lib.hid hw2
        clear hw2
        unfold spVal at *
        go_enter Try.func5, Try.ntmps5
        go_upto_region 1 with fail
        rw [HW.out]
        clear HW
        obtain ⟨a0, a1, a2, a3, a4, a5, a6, a7⟩ := M.out.sx.cell
        obtain ⟨d0, d1, d2, d3, d4, d5, d6, d7⟩ := M.out.sy.cell
        have bx := box_latS (w := w2) (boxXY x y)
        have SL := Lib.hid (two_spans x y w2)
        have M := Lib.hid (M.out.later bx)
        unfold boxXY at SL M
        clear bx
        go_wp2_with fail
        refine (CB.out _ _ SL.out).mono ?_
        rintro e w3 ⟨rfl, b3⟩
        have M := Lib.hid (M.out.later b3)
        clear b3 SL a0 a1 a2 a3 a4 a5 a6 a7 d0 d1 d2 d3 d4 d5 d6 d7
        obtain ⟨a0, a1, a2, a3, a4, a5, a6, a7⟩ := M.out.sx.cell
        obtain ⟨d0, d1, d2, d3, d4, d5, d6, d7⟩ := M.out.sy.cell
        go_wp2_with fail
        refine (CX.out _).mono ?_
        rintro e w4 ⟨rfl, b4⟩
        have M := Lib.hid (M.out.later b4)
        clear b4 a0 a1 a2 a3 a4 a5 a6 a7 d0 d1 d2 d3 d4 d5 d6 d7
        obtain ⟨a0, a1, a2, a3, a4, a5, a6, a7⟩ := M.out.sx.cell
        obtain ⟨d0, d1, d2, d3, d4, d5, d6, d7⟩ := M.out.sy.cell
        go_wp2_with fail
        refine (CY.out _).mono ?_
        rintro e w5 ⟨rfl, b5⟩
        have M := Lib.hid (M.out.later b5)
        clear b5 a0 a1 a2 a3 a4 a5 a6 a7 d0 d1 d2 d3 d4 d5 d6 d7
        go_wp2_with fail
        refine (CDO.out _).mono ?_
        rintro e v3 ⟨rfl, bl⟩
        go_wp2_with fail
        go_ret
        exact ⟨rfl, btP M.out.bel bl⟩
      | true =>
        rw [checkV_ok hyo] at cy
        have c1 := fun W => cells_any x W hfx
        have c2 := fun W => cells_any y W hfy
        have hsp := swapped hxo hyo
        have hk1 := key_ids hxo hyo
        have hk2 := xkey_alike hxo hyo
        have hk3 : (sKey x.tr x.id == xKey y.sv y.ho y.st y.tr y.id) = false := by unfold sKey xKey; simp
        have hlb := bytes_length hyo
        have hlk := sKey_length x.tr x.id
        have cs := fun W => span_any ⟨sKey x.tr x.id, 0, y.bytes⟩ W ⟨by simp only; omega, by simp only; omega, by simp⟩
        rw [hsp] at cs
        have hz : ∃ z, spanV (if sameIds x y = true then some y else none) = .tuple #[spVal z, .bool (sameIds x y)] := by
          cases sameIds x y with
          | true => exact ⟨y, rfl⟩
          | false => exact ⟨Sp.zero, rfl⟩
        obtain ⟨z, hz⟩ := hz
        rw [hz] at cs
        have HA1 : Hid ((cellA x).k = sKey x.tr x.id ∧ (cellI x).k = xKey x.sv x.ho x.st x.tr x.id ∧ (cellA y).k = sKey y.tr y.id ∧ (cellA y).v = y.bytes ∧ (cellI y).k = xKey y.sv y.ho y.st y.tr y.id) := Lib.hid ⟨rfl, rfl, rfl, rfl, rfl⟩
        obtain ⟨sm, hsm⟩ : ∃ b, sameIds x y = b := ⟨_, rfl⟩
        obtain ⟨al, hal⟩ : ∃ b, alikeS x y = b := ⟨_, rfl⟩
        rw [hsm] at hk1 cs
        rw [hal] at hk2
        have HSM := Lib.hid hsm
        have HAL := Lib.hid hal
        have CC1 := Lib.hid c1
        have CC2 := Lib.hid c2
        have HXO := Lib.hid hxo
        have HYO := Lib.hid hyo
        clear hz hsp hsm hal hlb hlk cb hfar hx hst hy hsy hxo hfx hfy hyo c1 c2
        generalize sKey x.tr x.id = K1 at *
        generalize sKey y.tr y.id = K2 at *
        generalize xKey x.sv x.ho x.st x.tr x.id = X1 at *
        generalize xKey y.sv y.ho y.st y.tr y.id = X2 at *
        generalize y.bytes = V at *
        unfold spVal at cx cy cs CC1 CC2
        unfold ceVal at cs
        dsimp only at cs
        have CX := Lib.hid cx
        have CY := Lib.hid cy
        have CS := Lib.hid cs
        have HK1 := Lib.hid hk1
        have HK2 := Lib.hid hk2
        have HK3 := Lib.hid hk3
        clear cx cy cs hk1 hk2 hk3
        unfold spVal
        obtain ⟨w2, hw2⟩ : ∃ w2, (W.alloc (boxX x)).alloc (boxX y) = w2 := ⟨_, rfl⟩
        rw [hw2] at M
        unfold boxX at hw2
        have HW := Lib.hid hw2
        clear hw2
        skip
        go_enter Try.func5, Try.ntmps5
        go_upto_region 1 with fail
        rw [HW.out]
        clear HW
        obtain ⟨a0, a1, a2, a3, a4, a5, a6, a7⟩ := M.out.sx.cell
        obtain ⟨d0, d1, d2, d3, d4, d5, d6, d7⟩ := M.out.sy.cell
        have bx := box_latS (w := w2) (boxXY x y)
        have SL := Lib.hid (two_spans x y w2)
        have M := Lib.hid (M.out.later bx)
        unfold boxXY at SL M
        clear bx
        go_wp2_with fail
        refine (CB.out _ _ SL.out).mono ?_
        rintro e w3 ⟨rfl, b3⟩
        have M := Lib.hid (M.out.later b3)
        clear b3 SL a0 a1 a2 a3 a4 a5 a6 a7 d0 d1 d2 d3 d4 d5 d6 d7
        obtain ⟨a0, a1, a2, a3, a4, a5, a6, a7⟩ := M.out.sx.cell
        obtain ⟨d0, d1, d2, d3, d4, d5, d6, d7⟩ := M.out.sy.cell
        go_wp2_with fail
        refine (CX.out _).mono ?_
        rintro e w4 ⟨rfl, b4⟩
        have M := Lib.hid (M.out.later b4)
        clear b4 a0 a1 a2 a3 a4 a5 a6 a7 d0 d1 d2 d3 d4 d5 d6 d7
        obtain ⟨a0, a1, a2, a3, a4, a5, a6, a7⟩ := M.out.sx.cell
        obtain ⟨d0, d1, d2, d3, d4, d5, d6, d7⟩ := M.out.sy.cell
        go_wp2_with fail
        refine (CY.out _).mono ?_
        rintro e w5 ⟨rfl, b5⟩
        have M := Lib.hid (M.out.later b5)
        clear b5 a0 a1 a2 a3 a4 a5 a6 a7 d0 d1 d2 d3 d4 d5 d6 d7
        obtain ⟨a0, a1, a2, a3, a4, a5, a6, a7⟩ := M.out.sx.cell
        obtain ⟨d0, d1, d2, d3, d4, d5, d6, d7⟩ := M.out.sy.cell
        go_wp2_with fail
        refine (CC1.out _).mono ?_
        rintro e w6 ⟨b6, hh⟩
        rcases hh with ⟨ho, -⟩ | ⟨-, g1, -, rfl, t1⟩
        · rw [HXO.out] at ho; cases ho
        have M := Lib.hid (M.out.later b6)
        have T1 := Lib.hid t1
        clear b6 t1 a0 a1 a2 a3 a4 a5 a6 a7 d0 d1 d2 d3 d4 d5 d6 d7
        obtain ⟨d0, d1, d2, d3, d4, d5, d6, d7⟩ := M.out.sy.cell
        go_wp2_with fail
        refine (CC2.out _).mono ?_
        rintro e w7 ⟨b7, hh⟩
        rcases hh with ⟨ho, -⟩ | ⟨-, g2, -, rfl, t2⟩
        · rw [HYO.out] at ho; cases ho
        have M := Lib.hid (RbAt.mk (M.out.later b7) (T1.out.later b7) t2)
        clear b7 t2 T1 d0 d1 d2 d3 d4 d5 d6 d7 CX CY CC1 CC2 CB
        go_upto_region 7 with fail
        obtain ⟨a0, a1, a2, a3, a4, a5, a6, a7⟩ := M.out.ra.sx.cell
        obtain ⟨d0, d1, d2, d3, d4, d5, d6, d7⟩ := M.out.ra.sy.cell
        go_cut [9] (fun v wx => v = .bool sm ∧ Hid (RbAt W x y g1 g2 (cellA x) (cellI x) (cellA y) (cellI y) wx))
        case first =>
          by_cases h1 : x.tr = y.tr
          · have e1 : (x.tr == y.tr) = true := beq_iff_eq.2 h1
            by_cases h2 : x.id = y.id
            · have e2 : (x.id == y.id) = true := beq_iff_eq.2 h2
              obtain rfl : sm = true := by rw [← HSM.out]; unfold sameIds; rw [decide_eq_true h1, decide_eq_true h2]; rfl
              clear h1 h2
              go_wp2_with fail
              go_meet
              exact ⟨rfl, M⟩
            · have e2 : (x.id == y.id) = false := beq_eq_false_iff_ne.2 h2
              obtain rfl : sm = false := by rw [← HSM.out]; unfold sameIds; rw [decide_eq_true h1, decide_eq_false h2]; rfl
              clear h1 h2
              go_wp2_with fail
              go_meet
              exact ⟨rfl, M⟩
          · have e1 : (x.tr == y.tr) = false := beq_eq_false_iff_ne.2 h1
            obtain rfl : sm = false := by rw [← HSM.out]; unfold sameIds; rw [decide_eq_false h1]; rfl
            clear h1
            go_wp2_with fail
            go_meet
            exact ⟨rfl, M⟩
        case rest =>
          obtain ⟨rfl, HM⟩ := hcut
          clear M a0 a1 a2 a3 a4 a5 a6 a7 d0 d1 d2 d3 d4 d5 d6 d7
          obtain ⟨⟨p0, p1, p2⟩, p3, p4, p5⟩ := HM.out.t1.cell
          obtain ⟨⟨q0, q1, q2⟩, q3, q4, q5⟩ := HM.out.t2.cell
          rw [HA1.out.1] at p0
          rw [HA1.out.2.2.2.1] at q2
          have hp0 : g1 < wc.heap.size := HM.out.t1.row.1
          have hp1 : g2 < wc.heap.size := HM.out.t2.row.1
          clear p1 p2 p3 p4 p5 q0 q1 q3 q4 q5
          go_upto_region 8 with fail
          go_cut [10, 11] (fun _v10 v11 wx => v11 = .bool sm ∧ Hid (RbAt W x y g1 g2 (cellA x) (cellI x) (cellA y) (cellI y) wx))
          case first =>
            have DW : Below wc.heap.size wc wc.drew := _root_.Go.below_drewN (Below.refl _ _) _
            have DWA := DW.alloc DW.size (.cells #[.int .i64 0, .int .i64 0, .int .i64 0, .string ⟨#[]⟩, .string ⟨#[]⟩, .int .i64 0, .int .i64 0, .string ⟨#[]⟩] 23)
            go_region_held3 (fun W' => W'.cell? ⟨g1, 0, none⟩ = some (.string ⟨K1.toArray⟩) ∧ W'.cell? ⟨g2, 2, none⟩ = some (.string ⟨V.toArray⟩)) (first | go_keep | exact ⟨((below_set8 BB (Nat.le_refl _) _ _ _ _ _ _ _ _).cell (p := ⟨g1, 0, none⟩) hp0).trans p0, ((below_set8 BB (Nat.le_refl _) _ _ _ _ _ _ _ _).cell (p := ⟨g2, 2, none⟩) hp1).trans q2⟩)
              (first
                | (go_at_call 13; refine (CS.out _).mono ?_; rintro e w8 ⟨rfl, b8⟩; have mk1 : True := trivial; have BB : Below wc.heap.size wc w8 := btP DW b8; have u0 := (BB.cell (p := ⟨g1, 0, none⟩) hp0).trans p0; have u1 := (BB.cell (p := ⟨g2, 2, none⟩) hp1).trans q2)
                | (go_at_call 13; refine (CS.out _).mono ?_; rintro e w8 ⟨rfl, b8⟩; have mk2 : True := trivial; have BB : Below wc.heap.size wc w8 := btP DWA b8; have u0 := (BB.cell (p := ⟨g1, 0, none⟩) hp0).trans p0; have u1 := (BB.cell (p := ⟨g2, 2, none⟩) hp1).trans q2; have hz : SpAt wc.heap.size Sp.zero w8 := SpAt.later (SpAt.boxed Sp.zero wc.drew) b8 (SpAt.lt (SpAt.boxed Sp.zero wc.drew)); obtain ⟨z0, z1, z2, z3, z4, z5, z6, z7⟩ := hz.cell; obtain ⟨f0, f1, f2, f3, f4, f5, f6, f7⟩ := hz.frees))
            all_goals
              first
                | (clear mk1; go_wp2_with fail; go_meet; exact ⟨rfl, Lib.hid (HM.out.later (BB.alloc BB.size _))⟩)
                | (clear mk2; go_wp2_with fail; go_meet; exact ⟨rfl, Lib.hid (HM.out.later (below_set8 BB (Nat.le_refl _) _ _ _ _ _ _ _ _))⟩)
          case' rest => skip
          obtain ⟨rfl, M⟩ := hcut
          clear CS HM hp0 hp1 p0 q2
          go_upto_region 9 with fail
          obtain ⟨a0, a1, a2, a3, a4, a5, a6, a7⟩ := M.out.ra.sx.cell
          obtain ⟨d0, d1, d2, d3, d4, d5, d6, d7⟩ := M.out.ra.sy.cell
          go_cut [12] (fun v wx => v = .bool al ∧ Hid (RbAt W x y g1 g2 (cellA x) (cellI x) (cellA y) (cellI y) wx))
          case first =>
            cases sm with
            | false =>
              obtain rfl : al = false := by rw [← HAL.out]; unfold alikeS; rw [HSM.out]; rfl
              go_wp2_with fail
              go_meet
              exact ⟨rfl, M⟩
            | true =>
              by_cases h1 : x.sv = y.sv
              · have e1 : (x.sv == y.sv) = true := beq_iff_eq.2 h1
                by_cases h2 : x.ho = y.ho
                · have e2 : (x.ho == y.ho) = true := beq_iff_eq.2 h2
                  by_cases h3 : x.st = y.st
                  · have e3 : (x.st == y.st) = true := beq_iff_eq.2 h3
                    obtain rfl : al = true := by rw [← HAL.out]; unfold alikeS; rw [HSM.out, decide_eq_true h1, decide_eq_true h2, decide_eq_true h3]; rfl
                    go_wp2_with fail
                    go_meet
                    exact ⟨rfl, M⟩
                  · have e3 : (x.st == y.st) = false := beq_eq_false_iff_ne.2 h3
                    obtain rfl : al = false := by rw [← HAL.out]; unfold alikeS; rw [HSM.out, decide_eq_true h1, decide_eq_true h2, decide_eq_false h3]; rfl
                    go_wp2_with fail
                    go_meet
                    exact ⟨rfl, M⟩
                · have e2 : (x.ho == y.ho) = false := beq_eq_false_iff_ne.2 h2
                  obtain rfl : al = false := by rw [← HAL.out]; unfold alikeS; rw [HSM.out, decide_eq_true h1, decide_eq_false h2]; rfl
                  go_wp2_with fail
                  go_meet
                  exact ⟨rfl, M⟩
              · have e1 : (x.sv == y.sv) = false := beq_eq_false_iff_ne.2 h1
                obtain rfl : al = false := by rw [← HAL.out]; unfold alikeS; rw [HSM.out, decide_eq_false h1]; rfl
                go_wp2_with fail
                go_meet
                exact ⟨rfl, M⟩
          case rest =>
            obtain ⟨rfl, HM⟩ := hcut
            clear M a0 a1 a2 a3 a4 a5 a6 a7 d0 d1 d2 d3 d4 d5 d6 d7
            obtain ⟨⟨p0, p1, p2⟩, p3, p4, p5⟩ := HM.out.t1.cell
            obtain ⟨⟨q0, q1, q2⟩, q3, q4, q5⟩ := HM.out.t2.cell
            rw [HA1.out.1] at p0
            rw [HA1.out.2.1] at p3
            rw [HA1.out.2.2.1] at q0
            rw [HA1.out.2.2.2.2] at q3
            have hp0 : g1 < wc.heap.size := HM.out.t1.row.1
            have hp1 : g2 < wc.heap.size := HM.out.t2.row.1
            have B := Lib.hid HM.out.ra.bel
            clear p1 p2 p4 p5 q1 q2 q4 q5 HM HA1 HSM HAL
            have k3b := HK3.out
            have k3 : ¬ K1 = X2 := by simpa using k3b
            cases sm with
            | true =>
              obtain rfl : K1 = K2 := by have h := HK1.out; simpa using h
              cases al with
              | true =>
                obtain rfl : X1 = X2 := by have h := HK2.out; simpa using h
                go_upto_region 10 with fail
                go_region_held3 (fun W' => W'.cell? ⟨g1, 0, none⟩ = some (.string ⟨K1.toArray⟩) ∧ W'.cell? ⟨g1, 3, none⟩ = some (.string ⟨X1.toArray⟩) ∧ W'.cell? ⟨g2, 0, none⟩ = some (.string ⟨K1.toArray⟩) ∧ W'.cell? ⟨g2, 3, none⟩ = some (.string ⟨X1.toArray⟩)) (go_keep)
                  (first
                    | (go_at_call 10; refine (CDO.out _).mono ?_; rintro e w9 ⟨rfl, b9⟩; have BB := btP (_root_.Go.below_drewN B.out _) b9; have u0 := (b9.cell (p := ⟨g1, 0, none⟩) (by assumption)).trans (by assumption); have u1 := (b9.cell (p := ⟨g1, 3, none⟩) (by assumption)).trans (by assumption); have u2 := (b9.cell (p := ⟨g2, 0, none⟩) (by assumption)).trans (by assumption); have u3 := (b9.cell (p := ⟨g2, 3, none⟩) (by assumption)).trans (by assumption)))
                go_wp2_with fail
                go_ret
                exact ⟨rfl, BB⟩
              | false =>
                have x1 : (X1 == X2) = false := HK2.out
                have x2 : ¬ X1 = X2 := by simpa using x1
                go_upto_region 10 with fail
                go_region_held3 (fun W' => W'.cell? ⟨g1, 0, none⟩ = some (.string ⟨K1.toArray⟩) ∧ W'.cell? ⟨g1, 3, none⟩ = some (.string ⟨X1.toArray⟩) ∧ W'.cell? ⟨g2, 0, none⟩ = some (.string ⟨K1.toArray⟩) ∧ W'.cell? ⟨g2, 3, none⟩ = some (.string ⟨X2.toArray⟩)) (go_keep)
                  (first
                    | (go_at_call 10; refine (CDO.out _).mono ?_; rintro e w9 ⟨rfl, b9⟩; have BB := btP (_root_.Go.below_drewN B.out _) b9; have u0 := (b9.cell (p := ⟨g1, 0, none⟩) (by assumption)).trans (by assumption); have u1 := (b9.cell (p := ⟨g1, 3, none⟩) (by assumption)).trans (by assumption); have u2 := (b9.cell (p := ⟨g2, 0, none⟩) (by assumption)).trans (by assumption); have u3 := (b9.cell (p := ⟨g2, 3, none⟩) (by assumption)).trans (by assumption)))
                go_wp2_with fail
                go_ret
                exact ⟨rfl, BB⟩
            | false =>
              have y1 : (K1 == K2) = false := HK1.out
              have y2 : ¬ K1 = K2 := by simpa using y1
              cases al with
              | true =>
                obtain rfl : X1 = X2 := by have h := HK2.out; simpa using h
                go_upto_region 10 with fail
                go_region_held3 (fun W' => W'.cell? ⟨g1, 0, none⟩ = some (.string ⟨K1.toArray⟩) ∧ W'.cell? ⟨g1, 3, none⟩ = some (.string ⟨X1.toArray⟩) ∧ W'.cell? ⟨g2, 0, none⟩ = some (.string ⟨K2.toArray⟩) ∧ W'.cell? ⟨g2, 3, none⟩ = some (.string ⟨X1.toArray⟩)) (go_keep)
                  (first
                    | (go_at_call 10; refine (CDO.out _).mono ?_; rintro e w9 ⟨rfl, b9⟩; have BB := btP (_root_.Go.below_drewN B.out _) b9; have u0 := (b9.cell (p := ⟨g1, 0, none⟩) (by assumption)).trans (by assumption); have u1 := (b9.cell (p := ⟨g1, 3, none⟩) (by assumption)).trans (by assumption); have u2 := (b9.cell (p := ⟨g2, 0, none⟩) (by assumption)).trans (by assumption); have u3 := (b9.cell (p := ⟨g2, 3, none⟩) (by assumption)).trans (by assumption)))
                go_wp2_with fail
                go_ret
                exact ⟨rfl, BB⟩
              | false =>
                have x1 : (X1 == X2) = false := HK2.out
                have x2 : ¬ X1 = X2 := by simpa using x1
                go_upto_region 10 with fail
                go_region_held3 (fun W' => W'.cell? ⟨g1, 0, none⟩ = some (.string ⟨K1.toArray⟩) ∧ W'.cell? ⟨g1, 3, none⟩ = some (.string ⟨X1.toArray⟩) ∧ W'.cell? ⟨g2, 0, none⟩ = some (.string ⟨K2.toArray⟩) ∧ W'.cell? ⟨g2, 3, none⟩ = some (.string ⟨X2.toArray⟩)) (go_keep)
                  (first
                    | (go_at_call 10; refine (CDO.out _).mono ?_; rintro e w9 ⟨rfl, b9⟩; have BB := btP (_root_.Go.below_drewN B.out _) b9; have u0 := (b9.cell (p := ⟨g1, 0, none⟩) (by assumption)).trans (by assumption); have u1 := (b9.cell (p := ⟨g1, 3, none⟩) (by assumption)).trans (by assumption); have u2 := (b9.cell (p := ⟨g2, 0, none⟩) (by assumption)).trans (by assumption); have u3 := (b9.cell (p := ⟨g2, 3, none⟩) (by assumption)).trans (by assumption)))
                go_wp2_with fail
                go_ret
                exact ⟨rfl, BB⟩
end Go.Proofs.Ytfkjdjdgcegniaa
