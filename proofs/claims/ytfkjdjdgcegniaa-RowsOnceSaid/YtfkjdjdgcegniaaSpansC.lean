/- The walk of spans.Check. -/
import Derived.Test.YtfkjdjdgcegniaaSpansB
namespace Go.Proofs.Ytfkjdjdgcegniaa
set_option maxRecDepth 16000
open Go.RowKit Spoor

theorem checkV_bad {x : Sp} (i : Nat) (hi : i < 5) (h : numOk x i = false) : checkV x = 2 := by
  have : x.ok = false := by
    unfold Sp.ok
    match i, hi with
    | 0, _ => rw [h]; simp
    | 1, _ => rw [h]; simp
    | 2, _ => rw [h]; simp
    | 3, _ => rw [h]; simp
    | 4, _ => rw [h]; simp
  unfold checkV
  rw [this]
  rfl
theorem checkV_good {x : Sp} (h : ∀ i, i < 5 → numOk x i = true) : checkV x = if nameOk x.sv && nameOk x.ho && decide (x.no.length ≤ 24) then 0 else 2 := by
  unfold checkV Sp.ok
  rw [h 0 (by decide), h 1 (by decide), h 2 (by decide), h 3 (by decide), h 4 (by decide)]
  simp only [Bool.true_and]

/-- the i-th pointer with its bounds -/
def numV (b : Nat) : Nat → Value
  | 0 => .agg #[.pointer (some ⟨b, 0, none⟩), .int .i64 1, .int .i64 2147483647]
  | 1 => .agg #[.pointer (some ⟨b, 1, none⟩), .int .i64 1, .int .i64 2147483647]
  | 2 => .agg #[.pointer (some ⟨b, 2, none⟩), .int .i64 0, .int .i64 2147483647]
  | 3 => .agg #[.pointer (some ⟨b, 5, none⟩), .int .i64 0, .int .i64 1073741824]
  | _ => .agg #[.pointer (some ⟨b, 6, none⟩), .int .i64 0, .int .i64 1073741824]
theorem nums_index0 (b : Nat) (w : World) : (Instr.index 75 (numsV b) (.int .i64 0)).run Try.prog w = .ok (numV b 0) w := by kernel_rfl
theorem nums_index1 (b : Nat) (w : World) : (Instr.index 75 (numsV b) (.int .i64 1)).run Try.prog w = .ok (numV b 1) w := by kernel_rfl
theorem nums_index2 (b : Nat) (w : World) : (Instr.index 75 (numsV b) (.int .i64 2)).run Try.prog w = .ok (numV b 2) w := by kernel_rfl
theorem nums_index3 (b : Nat) (w : World) : (Instr.index 75 (numsV b) (.int .i64 3)).run Try.prog w = .ok (numV b 3) w := by kernel_rfl
theorem nums_index4 (b : Nat) (w : World) : (Instr.index 75 (numsV b) (.int .i64 4)).run Try.prog w = .ok (numV b 4) w := by kernel_rfl

theorem drewN_at {b : Nat} {x : Sp} {w : World} (h : SpAt b x w) (o : Obj) (n : Nat) : SpAt b x ((w.alloc o).drewN n) :=
  (Below.heap_alloc w o b (Array.getElem?_eq_some_iff.1 h).1).trans h
theorem SpAt.lt {b : Nat} {x : Sp} {w : World} (h : SpAt b x w) : b < w.heap.size := (Array.getElem?_eq_some_iff.1 h).1
theorem below_allocN {B : Nat} {a w : World} (h : Below B a w) (hB : B ≤ w.heap.size) (o : Obj) (n : Nat) : Below B a ((w.alloc o).drewN n) := _root_.Go.below_drewN (h.alloc hB o) n

set_option maxHeartbeats 4000000 in
theorem check_any (x : Sp) (w : World) (hf : Fits x) :
    Calls Try.prog 22 #[spVal x] w fun e w' => e = .returned (.int .i64 (checkV x)) ∧ Below w.heap.size w w' := by
  obtain ⟨h1, h2, h3⟩ := hf
  obtain ⟨R, hR⟩ : ∃ R, checkV x = R := ⟨_, rfl⟩
  rw [hR]
  have HR := Lib.hid hR
  clear hR
  unfold spVal
  go_enter Try.func22, Try.ntmps22
  go_wp2_with fail
  refine (numbers_any _ _).mono ?_
  rintro e w1 ⟨rfl, hb1⟩
  unfold numsV
  go_wp2_with fail
  have hat : SpAt w.heap.size x w1 := (SpAt.boxed x w).later hb1 (by simp)
  have hbw : Below w.heap.size w w1 := ((Below.refl _ _).alloc (Nat.le_refl _) _).trans (hb1.mono (by simp))
  have HB := Lib.hid hbw
  clear hb1 hbw
  go_loopw [6] (fun v wr => ∃ i : Nat, i ≤ 5 ∧ v = .int .i64 i ∧ Hid (∀ j, j < i → numOk x j = true) ∧ SpAt w.heap.size x wr ∧ Hid (Below w.heap.size w wr)) (fun v _ => 5 - (intOf v).toNat)
  case atStart => exact ⟨0, by omega, rfl, fun j hj => by omega, hat, HB.out⟩
  case round =>
    obtain ⟨i, hi, rfl, hall, hat, hbw⟩ := hrel
    obtain ⟨c0, c1, c2, c3, c4, c5, c6, c7⟩ := hat.cell
    have hblt : w.heap.size < wr.heap.size := (Array.getElem?_eq_some_iff.1 hat).1
    have HA := Lib.hid hat
    clear hat
    by_cases hlt : i < 5
    · have hbs : w.heap.size ≤ wr.heap.size := by omega
      have h5 : i = 0 ∨ i = 1 ∨ i = 2 ∨ i = 3 ∨ i = 4 := by omega
      cases hok : numOk x i with
      | true =>
        have hb := numOk_of hok
        have hall' : Hid (∀ j, j < i + 1 → numOk x j = true) := fun j hj => by
          by_cases h : j < i
          · exact hall.out j h
          · have : j = i := by omega
            rw [this]; exact hok
        clear hok hall
        rcases h5 with rfl | rfl | rfl | rfl | rfl
        · have g1 : (1 : Int) ≤ x.tr := hb.1
          have g2 : x.tr ≤ 2147483647 := hb.2
          have g5 : decide (x.tr < 1) = false := by simp; omega
          have g6 : decide (2147483647 < x.tr) = false := by simp; omega
          have gi := nums_index0 w.heap.size
          unfold numsV numV at gi
          clear g1 g2 hb
          go_wp2_with fail
          go_quiet (fail)
          go_wp2_with fail
          go_roundw
          case rel => exact ⟨1, by omega, by go_num, hall', drewN_at HA.out _ _, below_allocN hbw.out hbs _ _⟩
          case measure => simp [intOf]
        · have g1 : (1 : Int) ≤ x.id := hb.1
          have g2 : x.id ≤ 2147483647 := hb.2
          have g5 : decide (x.id < 1) = false := by simp; omega
          have g6 : decide (2147483647 < x.id) = false := by simp; omega
          have gi := nums_index1 w.heap.size
          unfold numsV numV at gi
          clear g1 g2 hb
          go_wp2_with fail
          go_quiet (fail)
          go_wp2_with fail
          go_roundw
          case rel => exact ⟨2, by omega, by go_num, hall', drewN_at HA.out _ _, below_allocN hbw.out hbs _ _⟩
          case measure => simp [intOf]
        · have g1 : (0 : Int) ≤ x.pa := hb.1
          have g2 : x.pa ≤ 2147483647 := hb.2
          have g5 : decide (x.pa < 0) = false := by simp; omega
          have g6 : decide (2147483647 < x.pa) = false := by simp; omega
          have gi := nums_index2 w.heap.size
          unfold numsV numV at gi
          clear g1 g2 hb
          go_wp2_with fail
          go_quiet (fail)
          go_wp2_with fail
          go_roundw
          case rel => exact ⟨3, by omega, by go_num, hall', drewN_at HA.out _ _, below_allocN hbw.out hbs _ _⟩
          case measure => simp [intOf]
        · have g1 : (0 : Int) ≤ x.st := hb.1
          have g2 : x.st ≤ 1073741824 := hb.2
          have g5 : decide (x.st < 0) = false := by simp; omega
          have g6 : decide (1073741824 < x.st) = false := by simp; omega
          have gi := nums_index3 w.heap.size
          unfold numsV numV at gi
          clear g1 g2 hb
          go_wp2_with fail
          go_quiet (fail)
          go_wp2_with fail
          go_roundw
          case rel => exact ⟨4, by omega, by go_num, hall', drewN_at HA.out _ _, below_allocN hbw.out hbs _ _⟩
          case measure => simp [intOf]
        · have g1 : (0 : Int) ≤ x.du := hb.1
          have g2 : x.du ≤ 1073741824 := hb.2
          have g5 : decide (x.du < 0) = false := by simp; omega
          have g6 : decide (1073741824 < x.du) = false := by simp; omega
          have gi := nums_index4 w.heap.size
          unfold numsV numV at gi
          clear g1 g2 hb
          go_wp2_with fail
          go_quiet (fail)
          go_wp2_with fail
          go_roundw
          case rel => exact ⟨5, by omega, by go_num, hall', drewN_at HA.out _ _, below_allocN hbw.out hbs _ _⟩
          case measure => simp [intOf]
      | false =>
        have hbad := checkV_bad i hlt hok
        have HBad := Lib.hid hbad
        have hb : x.num i < Spoor.leastOf i ∨ Spoor.mostOf i < x.num i := by
          unfold numOk at hok
          simp only [Bool.and_eq_false_iff, decide_eq_false_iff_not] at hok
          omega
        clear hok hall hbad
        rcases h5 with rfl | rfl | rfl | rfl | rfl
        · have gi := nums_index0 w.heap.size
          unfold numsV numV at gi
          rcases hb with hb | hb
          · have g1 : x.tr < 1 := hb
            have g5 : decide (x.tr < 1) = true := by simpa using g1
            clear g1 hb
            go_wp2_with fail
            go_quiet (fail)
            go_wp2_with fail
            go_ret
            exact ⟨ret1 (by rw [← HR.out, HBad.out]; rfl), below_allocN hbw.out hbs _ _⟩
          · have g1 : 2147483647 < x.tr := hb
            have g5 : decide (x.tr < 1) = false := by simp; omega
            have g6 : decide (2147483647 < x.tr) = true := by simpa using g1
            clear g1 hb
            go_wp2_with fail
            go_quiet (fail)
            go_wp2_with fail
            go_ret
            exact ⟨ret1 (by rw [← HR.out, HBad.out]; rfl), below_allocN hbw.out hbs _ _⟩
        · have gi := nums_index1 w.heap.size
          unfold numsV numV at gi
          rcases hb with hb | hb
          · have g1 : x.id < 1 := hb
            have g5 : decide (x.id < 1) = true := by simpa using g1
            clear g1 hb
            go_wp2_with fail
            go_quiet (fail)
            go_wp2_with fail
            go_ret
            exact ⟨ret1 (by rw [← HR.out, HBad.out]; rfl), below_allocN hbw.out hbs _ _⟩
          · have g1 : 2147483647 < x.id := hb
            have g5 : decide (x.id < 1) = false := by simp; omega
            have g6 : decide (2147483647 < x.id) = true := by simpa using g1
            clear g1 hb
            go_wp2_with fail
            go_quiet (fail)
            go_wp2_with fail
            go_ret
            exact ⟨ret1 (by rw [← HR.out, HBad.out]; rfl), below_allocN hbw.out hbs _ _⟩
        · have gi := nums_index2 w.heap.size
          unfold numsV numV at gi
          rcases hb with hb | hb
          · have g1 : x.pa < 0 := hb
            have g5 : decide (x.pa < 0) = true := by simpa using g1
            clear g1 hb
            go_wp2_with fail
            go_quiet (fail)
            go_wp2_with fail
            go_ret
            exact ⟨ret1 (by rw [← HR.out, HBad.out]; rfl), below_allocN hbw.out hbs _ _⟩
          · have g1 : 2147483647 < x.pa := hb
            have g5 : decide (x.pa < 0) = false := by simp; omega
            have g6 : decide (2147483647 < x.pa) = true := by simpa using g1
            clear g1 hb
            go_wp2_with fail
            go_quiet (fail)
            go_wp2_with fail
            go_ret
            exact ⟨ret1 (by rw [← HR.out, HBad.out]; rfl), below_allocN hbw.out hbs _ _⟩
        · have gi := nums_index3 w.heap.size
          unfold numsV numV at gi
          rcases hb with hb | hb
          · have g1 : x.st < 0 := hb
            have g5 : decide (x.st < 0) = true := by simpa using g1
            clear g1 hb
            go_wp2_with fail
            go_quiet (fail)
            go_wp2_with fail
            go_ret
            exact ⟨ret1 (by rw [← HR.out, HBad.out]; rfl), below_allocN hbw.out hbs _ _⟩
          · have g1 : 1073741824 < x.st := hb
            have g5 : decide (x.st < 0) = false := by simp; omega
            have g6 : decide (1073741824 < x.st) = true := by simpa using g1
            clear g1 hb
            go_wp2_with fail
            go_quiet (fail)
            go_wp2_with fail
            go_ret
            exact ⟨ret1 (by rw [← HR.out, HBad.out]; rfl), below_allocN hbw.out hbs _ _⟩
        · have gi := nums_index4 w.heap.size
          unfold numsV numV at gi
          rcases hb with hb | hb
          · have g1 : x.du < 0 := hb
            have g5 : decide (x.du < 0) = true := by simpa using g1
            clear g1 hb
            go_wp2_with fail
            go_quiet (fail)
            go_wp2_with fail
            go_ret
            exact ⟨ret1 (by rw [← HR.out, HBad.out]; rfl), below_allocN hbw.out hbs _ _⟩
          · have g1 : 1073741824 < x.du := hb
            have g5 : decide (x.du < 0) = false := by simp; omega
            have g6 : decide (1073741824 < x.du) = true := by simpa using g1
            clear g1 hb
            go_wp2_with fail
            go_quiet (fail)
            go_wp2_with fail
            go_ret
            exact ⟨ret1 (by rw [← HR.out, HBad.out]; rfl), below_allocN hbw.out hbs _ _⟩
    · obtain rfl : i = 5 := by omega
      have hgood := checkV_good hall.out
      have HGood := Lib.hid hgood
      have cs := fun W => name_any ⟨x.sv.toArray⟩ W (mk_max h1)
      have ch := fun W => name_any ⟨x.ho.toArray⟩ W (mk_max h2)
      have e3 : (⟨x.sv.toArray⟩ : ByteArray).data.toList = x.sv := rfl
      have e4 : (⟨x.ho.toArray⟩ : ByteArray).data.toList = x.ho := rfl
      rw [e3] at cs
      rw [e4] at ch
      have CS := Lib.hid cs
      have CH := Lib.hid ch
      clear e3 e4 cs ch hgood hall
      generalize nameOk x.sv = b1 at *
      generalize nameOk x.ho = b2 at *
      go_wp2_with fail
      refine (CS.out _).mono ?_
      rintro e w2 ⟨rfl, hb2⟩
      have hbw2 := hbw.out.trans (hb2.mono (by omega))
      have hat2 := HA.out.later hb2 hblt
      cases b1 with
      | false =>
        clear hat2
        go_wp2_with fail
        go_ret
        exact ⟨ret1 (by rw [← HR.out, HGood.out]; rfl), hbw2⟩
      | true =>
        obtain ⟨d0, d1, d2, d3, d4, d5, d6, d7⟩ := hat2.cell
        have hlt2 := hat2.lt
        have HA2 := Lib.hid hat2
        have HBw2 := Lib.hid hbw2
        clear hat2 hbw2
        go_wp2_with fail
        refine (CH.out _).mono ?_
        rintro e w3 ⟨rfl, hb3⟩
        have hbw3 := HBw2.out.trans (hb3.mono (by omega))
        have hat3 := HA2.out.later hb3 hlt2
        cases b2 with
        | false =>
          clear hat3
          go_wp2_with fail
          go_ret
          exact ⟨ret1 (by rw [← HR.out, HGood.out]; rfl), hbw3⟩
        | true =>
          obtain ⟨f0, f1, f2, f3, f4, f5, f6, f7⟩ := hat3.cell
          clear hat3
          by_cases h24 : 24 < (x.no.length : Int)
          · have e24 : decide (x.no.length ≤ 24) = false := by simp; omega
            have E24 := Lib.hid e24
            clear e24
            go_wp2_with fail
            go_ret
            exact ⟨ret1 (by rw [← HR.out, HGood.out, E24.out]; rfl), hbw3⟩
          · have e24 : decide (x.no.length ≤ 24) = true := by simp; omega
            have E24 := Lib.hid e24
            clear e24
            go_wp2_with fail
            go_ret
            exact ⟨ret1 (by rw [← HR.out, HGood.out, E24.out]; rfl), hbw3⟩
end Go.Proofs.Ytfkjdjdgcegniaa
