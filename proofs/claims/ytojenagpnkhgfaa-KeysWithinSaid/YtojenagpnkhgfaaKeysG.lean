/- The walks of the laws' own helpers. -/
import Derived.Test.YtojenagpnkhgfaaKeysF
import Derived.WalkLawsBesides
namespace Go.Proofs.Ytojenagpnkhgfaa
open Go.RowKit Spoor

def five : List UInt8 := [0, 0, 0, 0, 0, 0, 0, 5]
theorem lit_of : ofKey 5 258 = some [115, 0, 0, 0, 0, 0, 0, 0, 5, 0, 0, 0, 0, 0, 0, 1, 2] := by decide +kernel
theorem lit_trace : traceK 5 = ([115, 0, 0, 0, 0, 0, 0, 0, 5], [115, 0, 0, 0, 0, 0, 0, 0, 6]) := by decide +kernel
def likeSp : Sp := ⟨5, 1, 0, [97], [104], 5, 0, []⟩
theorem lit_index : indexKey likeSp = some [120, 97, 0, 104, 0, 0, 0, 0, 0, 0, 0, 0, 5, 0, 0, 0, 0, 0, 0, 0, 5, 0, 0, 0, 0, 0, 0, 0, 1] := by decide +kernel
theorem lit_stretch : stretchK [97] [104] (-3) 4 = ([120, 97, 0, 104, 0, 0, 0, 0, 0, 0, 0, 0, 0], [120, 97, 0, 104, 0, 0, 0, 0, 0, 0, 0, 0, 5]) := by decide +kernel
theorem lit_row : rowK [115, 0, 0, 0, 0, 0, 0, 0, 5, 0, 0, 0, 0, 0, 0, 1, 2] = [115, 0, 0, 0, 0, 0, 0, 0, 5] := by decide +kernel
theorem lit_abc : rowK [97, 98, 99] = [] := by decide +kernel
set_option maxHeartbeats 800000 in
theorem kdoes_true (w : World) : Calls Try.prog 16 #[] w fun e w' => e = .returned (.bool true) ∧ Below w.heap.size w w' := by
  have c1 := fun W => of_any 5 258 W
  have c2 := fun W => trace_any 5 W
  have c3 := fun W => index_any likeSp W (by unfold Fits; decide)
  have c4 := fun W => stretch_any [97] [104] (-3) 4 (by decide) (by decide) W
  have c5 := fun W => row_any [115, 0, 0, 0, 0, 0, 0, 0, 5, 0, 0, 0, 0, 0, 0, 1, 2] (by decide) W
  have c6 := fun W => row_any [97, 98, 99] (by decide) W
  rw [lit_of] at c1
  rw [lit_trace] at c2
  rw [lit_index] at c3
  rw [lit_stretch] at c4
  rw [lit_row] at c5
  rw [lit_abc] at c6
  unfold errV at c1 c3
  unfold pairV at c2 c4
  unfold spVal likeSp at c3
  have C1 := Lib.hid c1
  have C2 := Lib.hid c2
  have C3 := Lib.hid c3
  have C4 := Lib.hid c4
  have C5 := Lib.hid c5
  have C6 := Lib.hid c6
  clear c1 c2 c3 c4 c5 c6
  have h1 : (⟨#[115]⟩ : ByteArray) ++ ⟨#[0, 0, 0, 0, 0, 0, 0, 5]⟩ = ⟨#[115, 0, 0, 0, 0, 0, 0, 0, 5]⟩ := by decide
  have h2 : (⟨#[115, 0, 0, 0, 0, 0, 0, 0, 5]⟩ : ByteArray) ++ ⟨#[0, 0, 0, 0, 0, 0, 1, 2]⟩ = ⟨#[115, 0, 0, 0, 0, 0, 0, 0, 5, 0, 0, 0, 0, 0, 0, 1, 2]⟩ := by decide
  have h3 : (⟨#[120, 97, 0, 104, 0]⟩ : ByteArray) ++ ⟨#[0, 0, 0, 0, 0, 0, 0, 5]⟩ = ⟨#[120, 97, 0, 104, 0, 0, 0, 0, 0, 0, 0, 0, 5]⟩ := by decide
  have h4 : (⟨#[120, 97, 0, 104, 0, 0, 0, 0, 0, 0, 0, 0, 5]⟩ : ByteArray) ++ ⟨#[0, 0, 0, 0, 0, 0, 0, 5]⟩ = ⟨#[120, 97, 0, 104, 0, 0, 0, 0, 0, 0, 0, 0, 5, 0, 0, 0, 0, 0, 0, 0, 5]⟩ := by decide
  have h5 : (⟨#[120, 97, 0, 104, 0, 0, 0, 0, 0, 0, 0, 0, 5, 0, 0, 0, 0, 0, 0, 0, 5]⟩ : ByteArray) ++ ⟨#[0, 0, 0, 0, 0, 0, 0, 1]⟩ = ⟨#[120, 97, 0, 104, 0, 0, 0, 0, 0, 0, 0, 0, 5, 0, 0, 0, 0, 0, 0, 0, 5, 0, 0, 0, 0, 0, 0, 0, 1]⟩ := by decide
  go_enter Try.func16, Try.ntmps16
  go_wp2_with fail
  refine (C1.out _).mono ?_
  rintro e w1 ⟨rfl, b1⟩
  go_wp2_with fail
  refine (C2.out _).mono ?_
  rintro e w2 ⟨rfl, b2⟩
  have b2 := bt b1 b2
  go_wp2_with fail
  refine (C3.out _).mono ?_
  rintro e w3 ⟨rfl, b3⟩
  have b3 := bt b2 b3
  go_wp2_with fail
  refine (C4.out _).mono ?_
  rintro e w4 ⟨rfl, b4⟩
  have b4 := bt b3 b4
  go_wp2_with fail
  refine (C5.out _).mono ?_
  rintro e w5 ⟨rfl, b5⟩
  have b5 := bt b4 b5
  go_wp2_with fail
  refine (C6.out _).mono ?_
  rintro e w6 ⟨rfl, b6⟩
  have b6 := bt b5 b6
  go_wp2_with fail
  go_ret
  exact ⟨rfl, b6⟩

theorem same_any (p : KP) (w : World) : Calls Try.prog 21 #[kpVal p, kpVal p] w fun e w' => e = .returned (.bool true) ∧ Below w.heap.size w w' := by
  have q1 : PtAt w.heap.size p ((w.alloc (boxK p)).alloc (boxR p)) := (PtAt.boxed p w).alloc' _
  have q2 : RtAt (w.heap.size + 1) p ((w.alloc (boxK p)).alloc (boxR p)) := by
    have := RtAt.boxed p (w.alloc (boxK p))
    rwa [alloc_size] at this
  have b1 : Below w.heap.size w ((w.alloc (boxK p)).alloc (boxR p)) := below_new2' _ _
  unfold boxK boxR kpVal at *
  obtain ⟨a0, a1, a2, a3, a4, a5⟩ := q1.cell
  obtain ⟨d0, d1, d2, d3, d4, d5⟩ := q2.cell
  go_enter Try.func21, Try.ntmps21
  go_wp2_with fail
  go_ret
  exact ⟨rfl, b1⟩
/-- of two texts, of two numbers: -1, 0, 1 -/
def ordT (a b : List UInt8) : Int := if Op.bytesLess a b = true then -1 else if Op.bytesLess b a = true then 1 else 0
def ordN (a b : Int) : Int := if a < b then -1 else if b < a then 1 else 0
theorem ordN_any (a b : Int) (w : World) : Calls Try.prog 28 #[.int .i64 a, .int .i64 b] w fun e w' => e = .returned (.int .i64 (ordN a b)) ∧ w = w' := by
  unfold ordN
  by_cases h1 : a < b
  · rw [if_pos h1]
    go_enter Try.func28, Try.ntmps28
    go_wp2_with fail
    go_ret
    exact ⟨rfl, rfl⟩
  · rw [if_neg h1]
    by_cases h2 : b < a
    · rw [if_pos h2]
      go_enter Try.func28, Try.ntmps28
      go_wp2_with fail
      go_ret
      exact ⟨rfl, rfl⟩
    · rw [if_neg h2]
      go_enter Try.func28, Try.ntmps28
      go_wp2_with fail
      go_ret
      exact ⟨rfl, rfl⟩
theorem ordT_any (a b : List UInt8) (w : World) : Calls Try.prog 26 #[.string ⟨a.toArray⟩, .string ⟨b.toArray⟩] w fun e w' => e = .returned (.int .i64 (ordT a b)) ∧ w = w' := by
  unfold ordT
  cases h1 : Op.bytesLess a b with
  | true =>
    rw [if_pos rfl]
    go_enter Try.func26, Try.ntmps26
    go_wp2_with fail
    go_ret
    exact ⟨rfl, rfl⟩
  | false =>
    rw [if_neg (by simp)]
    by_cases hab : a = b
    · subst hab
      rw [bl_irrefl, if_neg (by simp)]
      go_enter Try.func26, Try.ntmps26
      go_wp2_with fail
      go_ret
      exact ⟨rfl, rfl⟩
    · have h2 : Op.bytesLess b a = true := by
        cases h2 : Op.bytesLess b a with
        | true => rfl
        | false => exact absurd (bl_total h1 h2) hab
      rw [h2, if_pos rfl]
      have hb : (a == b) = false := by simpa using hab
      clear hab h2
      go_enter Try.func26, Try.ntmps26
      go_wp2_with fail
      go_ret
      exact ⟨rfl, rfl⟩
/-- of several orders the first one that is not 0 -/
def firstN : List Int → Int
  | [] => 0
  | a :: l => if a = 0 then firstN l else a
theorem firstN_drop (l : List Int) (k : Nat) (h : k < l.length) : firstN (l.drop k) = if l.getD k 0 = 0 then firstN (l.drop (k + 1)) else l.getD k 0 := by
  rw [List.drop_eq_getElem_cons h, firstN]
  simp [List.getD, h]
theorem first_any (g : Nat) (zs : List Int) (n : Nat) (w : World) (hl : zs.length = n) (hn : n ≤ 5) (hc : ∀ i, i < n → w.cell? ⟨g, i, none⟩ = some (.int .i64 (zs.getD i 0))) :
    Calls Try.prog 27 #[.slice (some ⟨g, 0, none⟩) n n] w fun e w' => e = .returned (.int .i64 (firstN zs)) ∧ w = w' := by
  have HL := Lib.hid hl
  have HC := Lib.hid hc
  clear hl hc
  obtain ⟨R, hR⟩ : ∃ R, firstN zs = R := ⟨_, rfl⟩
  rw [hR]
  have HR := Lib.hid hR
  clear hR
  go_enter Try.func27, Try.ntmps27
  go_wp2_with fail
  go_loop [3] (fun i => ∃ k : Nat, k ≤ n ∧ i = .int .i64 k ∧ Hid (firstN zs = firstN (zs.drop k))) (fun i => n - (intOf i).toNat)
  case atStart => exact ⟨0, by omega, rfl, rfl⟩
  case round =>
    obtain ⟨k, hk, rfl, hrel⟩ := hrel
    by_cases hlt : k < n
    · have hck := HC.out k hlt
      have hst := firstN_drop zs k (by rw [HL.out]; exact hlt)
      have HSt := Lib.hid hst
      clear hst
      generalize zs.getD k 0 = z at *
      by_cases h0 : z = 0
      · subst h0
        go_wp2_with fail
        go_round
        case rel => exact ⟨k + 1, by omega, by go_num, by show _ = _; rw [hrel.out, HSt.out, if_pos rfl]⟩
        case measure => simp [intOf]; omega
      · have hb : (z == 0) = false := by simpa using h0
        have H0 := Lib.hid h0
        clear h0
        go_wp2_with fail
        go_ret
        exact ⟨ret1 (by rw [← HR.out, hrel.out, HSt.out, if_neg H0.out]; rfl), rfl⟩
    · obtain rfl : k = n := by omega
      go_wp2_with fail
      go_ret
      exact ⟨ret1 (by rw [← HR.out, hrel.out, List.drop_of_length_le (by rw [HL.out]; exact Nat.le_refl _)]; rfl), rfl⟩
def greatK (x : Sp) : Bool := decide (500 < x.sv.length) || decide (500 < x.ho.length) || decide (500 < x.no.length)
theorem greatK_any (x : Sp) (w : World) (hf : Fits x) :
    Calls Try.prog 24 #[spVal x] w fun e w' => e = .returned (.bool (greatK x)) ∧ Below w.heap.size w w' := by
  obtain ⟨h1, h2, h3⟩ := hf
  unfold greatK
  have b1 := (Below.refl w.heap.size w).alloc (Nat.le_refl _) (boxS x)
  unfold spVal boxS at *
  by_cases g1 : (500 : Int) < x.sv.length
  · rw [decide_eq_true (by omega), Bool.true_or, Bool.true_or]
    go_enter Try.func24, Try.ntmps24
    go_wp2_with fail
    go_ret
    exact ⟨rfl, b1⟩
  · rw [decide_eq_false (by omega), Bool.false_or]
    by_cases g2 : (500 : Int) < x.ho.length
    · rw [decide_eq_true (by omega), Bool.true_or]
      go_enter Try.func24, Try.ntmps24
      go_wp2_with fail
      go_ret
      exact ⟨rfl, b1⟩
    · rw [decide_eq_false (by omega), Bool.false_or]
      by_cases g3 : (500 : Int) < x.no.length
      · rw [decide_eq_true (by omega)]
        go_enter Try.func24, Try.ntmps24
        go_wp2_with fail
        go_ret
        exact ⟨rfl, b1⟩
      · rw [decide_eq_false (by omega)]
        go_enter Try.func24, Try.ntmps24
        go_wp2_with fail
        go_ret
        exact ⟨rfl, b1⟩
end Go.Proofs.Ytojenagpnkhgfaa
