/- The walks of the statements on ints. -/
import Derived.Test.YtohhghpdgaejhaaIntsC
namespace Go.Proofs.Ytohhghpdgaejhaa
open Go.RowKit Spoor

theorem bounds_i64 {n : Int} (h : (Lit.int .i64 n).wf = true) : -9223372036854775808 ≤ n ∧ n ≤ 9223372036854775807 := by
  simpa [Lit.wf, IntKind.min, IntKind.max, IntKind.signed, IntKind.bits] using h

/-- the bytes that Put tells, of every int -/
def putZ (n : Int) : List UInt8 := if n < 0 then [] else put n.toNat
def bigZ (n : Int) : List UInt8 := if n < 0 then [] else big n.toNat
theorem put_any (n : Int) (w : World) (h : n ≤ 9223372036854775807) :
    Calls Try.prog 10 #[.int .i64 n] w fun e w' => e = .returned (.string ⟨(putZ n).toArray⟩) ∧ Below w.heap.size w w' := by
  by_cases h0 : n < 0
  · rw [putZ, if_pos h0]; exact put_neg n w h0
  · obtain ⟨a, rfl⟩ : ∃ a : Nat, n = a := ⟨n.toNat, by omega⟩
    rw [putZ, if_neg h0]; exact put_nat a w (by omega)
theorem refPut_any (n : Int) (w : World) (h : n ≤ 9223372036854775807) :
    Calls Try.prog 11 #[.int .i64 n] w fun e w' => e = .returned (.string ⟨(putZ n).toArray⟩) ∧ Below w.heap.size w w' := by
  by_cases h0 : n < 0
  · rw [putZ, if_pos h0]; exact refPut_neg n w h0
  · obtain ⟨a, rfl⟩ : ∃ a : Nat, n = a := ⟨n.toNat, by omega⟩
    rw [putZ, if_neg h0]; exact refPut_nat a w (by omega)
theorem big_any (n : Int) (w : World) (h : n ≤ 9223372036854775807) :
    Calls Try.prog 12 #[.int .i64 n] w fun e w' => e = .returned (.string ⟨(bigZ n).toArray⟩) ∧ Below w.heap.size w w' := by
  by_cases h0 : n < 0
  · rw [bigZ, if_pos h0]; exact big_neg n w h0
  · obtain ⟨a, rfl⟩ : ∃ a : Nat, n = a := ⟨n.toNat, by omega⟩
    rw [bigZ, if_neg h0]; exact big_nat a w (by omega)
theorem refBig_any (n : Int) (w : World) (h : n ≤ 9223372036854775807) :
    Calls Try.prog 13 #[.int .i64 n] w fun e w' => e = .returned (.string ⟨(bigZ n).toArray⟩) ∧ Below w.heap.size w w' := by
  by_cases h0 : n < 0
  · rw [bigZ, if_pos h0]; exact refBig_neg n w h0
  · obtain ⟨a, rfl⟩ : ∃ a : Nat, n = a := ⟨n.toNat, by omega⟩
    rw [bigZ, if_neg h0]; exact refBig_nat a w (by omega)

theorem bt {w w1 w2 : World} (h : Below w.heap.size w w1) (k : Below w1.heap.size w1 w2) : Below w.heap.size w w2 := h.trans (k.mono h.size)

theorem intsPut_law (n : Int) (wn : (Lit.int .i64 n).wf = true) (w : World) :
    Calls Try.prog 3 #[.int .i64 n] w fun e w' => e = .returned (.bool true) ∧ Below w.heap.size w w' := by
  have hn := (bounds_i64 wn).2
  clear wn
  generalize hp : putZ n = P
  generalize hb : bigZ n = B
  have HP := Lib.hid hp
  have HB := Lib.hid hb
  clear hp hb
  go_enter Try.func3, Try.ntmps3
  go_wp2_with fail
  refine (put_any n _ hn).mono ?_
  rintro e w1 ⟨rfl, b1⟩
  rw [HP.out]
  go_wp2_with fail
  refine (refPut_any n _ hn).mono ?_
  rintro e w2 ⟨rfl, b2⟩
  rw [HP.out]
  go_wp2_with fail
  refine (big_any n _ hn).mono ?_
  rintro e w3 ⟨rfl, b3⟩
  rw [HB.out]
  go_wp2_with fail
  refine (refBig_any n _ hn).mono ?_
  rintro e w4 ⟨rfl, b4⟩
  rw [HB.out]
  go_wp2_with fail
  refine (does_true _).mono ?_
  rintro e w5 ⟨rfl, b5⟩
  go_wp2_with fail
  go_ret
  exact ⟨rfl, bt (bt (bt (bt b1 b2) b3) b4) b5⟩
end Go.Proofs.Ytohhghpdgaejhaa
