/- The statements' own helpers on spans: what is great, the chapter's span, the examples. -/
import Derived.Test.YtfkjdjdgcegniaaSpansI
namespace Go.Proofs.Ytfkjdjdgcegniaa
set_option maxRecDepth 16000
open Go.RowKit Spoor

theorem bt {w w1 w2 : World} (h : Below w.heap.size w w1) (k : Below w1.heap.size w1 w2) : Below w.heap.size w w2 := h.trans (k.mono h.size)
def greatB (x : Sp) : Bool := decide (1000 < x.sv.length) || decide (1000 < x.ho.length) || decide (1000 < x.no.length)
theorem great_no {x : Sp} (h : greatB x = false) : x.sv.length ≤ 1000 ∧ x.ho.length ≤ 1000 ∧ x.no.length ≤ 1000 := by
  unfold greatB at h
  simp only [Bool.or_eq_false_iff, decide_eq_false_iff_not] at h
  omega
def someSp : Sp := ⟨300, 2, 1, [97, 112, 105], [104, 49], 5, 0, [111, 107]⟩
theorem put_small (n : Nat) (h : n < 128) : put n = [UInt8.ofNat n] := by
  rw [put, show n / 128 = 0 by omega, hi_zero, Nat.mod_eq_of_lt h]; rfl
theorem put_300 : put 300 = [130, 44] := by
  rw [put, hi_pos (by decide), show 300 / 128 / 128 = 0 by decide, hi_zero]; rfl
theorem some_ok : someSp.ok = true := by decide +kernel
theorem some_bytes : someSp.bytes = [130, 44, 2, 1, 5, 0, 3, 97, 112, 105, 2, 104, 49, 2, 111, 107] := by
  show put 300 ++ put 2 ++ put 1 ++ put 5 ++ put 0 ++ (put 3 ++ [97, 112, 105]) ++ (put 2 ++ [104, 49]) ++ (put 2 ++ [111, 107]) = _
  rw [put_300, put_small 2 (by decide), put_small 1 (by decide), put_small 5 (by decide), put_small 0 (by decide), put_small 3 (by decide)]
  rfl
theorem some_decode : decodeSp [130, 44, 2, 1, 5, 0, 3, 97, 112, 105, 2, 104, 49, 2, 111, 107] = some someSp := by
  rw [← some_bytes]; exact decodeSp_bytes _ some_ok

end Go.Proofs.Ytfkjdjdgcegniaa
