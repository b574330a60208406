/- The walks of Less. -/
import Derived.Test.YtfkjdjdgcegniaaSpansC
namespace Go.Proofs.Ytfkjdjdgcegniaa
set_option maxRecDepth 16000
open Go.RowKit Spoor

/-- of two numbers the first one that is not 0 -/
def or2 (a b : Int) : Int := if a = 0 then b else a
/-- is a span ahead of another one? -/
def lessB (x y : Sp) : Bool := decide (x.tr < y.tr) || (decide (x.tr = y.tr) && decide (x.id < y.id))
theorem or2_less (x y : Sp) : decide (or2 (Lib.compareInt x.tr y.tr) (Lib.compareInt x.id y.id) < 0) = lessB x y := by
  unfold or2 Lib.compareInt lessB
  rw [Bool.eq_iff_iff]
  simp only [Bool.or_eq_true, Bool.and_eq_true, decide_eq_true_eq]
  by_cases h1 : x.tr < y.tr
  · simp [h1]
  · by_cases h2 : x.tr > y.tr
    · have : ¬ x.tr = y.tr := by omega
      simp [h1, h2, this]
    · have : x.tr = y.tr := by omega
      by_cases h3 : x.id < y.id
      · simp [this, h3]
      · by_cases h4 : x.id > y.id <;> simp [this, h3, h4]

end Go.Proofs.Ytfkjdjdgcegniaa
