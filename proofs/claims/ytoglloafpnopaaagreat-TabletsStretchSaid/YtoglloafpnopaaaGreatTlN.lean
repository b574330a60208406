/- The law TabletsHalves: its walk. -/
import Derived.Test.YtoglloafpnopaaaGreatMgA
import Derived.Test.YtoglloafpnopaaaGreatTlL
set_option linter.unusedSimpArgs false
set_option linter.unusedVariables false
namespace Go.Proofs.YtoglloafpnopaaaGreat
set_option maxRecDepth 16000
open Go.RowKit Spoor
theorem RowOk.filter {r : List Ce} (h : RowOk r) (p : Ce → Bool) : RowOk (r.filter p) := by
  have hs := sorted_rise.1 h.2.2
  exact ⟨Nat.le_trans (List.length_filter_le _ _) h.1, fun c hc => h.2.1 c (List.mem_filter.1 hc).1, sorted_rise.2 ⟨rise_filter hs.1 _, fun c hc => hs.2 c (List.mem_filter.1 hc).1⟩⟩
theorem tab_short {F T x y : List UInt8} {L : List Ce} {Ts : List (List Ce)} (hL : RowOk L) (h : ∀ r ∈ Ts, RowOk r ∧ r.length ≤ 40) (hn : Ts.length ≤ 5) : (tabR F T (L :: Ts) x y).length ≤ 5200 := by
  have h1 := tabR_length F T (L :: Ts) x y
  have h3 := sum_le (R := Ts) (m := 40) fun r hr => (h r hr).2
  rw [List.map_cons, List.sum_cons] at h1
  have := hL.1
  omega
end Go.Proofs.YtoglloafpnopaaaGreat
