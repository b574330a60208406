/- The walks: a twin is left; the chapter's examples. -/
import Derived.Test.YtanaoepakllohaaBlocksL
import Derived.Deep.RegionHeld3
namespace Go.Proofs.Ytanaoepakllohaa
set_option maxRecDepth 16000
open Go.RowKit Spoor

theorem RowAt.slHead {g cap : Nat} {l : List Ce} {w : World} (h : RowAt g 0 (l ++ [junkT]) w) (hc : l.length + 1 ≤ cap) (hm : cap ≤ maxLen) : SlAt (.slice (some ⟨g, 0, none⟩) l.length cap) l w :=
  ⟨some ⟨g, 0, none⟩, cap, rfl, by omega, hm, fun _ => ⟨g, 0, rfl, h.head⟩⟩
theorem left_any (g cap : Nat) (s : Value) (l : List Ce) (w : World) (hs : SlAt s l w) (hrow : RowAt g 0 (l ++ [junkT]) w) (hc : l.length + 1 ≤ cap) (hm : cap ≤ maxLen) :
    Calls Try.prog 15 #[.slice (some ⟨g, 0, none⟩) l.length cap, s] w fun e w' => e = .returned (.bool true) ∧ Below w.heap.size w w' := by
  have cs := sameCells_any (.slice (some ⟨g, 0, none⟩) l.length cap) s l l w (hrow.slHead hc hm) hs
  obtain ⟨A, c2, rfl, h1, h2, h3⟩ := hs
  rw [decide_eq_true rfl] at cs
  have CS := Lib.hid cs
  obtain ⟨n, hn⟩ : ∃ n, l.length = n := ⟨_, rfl⟩
  have HN := Lib.hid hn
  have hx := fun (w' : World) (h : RowAt g 0 (l ++ [junkT]) w') => (h.cells (i := n) (by rw [List.length_append, hn]; simp)).2.1
  have hj : (l ++ [junkT]).getD n Ce.zero = junkT := by simp [List.getD, ← hn]
  rw [hj] at hx
  have HX := Lib.hid hx
  unfold maxLen at hm h2
  rw [hn] at hc h1 CS ⊢
  clear cs h3 hx hj hn
  go_enter Try.func15, Try.ntmps15
  go_wp2_with fail
  refine CS.out.mono ?_
  rintro e w1 ⟨rfl, b1⟩
  have hrow := hrow.later b1 hrow.1
  have hx := HX.out w1 hrow
  simp only [junkT, Nat.zero_add] at hx
  have hcn : (n : Int) < (cap : Int) := by omega
  go_wp2_with fail
  go_ret
  exact ⟨rfl, b1⟩
theorem some_sorted : sortedB someL = true := by decide
theorem some_bytes : blockB someL = [3, 0, 2, 97, 98, 7, 1, 120, 2, 0, 3, 0, 1, 1, 99, 0, 1, 121] := by
  simp [blockB, someL, bodyB, cellBytes, lastKey, common, putText, put_small]
def badL : List Ce := [⟨[97, 98], 3, []⟩, ⟨[97, 98], 7, []⟩]
theorem bad_sorted : sortedB badL = false := by decide
theorem some_dec : decB [3, 0, 2, 97, 98, 7, 1, 120, 2, 0, 3, 0, 1, 1, 99, 0, 1, 121] = some someL := by
  rw [← some_bytes]
  exact decB_block some_sorted (by simp [someL]) (by simp [someL])
theorem some_fits : ∀ c ∈ someL, FitsC c := by
  intro c hc
  simp only [someL, List.mem_cons, List.not_mem_nil, or_false] at hc
  rcases hc with rfl | rfl | rfl <;> exact ⟨by simp, by simp, by simp⟩
theorem bad_fits : ∀ c ∈ badL, FitsC c := by
  intro c hc
  simp only [badL, List.mem_cons, List.not_mem_nil, or_false] at hc
  rcases hc with rfl | rfl <;> exact ⟨by simp, by simp, by simp⟩
def BadAt (g : Nat) (w : World) : Prop := w.heap[g]? = some (.cells #[.string ⟨#[97, 98]⟩, .int .i64 3, .string ⟨#[]⟩, .string ⟨#[97, 98]⟩, .int .i64 7, .string ⟨#[]⟩] 36 (0, 0))
theorem BadAt.row {g : Nat} {w : World} (h : BadAt g w) : RowAt g 0 badL w := by
  refine ⟨(Array.getElem?_eq_some_iff.1 h).1, fun i hi j v hv => ?_⟩
  rw [cell_of_row w g _ _ _ _ h]
  have hi' : i < 2 := hi
  have hj : j < 3 := by
    have := (List.getElem?_eq_some_iff.1 hv).1
    simpa [ceRow] using this
  rcases (by omega : i = 0 ∨ i = 1) with rfl | rfl <;> rcases (by omega : j = 0 ∨ j = 1 ∨ j = 2) with rfl | rfl | rfl <;> simpa [badL, ceRow] using hv
def someS : List UInt8 := [3, 0, 2, 97, 98, 7, 1, 120, 2, 0, 3, 0, 1, 1, 99, 0, 1, 121]
theorem bcellB {W w1 : World} (hb : Below W.heap.size W w1) : ∀ b o, b < W.heap.size → w1.cell? ⟨b, o, none⟩ = W.cell? ⟨b, o, none⟩ := fun b o h => hb.cell (p := ⟨b, o, none⟩) h
theorem SomeAt.cell {g : Nat} {w : World} (h : SomeAt g w) : w.cell? ⟨g, 0, none⟩ = some (.string ⟨#[97, 98]⟩) ∧ w.cell? ⟨g, 1, none⟩ = some (.int .i64 7) ∧ w.cell? ⟨g, 2, none⟩ = some (.string ⟨#[120]⟩) := by
  refine ⟨?_, ?_, ?_⟩ <;> (rw [cell_of_row w g _ _ _ _ h]; rfl)
end Go.Proofs.Ytanaoepakllohaa
