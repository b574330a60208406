/- The walks of the pointers to a span's fields. -/
import Derived.Test.YtfkjdjdgcegniaaSpansA
import Derived.StillTailTactics
import Derived.LoopTactic
namespace Go.Proofs.Ytfkjdjdgcegniaa
set_option maxRecDepth 16000
open Go.RowKit Spoor

/-- the pointers and bounds that numbers tells -/
def numsV (b : Nat) : Value := .agg #[.pointer (some ⟨b, 0, none⟩), .int .i64 1, .int .i64 2147483647, .pointer (some ⟨b, 1, none⟩), .int .i64 1, .int .i64 2147483647, .pointer (some ⟨b, 2, none⟩), .int .i64 0, .int .i64 2147483647, .pointer (some ⟨b, 5, none⟩), .int .i64 0, .int .i64 1073741824, .pointer (some ⟨b, 6, none⟩), .int .i64 0, .int .i64 1073741824]
theorem numbers_any (b : Nat) (w : World) :
    Calls Try.prog 39 #[.pointer (some ⟨b, 0, none⟩)] w fun e w' => e = .returned (numsV b) ∧ Below w.heap.size w w' := by
  go_enter Try.func39, Try.ntmps39
  go_wp2_with fail
  go_still_tail 21, (by kernel_rfl)
  change wpList _ _ _ _ _ (World.drew _)
  go_wp2
  exact bodyPost_ret (v := numsV b) (by simp [results, numsV, Try.results39, go_sem]) rfl ⟨rfl, ((Below.refl _ _).alloc (Nat.le_refl _) _).drew⟩

/-- the pointers that texts tells -/
def textsV (b : Nat) : Value := .agg #[.pointer (some ⟨b, 3, none⟩), .pointer (some ⟨b, 4, none⟩), .pointer (some ⟨b, 7, none⟩)]
theorem texts_any (b : Nat) (w : World) :
    Calls Try.prog 44 #[.pointer (some ⟨b, 0, none⟩)] w fun e w' => e = .returned (textsV b) ∧ Below w.heap.size w w' := by
  go_enter Try.func44, Try.ntmps44
  go_wp2_with fail
  go_still_tail 10, (by kernel_rfl)
  change wpList _ _ _ _ _ (World.drew _)
  go_wp2
  exact bodyPost_ret (v := textsV b) (by simp [results, textsV, Try.results44, go_sem]) rfl ⟨rfl, ((Below.refl _ _).alloc (Nat.le_refl _) _).drew⟩

/-- a span's cells lie in a block -/
def SpAt (b : Nat) (x : Sp) (w : World) : Prop := w.heap[b]? = some (.cells #[.int .i64 x.tr, .int .i64 x.id, .int .i64 x.pa, .string ⟨x.sv.toArray⟩, .string ⟨x.ho.toArray⟩, .int .i64 x.st, .int .i64 x.du, .string ⟨x.no.toArray⟩] 23 (0, 0))
theorem SpAt.cell {b : Nat} {x : Sp} {w : World} (h : SpAt b x w) : w.cell? ⟨b, 0, none⟩ = some (.int .i64 x.tr) ∧ w.cell? ⟨b, 1, none⟩ = some (.int .i64 x.id) ∧ w.cell? ⟨b, 2, none⟩ = some (.int .i64 x.pa) ∧
    w.cell? ⟨b, 3, none⟩ = some (.string ⟨x.sv.toArray⟩) ∧ w.cell? ⟨b, 4, none⟩ = some (.string ⟨x.ho.toArray⟩) ∧ w.cell? ⟨b, 5, none⟩ = some (.int .i64 x.st) ∧ w.cell? ⟨b, 6, none⟩ = some (.int .i64 x.du) ∧ w.cell? ⟨b, 7, none⟩ = some (.string ⟨x.no.toArray⟩) := by
  refine ⟨?_, ?_, ?_, ?_, ?_, ?_, ?_, ?_⟩ <;> (rw [cell_of_row w b _ _ _ _ h]; rfl)
theorem SpAt.later {B b : Nat} {x : Sp} {w w' : World} (h : SpAt b x w) (hb : Below B w w') (hlt : b < B) : SpAt b x w' := by
  unfold SpAt; rw [hb.block b hlt]; exact h
theorem SpAt.boxed (x : Sp) (w : World) : SpAt w.heap.size x (w.alloc (.cells #[.int .i64 x.tr, .int .i64 x.id, .int .i64 x.pa, .string ⟨x.sv.toArray⟩, .string ⟨x.ho.toArray⟩, .int .i64 x.st, .int .i64 x.du, .string ⟨x.no.toArray⟩] 23)) := heap_alloc_new w _
end Go.Proofs.Ytfkjdjdgcegniaa
