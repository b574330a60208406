/- The walks on one span and one cell: whether it has expired, a span's cells, a cell's span. -/
import Derived.Test.YtfkjdjdgcegniaaRowsA
namespace Go.Proofs.Ytfkjdjdgcegniaa
set_option maxRecDepth 16000
open Go.RowKit Spoor
set_option linter.unusedVariables false

theorem late_wrap (st now : Int) (h1 : -9223372036854775808 ≤ st) (h3 : now ≤ 9223372036854775807) (h : st ≤ now) :
    IntKind.u64.wrap (IntKind.u64.wrap now - IntKind.u64.wrap st) = now - st := by
  simp only [IntKind.wrap, IntKind.signed, IntKind.bits]
  simp
  omega
def I64 (n : Int) : Prop := -9223372036854775808 ≤ n ∧ n ≤ 9223372036854775807
theorem late_any (st now : Int) (w : World) (h1 : I64 st) (h2 : I64 now) :
    Calls Try.prog 35 #[.int .i64 st, .int .i64 now] w fun e w' => e = .returned (.bool (lateB st now)) ∧ w = w' := by
  unfold I64 at h1 h2
  unfold lateB
  by_cases h : st ≤ now
  · have hw := late_wrap st now h1.1 h2.2 h
    rw [show (decide (st + 60 ≤ now)) = decide ((60 : Int) ≤ now - st) from decide_eq_decide.2 (by omega)]
    clear h1 h2
    go_enter Try.func35, Try.ntmps35
    go_wp2_with fail
    go_ret
    exact ⟨rfl, rfl⟩
  · rw [decide_eq_false (show ¬ st + 60 ≤ now by omega)]
    have h4 := decide_eq_false h
    clear h1 h2
    go_enter Try.func35, Try.ntmps35
    go_wp2_with fail
    go_ret
    exact ⟨rfl, rfl⟩
theorem spBox (x : Sp) (w : World) : Below w.heap.size w (w.alloc (.cells #[.int .i64 x.tr, .int .i64 x.id, .int .i64 x.pa, .string ⟨x.sv.toArray⟩, .string ⟨x.ho.toArray⟩, .int .i64 x.st, .int .i64 x.du, .string ⟨x.no.toArray⟩] 23)) := (Below.refl _ _).alloc (Nat.le_refl _) _
theorem expired_any (x : Sp) (now : Int) (w : World) (h1 : I64 x.st) (h2 : I64 now) :
    Calls Try.prog 15 #[spVal x, .int .i64 now] w fun e w' => e = .returned (.bool (lateB x.st now)) ∧ Below w.heap.size w w' := by
  have cl := fun W => late_any x.st now W h1 h2
  have CL := Lib.hid cl
  have b0 := spBox x w
  obtain ⟨a0, a1, a2, a3, a4, a5, a6, a7⟩ := (SpAt.boxed x w).cell
  clear cl h1 h2
  unfold spVal
  go_enter Try.func15, Try.ntmps15
  go_wp2_with fail
  refine (CL.out _).mono ?_
  rintro e w1 ⟨rfl, rfl⟩
  go_wp2_with fail
  go_ret
  exact ⟨rfl, b0⟩
theorem refExpired_any (x : Sp) (now : Int) (w : World) (h1 : I64 x.st) (h2 : I64 now) :
    Calls Try.prog 37 #[spVal x, .int .i64 now] w fun e w' => e = .returned (.bool (lateB x.st now)) ∧ Below w.heap.size w w' := by
  have b0 := spBox x w
  obtain ⟨a0, a1, a2, a3, a4, a5, a6, a7⟩ := (SpAt.boxed x w).cell
  unfold I64 at h1 h2
  unfold lateB spVal
  by_cases h : x.st ≤ now
  · have hw := late_wrap x.st now h1.1 h2.2 h
    rw [show (decide (x.st + 60 ≤ now)) = decide ((60 : Int) ≤ now - x.st) from decide_eq_decide.2 (by omega)]
    clear h1 h2
    go_enter Try.func37, Try.ntmps37
    go_wp2_with fail
    go_ret
    exact ⟨rfl, b0⟩
  · rw [decide_eq_false (show ¬ x.st + 60 ≤ now by omega)]
    have h4 := decide_eq_false h
    clear h1 h2
    go_enter Try.func37, Try.ntmps37
    go_wp2_with fail
    go_ret
    exact ⟨rfl, b0⟩
/-- two cells lie in a block of their own -/
def TwoAt (g : Nat) (a b : Ce) (w : World) : Prop := w.heap[g]? = some (.cells #[.string ⟨a.k.toArray⟩, .int .i64 a.q, .string ⟨a.v.toArray⟩, .string ⟨b.k.toArray⟩, .int .i64 b.q, .string ⟨b.v.toArray⟩] 25 (0, 0))
theorem TwoAt.later {g : Nat} {a b : Ce} {w w' : World} (h : TwoAt g a b w) (hb : Below w.heap.size w w') : TwoAt g a b w' := blk_later h hb
theorem TwoAt.row {g : Nat} {a b : Ce} {w : World} (h : TwoAt g a b w) : RowAt g 0 [a, b] w := by
  refine ⟨(Array.getElem?_eq_some_iff.1 h).1, fun i hi j v hv => ?_⟩
  rw [cell_of_row w g _ _ _ _ h]
  have hi' : i < 2 := hi
  have hj : j < 3 := by
    have := (List.getElem?_eq_some_iff.1 hv).1
    simpa [ceRow] using this
  rcases (by omega : i = 0 ∨ i = 1) with rfl | rfl <;> rcases (by omega : j = 0 ∨ j = 1 ∨ j = 2) with rfl | rfl | rfl <;> simpa [ceRow] using hv
theorem TwoAt.sl {g : Nat} {a b : Ce} {w : World} (h : TwoAt g a b w) : SlAt (.slice (some ⟨g, 0, none⟩) 2 2) [a, b] w :=
  ⟨some ⟨g, 0, none⟩, 2, rfl, by simp, by unfold maxLen; omega, fun _ => ⟨g, 0, rfl, h.row⟩⟩
theorem TwoAt.cell {g : Nat} {a b : Ce} {w : World} (h : TwoAt g a b w) : (w.cell? ⟨g, 0, none⟩ = some (.string ⟨a.k.toArray⟩) ∧ w.cell? ⟨g, 1, none⟩ = some (.int .i64 a.q) ∧ w.cell? ⟨g, 2, none⟩ = some (.string ⟨a.v.toArray⟩)) ∧
    w.cell? ⟨g, 3, none⟩ = some (.string ⟨b.k.toArray⟩) ∧ w.cell? ⟨g, 4, none⟩ = some (.int .i64 b.q) ∧ w.cell? ⟨g, 5, none⟩ = some (.string ⟨b.v.toArray⟩) := by
  refine ⟨⟨?_, ?_, ?_⟩, ?_, ?_, ?_⟩ <;> (rw [cell_of_row w g _ _ _ _ h]; rfl)
/-- what Cells tells -/
def CellsEx (x : Sp) (w : World) (e : Ending) (w' : World) : Prop :=
  Below w.heap.size w w' ∧ ((x.ok = false ∧ e = .returned (.tuple #[.slice none 0 0, .int .i64 2])) ∨
    (x.ok = true ∧ ∃ g, w.heap.size ≤ g ∧ e = .returned (.tuple #[.slice (some ⟨g, 0, none⟩) 2 2, .int .i64 0]) ∧ TwoAt g (cellA x) (cellI x) w'))
theorem ofKey_ok {x : Sp} (h : x.ok = true) : ofKey x.tr x.id = some (sKey x.tr x.id) := by
  unfold ofKey
  rw [if_pos (ok_ids h)]
theorem indexKey_ok {x : Sp} (h : x.ok = true) : indexKey x = some (xKey x.sv x.ho x.st x.tr x.id) := by
  unfold indexKey
  rw [if_pos h]
theorem cells_any (x : Sp) (w : World) (hf : Fits x) : Calls Try.prog 11 #[spVal x] w (CellsEx x w) := by
  have b0 := spBox x w
  have q0 := SpAt.boxed x w
  cases hx : x.ok with
  | false =>
    have ce := fun W => encode_bad x W hf hx
    have CE := Lib.hid ce
    have HX := Lib.hid hx
    obtain ⟨a0, a1, a2, a3, a4, a5, a6, a7⟩ := q0.cell
    clear ce hx q0 hf
    unfold spVal at *
    go_enter Try.func11, Try.ntmps11
    go_wp2_with fail
    refine (CE.out _).mono ?_
    rintro e w1 ⟨rfl, b1⟩
    go_wp2_with fail
    refine bodyPost_ret (v := .tuple #[.slice none 0 0, .int .i64 2]) (by simp [results, Try.results11, go_sem]) rfl ⟨btP b0 b1, .inl ⟨HX.out, rfl⟩⟩
  | true =>
    have ce := fun W => encode_good x W hx
    have co := fun W => of_any x.tr x.id W
    rw [ofKey_ok hx] at co
    have ci := fun W => index_any x W hf
    rw [indexKey_ok hx] at ci
    unfold errV at co ci
    have CE := Lib.hid ce
    have CO := Lib.hid co
    have CI := Lib.hid ci
    have HX := Lib.hid hx
    have Q0 := Lib.hid q0
    obtain ⟨a0, a1, a2, a3, a4, a5, a6, a7⟩ := q0.cell
    clear ce co ci hx hf
    have hk : (cellA x).k = sKey x.tr x.id ∧ (cellA x).v = x.bytes ∧ (cellI x).k = xKey x.sv x.ho x.st x.tr x.id := ⟨rfl, rfl, rfl⟩
    have TW : Hid (∀ g W, W.heap[g]? = some (.cells #[.string ⟨(sKey x.tr x.id).toArray⟩, .int .i64 0, .string ⟨x.bytes.toArray⟩, .string ⟨(xKey x.sv x.ho x.st x.tr x.id).toArray⟩, .int .i64 0, .string ⟨#[]⟩] 25 (0, 0)) → TwoAt g (cellA x) (cellI x) W) := Lib.hid (fun g W h => h)
    clear hk q0
    generalize sKey x.tr x.id = K at *
    generalize xKey x.sv x.ho x.st x.tr x.id = X at *
    generalize x.bytes = B at *
    unfold spVal at *
    go_enter Try.func11, Try.ntmps11
    go_wp2_with fail
    refine (CE.out _).mono ?_
    rintro e w1 ⟨rfl, b1⟩
    have B := Lib.hid (btP b0 b1)
    have Q0 := Lib.hid (blk_later Q0.out b1)
    clear b0 b1 a0 a1 a2 a3 a4 a5 a6 a7
    obtain ⟨a0, a1, a2, a3, a4, a5, a6, a7⟩ := SpAt.cell (x := x) Q0.out
    go_wp2_with fail
    refine (CO.out _).mono ?_
    rintro e w2 ⟨rfl, b2⟩
    have B := Lib.hid (btP B.out b2)
    have Q0 := Lib.hid (blk_later Q0.out b2)
    clear b2 a0 a1 a2 a3 a4 a5 a6 a7
    obtain ⟨a0, a1, a2, a3, a4, a5, a6, a7⟩ := SpAt.cell (x := x) Q0.out
    go_wp2_with fail
    refine (CI.out _).mono ?_
    rintro e w3 ⟨rfl, b3⟩
    have B := Lib.hid (btP B.out b3)
    clear b3 a0 a1 a2 a3 a4 a5 a6 a7 Q0
    go_wp2_with fail
    refine bodyPost_ret (v := .tuple #[.slice (some ⟨w3.heap.size, 0, none⟩) 2 2, .int .i64 0]) (by simp [results, Try.results11, go_sem]) rfl ⟨B.out.alloc B.out.size _, .inr ⟨HX.out, w3.heap.size, B.out.size, rfl, TW.out _ _ (heap_alloc_new w3 _)⟩⟩
theorem refCells_any (x : Sp) (w : World) (hf : Fits x) : Calls Try.prog 12 #[spVal x] w (CellsEx x w) := by
  have b0 := spBox x w
  have q0 := SpAt.boxed x w
  cases hx : x.ok with
  | false =>
    have ce := fun W => refEncode_bad x W hf hx
    have CE := Lib.hid ce
    have HX := Lib.hid hx
    obtain ⟨a0, a1, a2, a3, a4, a5, a6, a7⟩ := q0.cell
    clear ce hx q0 hf
    unfold spVal at *
    go_enter Try.func12, Try.ntmps12
    go_wp2_with fail
    refine (CE.out _).mono ?_
    rintro e w1 ⟨rfl, b1⟩
    go_wp2_with fail
    refine bodyPost_ret (v := .tuple #[.slice none 0 0, .int .i64 2]) (by simp [results, Try.results12, go_sem]) rfl ⟨btP b0 b1, .inl ⟨HX.out, rfl⟩⟩
  | true =>
    have ce := fun W => refEncode_good x W hx
    have co := fun W => refOf_any x.tr x.id W
    rw [ofKey_ok hx] at co
    have ci := fun W => refIndex_any x W hf
    rw [indexKey_ok hx] at ci
    unfold errV at co ci
    have CE := Lib.hid ce
    have CO := Lib.hid co
    have CI := Lib.hid ci
    have HX := Lib.hid hx
    have Q0 := Lib.hid q0
    obtain ⟨a0, a1, a2, a3, a4, a5, a6, a7⟩ := q0.cell
    clear ce co ci hx hf
    have hk : (cellA x).k = sKey x.tr x.id ∧ (cellA x).v = x.bytes ∧ (cellI x).k = xKey x.sv x.ho x.st x.tr x.id := ⟨rfl, rfl, rfl⟩
    have TW : Hid (∀ g W, W.heap[g]? = some (.cells #[.string ⟨(sKey x.tr x.id).toArray⟩, .int .i64 0, .string ⟨x.bytes.toArray⟩, .string ⟨(xKey x.sv x.ho x.st x.tr x.id).toArray⟩, .int .i64 0, .string ⟨#[]⟩] 25 (0, 0)) → TwoAt g (cellA x) (cellI x) W) := Lib.hid (fun g W h => h)
    clear hk q0
    generalize sKey x.tr x.id = K at *
    generalize xKey x.sv x.ho x.st x.tr x.id = X at *
    generalize x.bytes = B at *
    unfold spVal at *
    go_enter Try.func12, Try.ntmps12
    go_wp2_with fail
    refine (CE.out _).mono ?_
    rintro e w1 ⟨rfl, b1⟩
    have B := Lib.hid (btP b0 b1)
    have Q0 := Lib.hid (blk_later Q0.out b1)
    clear b0 b1 a0 a1 a2 a3 a4 a5 a6 a7
    obtain ⟨a0, a1, a2, a3, a4, a5, a6, a7⟩ := SpAt.cell (x := x) Q0.out
    go_wp2_with fail
    refine (CO.out _).mono ?_
    rintro e w2 ⟨rfl, b2⟩
    have B := Lib.hid (btP B.out b2)
    have Q0 := Lib.hid (blk_later Q0.out b2)
    clear b2 a0 a1 a2 a3 a4 a5 a6 a7
    obtain ⟨a0, a1, a2, a3, a4, a5, a6, a7⟩ := SpAt.cell (x := x) Q0.out
    go_wp2_with fail
    refine (CI.out _).mono ?_
    rintro e w3 ⟨rfl, b3⟩
    have B := Lib.hid (btP B.out b3)
    clear b3 a0 a1 a2 a3 a4 a5 a6 a7 Q0
    go_wp2_with fail
    refine bodyPost_ret (v := .tuple #[.slice (some ⟨w3.heap.size, 0, none⟩) 2 2, .int .i64 0]) (by simp [results, Try.results12, go_sem]) rfl ⟨B.out.alloc B.out.size _, .inr ⟨HX.out, w3.heap.size, B.out.size, rfl, TW.out _ _ (heap_alloc_new w3 _)⟩⟩
end Go.Proofs.Ytfkjdjdgcegniaa
