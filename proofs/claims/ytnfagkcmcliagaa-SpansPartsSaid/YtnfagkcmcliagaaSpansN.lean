/- The walk of SpansParts. -/
import Derived.Test.YtnfagkcmcliagaaSpansK
namespace Go.Proofs.Ytnfagkcmcliagaa
open Go.RowKit Spoor

theorem parts_num {L r : List UInt8} {p : Nat} {z : Int} (hd : L.drop p = put z.toNat ++ r) (h0 : 0 ≤ z) (h1 : z ≤ 2147483647) :
    getAt L (p : Int) = .tuple #[.int .i64 z, .int .i64 ((p + (put z.toNat).length : Nat) : Int), .bool true] := by
  have := getAt_some (p := p) (l := L) (n := z.toNat) (k := (put z.toNat).length) (by rw [hd]; exact get_put _ _ (by omega))
  rwa [Int.toNat_of_nonneg h0] at this
theorem parts_text {L r t : List UInt8} {p : Nat} (hd : L.drop p = putText t ++ r) (h1 : t.length ≤ 1000) :
    getTextAt L (p : Int) = .tuple #[.string ⟨t.toArray⟩, .int .i64 ((p + (putText t).length : Nat) : Int), .bool true] :=
  getTextAt_some (by rw [hd]; exact getText_putText _ _ (by omega))

/-- what stands where in a span's bytes -/
theorem parts_at (x : Sp) (h : x.ok = true) : ∃ p1 p2 p3 p4 p5 p6 p7 : Nat, getAt x.bytes (0 : Int) = .tuple #[.int .i64 x.tr, .int .i64 (p1 : Int), .bool true] ∧
    getAt x.bytes (p1 : Int) = .tuple #[.int .i64 x.id, .int .i64 (p2 : Int), .bool true] ∧
    getAt x.bytes (p2 : Int) = .tuple #[.int .i64 x.pa, .int .i64 (p3 : Int), .bool true] ∧
    getAt x.bytes (p3 : Int) = .tuple #[.int .i64 x.st, .int .i64 (p4 : Int), .bool true] ∧
    getAt x.bytes (p4 : Int) = .tuple #[.int .i64 x.du, .int .i64 (p5 : Int), .bool true] ∧
    getTextAt x.bytes (p5 : Int) = .tuple #[.string ⟨x.sv.toArray⟩, .int .i64 (p6 : Int), .bool true] ∧
    getTextAt x.bytes (p6 : Int) = .tuple #[.string ⟨x.ho.toArray⟩, .int .i64 (p7 : Int), .bool true] ∧
    getTextAt x.bytes (p7 : Int) = .tuple #[.string ⟨x.no.toArray⟩, .int .i64 (x.bytes.length : Int), .bool true] := by
  obtain ⟨⟨a1, a2⟩, ⟨b1, b2⟩, ⟨c1, c2⟩, ⟨d1, d2⟩, ⟨e1, e2⟩, f, g, k⟩ := ok_of h
  have fl := nameOk_of f
  have gl := nameOk_of g
  have hl : x.bytes = put x.tr.toNat ++ (put x.id.toNat ++ (put x.pa.toNat ++ (put x.st.toNat ++ (put x.du.toNat ++ (putText x.sv ++ (putText x.ho ++ (putText x.no ++ []))))))) := by
    simp [Sp.bytes]
  have hlen : x.bytes.length = 0 + (put x.tr.toNat).length + (put x.id.toNat).length + (put x.pa.toNat).length + (put x.st.toNat).length + (put x.du.toNat).length + (putText x.sv).length + (putText x.ho).length + (putText x.no).length := by
    simp [Sp.bytes]; omega
  generalize x.bytes = L at *
  have q0 : L.drop 0 = put x.tr.toNat ++ (put x.id.toNat ++ (put x.pa.toNat ++ (put x.st.toNat ++ (put x.du.toNat ++ (putText x.sv ++ (putText x.ho ++ (putText x.no ++ []))))))) := hl
  have q1 := drop_of q0
  have q2 := drop_of q1
  have q3 := drop_of q2
  have q4 := drop_of q3
  have q5 := drop_of q4
  have q6 := drop_of q5
  have q7 := drop_of q6
  have t7 := parts_text q7 (by omega)
  rw [← hlen] at t7
  exact ⟨_, _, _, _, _, _, _, parts_num q0 (by omega) (by omega), parts_num q1 (by omega) (by omega), parts_num q2 (by omega) (by omega), parts_num q3 (by omega) (by omega), parts_num q4 (by omega) (by omega), parts_text q5 (by omega), parts_text q6 (by omega), t7⟩

theorem spansParts_out (x : Sp) (hf : Fits x) (hg : greatB x = true) (w : World) :
    Calls Try.prog 10 #[spVal x] w fun e w' => e = .returned (.bool true) ∧ Below w.heap.size w w' := by
  have cg := fun W => great_any x W hf
  unfold spVal at *
  rw [hg] at cg
  have CG := Lib.hid cg
  clear cg hg
  go_enter Try.func10, Try.ntmps10
  go_wp2_with fail
  refine (CG.out _).mono ?_
  rintro e w1 ⟨rfl, b1⟩
  go_wp2_with fail
  go_ret
  exact ⟨rfl, ((Below.refl _ _).alloc (Nat.le_refl _) _).trans (b1.mono (by simp))⟩

theorem spansParts_no (x : Sp) (hf : Fits x) (hg : greatB x = false) (hx : x.ok = false) (w : World) :
    Calls Try.prog 10 #[spVal x] w fun e w' => e = .returned (.bool true) ∧ Below w.heap.size w w' := by
  have cg := fun W => great_any x W hf
  have c1 := fun W => encode_bad x W hf hx
  unfold spVal at *
  rw [hg] at cg
  have CG := Lib.hid cg
  have C1 := Lib.hid c1
  have CD := Lib.hid does_true
  clear cg hg c1 hx hf
  go_enter Try.func10, Try.ntmps10
  go_wp2_with fail
  refine (CG.out _).mono ?_
  rintro e w1 ⟨rfl, b1⟩
  have q1 := (SpAt.boxed x w).later b1 (by simp)
  have h1 : Below w.heap.size w w1 := ((Below.refl _ _).alloc (Nat.le_refl _) _).trans (b1.mono (by simp))
  clear b1
  obtain ⟨a0, a1, a2, a3, a4, a5, a6, a7⟩ := q1.cell
  go_wp2_with fail
  refine (C1.out _).mono ?_
  rintro e w2 ⟨rfl, b2⟩
  have h2 := bt h1 b2
  clear b2 a0 a1 a2 a3 a4 a5 a6 a7
  go_wp2_with fail
  refine (CD.out _).mono ?_
  rintro e w3 ⟨rfl, b3⟩
  go_wp2_with fail
  go_ret
  exact ⟨rfl, bt h2 b3⟩

set_option maxHeartbeats 2000000 in
theorem spansParts_ok (x : Sp) (hf : Fits x) (hg : greatB x = false) (hx : x.ok = true) (w : World) :
    Calls Try.prog 10 #[spVal x] w fun e w' => e = .returned (.bool true) ∧ Below w.heap.size w w' := by
  have cg := fun W => great_any x W hf
  have c1 := fun W => encode_good x W hx
  have hl := bytes_length hx
  obtain ⟨p1, p2, p3, p4, p5, p6, p7, g0, g1, g2, g3, g4, t0, t1, t2⟩ := parts_at x hx
  have n0 := fun W => get_any ⟨x.bytes.toArray⟩ (0 : Int) W (by unfold maxLen; simp only [ByteArray.size_mk', List.size_toArray]; omega)
  rw [show (⟨x.bytes.toArray⟩ : ByteArray).data.toList = x.bytes from rfl, g0] at n0
  have n1 := fun W => get_any ⟨x.bytes.toArray⟩ (p1 : Int) W (by unfold maxLen; simp only [ByteArray.size_mk', List.size_toArray]; omega)
  rw [show (⟨x.bytes.toArray⟩ : ByteArray).data.toList = x.bytes from rfl, g1] at n1
  have n2 := fun W => get_any ⟨x.bytes.toArray⟩ (p2 : Int) W (by unfold maxLen; simp only [ByteArray.size_mk', List.size_toArray]; omega)
  rw [show (⟨x.bytes.toArray⟩ : ByteArray).data.toList = x.bytes from rfl, g2] at n2
  have n3 := fun W => get_any ⟨x.bytes.toArray⟩ (p3 : Int) W (by unfold maxLen; simp only [ByteArray.size_mk', List.size_toArray]; omega)
  rw [show (⟨x.bytes.toArray⟩ : ByteArray).data.toList = x.bytes from rfl, g3] at n3
  have n4 := fun W => get_any ⟨x.bytes.toArray⟩ (p4 : Int) W (by unfold maxLen; simp only [ByteArray.size_mk', List.size_toArray]; omega)
  rw [show (⟨x.bytes.toArray⟩ : ByteArray).data.toList = x.bytes from rfl, g4] at n4
  have m0 := fun W => getText_any ⟨x.bytes.toArray⟩ (p5 : Int) W (by unfold maxLen; simp only [ByteArray.size_mk', List.size_toArray]; omega)
  rw [show (⟨x.bytes.toArray⟩ : ByteArray).data.toList = x.bytes from rfl, t0] at m0
  have m1 := fun W => getText_any ⟨x.bytes.toArray⟩ (p6 : Int) W (by unfold maxLen; simp only [ByteArray.size_mk', List.size_toArray]; omega)
  rw [show (⟨x.bytes.toArray⟩ : ByteArray).data.toList = x.bytes from rfl, t1] at m1
  have m2 := fun W => getText_any ⟨x.bytes.toArray⟩ (p7 : Int) W (by unfold maxLen; simp only [ByteArray.size_mk', List.size_toArray]; omega)
  rw [show (⟨x.bytes.toArray⟩ : ByteArray).data.toList = x.bytes from rfl, t2] at m2
  clear g0 g1 g2 g3 g4 t0 t1 t2
  generalize x.bytes = t at *
  unfold spVal at *
  rw [hg] at cg
  have CG := Lib.hid cg
  have C1 := Lib.hid c1
  have CD := Lib.hid does_true
  have N0 := Lib.hid n0
  have N1 := Lib.hid n1
  have N2 := Lib.hid n2
  have N3 := Lib.hid n3
  have N4 := Lib.hid n4
  have M0 := Lib.hid m0
  have M1 := Lib.hid m1
  have M2 := Lib.hid m2
  clear cg hg c1 hx hf n0 n1 n2 n3 n4 m0 m1 m2
  go_enter Try.func10, Try.ntmps10
  go_wp2_with fail
  refine (CG.out _).mono ?_
  rintro e w1 ⟨rfl, b1⟩
  have q1 := (SpAt.boxed x w).later b1 (by simp)
  have h1 : Below w.heap.size w w1 := ((Below.refl _ _).alloc (Nat.le_refl _) _).trans (b1.mono (by simp))
  clear b1
  obtain ⟨a0, a1, a2, a3, a4, a5, a6, a7⟩ := q1.cell
  go_wp2_with fail
  refine (C1.out _).mono ?_
  rintro e w2 ⟨rfl, b2⟩
  have q1 := q1.later b2 q1.lt
  have h2 := bt h1 b2
  clear b2 h1 a0 a1 a2 a3 a4 a5 a6 a7
  obtain ⟨a0, a1, a2, a3, a4, a5, a6, a7⟩ := q1.cell
  go_upto_region 7 with fail
  have q1 := q1.alloc' (.cells #[.int .i64 x.tr, .int .i64 x.id, .int .i64 x.pa, .int .i64 x.st, .int .i64 x.du] 3)
  have h3 := h2.alloc h2.size (.cells #[.int .i64 x.tr, .int .i64 x.id, .int .i64 x.pa, .int .i64 x.st, .int .i64 x.du] 3)
  have hn := heap_alloc_new w2 (.cells #[.int .i64 x.tr, .int .i64 x.id, .int .i64 x.pa, .int .i64 x.st, .int .i64 x.du] 3)
  generalize w2.alloc _ = w3 at *
  generalize w2.heap.size = g at *
  have n0 : w3.cell? ⟨g, 0, none⟩ = some (.int .i64 x.tr) := by rw [cell_of_row w3 g _ _ _ _ hn]; rfl
  have n1 : w3.cell? ⟨g, 1, none⟩ = some (.int .i64 x.id) := by rw [cell_of_row w3 g _ _ _ _ hn]; rfl
  have n2 : w3.cell? ⟨g, 2, none⟩ = some (.int .i64 x.pa) := by rw [cell_of_row w3 g _ _ _ _ hn]; rfl
  have n3 : w3.cell? ⟨g, 3, none⟩ = some (.int .i64 x.st) := by rw [cell_of_row w3 g _ _ _ _ hn]; rfl
  have n4 : w3.cell? ⟨g, 4, none⟩ = some (.int .i64 x.du) := by rw [cell_of_row w3 g _ _ _ _ hn]; rfl
  clear h2 a0 a1 a2 a3 a4 a5 a6 a7 hn
  obtain ⟨a0, a1, a2, a3, a4, a5, a6, a7⟩ := q1.cell
  go_wp2_with fail
  refine wp_loop_rounds 6 ?_
  rw [rounds_succ]
  go_wp2_with fail
  refine (N0.out _).mono ?_
  rintro e wx ⟨rfl, rfl⟩
  go_wp2_with fail
  rw [rounds_succ]
  go_wp2_with fail
  refine (N1.out _).mono ?_
  rintro e wx ⟨rfl, rfl⟩
  go_wp2_with fail
  rw [rounds_succ]
  go_wp2_with fail
  refine (N2.out _).mono ?_
  rintro e wx ⟨rfl, rfl⟩
  go_wp2_with fail
  rw [rounds_succ]
  go_wp2_with fail
  refine (N3.out _).mono ?_
  rintro e wx ⟨rfl, rfl⟩
  go_wp2_with fail
  rw [rounds_succ]
  go_wp2_with fail
  refine (N4.out _).mono ?_
  rintro e wx ⟨rfl, rfl⟩
  go_wp2_with fail
  rw [rounds_succ]
  go_upto_region 16 with fail
  have h4 := h3.alloc h3.size (.cells #[.string ⟨x.sv.toArray⟩, .string ⟨x.ho.toArray⟩, .string ⟨x.no.toArray⟩] 9)
  have hn := heap_alloc_new w3 (.cells #[.string ⟨x.sv.toArray⟩, .string ⟨x.ho.toArray⟩, .string ⟨x.no.toArray⟩] 9)
  clear n0 n1 n2 n3 n4 h3 a0 a1 a2 a3 a4 a5 a6 a7 q1
  generalize w3.alloc _ = w4 at *
  generalize w3.heap.size = k at *
  have n0 : w4.cell? ⟨k, 0, none⟩ = some (.string ⟨x.sv.toArray⟩) := by rw [cell_of_row w4 k _ _ _ _ hn]; rfl
  have n1 : w4.cell? ⟨k, 1, none⟩ = some (.string ⟨x.ho.toArray⟩) := by rw [cell_of_row w4 k _ _ _ _ hn]; rfl
  have n2 : w4.cell? ⟨k, 2, none⟩ = some (.string ⟨x.no.toArray⟩) := by rw [cell_of_row w4 k _ _ _ _ hn]; rfl
  clear hn
  go_wp2_with fail
  refine wp_loop_rounds 4 ?_
  rw [rounds_succ]
  go_wp2_with fail
  refine (M0.out _).mono ?_
  rintro e wx ⟨rfl, rfl⟩
  go_wp2_with fail
  rw [rounds_succ]
  go_wp2_with fail
  refine (M1.out _).mono ?_
  rintro e wx ⟨rfl, rfl⟩
  go_wp2_with fail
  rw [rounds_succ]
  go_wp2_with fail
  refine (M2.out _).mono ?_
  rintro e wx ⟨rfl, rfl⟩
  go_wp2_with fail
  rw [rounds_succ]
  go_wp2_with fail
  refine (CD.out _).mono ?_
  rintro e w5 ⟨rfl, b5⟩
  go_wp2_with fail
  go_ret
  exact ⟨rfl, bt h4 b5⟩

theorem spansParts_law (x : Sp) (hf : Fits x) (w : World) :
    Calls Try.prog 10 #[spVal x] w fun e w' => e = .returned (.bool true) ∧ Below w.heap.size w w' := by
  cases hg : greatB x with
  | true => exact spansParts_out x hf hg w
  | false =>
    cases hx : x.ok with
    | true => exact spansParts_ok x hf hg hx w
    | false => exact spansParts_no x hf hg hx w
end Go.Proofs.Ytnfagkcmcliagaa
