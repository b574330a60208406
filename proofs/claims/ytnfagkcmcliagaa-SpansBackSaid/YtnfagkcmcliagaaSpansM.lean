/- The walk of SpansBack. -/
import Derived.Test.YtnfagkcmcliagaaSpansK
namespace Go.Proofs.Ytnfagkcmcliagaa
open Go.RowKit Spoor

def boxS (x : Sp) : Obj := .cells #[.int .i64 x.tr, .int .i64 x.id, .int .i64 x.pa, .string ⟨x.sv.toArray⟩, .string ⟨x.ho.toArray⟩, .int .i64 x.st, .int .i64 x.du, .string ⟨x.no.toArray⟩] 23
theorem spansBack_out (x : Sp) (s : ByteArray) (hf : Fits x) (hs : s.size ≤ 140737488351232) (hg : greatB x = true ∨ (greatB x = false ∧ (2000 : Int) < s.size)) (w : World) :
    Calls Try.prog 6 #[spVal x, .string s] w fun e w' => e = .returned (.bool true) ∧ Below w.heap.size w w' := by
  have cg := fun W => great_any x W hf
  unfold spVal at *
  rcases hg with hg | ⟨hg, hl⟩
  · rw [hg] at cg
    have CG := Lib.hid cg
    clear cg hg
    go_enter Try.func6, Try.ntmps6
    go_wp2_with fail
    refine (CG.out _).mono ?_
    rintro e w1 ⟨rfl, b1⟩
    go_wp2_with fail
    go_ret
    exact ⟨rfl, ((Below.refl _ _).alloc (Nat.le_refl _) _).trans (b1.mono (by simp))⟩
  · rw [hg] at cg
    have CG := Lib.hid cg
    clear cg hg
    go_enter Try.func6, Try.ntmps6
    go_wp2_with fail
    refine (CG.out _).mono ?_
    rintro e w1 ⟨rfl, b1⟩
    go_wp2_with fail
    go_ret
    exact ⟨rfl, ((Below.refl _ _).alloc (Nat.le_refl _) _).trans (b1.mono (by simp))⟩

theorem spansBack_okSome (x : Sp) (s : ByteArray) (hf : Fits x) (hg : greatB x = false) (hs : (s.size : Int) ≤ 2000) (hx : x.ok = true) (y : Sp) (hd : decodeSp s.data.toList = some y) (w : World) :
    Calls Try.prog 6 #[spVal x, .string s] w fun e w' => e = .returned (.bool true) ∧ Below w.heap.size w w' := by
  have cg := fun W => great_any x W hf
  rw [hg] at cg
  have c2 := fun W => check_any x W hf
  have c1 := fun W => encode_good x W hx
  rw [checkV_ok hx] at c2
  have c3 := fun W => decode_any ⟨x.bytes.toArray⟩ W (by have := bytes_length hx; simp only [ByteArray.size_mk', List.size_toArray]; omega)
  rw [show (⟨x.bytes.toArray⟩ : ByteArray).data.toList = x.bytes from rfl, decodeSp_bytes x hx] at c3
  have hl := bytes_length hx
  generalize x.bytes = t at *
  have c4 := fun W => decode_any s W (by omega)
  rw [hd] at c4
  obtain ⟨hy, hby⟩ := decodeSp_some hd
  have hfy : Fits y := by
    obtain ⟨_, _, _, _, _, f, g, k⟩ := ok_of hy
    have fl := nameOk_of f
    have gl := nameOk_of g
    exact ⟨by omega, by omega, by omega⟩
  have c5 := fun W => encode_good y W hy
  rw [hby, show (⟨s.data.toList.toArray⟩ : ByteArray) = s by cases s; simp] at c5
  have c6 := fun W => check_any y W hfy
  rw [checkV_ok hy] at c6
  clear hd hx hf hg hy hby hfy
  unfold decodeV at c3
  unfold decodeV at c4
  unfold spVal at *
  have CG := Lib.hid cg
  have C1 := Lib.hid c1
  have C2 := Lib.hid c2
  have C4 := Lib.hid c4
  have C3 := Lib.hid c3
  have C5 := Lib.hid c5
  have C6 := Lib.hid c6
  have CD := Lib.hid does_true
  clear cg c1 c2 c4 c3 c5 c6
  have hs2 : ¬ (2000 : Int) < s.size := by omega
  go_enter Try.func6, Try.ntmps6
  go_wp2_with fail
  refine (CG.out _).mono ?_
  rintro e w1 ⟨rfl, b1⟩
  have q1 := (SpAt.boxed x w).later b1 (by simp)
  have h1 : Below w.heap.size w w1 := ((Below.refl _ _).alloc (Nat.le_refl _) _).trans (b1.mono (by simp))
  clear b1
  obtain ⟨a0, a1, a2, a3, a4, a5, a6, a7⟩ := q1.cell
  go_wp2_with fail
  refine (C1.out _).mono ?_
  rintro e w2 ⟨rfl, b2⟩
  have q1 := q1.later b2 q1.lt
  have h2 := bt h1 b2
  clear b2 h1 a0 a1 a2 a3 a4 a5 a6 a7
  obtain ⟨a0, a1, a2, a3, a4, a5, a6, a7⟩ := q1.cell
  go_wp2_with fail
  refine (C2.out _).mono ?_
  rintro e w3 ⟨rfl, b3⟩
  have q1 := q1.later b3 q1.lt
  have h3 := bt h2 b3
  clear b3 h2 a0 a1 a2 a3 a4 a5 a6 a7
  obtain ⟨a0, a1, a2, a3, a4, a5, a6, a7⟩ := q1.cell
  go_wp2_with fail
  refine (C3.out _).mono ?_
  rintro e w4 ⟨rfl, b4⟩
  have q1 := q1.later b4 q1.lt
  have h4 := bt h3 b4
  clear b4 h3 a0 a1 a2 a3 a4 a5 a6 a7
  obtain ⟨a0, a1, a2, a3, a4, a5, a6, a7⟩ := q1.cell
  go_upto_region 8 with fail
  have q2 := SpAt.boxed x w4
  have h5 := h4.alloc h4.size (boxS x)
  have q1 := q1.alloc' (boxS x)
  unfold boxS at h5 q1
  clear h4 a0 a1 a2 a3 a4 a5 a6 a7
  generalize w4.heap.size = p2 at *
  generalize w4.alloc _ = w5 at *
  obtain ⟨a0, a1, a2, a3, a4, a5, a6, a7⟩ := q1.cell
  obtain ⟨d0, d1, d2, d3, d4, d5, d6, d7⟩ := q2.cell
  have hl90 : ¬ (90 : Int) < t.length := by omega
  go_wp2_with fail
  refine (C4.out _).mono ?_
  rintro e w6 ⟨rfl, b6⟩
  have h6 := bt h5 b6
  clear b6
  go_upto_region 13 with fail
  have q3 := SpAt.boxed y w6
  have h7 := h6.alloc h6.size (boxS y)
  unfold boxS at h7
  clear h6
  generalize w6.heap.size = p3 at *
  generalize w6.alloc _ = w7 at *
  obtain ⟨f0, f1, f2, f3, f4, f5, f6, f7⟩ := q3.cell
  go_wp2_with fail
  refine (C5.out _).mono ?_
  rintro e w8 ⟨rfl, b8⟩
  have q3 := q3.later b8 q3.lt
  have h8 := bt h7 b8
  clear h7 b8 f0 f1 f2 f3 f4 f5 f6 f7
  obtain ⟨f0, f1, f2, f3, f4, f5, f6, f7⟩ := q3.cell
  go_wp2_with fail
  refine (C6.out _).mono ?_
  rintro e w9 ⟨rfl, b9⟩
  have h7 := bt h8 b9
  go_wp2_with fail
  refine (CD.out _).mono ?_
  rintro e w10 ⟨rfl, b10⟩
  go_wp2_with fail
  go_ret
  exact ⟨rfl, bt h7 b10⟩

theorem spansBack_okNone (x : Sp) (s : ByteArray) (hf : Fits x) (hg : greatB x = false) (hs : (s.size : Int) ≤ 2000) (hx : x.ok = true) (hd : decodeSp s.data.toList = none) (w : World) :
    Calls Try.prog 6 #[spVal x, .string s] w fun e w' => e = .returned (.bool true) ∧ Below w.heap.size w w' := by
  have cg := fun W => great_any x W hf
  rw [hg] at cg
  have c2 := fun W => check_any x W hf
  have c1 := fun W => encode_good x W hx
  rw [checkV_ok hx] at c2
  have c3 := fun W => decode_any ⟨x.bytes.toArray⟩ W (by have := bytes_length hx; simp only [ByteArray.size_mk', List.size_toArray]; omega)
  rw [show (⟨x.bytes.toArray⟩ : ByteArray).data.toList = x.bytes from rfl, decodeSp_bytes x hx] at c3
  have hl := bytes_length hx
  generalize x.bytes = t at *
  have c4 := fun W => decode_any s W (by omega)
  rw [hd] at c4
  clear hd hx hf hg
  unfold decodeV at c3
  unfold decodeV at c4
  unfold spVal Sp.zero at *
  have CG := Lib.hid cg
  have C1 := Lib.hid c1
  have C2 := Lib.hid c2
  have C4 := Lib.hid c4
  have C3 := Lib.hid c3
  have CD := Lib.hid does_true
  clear cg c1 c2 c4 c3
  have hs2 : ¬ (2000 : Int) < s.size := by omega
  go_enter Try.func6, Try.ntmps6
  go_wp2_with fail
  refine (CG.out _).mono ?_
  rintro e w1 ⟨rfl, b1⟩
  have q1 := (SpAt.boxed x w).later b1 (by simp)
  have h1 : Below w.heap.size w w1 := ((Below.refl _ _).alloc (Nat.le_refl _) _).trans (b1.mono (by simp))
  clear b1
  obtain ⟨a0, a1, a2, a3, a4, a5, a6, a7⟩ := q1.cell
  go_wp2_with fail
  refine (C1.out _).mono ?_
  rintro e w2 ⟨rfl, b2⟩
  have q1 := q1.later b2 q1.lt
  have h2 := bt h1 b2
  clear b2 h1 a0 a1 a2 a3 a4 a5 a6 a7
  obtain ⟨a0, a1, a2, a3, a4, a5, a6, a7⟩ := q1.cell
  go_wp2_with fail
  refine (C2.out _).mono ?_
  rintro e w3 ⟨rfl, b3⟩
  have q1 := q1.later b3 q1.lt
  have h3 := bt h2 b3
  clear b3 h2 a0 a1 a2 a3 a4 a5 a6 a7
  obtain ⟨a0, a1, a2, a3, a4, a5, a6, a7⟩ := q1.cell
  go_wp2_with fail
  refine (C3.out _).mono ?_
  rintro e w4 ⟨rfl, b4⟩
  have q1 := q1.later b4 q1.lt
  have h4 := bt h3 b4
  clear b4 h3 a0 a1 a2 a3 a4 a5 a6 a7
  obtain ⟨a0, a1, a2, a3, a4, a5, a6, a7⟩ := q1.cell
  go_upto_region 8 with fail
  have q2 := SpAt.boxed x w4
  have h5 := h4.alloc h4.size (boxS x)
  have q1 := q1.alloc' (boxS x)
  unfold boxS at h5 q1
  clear h4 a0 a1 a2 a3 a4 a5 a6 a7
  generalize w4.heap.size = p2 at *
  generalize w4.alloc _ = w5 at *
  obtain ⟨a0, a1, a2, a3, a4, a5, a6, a7⟩ := q1.cell
  obtain ⟨d0, d1, d2, d3, d4, d5, d6, d7⟩ := q2.cell
  have hl90 : ¬ (90 : Int) < t.length := by omega
  go_wp2_with fail
  refine (C4.out _).mono ?_
  rintro e w6 ⟨rfl, b6⟩
  have h6 := bt h5 b6
  clear b6
  go_upto_region 13 with fail
  have q3 := SpAt.boxed Sp.zero w6
  have h7 := h6.alloc h6.size (boxS Sp.zero)
  unfold boxS at h7
  unfold Sp.zero at q3 h7
  dsimp only at q3 h7
  clear h6
  generalize w6.heap.size = p3 at *
  generalize w6.alloc _ = w7 at *
  obtain ⟨f0, f1, f2, f3, f4, f5, f6, f7⟩ := q3.cell
  dsimp only at f0 f1 f2 f3 f4 f5 f6 f7
  go_wp2_with fail
  refine (CD.out _).mono ?_
  rintro e w10 ⟨rfl, b10⟩
  go_wp2_with fail
  go_ret
  exact ⟨rfl, bt h7 b10⟩

theorem spansBack_noSome (x : Sp) (s : ByteArray) (hf : Fits x) (hg : greatB x = false) (hs : (s.size : Int) ≤ 2000) (hx : x.ok = false) (y : Sp) (hd : decodeSp s.data.toList = some y) (w : World) :
    Calls Try.prog 6 #[spVal x, .string s] w fun e w' => e = .returned (.bool true) ∧ Below w.heap.size w w' := by
  have cg := fun W => great_any x W hf
  rw [hg] at cg
  have c2 := fun W => check_any x W hf
  have c1 := fun W => encode_bad x W hf hx
  rw [checkV_no hx] at c2
  have c4 := fun W => decode_any s W (by omega)
  rw [hd] at c4
  obtain ⟨hy, hby⟩ := decodeSp_some hd
  have hfy : Fits y := by
    obtain ⟨_, _, _, _, _, f, g, k⟩ := ok_of hy
    have fl := nameOk_of f
    have gl := nameOk_of g
    exact ⟨by omega, by omega, by omega⟩
  have c5 := fun W => encode_good y W hy
  rw [hby, show (⟨s.data.toList.toArray⟩ : ByteArray) = s by cases s; simp] at c5
  have c6 := fun W => check_any y W hfy
  rw [checkV_ok hy] at c6
  clear hd hx hf hg hy hby hfy
  unfold decodeV at c4
  unfold spVal at *
  have CG := Lib.hid cg
  have C1 := Lib.hid c1
  have C2 := Lib.hid c2
  have C4 := Lib.hid c4
  have C5 := Lib.hid c5
  have C6 := Lib.hid c6
  have CD := Lib.hid does_true
  clear cg c1 c2 c4 c5 c6
  have hs2 : ¬ (2000 : Int) < s.size := by omega
  go_enter Try.func6, Try.ntmps6
  go_wp2_with fail
  refine (CG.out _).mono ?_
  rintro e w1 ⟨rfl, b1⟩
  have q1 := (SpAt.boxed x w).later b1 (by simp)
  have h1 : Below w.heap.size w w1 := ((Below.refl _ _).alloc (Nat.le_refl _) _).trans (b1.mono (by simp))
  clear b1
  obtain ⟨a0, a1, a2, a3, a4, a5, a6, a7⟩ := q1.cell
  go_wp2_with fail
  refine (C1.out _).mono ?_
  rintro e w2 ⟨rfl, b2⟩
  have q1 := q1.later b2 q1.lt
  have h2 := bt h1 b2
  clear b2 h1 a0 a1 a2 a3 a4 a5 a6 a7
  obtain ⟨a0, a1, a2, a3, a4, a5, a6, a7⟩ := q1.cell
  go_wp2_with fail
  refine (C2.out _).mono ?_
  rintro e w3 ⟨rfl, b3⟩
  have q1 := q1.later b3 q1.lt
  have h3 := bt h2 b3
  clear b3 h2 a0 a1 a2 a3 a4 a5 a6 a7
  obtain ⟨a0, a1, a2, a3, a4, a5, a6, a7⟩ := q1.cell
  go_wp2_with fail
  refine (C4.out _).mono ?_
  rintro e w6 ⟨rfl, b6⟩
  have h6 := bt h3 b6
  clear b6
  go_upto_region 13 with fail
  have q3 := SpAt.boxed y w6
  have h7 := h6.alloc h6.size (boxS y)
  unfold boxS at h7
  clear h6
  generalize w6.heap.size = p3 at *
  generalize w6.alloc _ = w7 at *
  obtain ⟨f0, f1, f2, f3, f4, f5, f6, f7⟩ := q3.cell
  go_wp2_with fail
  refine (C5.out _).mono ?_
  rintro e w8 ⟨rfl, b8⟩
  have q3 := q3.later b8 q3.lt
  have h8 := bt h7 b8
  clear h7 b8 f0 f1 f2 f3 f4 f5 f6 f7
  obtain ⟨f0, f1, f2, f3, f4, f5, f6, f7⟩ := q3.cell
  go_wp2_with fail
  refine (C6.out _).mono ?_
  rintro e w9 ⟨rfl, b9⟩
  have h7 := bt h8 b9
  go_wp2_with fail
  refine (CD.out _).mono ?_
  rintro e w10 ⟨rfl, b10⟩
  go_wp2_with fail
  go_ret
  exact ⟨rfl, bt h7 b10⟩

theorem spansBack_noNone (x : Sp) (s : ByteArray) (hf : Fits x) (hg : greatB x = false) (hs : (s.size : Int) ≤ 2000) (hx : x.ok = false) (hd : decodeSp s.data.toList = none) (w : World) :
    Calls Try.prog 6 #[spVal x, .string s] w fun e w' => e = .returned (.bool true) ∧ Below w.heap.size w w' := by
  have cg := fun W => great_any x W hf
  rw [hg] at cg
  have c2 := fun W => check_any x W hf
  have c1 := fun W => encode_bad x W hf hx
  rw [checkV_no hx] at c2
  have c4 := fun W => decode_any s W (by omega)
  rw [hd] at c4
  clear hd hx hf hg
  unfold decodeV at c4
  unfold spVal Sp.zero at *
  have CG := Lib.hid cg
  have C1 := Lib.hid c1
  have C2 := Lib.hid c2
  have C4 := Lib.hid c4
  have CD := Lib.hid does_true
  clear cg c1 c2 c4
  have hs2 : ¬ (2000 : Int) < s.size := by omega
  go_enter Try.func6, Try.ntmps6
  go_wp2_with fail
  refine (CG.out _).mono ?_
  rintro e w1 ⟨rfl, b1⟩
  have q1 := (SpAt.boxed x w).later b1 (by simp)
  have h1 : Below w.heap.size w w1 := ((Below.refl _ _).alloc (Nat.le_refl _) _).trans (b1.mono (by simp))
  clear b1
  obtain ⟨a0, a1, a2, a3, a4, a5, a6, a7⟩ := q1.cell
  go_wp2_with fail
  refine (C1.out _).mono ?_
  rintro e w2 ⟨rfl, b2⟩
  have q1 := q1.later b2 q1.lt
  have h2 := bt h1 b2
  clear b2 h1 a0 a1 a2 a3 a4 a5 a6 a7
  obtain ⟨a0, a1, a2, a3, a4, a5, a6, a7⟩ := q1.cell
  go_wp2_with fail
  refine (C2.out _).mono ?_
  rintro e w3 ⟨rfl, b3⟩
  have q1 := q1.later b3 q1.lt
  have h3 := bt h2 b3
  clear b3 h2 a0 a1 a2 a3 a4 a5 a6 a7
  obtain ⟨a0, a1, a2, a3, a4, a5, a6, a7⟩ := q1.cell
  go_wp2_with fail
  refine (C4.out _).mono ?_
  rintro e w6 ⟨rfl, b6⟩
  have h6 := bt h3 b6
  clear b6
  go_upto_region 13 with fail
  have q3 := SpAt.boxed Sp.zero w6
  have h7 := h6.alloc h6.size (boxS Sp.zero)
  unfold boxS at h7
  unfold Sp.zero at q3 h7
  dsimp only at q3 h7
  clear h6
  generalize w6.heap.size = p3 at *
  generalize w6.alloc _ = w7 at *
  obtain ⟨f0, f1, f2, f3, f4, f5, f6, f7⟩ := q3.cell
  dsimp only at f0 f1 f2 f3 f4 f5 f6 f7
  go_wp2_with fail
  refine (CD.out _).mono ?_
  rintro e w10 ⟨rfl, b10⟩
  go_wp2_with fail
  go_ret
  exact ⟨rfl, bt h7 b10⟩

theorem spansBack_law (x : Sp) (s : ByteArray) (hf : Fits x) (hs : s.size ≤ 140737488351232) (w : World) :
    Calls Try.prog 6 #[spVal x, .string s] w fun e w' => e = .returned (.bool true) ∧ Below w.heap.size w w' := by
  cases hg : greatB x with
  | true => exact spansBack_out x s hf hs (.inl hg) w
  | false =>
    by_cases hl : (2000 : Int) < s.size
    · exact spansBack_out x s hf hs (.inr ⟨hg, hl⟩) w
    · cases hx : x.ok with
      | true =>
        cases hd : decodeSp s.data.toList with
        | none => exact spansBack_okNone x s hf hg (by omega) hx hd w
        | some y => exact spansBack_okSome x s hf hg (by omega) hx y hd w
      | false =>
        cases hd : decodeSp s.data.toList with
        | none => exact spansBack_noNone x s hf hg (by omega) hx hd w
        | some y => exact spansBack_noSome x s hf hg (by omega) hx y hd w
end Go.Proofs.Ytnfagkcmcliagaa
