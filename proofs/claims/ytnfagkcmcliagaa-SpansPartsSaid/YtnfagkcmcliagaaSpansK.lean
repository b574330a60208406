/- The walks of the statements on spans. -/
import Derived.Test.YtnfagkcmcliagaaSpansJ
import Derived.Test.YtnfagkcmcliagaaSpansO
namespace Go.Proofs.Ytnfagkcmcliagaa
open Go.RowKit Spoor

theorem same_below {f : FuncId} {args : Array Value} {v : Value} {w : World} (h : Calls Try.prog f args w fun e w' => e = .returned v ∧ w = w') : Calls Try.prog f args w fun e w' => e = .returned v ∧ Below w.heap.size w w' :=
  h.mono fun _ _ ⟨a, b⟩ => ⟨a, b ▸ Below.refl _ _⟩
theorem alloc_size (w : World) (o : Obj) : (w.alloc o).heap.size = w.heap.size + 1 := by simp
theorem below_new2' {w : World} (o o' : Obj) : Below w.heap.size w ((w.alloc o).alloc o') := (((Below.refl _ _).alloc (Nat.le_refl _) o)).alloc (by simp) o'
theorem decodeV_form (d : Option Sp) : ∃ y e, decodeV d = .tuple #[spVal y, .int .i64 e] := by
  cases d with
  | none => exact ⟨_, _, rfl⟩
  | some x => exact ⟨_, _, rfl⟩

theorem spansDecode_law (s : ByteArray) (hs : s.size ≤ 140737488351232) (w : World) :
    Calls Try.prog 4 #[.string s] w fun e w' => e = .returned (.bool true) ∧ Below w.heap.size w w' := by
  by_cases hl : 2000 < (s.size : Int)
  · go_enter Try.func4, Try.ntmps4
    go_wp2_with fail
    go_ret
    exact ⟨rfl, Below.refl _ _⟩
  · have c1 := fun W => decode_any s W hs
    have c2 := fun W => refDecode_any s W hs
    obtain ⟨y, e, he⟩ := decodeV_form (decodeSp s.data.toList)
    rw [he] at c1 c2
    clear he
    unfold spVal at c1 c2
    have C1 := Lib.hid c1
    have C2 := Lib.hid c2
    have CD := Lib.hid does_true
    clear c1 c2
    go_enter Try.func4, Try.ntmps4
    go_wp2_with fail
    refine (C1.out _).mono ?_
    rintro e w1 ⟨rfl, b1⟩
    go_upto_region 4 with fail
    have k1 := SpAt.boxed y w1
    have b2 := b1.alloc b1.size (.cells #[.int .i64 y.tr, .int .i64 y.id, .int .i64 y.pa, .string ⟨y.sv.toArray⟩, .string ⟨y.ho.toArray⟩, .int .i64 y.st, .int .i64 y.du, .string ⟨y.no.toArray⟩] 23)
    clear b1
    generalize w1.heap.size = p1 at *
    generalize w1.alloc _ = w2 at *
    go_wp2_with fail
    refine (C2.out _).mono ?_
    rintro e w3 ⟨rfl, b3⟩
    have k3 := k1.later b3 k1.lt
    have b4 := bt b2 b3
    clear b3 b2 k1
    go_upto_region 5 with fail
    have l4 := SpAt.boxed y w3
    have b5 := b4.alloc b4.size (.cells #[.int .i64 y.tr, .int .i64 y.id, .int .i64 y.pa, .string ⟨y.sv.toArray⟩, .string ⟨y.ho.toArray⟩, .int .i64 y.st, .int .i64 y.du, .string ⟨y.no.toArray⟩] 23)
    have k4 := k3.alloc' (.cells #[.int .i64 y.tr, .int .i64 y.id, .int .i64 y.pa, .string ⟨y.sv.toArray⟩, .string ⟨y.ho.toArray⟩, .int .i64 y.st, .int .i64 y.du, .string ⟨y.no.toArray⟩] 23)
    clear b4 k3
    generalize w3.heap.size = p3 at *
    generalize w3.alloc _ = w4 at *
    obtain ⟨a0, a1, a2, a3, a4, a5, a6, a7⟩ := k4.cell
    obtain ⟨d0, d1, d2, d3, d4, d5, d6, d7⟩ := l4.cell
    go_wp2_with fail
    refine (CD.out _).mono ?_
    rintro e w5 ⟨rfl, b6⟩
    go_wp2_with fail
    go_ret
    exact ⟨rfl, bt b5 b6⟩

theorem spansLess_law (x y : Sp) (w : World) :
    Calls Try.prog 5 #[spVal x, spVal y] w fun e w' => e = .returned (.bool true) ∧ Below w.heap.size w w' := by
  have c1 := less_any x y
  have c2 := less_any y x
  have c3 := refLess_any x y
  have c4 := refLess_any y x
  obtain ⟨p, hp⟩ : ∃ p, lessB x y = p := ⟨_, rfl⟩
  obtain ⟨q, hq⟩ : ∃ q, lessB y x = q := ⟨_, rfl⟩
  rw [hp] at c1 c3
  rw [hq] at c2 c4
  clear hp hq
  unfold spVal at *
  have C1 := Lib.hid c1
  have C2 := Lib.hid c2
  have C3 := Lib.hid c3
  have C4 := Lib.hid c4
  have CD := Lib.hid does_true
  clear c1 c2 c3 c4
  go_enter Try.func5, Try.ntmps5
  go_wp2_with fail
  have k1 := (SpAt.boxed x w).alloc' (.cells #[.int .i64 y.tr, .int .i64 y.id, .int .i64 y.pa, .string ⟨y.sv.toArray⟩, .string ⟨y.ho.toArray⟩, .int .i64 y.st, .int .i64 y.du, .string ⟨y.no.toArray⟩] 23)
  have k2 := SpAt.boxed y (w.alloc (.cells #[.int .i64 x.tr, .int .i64 x.id, .int .i64 x.pa, .string ⟨x.sv.toArray⟩, .string ⟨x.ho.toArray⟩, .int .i64 x.st, .int .i64 x.du, .string ⟨x.no.toArray⟩] 23))
  have b1 := below_new2' (w := w) (.cells #[.int .i64 x.tr, .int .i64 x.id, .int .i64 x.pa, .string ⟨x.sv.toArray⟩, .string ⟨x.ho.toArray⟩, .int .i64 x.st, .int .i64 x.du, .string ⟨x.no.toArray⟩] 23) (.cells #[.int .i64 y.tr, .int .i64 y.id, .int .i64 y.pa, .string ⟨y.sv.toArray⟩, .string ⟨y.ho.toArray⟩, .int .i64 y.st, .int .i64 y.du, .string ⟨y.no.toArray⟩] 23)
  rw [alloc_size] at k2
  generalize (w.alloc _).alloc _ = w1 at *
  obtain ⟨a0, a1, a2, a3, a4, a5, a6, a7⟩ := k1.cell
  obtain ⟨d0, d1, d2, d3, d4, d5, d6, d7⟩ := k2.cell
  have l1 := k1.lt
  have l2 := k2.lt
  refine wp_region_more (by kernel_rfl) (by kernel_rfl) ?_
  repeat (go_big_quiet_step (fail))
  go_big_quiet_step (exact Calls.more (C1.out _))
  repeat (go_big_quiet_step (fail))
  go_big_quiet_step (exact Calls.more (C3.out _))
  repeat (go_big_quiet_step (fail))
  go_big_quiet_step (exact Calls.more (C2.out _))
  repeat (go_big_quiet_step (fail))
  go_big_quiet_step (exact Calls.more (C4.out _))
  repeat (go_big_quiet_step (fail))
  go_big_quiet_step (exact Calls.more (CD.out _))
  repeat (go_big_quiet_step (fail))
  refine wpQuiet_nil ?_
  rintro _ ⟨ex, rfl⟩
  have b2 := World.below_more w1 ex
  go_wp2_with fail
  go_ret
  exact ⟨rfl, bt b1 b2⟩

theorem enc_form (x : Sp) (hf : Fits x) : ∃ t : List UInt8, ∃ e : Int, e = checkV x ∧ t.length ≤ 90 ∧ ((x.ok = true ∧ e = 0 ∧ t = x.bytes) ∨ (x.ok = false ∧ e = 2 ∧ t = [])) ∧
    (∀ W, Calls Try.prog 12 #[spVal x] W fun r w' => r = .returned (.tuple #[.string ⟨t.toArray⟩, .int .i64 e]) ∧ Below W.heap.size W w') ∧
    (∀ W, Calls Try.prog 13 #[spVal x] W fun r w' => r = .returned (.tuple #[.string ⟨t.toArray⟩, .int .i64 e]) ∧ Below W.heap.size W w') := by
  cases h : x.ok with
  | true => exact ⟨x.bytes, 0, (checkV_ok h).symm, bytes_length h, .inl ⟨rfl, rfl, rfl⟩, fun W => encode_good x W h, fun W => refEncode_good x W h⟩
  | false => exact ⟨[], 2, (checkV_no h).symm, by simp, .inr ⟨rfl, rfl, rfl⟩, fun W => encode_bad x W hf h, fun W => refEncode_bad x W hf h⟩

theorem spansEncode_law (x : Sp) (hf : Fits x) (w : World) :
    Calls Try.prog 3 #[spVal x] w fun e w' => e = .returned (.bool true) ∧ Below w.heap.size w w' := by
  have cg := fun W => great_any x W hf
  obtain ⟨t, e, he, _, _, c1, c2⟩ := enc_form x hf
  have c3 := fun W => check_any x W hf
  have c4 := fun W => refCheck_any x W hf
  have n1 := fun W => name_any ⟨x.sv.toArray⟩ W (mk_max hf.1)
  have n2 := fun W => same_below (refName_any ⟨x.sv.toArray⟩ W (mk_max hf.1))
  have n3 := fun W => name_any ⟨x.no.toArray⟩ W (mk_max hf.2.2)
  have n4 := fun W => same_below (refName_any ⟨x.no.toArray⟩ W (mk_max hf.2.2))
  rw [← he] at c3 c4
  generalize nameOk _ = p at n1 n2
  generalize nameOk _ = q at n3 n4
  clear he hf
  unfold spVal at *
  have CG := Lib.hid cg
  have C1 := Lib.hid c1
  have C2 := Lib.hid c2
  have C3 := Lib.hid c3
  have C4 := Lib.hid c4
  have N1 := Lib.hid n1
  have N2 := Lib.hid n2
  have N3 := Lib.hid n3
  have N4 := Lib.hid n4
  have CD := Lib.hid does_true
  clear cg c1 c2 c3 c4 n1 n2 n3 n4
  cases hg : greatB x with
  | true =>
    rw [hg] at CG
    clear hg
    go_enter Try.func3, Try.ntmps3
    go_wp2_with fail
    refine (CG.out _).mono ?_
    rintro e w1 ⟨rfl, b1⟩
    go_wp2_with fail
    go_ret
    exact ⟨rfl, ((Below.refl _ _).alloc (Nat.le_refl _) _).trans (b1.mono (by simp))⟩
  | false =>
    rw [hg] at CG
    clear hg
    go_enter Try.func3, Try.ntmps3
    go_wp2_with fail
    refine (CG.out _).mono ?_
    rintro e w1 ⟨rfl, b1⟩
    have k1 := (SpAt.boxed x w).later b1 (by simp)
    have h1 : Below w.heap.size w w1 := ((Below.refl _ _).alloc (Nat.le_refl _) _).trans (b1.mono (by simp))
    obtain ⟨a0, a1, a2, a3, a4, a5, a6, a7⟩ := k1.cell
    clear b1
    go_wp2_with fail
    refine (C1.out _).mono ?_
    rintro e w2 ⟨rfl, b2⟩
    have k2 := k1.later b2 k1.lt
    have h2 := bt h1 b2
    clear b2 h1 k1 a0 a1 a2 a3 a4 a5 a6 a7
    obtain ⟨a0, a1, a2, a3, a4, a5, a6, a7⟩ := k2.cell
    go_wp2_with fail
    refine (C2.out _).mono ?_
    rintro e w3 ⟨rfl, b3⟩
    have k3 := k2.later b3 k2.lt
    have h3 := bt h2 b3
    clear b3 h2 k2 a0 a1 a2 a3 a4 a5 a6 a7
    obtain ⟨a0, a1, a2, a3, a4, a5, a6, a7⟩ := k3.cell
    have l3 := k3.lt
    clear k3
    go_wp2_with fail
    refine wp_region_more (by kernel_rfl) (by kernel_rfl) ?_
    repeat (go_big_quiet_step (fail))
    go_big_quiet_step (exact Calls.more (C3.out _))
    repeat (go_big_quiet_step (fail))
    go_big_quiet_step (exact Calls.more (C4.out _))
    repeat (go_big_quiet_step (fail))
    go_big_quiet_step (exact Calls.more (N1.out _))
    repeat (go_big_quiet_step (fail))
    go_big_quiet_step (exact Calls.more (N2.out _))
    repeat (go_big_quiet_step (fail))
    go_big_quiet_step (exact Calls.more (N3.out _))
    repeat (go_big_quiet_step (fail))
    go_big_quiet_step (exact Calls.more (N4.out _))
    repeat (go_big_quiet_step (fail))
    go_big_quiet_step (exact Calls.more (CD.out _))
    repeat (go_big_quiet_step (fail))
    refine wpQuiet_nil ?_
    rintro _ ⟨ex, rfl⟩
    have b4 := World.below_more w3 ex
    go_wp2_with fail
    go_ret
    exact ⟨rfl, bt h3 b4⟩
end Go.Proofs.Ytnfagkcmcliagaa
