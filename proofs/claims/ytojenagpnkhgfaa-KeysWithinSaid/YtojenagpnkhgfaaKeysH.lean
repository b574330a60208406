/- The walks of KeysOf, KeysStretch, KeysParse. -/
import Derived.Test.YtojenagpnkhgfaaKeysG
import Derived.Test.YtojenagpnkhgfaaSpansR
namespace Go.Proofs.Ytojenagpnkhgfaa
open Go.RowKit Spoor

theorem errV_form (o : Option (List UInt8)) : ∃ (l : List UInt8) (e : Int), errV o = .tuple #[.string ⟨l.toArray⟩, .int .i64 e] := by
  cases o with
  | none => exact ⟨[], 2, rfl⟩
  | some l => exact ⟨l, 0, rfl⟩
theorem pairV_form (p : List UInt8 × List UInt8) : ∃ (a b : List UInt8), pairV p = .tuple #[.string ⟨a.toArray⟩, .string ⟨b.toArray⟩] := ⟨_, _, rfl⟩
theorem parseV_form (o : Option KP) : ∃ (p : KP) (b : Bool), parseV o = .tuple #[kpVal p, .bool b] := by
  cases o with
  | none => exact ⟨_, _, rfl⟩
  | some p => exact ⟨p, true, rfl⟩
theorem keysOf_s (tr id : Int) (x : Sp) (h1 : (1000 : Int) < x.sv.length) (w : World) :
    Calls Try.prog 3 #[.int .i64 tr, .int .i64 id, spVal x] w fun e w' => e = .returned (.bool true) ∧ Below w.heap.size w w' := by
  have b1 := (Below.refl w.heap.size w).alloc (Nat.le_refl _) (boxS x)
  unfold spVal boxS at *
  go_enter Try.func3, Try.ntmps3
  go_wp2_with fail
  go_ret
  exact ⟨rfl, b1⟩
theorem keysOf_h (tr id : Int) (x : Sp) (h1 : ¬ (1000 : Int) < x.sv.length) (h2 : (1000 : Int) < x.ho.length) (w : World) :
    Calls Try.prog 3 #[.int .i64 tr, .int .i64 id, spVal x] w fun e w' => e = .returned (.bool true) ∧ Below w.heap.size w w' := by
  have b1 := (Below.refl w.heap.size w).alloc (Nat.le_refl _) (boxS x)
  unfold spVal boxS at *
  go_enter Try.func3, Try.ntmps3
  go_wp2_with fail
  go_ret
  exact ⟨rfl, b1⟩
theorem keysOf_n (tr id : Int) (x : Sp) (h1 : ¬ (1000 : Int) < x.sv.length) (h2 : ¬ (1000 : Int) < x.ho.length) (h3 : (1000 : Int) < x.no.length) (w : World) :
    Calls Try.prog 3 #[.int .i64 tr, .int .i64 id, spVal x] w fun e w' => e = .returned (.bool true) ∧ Below w.heap.size w w' := by
  have b1 := (Below.refl w.heap.size w).alloc (Nat.le_refl _) (boxS x)
  unfold spVal boxS at *
  go_enter Try.func3, Try.ntmps3
  go_wp2_with fail
  go_ret
  exact ⟨rfl, b1⟩
theorem keysOf_in (tr id : Int) (x : Sp) (hf : Fits x) (h1 : ¬ (1000 : Int) < x.sv.length) (h2 : ¬ (1000 : Int) < x.ho.length) (h3 : ¬ (1000 : Int) < x.no.length) (w : World) :
    Calls Try.prog 3 #[.int .i64 tr, .int .i64 id, spVal x] w fun e w' => e = .returned (.bool true) ∧ Below w.heap.size w w' := by
  obtain ⟨a, e, ha⟩ := errV_form (ofKey tr id)
  obtain ⟨c, g, hc⟩ := errV_form (indexKey x)
  obtain ⟨f, t, ht⟩ := pairV_form (traceK tr)
  have c1 := fun W => of_any tr id W
  have c2 := fun W => refOf_any tr id W
  have c3 := fun W => index_any x W hf
  have c4 := fun W => refIndex_any x W hf
  have c5 := fun W => trace_any tr W
  have c6 := fun W => refTrace_any tr W
  rw [ha] at c1 c2
  rw [hc] at c3 c4
  rw [ht] at c5 c6
  clear ha hc ht
  have q1 := SpAt.boxed x w
  have B := (Below.refl w.heap.size w).alloc (Nat.le_refl _) (boxS x)
  unfold spVal boxS at *
  have C1 := Lib.hid c1
  have C2 := Lib.hid c2
  have C3 := Lib.hid c3
  have C4 := Lib.hid c4
  have C5 := Lib.hid c5
  have C6 := Lib.hid c6
  have CD := Lib.hid kdoes_true
  clear c1 c2 c3 c4 c5 c6
  go_enter Try.func3, Try.ntmps3
  go_upto_region 1 with fail
  generalize w.alloc _ = w0 at *
  obtain ⟨a0, a1, a2, a3, a4, a5, a6, a7⟩ := q1.cell
  try dsimp only at a0 a1 a2 a3 a4 a5 a6 a7
  go_wp2_with fail
  refine (C1.out _).mono ?_
  rintro e1 w1 ⟨rfl, b1⟩
  clear a0 a1 a2 a3 a4 a5 a6 a7
  have q1 := q1.later b1 q1.lt
  have B := bt B b1
  clear b1
  obtain ⟨a0, a1, a2, a3, a4, a5, a6, a7⟩ := q1.cell
  try dsimp only at a0 a1 a2 a3 a4 a5 a6 a7
  go_wp2_with fail
  refine (C2.out _).mono ?_
  rintro e2 w2 ⟨rfl, b2⟩
  clear a0 a1 a2 a3 a4 a5 a6 a7
  have q1 := q1.later b2 q1.lt
  have B := bt B b2
  clear b2
  obtain ⟨a0, a1, a2, a3, a4, a5, a6, a7⟩ := q1.cell
  try dsimp only at a0 a1 a2 a3 a4 a5 a6 a7
  go_wp2_with fail
  refine (C3.out _).mono ?_
  rintro e3 w3 ⟨rfl, b3⟩
  clear a0 a1 a2 a3 a4 a5 a6 a7
  have q1 := q1.later b3 q1.lt
  have B := bt B b3
  clear b3
  obtain ⟨a0, a1, a2, a3, a4, a5, a6, a7⟩ := q1.cell
  try dsimp only at a0 a1 a2 a3 a4 a5 a6 a7
  go_wp2_with fail
  refine (C4.out _).mono ?_
  rintro e4 w4 ⟨rfl, b4⟩
  clear a0 a1 a2 a3 a4 a5 a6 a7
  have q1 := q1.later b4 q1.lt
  have B := bt B b4
  clear b4
  obtain ⟨a0, a1, a2, a3, a4, a5, a6, a7⟩ := q1.cell
  try dsimp only at a0 a1 a2 a3 a4 a5 a6 a7
  go_wp2_with fail
  refine (C5.out _).mono ?_
  rintro e5 w5 ⟨rfl, b5⟩
  clear a0 a1 a2 a3 a4 a5 a6 a7
  have q1 := q1.later b5 q1.lt
  have B := bt B b5
  clear b5
  obtain ⟨a0, a1, a2, a3, a4, a5, a6, a7⟩ := q1.cell
  try dsimp only at a0 a1 a2 a3 a4 a5 a6 a7
  go_wp2_with fail
  refine (C6.out _).mono ?_
  rintro e6 w6 ⟨rfl, b6⟩
  clear a0 a1 a2 a3 a4 a5 a6 a7
  have q1 := q1.later b6 q1.lt
  have B := bt B b6
  clear b6
  obtain ⟨a0, a1, a2, a3, a4, a5, a6, a7⟩ := q1.cell
  try dsimp only at a0 a1 a2 a3 a4 a5 a6 a7
  go_wp2_with fail
  refine (CD.out _).mono ?_
  rintro e7 w7 ⟨rfl, b7⟩
  clear a0 a1 a2 a3 a4 a5 a6 a7
  have q1 := q1.later b7 q1.lt
  have B := bt B b7
  clear b7
  obtain ⟨a0, a1, a2, a3, a4, a5, a6, a7⟩ := q1.cell
  try dsimp only at a0 a1 a2 a3 a4 a5 a6 a7
  go_wp2_with fail
  go_ret
  exact ⟨rfl, B⟩
theorem keysOf_law (tr id : Int) (x : Sp) (hf : Fits x) (w : World) :
    Calls Try.prog 3 #[.int .i64 tr, .int .i64 id, spVal x] w fun e w' => e = .returned (.bool true) ∧ Below w.heap.size w w' := by
  by_cases h1 : (1000 : Int) < x.sv.length
  · exact keysOf_s tr id x h1 w
  · by_cases h2 : (1000 : Int) < x.ho.length
    · exact keysOf_h tr id x h1 h2 w
    · by_cases h3 : (1000 : Int) < x.no.length
      · exact keysOf_n tr id x h1 h2 h3 w
      · exact keysOf_in tr id x hf h1 h2 h3 w

theorem box2_new (u v : List UInt8) (w : World) : (w.alloc (box2 u v)).heap[w.heap.size]? = some (box2 u v) := heap_alloc_new w _
theorem keysStretch_u (u v : List UInt8) (a b : Int) (h1 : (1000 : Int) < u.length) (w : World) :
    Calls Try.prog 4 #[val2 u v, .int .i64 a, .int .i64 b] w fun e w' => e = .returned (.bool true) ∧ Below w.heap.size w w' := by
  have q := box2_new u v w
  have b1 := (Below.refl w.heap.size w).alloc (Nat.le_refl _) (box2 u v)
  unfold val2 box2 at *
  go_enter Try.func4, Try.ntmps4
  go_wp2_with fail
  generalize w.alloc _ = w0 at *
  obtain ⟨g0, g1⟩ := box2_cells q
  go_wp2_with fail
  go_ret
  exact ⟨rfl, b1⟩
theorem keysStretch_v (u v : List UInt8) (a b : Int) (h1 : ¬ (1000 : Int) < u.length) (h2 : (1000 : Int) < v.length) (w : World) :
    Calls Try.prog 4 #[val2 u v, .int .i64 a, .int .i64 b] w fun e w' => e = .returned (.bool true) ∧ Below w.heap.size w w' := by
  have q := box2_new u v w
  have b1 := (Below.refl w.heap.size w).alloc (Nat.le_refl _) (box2 u v)
  unfold val2 box2 at *
  go_enter Try.func4, Try.ntmps4
  go_wp2_with fail
  generalize w.alloc _ = w0 at *
  obtain ⟨g0, g1⟩ := box2_cells q
  go_wp2_with fail
  go_ret
  exact ⟨rfl, b1⟩
theorem keysStretch_in (u v : List UInt8) (a b : Int) (h1 : ¬ (1000 : Int) < u.length) (h2 : ¬ (1000 : Int) < v.length) (w : World) :
    Calls Try.prog 4 #[val2 u v, .int .i64 a, .int .i64 b] w fun e w' => e = .returned (.bool true) ∧ Below w.heap.size w w' := by
  obtain ⟨f, t, ht⟩ := pairV_form (stretchK u v a b)
  have c1 := fun W => stretch_any u v a b (by omega) (by omega) W
  have c2 := fun W => refStretch_any u v a b (by omega) (by omega) W
  rw [ht] at c1 c2
  clear ht
  have q := box2_new u v w
  have B := (Below.refl w.heap.size w).alloc (Nat.le_refl _) (box2 u v)
  unfold val2 box2 at *
  have C1 := Lib.hid c1
  have C2 := Lib.hid c2
  have CD := Lib.hid kdoes_true
  clear c1 c2
  go_enter Try.func4, Try.ntmps4
  go_wp2_with fail
  generalize w.alloc _ = w0 at *
  obtain ⟨g0, g1⟩ := box2_cells q
  have l0 := (Array.getElem?_eq_some_iff.1 q).1
  go_wp2_with fail
  refine (C1.out _).mono ?_
  rintro e w1 ⟨rfl, b1⟩
  have q := box2_later q b1 l0
  have B := bt B b1
  have l0 := (Array.getElem?_eq_some_iff.1 q).1
  clear g0 g1
  obtain ⟨g0, g1⟩ := box2_cells q
  go_wp2_with fail
  refine (C2.out _).mono ?_
  rintro e w2 ⟨rfl, b2⟩
  have B := bt B b2
  go_wp2_with fail
  refine (CD.out _).mono ?_
  rintro e w3 ⟨rfl, b3⟩
  have B := bt B b3
  go_wp2_with fail
  go_ret
  exact ⟨rfl, B⟩
theorem keysStretch_law (u v : List UInt8) (a b : Int) (w : World) :
    Calls Try.prog 4 #[val2 u v, .int .i64 a, .int .i64 b] w fun e w' => e = .returned (.bool true) ∧ Below w.heap.size w w' := by
  by_cases h1 : (1000 : Int) < u.length
  · exact keysStretch_u u v a b h1 w
  · by_cases h2 : (1000 : Int) < v.length
    · exact keysStretch_v u v a b h1 h2 w
    · exact keysStretch_in u v a b h1 h2 w
theorem keysParse_law (s : ByteArray) (hs : s.size ≤ 140737488351232) (w : World) :
    Calls Try.prog 5 #[.string s] w fun e w' => e = .returned (.bool true) ∧ Below w.heap.size w w' := by
  have hlen := bytes_len s
  by_cases h1 : (1000 : Int) < s.size
  · clear hlen
    go_enter Try.func5, Try.ntmps5
    go_wp2_with fail
    go_ret
    exact ⟨rfl, Below.refl _ _⟩
  · obtain ⟨l, rfl⟩ : ∃ l : List UInt8, s = ⟨l.toArray⟩ := ⟨s.data.toList, by simp⟩
    have hl : l.length ≤ 140737488351232 := by simpa only [ByteArray.size_mk', List.size_toArray] using hs
    obtain ⟨p, ok, hp⟩ := parseV_form (parseK l)
    have c1 := fun W => parse_any l hl W
    have c2 := fun W => refParse_any l hl W
    rw [hp] at c1 c2
    have c3 := fun W => same_any p W
    have c4 := fun W => row_any l hl W
    have c5 := fun W => refRow_any l hl W
    clear hp hlen
    generalize rowK l = R at *
    unfold kpVal at *
    have C1 := Lib.hid c1
    have C2 := Lib.hid c2
    have C3 := Lib.hid c3
    have C4 := Lib.hid c4
    have C5 := Lib.hid c5
    have CD := Lib.hid kdoes_true
    clear c1 c2 c3 c4 c5
    go_enter Try.func5, Try.ntmps5
    go_wp2_with fail
    refine (C1.out _).mono ?_
    rintro e w1 ⟨rfl, b1⟩
    go_wp2_with fail
    have q1 := PtAt.boxed p w1
    have B := b1.alloc b1.size (boxK p)
    unfold boxK at *
    generalize w1.alloc _ = w2 at *
    generalize w1.heap.size = g1 at *
    have l1 := q1.lt
    refine (C2.out _).mono ?_
    rintro e w3 ⟨rfl, b3⟩
    have q1 := (q1.later b3 l1).alloc' (boxR p)
    have q2 := RtAt.boxed p w3
    have B := (bt B b3).alloc (bt B b3).size (boxR p)
    unfold boxR at *
    clear b3 b1
    go_upto_region 5 with fail
    generalize w3.alloc _ = w4 at *
    generalize w3.heap.size = g2 at *
    have l1 := q1.lt
    have l2 := q2.lt
    obtain ⟨a0, a1, a2, a3, a4, a5⟩ := q1.cell
    obtain ⟨d0, d1, d2, d3, d4, d5⟩ := q2.cell
    go_wp2_with fail
    refine (C3.out _).mono ?_
    rintro e w5 ⟨rfl, b5⟩
    have B := bt B b5
    go_wp2_with fail
    refine (C4.out _).mono ?_
    rintro e w6 ⟨rfl, b6⟩
    have B := bt B b6
    go_wp2_with fail
    refine (C5.out _).mono ?_
    rintro e w7 ⟨rfl, b7⟩
    have B := bt B b7
    go_wp2_with fail
    refine (CD.out _).mono ?_
    rintro e w8 ⟨rfl, b8⟩
    have B := bt B b8
    go_wp2_with fail
    go_ret
    exact ⟨rfl, B⟩
end Go.Proofs.Ytojenagpnkhgfaa
